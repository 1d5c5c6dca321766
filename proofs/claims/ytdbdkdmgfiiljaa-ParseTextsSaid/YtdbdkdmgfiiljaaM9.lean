/- A part of the proof: conditions of the code, contracts, the plain law. -/
import Derived.Test.YtdbdkdmgfiiljaaM6
import Derived.Test.YtdbdkdmgfiiljaaM8
namespace Go.Proofs.Ytdbdkdmgfiiljaa
open Go.Vc Go.Lv Go.Ty Go.Tk Go.Tm
def gT (t : Tok) : GToken := ⟨t.kind, t.text, t.n, t.at_⟩
def tT (t : GToken) : Tok := ⟨t.kind, t.text, t.n, t.at_⟩
def gN (x : Nd) : GNode := ⟨x.op, x.name, x.n, x.kids, x.at_⟩
theorem gT_map (toks : List GToken) : (toks.map tT).map gT = toks := by
  rw [List.map_map]
  exact List.map_id _
theorem ret_mono {K K' : Value → World → Prop} (h : ∀ v w', K v w' → K' v w') : ∀ e w', Ret K e w' → Ret K' e w'
  | .returned _, w', hk => h _ w' hk
  | .panicked _, _, hk => hk.elim
  | .outgrown, _, hk => hk.elim
theorem next_v (s : List UInt8) (hs : s.length < 2 ^ 40) (at_ : Int) (K : GToken → Int → Int → Prop) (h : K (gT (nextS s at_).1) (nextS s at_).2.1 (nextS s at_).2.2) : V_token_Next s at_ K := fun _ w _ =>
  (Next_spec s hs at_ w).mono (ret_mono fun _ _ ⟨hv, he⟩ => ⟨_, _, _, h, ⟨_, hv, GToken_in (gT (nextS s at_).1)⟩, Keep.ofExt he⟩)
theorem rnext_v (s : List UInt8) (hs : s.length < 2 ^ 40) (at_ : Int) (K : GR08_Got → Prop) (h : K ⟨gT (nextS s at_).1, (nextS s at_).2.1, (nextS s at_).2.2⟩) : V_R08_Next s at_ K := fun _ w _ =>
  (rNext_spec s hs at_ w).mono (ret_mono fun _ _ ⟨hv, he⟩ => ⟨_, h, ⟨_, hv, GR08_Got_in ⟨gT (nextS s at_).1, (nextS s at_).2.1, (nextS s at_).2.2⟩⟩, Keep.ofExt he⟩)
theorem op_v (s : List UInt8) (K : Int → Prop) (h : K (opOf s)) : V_R10_Op s K := fun _ w _ =>
  (rOp_spec s w).mono (ret_mono fun _ _ ⟨hv, he⟩ => ⟨_, h, hv, Keep.ofExt he⟩)
theorem level_v (op : Int) (K : Int → Prop) (h : K (levO op : Nat)) : V_R10_Level op K := fun _ w _ =>
  (rLevel_spec op w).mono (ret_mono fun _ _ ⟨hv, he⟩ => ⟨_, h, hv, Keep.ofExt he⟩)
theorem all_v (s : List UInt8) (K : List GToken → Int → Int → Prop) (h : K ((allS s).1.map gT) (allS s).2.1 (allS s).2.2) : V_token_All s K := by
  refine token_All_lift _ _ (cond_intro (fun hx => ?_) fun hx => ?_)
  · have : allS s = ([], 0, 5) := by unfold allS; rw [if_pos (by simp at hx; omega)]
    rw [this] at h; exact h
  · have hs : s.length ≤ 65536 := by simp at hx; omega
    have hall : allS s = allFrom s (s.length + 1) 0 [] := by unfold allS; rw [if_neg (by omega)]
    rw [hall] at h
    refine ⟨fun out atx n => ∃ (acc : List Tok) (k : Nat), atx = k ∧ out = acc.map gT ∧ acc.length ≤ k ∧ k ≤ s.length ∧ s.length < n + k ∧ allFrom s (s.length + 1) 0 [] = allFrom s n k acc, ⟨s.length + 1, [], 0, rfl, rfl, Nat.zero_le _, Nat.zero_le _, by omega, rfl⟩, ?_⟩
    rintro _ _ n ⟨acc, k, rfl, rfl, hacc, hk, hf, heq⟩
    rw [heq] at h
    obtain ⟨f, rfl⟩ : ∃ f', n = f' + 1 := ⟨n - 1, by omega⟩
    refine next_v s (by omega) k _ ?_
    have hadv := nextS_adv s k hk
    have hstep : allFrom s (f + 1) k acc = if (nextS s k).2.2 ≠ 0 then (([] : List Tok), ((nextS s k).2.1 : Int), (nextS s k).2.2) else if (nextS s k).1.kind = 0 then (acc ++ [(nextS s k).1], (nextS s k).1.at_, 0) else allFrom s f (nextS s k).2.1 (acc ++ [(nextS s k).1]) := rfl
    generalize nextS s k = x at *
    obtain ⟨t, nx, e⟩ := x
    dsimp only at hadv hstep ⊢
    refine cond_intro (fun he => ?_) fun he => ?_
    · rw [hstep, if_pos (by simpa using he)] at h; exact h
    · have he : e = 0 := by simpa using he
      subst he
      rw [if_neg (fun h => h rfl)] at hstep
      refine ⟨by simp only [List.length_map, List.length_cons, List.length_nil]; omega, cond_intro (fun hk0 => ?_) fun hk0 => ?_⟩
      · rw [hstep, if_pos (show t.kind = 0 by simpa [gT] using hk0)] at h
        simpa [gT] using h
      · have hk0 : t.kind ≠ 0 := by simpa [gT] using hk0
        rw [if_neg hk0] at hstep
        obtain ⟨h1, h2⟩ := hadv rfl hk0
        exact ⟨f, by omega, acc ++ [t], nx, rfl, by simp, by simp; omega, h2, by omega, heq.trans hstep⟩
theorem rall_v (s : List UInt8) (K : GR08_List → Prop) (h : K ⟨(allS s).1.map gT, (allS s).2.1, (allS s).2.2⟩) : V_R08_All s K := by
  refine R08_All_lift _ _ (cond_intro (fun hx => ?_) fun hx => ?_)
  · have : allS s = ([], 0, 5) := by unfold allS; rw [if_pos (by simp at hx; omega)]
    rw [this] at h; exact h
  · have hs : s.length ≤ 65536 := by simp at hx; omega
    have hall : allS s = allFrom s (s.length + 1) 0 [] := by unfold allS; rw [if_neg (by omega)]
    rw [hall] at h
    refine ⟨fun atx out _ E _ _ n => ∃ (acc : List Tok) (k : Nat), atx = k ∧ E = 0 ∧ out = acc.map gT ∧ acc.length ≤ k ∧ k ≤ s.length ∧ s.length < n + k ∧ allFrom s (s.length + 1) 0 [] = allFrom s n k acc, ⟨s.length + 1, [], 0, rfl, rfl, rfl, Nat.zero_le _, Nat.zero_le _, by omega, rfl⟩, ?_⟩
    rintro _ _ at0 _ at1 e1 n ⟨acc, k, rfl, rfl, rfl, hacc, hk, hf, heq⟩
    rw [heq] at h
    obtain ⟨f, rfl⟩ : ∃ f', n = f' + 1 := ⟨n - 1, by omega⟩
    refine rnext_v s (by omega) k _ ?_
    have hadv := nextS_adv s k hk
    have hstep : allFrom s (f + 1) k acc = if (nextS s k).2.2 ≠ 0 then (([] : List Tok), ((nextS s k).2.1 : Int), (nextS s k).2.2) else if (nextS s k).1.kind = 0 then (acc ++ [(nextS s k).1], (nextS s k).1.at_, 0) else allFrom s f (nextS s k).2.1 (acc ++ [(nextS s k).1]) := rfl
    generalize nextS s k = x at *
    obtain ⟨t, nx, e⟩ := x
    dsimp only at hadv hstep ⊢
    refine cond_intro (fun he => ?_) fun he => ?_
    · rw [hstep, if_pos (by simpa using he)] at h; exact h
    · have he : e = 0 := by simpa using he
      subst he
      rw [if_neg (fun h => h rfl)] at hstep
      refine ⟨by simp only [List.length_map, List.length_cons, List.length_nil]; omega, cond_intro (fun hk0 => ?_) fun hk0 => ?_⟩
      · rw [hstep, if_pos (show t.kind = 0 by simpa [gT] using hk0)] at h
        simpa [gT] using h
      · have hk0 : t.kind ≠ 0 := by simpa [gT] using hk0
        rw [if_neg hk0] at hstep
        obtain ⟨h1, h2⟩ := hadv rfl hk0
        exact ⟨f, by omega, acc ++ [t], nx, rfl, rfl, by simp, by simp; omega, h2, by omega, heq.trans hstep⟩
def gR (r : Res) : GR10_Got := ⟨r.l.map gN, (r.at_ : Int), r.e⟩
theorem tok_T (toks : List Tok) (p : Nat) : tokF (toks.map gT) (p : Int) = gT (T toks p) := by
  unfold tokF T
  rw [List.length_map, Int.toNat_natCast]
  by_cases h : p < toks.length
  · rw [if_pos (by omega), List.getElem?_map, List.getD_eq_getElem?_getD, List.getElem?_eq_getElem h]; rfl
  · rw [if_neg (by omega), List.getD_eq_getElem?_getD, List.getElem?_eq_none (by omega)]; rfl
theorem rtokT_v (toks : List Tok) (p : Nat) (K : GToken → Prop) (h : K (gT (T toks p))) : V_R10_Tok (toks.map gT) p K := rtok_v (by omega) _ (by rw [tok_T]; exact h)
section
variable (toks : List Tok) (hN : toks.length < 2 ^ 30)
include hN
theorem rone_s (r1 rl : Nat → Nat → Option Res)
    (hr1 : ∀ p d r, r1 p d = some r → d ≤ 24 → ∀ K : GR10_Got → Prop, K (gR r) → V_R10_one (toks.map gT) p d K)
    (hrl : ∀ p d r, rl p d = some r → d ≤ 24 → ∀ K : GR10_Got → Prop, K (gR r) → V_R10_level (toks.map gT) p 1 d K)
    (hk1 : ∀ p d r, r1 p d = some r → Ok toks p r) (hkl : ∀ p d r, rl p d = some r → Ok toks p r)
    (p d : Nat) (r : Res) (h : oneStep toks r1 rl p d = some r) (hd : d ≤ 24) (K : GR10_Got → Prop) (hK : K (gR r)) : V_R10_one (toks.map gT) p d K := by
  refine R10_one_lift _ _ _ _ (rtokT_v toks p _ ?_)
  have hlt : (T toks p).kind ≠ 0 → p < toks.length := T_lt
  unfold oneStep at h
  generalize T toks p = t at h hlt ⊢
  obtain ⟨tk, tx, tn, ta⟩ := t
  dsimp only [gT] at h hlt ⊢
  have hp1 : p < toks.length → IntKind.i64.wrap ((p : Int) + 1) = ((p + 1 : Nat) : Int) := fun hp => by rw [wrap_in (by omega) (by omega)]; omega
  have hd1 : IntKind.i64.wrap ((d : Int) + 1) = ((d + 1 : Nat) : Int) := by rw [wrap_in (by omega) (by omega)]; omega
  refine cond_intro (fun h2 => ?_) fun h2 => ?_
  · have h2 : tk = 2 := by simpa using h2
    rw [if_pos h2] at h
    cases h
    rw [hp1 (hlt (by omega))]
    exact hK
  have h2 : tk ≠ 2 := by simpa using h2
  rw [if_neg h2] at h
  refine cond_intro (fun h3 => ?_) fun h3 => ?_
  · have h3 : tk = 1 := by simpa using h3
    rw [if_pos h3] at h
    cases h
    rw [hp1 (hlt (by omega))]
    exact hK
  have h3 : tk ≠ 1 := by simpa using h3
  rw [if_neg h3] at h
  refine ⟨fun b => b = !decide (tk = 4 ∧ (tx = [45] ∨ tx = [33] ∨ tx = [40])), ?_, ?_⟩
  · refine cond_intro (fun h4 => ?_) fun h4 => ?_
    · have h4 : tk ≠ 4 := by simpa using h4
      show true = _
      rw [decide_eq_false (fun c => h4 c.1)]; rfl
    · have h4 : tk = 4 := by simpa using h4
      refine cond_intro (fun h5 => cond_intro (fun h6 => ?_) fun h6 => ?_) fun h5 => ?_
      · show _ = _
        have h5 : tx ≠ [45] := by simpa using h5
        have h6 : tx ≠ [33] := by simpa using h6
        rw [Bool.eq_iff_iff]; simp [h4, h5, h6]
      · show false = _
        have h6 : tx = [33] := by simpa using h6
        rw [decide_eq_true ⟨h4, .inr (.inl h6)⟩]; rfl
      · show false = _
        have h5 : tx = [45] := by simpa using h5
        rw [decide_eq_true ⟨h4, .inl h5⟩]; rfl
  rintro _ rfl
  refine cond_intro (fun hc => ?_) fun hc => ?_
  · have hc : ¬ (tk = 4 ∧ (tx = [45] ∨ tx = [33] ∨ tx = [40])) := by simpa only [Bool.not_eq_true', decide_eq_false_iff_not] using hc
    rw [if_neg (fun c => hc ⟨c.1, c.2.elim .inl (fun e => .inr (.inl e))⟩), if_neg (fun c => hc ⟨c.1, .inr (.inr c.2)⟩)] at h
    cases h
    exact hK
  have hc : tk = 4 ∧ (tx = [45] ∨ tx = [33] ∨ tx = [40]) := by simpa only [Bool.not_eq_false', decide_eq_true_eq] using hc
  have hp := hlt (by omega)
  rw [hp1 hp, hd1]
  by_cases h40 : tx = [40]
  · subst h40
    rw [if_neg (fun c => by simp at c), if_pos ⟨hc.1, rfl⟩] at h
    refine cond_intro (fun h24 => ?_) fun h24 => ?_
    · have h24 : d = 24 := by have : (d : Int) = 24 := by simpa using h24
                              omega
      rw [if_pos h24] at h
      cases h
      exact hK
    · have h24 : d ≠ 24 := by
        intro e; subst e; simp at h24
      rw [if_neg h24] at h
      obtain ⟨x, hx, rfl⟩ := Option.map_eq_some_iff.1 h
      refine cond_t (by simp) (hrl _ _ _ hx (by omega) _ ?_)
      have hk := hkl _ _ _ hx
      refine cond_intro (fun he => ?_) fun he => ?_
      · have he : x.e ≠ 0 := by simpa [gR] using he
        rw [if_pos he] at hK; exact hK
      · have he : x.e = 0 := by simpa [gR] using he
        rw [if_neg (fun c => c he)] at hK
        refine rtokT_v toks x.at_ _ ?_
        refine ⟨fun b => b = !decide ((T toks x.at_).kind = 4 ∧ (T toks x.at_).text = [41]), cond_intro (fun h4 => ?_) (fun h4 => ?_), ?_⟩
        · have h4 : (T toks x.at_).kind ≠ 4 := by simpa [gT] using h4
          show true = _
          rw [decide_eq_false (fun c => h4 c.1)]; rfl
        · have h4 : (T toks x.at_).kind = 4 := by simpa [gT] using h4
          show _ = _
          rw [Bool.eq_iff_iff]; simp [h4, gT]
        · rintro _ rfl
          refine cond_intro (fun hq => ?_) fun hq => ?_
          · rw [if_neg (by simpa only [Bool.not_eq_true', decide_eq_false_iff_not] using hq)] at hK; exact hK
          · have hq : (T toks x.at_).kind = 4 ∧ (T toks x.at_).text = [41] := by simpa only [Bool.not_eq_false', decide_eq_true_eq] using hq
            rw [if_pos hq] at hK
            have := (hk.1 he).2.1
            have hw : IntKind.i64.wrap ((gR x).at_ + 1) = ((x.at_ + 1 : Nat) : Int) := by
              show IntKind.i64.wrap ((x.at_ : Int) + 1) = _
              rw [wrap_in (by omega) (by omega)]; omega
            rw [hw]
            exact hK
  · have hs : tx = [45] ∨ tx = [33] := by
      rcases hc.2 with e | e | e
      · exact .inl e
      · exact .inr e
      · exact absurd e h40
    rw [if_pos ⟨hc.1, hs⟩] at h
    refine cond_intro (fun h24 => ?_) fun h24 => ?_
    · have h24 : d = 24 := by have : (d : Int) = 24 := by simpa using h24
                              omega
      rw [if_pos h24] at h
      cases h
      exact hK
    · have h24 : d ≠ 24 := by
        intro e; subst e; simp at h24
      rw [if_neg h24] at h
      obtain ⟨x, hx, rfl⟩ := Option.map_eq_some_iff.1 h
      have hk := hk1 _ _ _ hx
      refine cond_f (by simpa using h40) (hr1 _ _ _ hx (by omega) _ ?_)
      refine cond_intro (fun he => ?_) fun he => ?_
      · have he : x.e ≠ 0 := by simpa [gR] using he
        rw [if_neg he] at hK; exact hK
      · have he : x.e = 0 := by simpa [gR] using he
        rw [if_pos he] at hK
        refine ⟨fun op => op = if tx = [33] then 4 else 3, cond_intro (fun h5 => ?_) (fun h5 => ?_), ?_⟩
        · show (4 : Int) = _
          rw [if_pos (by simpa using h5)]
        · show (3 : Int) = _
          rw [if_neg (by simpa using h5)]
        · rintro _ rfl
          have := hk.1 he
          exact ⟨by simp only [List.length_cons, List.length_nil, gR, List.length_map]; omega, hK⟩
theorem rlev_s (f : Nat)
    (ih1 : ∀ f', f' ≤ f → ∀ p d r, R toks f' (.one p d) = some r → d ≤ 24 → ∀ K : GR10_Got → Prop, K (gR r) → V_R10_one (toks.map gT) p d K)
    (ihl : ∀ f', f' ≤ f → ∀ (n : Nat) p d r, 1 ≤ n → n ≤ 6 → R toks f' (.lev n p d) = some r → d ≤ 24 → ∀ K : GR10_Got → Prop, K (gR r) → V_R10_level (toks.map gT) p n d K)
    (n p d : Nat) (r : Res) (h1 : 1 ≤ n) (h6 : n ≤ 6) (h : R toks (f + 1) (.lev n p d) = some r) (hd : d ≤ 24) (K : GR10_Got → Prop) (hK : K (gR r)) : V_R10_level (toks.map gT) p n d K := by
  refine R10_level_lift _ _ _ _ _ ?_
  rw [R] at h
  refine cond_intro (fun h66 => ?_) fun h66 => ?_
  · have h66 : n = 6 := by have : (n : Int) = 6 := by simpa using h66
                           omega
    rw [if_pos h66] at h
    exact ih1 f (Nat.le_refl _) _ _ _ h hd _ hK
  · have h66 : n ≠ 6 := by
      intro e; subst e; simp at h66
    rw [if_neg h66] at h
    obtain ⟨x0, hx0, hr0⟩ := Option.bind_eq_some_iff.1 h
    have hn1 : IntKind.i64.wrap ((n : Int) + 1) = ((n + 1 : Nat) : Int) := by rw [wrap_in (by omega) (by omega)]; omega
    rw [hn1]
    refine ihl f (Nat.le_refl _) (n + 1) p d x0 (by omega) (by omega) hx0 hd _ ?_
    have hok0 := (R_ok toks f).2.1 _ _ _ _ hx0
    refine ⟨fun L At E _ _ _ n1 => ∃ x, n1 ≤ f ∧ R toks n1 (.loop n 0 d x) = some r ∧ L = x.l.map gN ∧ At = (x.at_ : Int) ∧ E = x.e ∧ (x.e = 0 → x.at_ ≤ toks.length ∧ x.l.length ≤ x.at_), ⟨f, x0, Nat.le_refl _, hr0, rfl, rfl, rfl, fun he => by have := hok0.1 he; omega⟩, ?_⟩
    clear hr0 hok0 hx0
    rintro _ _ _ L1 At1 E1 n1 ⟨x, hf1, hr, rfl, rfl, rfl, hxo⟩
    obtain ⟨g, rfl⟩ : ∃ g, n1 = g + 1 := by
      cases n1 with
      | zero => simp [R] at hr
      | succ g => exact ⟨g, rfl⟩
    rw [R] at hr
    refine cond_intro (fun he => ?_) fun he => ?_
    · have he : x.e = 0 := by simpa using he
      obtain ⟨hxN, hxl⟩ := hxo he
      rw [if_neg (fun c => c he)] at hr
      refine rtokT_v toks x.at_ _ (op_v _ _ ?_)
      have hjoin : ∀ y, join toks x y = ⟨⟨opOf (T toks x.at_).text, [], 0, 2, (T toks x.at_).at_⟩ :: x.l ++ y.l, y.at_, 0⟩ := fun _ => rfl
      have hmine : mine toks x.at_ = if (T toks x.at_).kind = 4 then levO (opOf (T toks x.at_).text) else 0 := rfl
      have hmlt := mine_lt (toks := toks) (p := x.at_)
      have hlv := lev_bd (T toks x.at_).text
      generalize T toks x.at_ = t at hjoin hmine hlv ⊢
      obtain ⟨tk, tx, tn, ta⟩ := t
      dsimp only [gT] at hjoin hmine hlv ⊢
      refine ⟨fun b => b = decide (mine toks x.at_ = 0 ∨ mine toks x.at_ ≠ n), ?_, ?_⟩
      · refine cond_intro (fun h4 => ?_) fun h4 => cond_intro (fun h0 => ?_) fun h0 => ?_
        · have h4 : tk ≠ 4 := by simpa using h4
          show true = _
          rw [hmine, if_neg h4]; simp
        · have h4 : tk = 4 := by simpa using h4
          have h0 : opOf tx = 0 := by simpa using h0
          show true = _
          rw [hmine, if_pos h4]
          rcases hlv with h | h
          · rw [h.2]; simp
          · exact absurd h0 h.1
        · have h4 : tk = 4 := by simpa using h4
          have h0 : opOf tx ≠ 0 := by simpa using h0
          refine level_v _ _ ?_
          show _ = _
          rw [hmine, if_pos h4, Bool.eq_iff_iff]
          simp only [bne_iff_ne, ne_eq, decide_eq_true_eq]
          rcases hlv with h | h
          · exact absurd h.1 h0
          · constructor
            · intro hh; right; intro e; exact hh (by rw [e])
            · rintro (hh | hh)
              · omega
              · intro e; apply hh; omega
      · rintro _ rfl
        refine cond_intro (fun hc => ?_) fun hc => ?_
        · rw [if_pos (of_decide_eq_true hc)] at hr
          cases hr
          exact hK
        · have hc := of_decide_eq_false hc
          rw [if_neg hc] at hr
          simp only [not_or, Classical.not_not] at hc
          have hlt := hmlt hc.1
          obtain ⟨y, hy, hr⟩ := Option.bind_eq_some_iff.1 hr
          have hyk := (R_ok toks g).2.1 _ _ _ _ hy
          have hx1 : IntKind.i64.wrap ((x.at_ : Int) + 1) = ((x.at_ + 1 : Nat) : Int) := by rw [wrap_in (by omega) (by omega)]; omega
          rw [hx1]
          refine ihl g (by omega) (n + 1) _ d y (by omega) (by omega) hy hd _ ?_
          refine cond_intro (fun hye => ?_) fun hye => ?_
          · have hye : y.e ≠ 0 := by simpa [gR] using hye
            rw [if_pos hye] at hr
            cases hr
            exact hK
          · have hye : y.e = 0 := by simpa [gR] using hye
            rw [if_neg (fun c => c hye)] at hr
            have hyk := hyk.1 hye
            refine ⟨by simp only [List.length_cons, List.length_nil, List.length_map]; omega, fun L2 At2 E2 => L2 = (join toks x y).l.map gN ∧ At2 = (y.at_ : Int) ∧ E2 = 0, ⟨by simp only [List.length_cons, List.length_nil, List.length_append, List.length_map, gR]; omega, ?_, rfl, rfl⟩, ?_⟩
            · rw [hjoin]; simp [gR, gN]
            · rintro _ _ _ ⟨rfl, rfl, rfl⟩
              have hja : (join toks x y).at_ = y.at_ := rfl
              have hje : (join toks x y).e = 0 := rfl
              refine cond_intro (fun h3 => ?_) fun h3 => ?_
              · have h3 : n = 3 := by have : (n : Int) = 3 := by simpa using h3
                                      omega
                rw [if_pos h3] at hr
                cases hr
                exact hK
              · have h3 : n ≠ 3 := by
                  intro e; subst e; simp at h3
                rw [if_neg h3] at hr
                refine ⟨g, by omega, join toks x y, by omega, hr, rfl, rfl, rfl, fun _ => ⟨by rw [hja]; omega, ?_⟩⟩
                rw [hja, hjoin]
                simp only [List.cons_append, List.length_cons, List.length_append]
                omega
    · have he : x.e ≠ 0 := by simpa using he
      rw [if_pos he] at hr
      cases hr
      exact hK
theorem rwalk_v : ∀ f, ∀ f1, f1 ≤ f →
    (∀ p d r, R toks f1 (.one p d) = some r → d ≤ 24 → ∀ K : GR10_Got → Prop, K (gR r) → V_R10_one (toks.map gT) p d K) ∧
    (∀ (n : Nat) p d r, 1 ≤ n → n ≤ 6 → R toks f1 (.lev n p d) = some r → d ≤ 24 → ∀ K : GR10_Got → Prop, K (gR r) → V_R10_level (toks.map gT) p n d K) := by
  intro f
  induction f with
  | zero =>
    intro f1 hf
    obtain rfl : f1 = 0 := by omega
    exact ⟨fun _ _ _ h => by simp [R] at h, fun _ _ _ _ _ _ h => by simp [R] at h⟩
  | succ f ih =>
    intro f1 hf
    by_cases hle : f1 ≤ f
    · exact ih f1 hle
    · obtain rfl : f1 = f + 1 := by omega
      refine ⟨fun p d r h hd K hK => ?_, fun n p d r h1 h6 h hd K hK => rlev_s toks hN f (fun f' hf' => (ih f' hf').1) (fun f' hf' => (ih f' hf').2) n p d r h1 h6 h hd K hK⟩
      simp only [R] at h
      exact rone_s toks hN _ _ (ih f (Nat.le_refl _)).1 (fun p d r h hd K hK => (ih f (Nat.le_refl _)).2 1 p d r (by omega) (by omega) h hd K hK) (fun p d r h => (R_ok toks f).1 p d r h) (fun p d r h => (R_ok toks f).2.1 1 p d r h) p d r h hd K hK
theorem rparse_v (at_ : Int) (h0 : 0 ≤ at_) (K : GR10_Got → Prop) (hK : K (gR (parseOf toks at_))) : V_R10_Parse (toks.map gT) at_ K := by
  refine R10_Parse_lift _ _ _ (cond_f (by simp; omega) ?_)
  have hP := parseOf_pos toks at_ (by omega)
  generalize parseOf toks at_ = r at hP hK
  obtain ⟨p, rfl⟩ : ∃ p : Nat, at_ = p := ⟨at_.toNat, by omega⟩
  obtain ⟨g, hg⟩ := (P_R toks _).2.1 1 _ _ _ (by omega) (by omega) hP
  exact (rwalk_v toks hN g g (Nat.le_refl _)).2 1 p 0 r (by omega) (by omega) hg (by omega) _ hK
end
theorem el_toks {m : List Nat} {w : World} : ∀ {l : List GToken} {xs : List Value}, El cGToken m w l xs → xs = flat tokC (l.map tT)
  | [], xs, ⟨css, h, ha⟩ => by
    cases css with
    | nil => rw [h]; rfl
    | cons a b => exact ha.elim
  | t :: l, xs, ⟨css, h, ha⟩ => by
    cases css with
    | nil => exact ha.elim
    | cons a b =>
      have h1 := GToken_out ha.1
      have h2 := el_toks (l := l) ⟨b, rfl, ha.2⟩
      rw [h, List.flatten_cons, h2, h1]
      rfl
theorem sl_toks {m : List Nat} {w : World} {a : Option Addr} {l : List GToken} (h : SlR cGToken m w a l) : SlAt w a (flat tokC (l.map tT)) := by
  rcases h with rfl | ⟨p, xs, rfl, _, hc, he⟩
  · cases a with
    | none => rfl
    | some p => intro i hi; exact absurd hi (Nat.not_lt_zero _)
  · rw [← el_toks he]; exact hc
theorem el_nds (m : List Nat) (w : World) : ∀ (l : List Nd), El cGNode m w (l.map gN) (flat ndC l)
  | [] => El.nil _ _ _
  | x :: l => by
    have : flat ndC (x :: l) = ndC x ++ flat ndC l := by simp [flat]
    rw [this]
    exact El.cons (GNode_in (gN x)) (el_nds m w l)
theorem sl_nds {m : List Nat} {w w' : World} {a : Option Addr} {l : List Nd} (h : SlAt w' a (flat ndC l)) (hf : ∀ k, blk a = some k → w.heap.size ≤ k) (hm : ∀ b ∈ m, b < w.heap.size) : SlR cGNode m w' a (l.map gN) := by
  cases a with
  | none =>
    left
    cases l with
    | nil => rfl
    | cons x l => simp [SlAt, flat, ndC] at h
  | some p =>
    refine .inr ⟨p, _, rfl, fun hp => ?_, h, el_nds _ _ _⟩
    have h1 := hm _ hp
    have h2 := hf p.block rfl
    omega
theorem parse_v (toks : List GToken) (hN : toks.length < 2 ^ 30) (at_ : Int) (K : List GNode → Int → Int → Prop) (hK : K ((parseOf (toks.map tT) at_).l.map gN) (parseOf (toks.map tT) at_).at_ (parseOf (toks.map tT) at_).e) : V_term_Parse toks at_ K := by
  intro m w hm ta tc htc hs
  have := Parse_F (toks.map tT) (by rw [List.length_map]; exact hN) ta tc at_ w (sl_toks hs)
  rw [List.length_map] at this
  refine this.mono (ret_mono ?_)
  rintro _ w' ⟨a, c, rfl, ⟨hf, hc⟩, hsl, he⟩
  refine ⟨_, _, _, hK, ⟨a, c, ?_, by rw [List.length_map]; exact hc, sl_nds hsl hf hm.lt⟩, Keep.ofExt he⟩
  rw [List.length_map]
theorem one_bd {toks : List Tok} {r1 rl : Nat → Nat → Option Res} (h1 : ∀ p d r, r1 p d = some r → p ≤ toks.length → p ≤ r.at_ ∧ r.at_ ≤ toks.length) (hl : ∀ p d r, rl p d = some r → p ≤ toks.length → p ≤ r.at_ ∧ r.at_ ≤ toks.length) {p d : Nat} {r : Res}
    (h : oneStep toks r1 rl p d = some r) (hp : p ≤ toks.length) : p ≤ r.at_ ∧ r.at_ ≤ toks.length := by
  unfold oneStep at h
  split at h
  · rename_i c
    have := T_lt (toks := toks) (p := p) (by rw [c]; decide)
    cases h; exact ⟨by simp, by simp; omega⟩
  split at h
  · rename_i c
    have := T_lt (toks := toks) (p := p) (by rw [c]; decide)
    cases h; exact ⟨by simp, by simp; omega⟩
  split at h
  · rename_i c
    have := T_lt (toks := toks) (p := p) (by rw [c.1]; decide)
    split at h
    · cases h; exact ⟨Nat.le_refl _, hp⟩
    · obtain ⟨x, hx, rfl⟩ := Option.map_eq_some_iff.1 h
      have hk := h1 _ _ _ hx (by omega)
      split
      · exact ⟨by dsimp only; omega, by dsimp only; omega⟩
      · exact ⟨by omega, by omega⟩
  split at h
  · rename_i c
    have := T_lt (toks := toks) (p := p) (by rw [c.1]; decide)
    split at h
    · cases h; exact ⟨Nat.le_refl _, hp⟩
    · obtain ⟨x, hx, rfl⟩ := Option.map_eq_some_iff.1 h
      have hk := hl _ _ _ hx (by omega)
      split
      · exact ⟨by omega, by omega⟩
      · split
        · rename_i c
          have := T_lt (toks := toks) (p := x.at_) (by rw [c.1]; decide)
          exact ⟨by dsimp only; omega, by dsimp only; omega⟩
        · exact ⟨by dsimp only; omega, by dsimp only; omega⟩
  · cases h; exact ⟨Nat.le_refl _, hp⟩
theorem P_bd (toks : List Tok) : ∀ (f : Nat), (∀ p d r, P toks f (.one p d) = some r → p ≤ toks.length → p ≤ r.at_ ∧ r.at_ ≤ toks.length) ∧ (∀ n p d r, P toks f (.lev n p d) = some r → p ≤ toks.length → p ≤ r.at_ ∧ r.at_ ≤ toks.length) ∧
    (∀ n m d x r, P toks f (.loop n m d x) = some r → x.at_ ≤ toks.length → x.at_ ≤ r.at_ ∧ r.at_ ≤ toks.length) := by
  intro f
  induction f with
  | zero => exact ⟨fun _ _ _ h => by simp [P] at h, fun _ _ _ _ h => by simp [P] at h, fun _ _ _ _ _ h => by simp [P] at h⟩
  | succ f ih =>
    obtain ⟨ih1, ih2, ih3⟩ := ih
    refine ⟨fun p d r h hp => ?_, fun n p d r h hp => ?_, fun n m d x r h hp => ?_⟩
    · simp only [P] at h
      exact one_bd (fun p d r h => ih1 p d r h) (fun p d r h => ih2 1 p d r h) h hp
    · rw [P] at h
      obtain ⟨x, hx, hr⟩ := Option.bind_eq_some_iff.1 h
      have h1 := ih1 _ _ _ hx hp
      have h2 := ih3 _ _ _ _ _ hr h1.2
      omega
    · rw [P] at h
      split at h
      · cases h; exact ⟨Nat.le_refl _, hp⟩
      split at h
      · cases h; exact ⟨Nat.le_refl _, hp⟩
      · rename_i c
        obtain ⟨y, hy, hr⟩ := Option.bind_eq_some_iff.1 h
        have := mine_lt (toks := toks) (p := x.at_) (fun e => c (.inl e))
        have h1 := ih2 _ _ _ _ hy (by omega)
        split at hr
        · cases hr; omega
        · have h2 := ih3 _ _ _ _ _ hr h1.2
          have : (join toks x y).at_ = y.at_ := rfl
          omega
def TM : TermC where
  T toks at_ := ((parseOf (toks.map tT) at_).l.map gN, ((parseOf (toks.map tT) at_).at_ : Int), (parseOf (toks.map tT) at_).e)
  lo toks at_ h0 h1 := by
    have := ((P_bd (toks.map tT) _).2.1 _ _ _ _ (parseOf_pos (toks.map tT) at_ (by omega)) (by rw [List.length_map]; omega)).1
    dsimp only; omega
  hi toks at_ h0 h1 := by
    have := ((P_bd (toks.map tT) _).2.1 _ _ _ _ (parseOf_pos (toks.map tT) at_ (by omega)) (by rw [List.length_map]; omega)).2
    rw [List.length_map] at this
    dsimp only; omega
  len toks at_ h0 h1 := by
    have hb := ((P_bd (toks.map tT) _).2.1 _ _ _ _ (parseOf_pos (toks.map tT) at_ (by omega)) (by rw [List.length_map]; omega)).1
    have hk := (P_ok (toks.map tT) _).2.1 _ _ _ _ (parseOf_pos (toks.map tT) at_ (by omega))
    dsimp only
    rw [List.length_map]
    by_cases he : (parseOf (toks.map tT) at_).e = 0
    · have := (hk.1 he).2.2
      omega
    · rw [hk.2 he]
      simp only [List.length_nil]
      omega
  pv toks hN at_ _ _ K hK := parse_v toks (by omega) at_ K hK
  rv toks hN at_ h0 _ K hK := by
    have := rparse_v (toks.map tT) (by rw [List.length_map]; omega) at_ h0 K hK
    rwa [gT_map] at this
end Go.Proofs.Ytdbdkdmgfiiljaa
namespace Go.Proofs.Ytdbdkdmgfiiljaa
open Go.Vc Go.Lv Go.Ty Go.Tk Go.Tm
theorem allFrom_ok (s : List UInt8) : ∀ (f k : Nat) (acc : List Tok), k ≤ s.length → s.length < f + k → (allFrom s f k acc).2.2 = 0 → (allFrom s f k acc).1 ≠ [] ∧ (allFrom s f k acc).1.length ≤ acc.length + f
  | 0, k, acc, hk, hf, _ => by omega
  | f + 1, k, acc, hk, hf, h => by
    unfold allFrom at h ⊢
    have hadv := nextS_adv s k hk
    split at h
    · rename_i he; exact absurd h he
    · rename_i he
      have he : (nextS s k).2.2 = 0 := Classical.not_not.1 he
      rw [if_neg (by rw [he]; simp)]
      split at h
      · rename_i hk0
        rw [if_pos hk0]
        exact ⟨by simp, by simp⟩
      · rename_i hk0
        rw [if_neg hk0]
        obtain ⟨h1, h2⟩ := hadv he hk0
        have := allFrom_ok s f (nextS s k).2.1 (acc ++ [(nextS s k).1]) h2 (by omega) h
        refine ⟨this.1, ?_⟩
        have h3 := this.2
        simp only [List.length_append, List.length_cons, List.length_nil] at h3
        omega
theorem allS_ok (s : List UInt8) (h : (allS s).2.2 = 0) : (allS s).1 ≠ [] ∧ (allS s).1.length ≤ 65537 := by
  unfold allS at h ⊢
  split at h
  · cases h
  · rename_i hl
    rw [if_neg hl]
    have := allFrom_ok s (s.length + 1) 0 [] (Nat.zero_le _) (by omega) h
    refine ⟨this.1, ?_⟩
    have h2 := this.2
    simp only [List.length_nil] at h2
    omega
def toksF (s : List UInt8) : List GToken := (allS s).1.map gT
def lastI (toks : List GToken) (a : Int) : Int := if (toks.length : Int) - 1 < a then (toks.length : Int) - 1 else a
def atF (toks : List GToken) (a : Int) : Int := ((toks[(lastI toks a).toNat]?).getD ⟨0, [], 0, 0⟩).at_
def textF (s : List UInt8) : GR10_Got :=
  if (allS s).2.2 ≠ 0 then ⟨[], (allS s).2.1, (allS s).2.2⟩
  else if (unitF TM (toksF s)).e_ ≠ 0 then ⟨[], atF (toksF s) (unitF TM (toksF s)).at_, (unitF TM (toksF s)).e_⟩
  else ⟨(unitF TM (toksF s)).l, 0, 0⟩
theorem unit_l (M : TermC) (toks : List GToken) (h : (unitF M toks).e_ ≠ 0) : (unitF M toks).l = [] := by
  unfold unitF at h ⊢
  split
  · rfl
  · rename_i c; rw [if_neg c] at h; exact absurd rfl h
theorem unit_0 (M : TermC) (toks : List GToken) (h : (unitF M toks).e_ = 0) : (unitF M toks).at_ = 0 := by
  unfold unitF at h ⊢
  split
  · rename_i c; rw [if_pos c] at h; exact absurd h c
  · rfl
theorem unit_at (M : TermC) (toks : List GToken) : 0 ≤ (unitF M toks).at_ ∧ (unitF M toks).at_ ≤ (toks.length : Int) := by
  have := cw_unit (toks := toks) M
  unfold unitF
  split
  · exact ⟨this.z1, this.hi⟩
  · exact ⟨Int.le_refl _, by dsimp only; omega⟩
theorem last_bd {toks : List GToken} {a : Int} (h : toks ≠ []) (h0 : 0 ≤ a) (P : Int → Prop) (hP : P (atF toks a)) (hN : toks.length < 1000000) :
    ((0 : Int) ≤ (if (IntKind.i64.wrap ((toks.length : Int) - 1)) < a then IntKind.i64.wrap ((toks.length : Int) - 1) else a) ∧ (if (IntKind.i64.wrap ((toks.length : Int) - 1)) < a then IntKind.i64.wrap ((toks.length : Int) - 1) else a) < (toks.length : Int)) ∧
    ∀ x, toks[(if (IntKind.i64.wrap ((toks.length : Int) - 1)) < a then IntKind.i64.wrap ((toks.length : Int) - 1) else a).toNat]? = some x → P x.at_ := by
  have hl := List.length_pos_iff.2 h
  have hw : IntKind.i64.wrap ((toks.length : Int) - 1) = (toks.length : Int) - 1 := wrap_in (by omega) (by omega)
  rw [hw]
  unfold atF lastI at hP
  refine ⟨by split <;> omega, fun x hx => ?_⟩
  rw [hx] at hP
  exact hP
theorem text_v (s : List UInt8) (K : List GNode → Int → Int → Prop) (h : K (textF s).l (textF s).at_ (textF s).e_) : V_parse_Text s K := by
  refine parse_Text_lift _ _ (all_v s _ ?_)
  unfold textF at h
  refine cond_intro (fun he => ?_) fun he => ?_
  · rw [if_pos (by simpa using he)] at h; exact h
  · have he : (allS s).2.2 = 0 := by simpa using he
    rw [if_neg (fun c => c he)] at h
    obtain ⟨hne, hlen⟩ := allS_ok s he
    have hN : (toksF s).length < 1000000 := by unfold toksF; rw [List.length_map]; omega
    have hne : toksF s ≠ [] := by unfold toksF; simpa using hne
    show V_parse_Unit (toksF s) _
    refine unit_s TM hN _ ?_
    refine cond_intro (fun hu => ?_) fun hu => ?_
    · rw [if_pos (by simpa using hu)] at h
      exact last_bd hne (unit_at TM _).1 (fun a => K [] a (unitF TM (toksF s)).e_) h hN
    · rw [if_neg (fun c => c (by simpa using hu))] at h; exact h
theorem rtext_v (s : List UInt8) (K : GR10_Got → Prop) (h : K (textF s)) : V_R11_Text s K := by
  refine R11_Text_lift _ _ (rall_v s _ ?_)
  unfold textF at h
  refine cond_intro (fun he => ?_) fun he => ?_
  · rw [if_pos (by simpa using he)] at h; exact h
  · have he : (allS s).2.2 = 0 := by simpa using he
    rw [if_neg (fun c => c he)] at h
    obtain ⟨hne, hlen⟩ := allS_ok s he
    have hN : (toksF s).length < 1000000 := by unfold toksF; rw [List.length_map]; omega
    have hne : toksF s ≠ [] := by unfold toksF; simpa using hne
    show V_R11_Unit (toksF s) _
    refine runit_v TM hN _ ?_
    refine ⟨fun L A E => K ⟨L, A, E⟩, cond_intro (fun hu => ?_) (fun hu => ?_), fun _ _ _ h => h⟩
    · have hu : (unitF TM (toksF s)).e_ ≠ 0 := by simpa using hu
      rw [if_pos hu] at h
      refine last_bd hne (unit_at TM _).1 (fun a => K ⟨(unitF TM (toksF s)).l, a, (unitF TM (toksF s)).e_⟩) ?_ hN
      rw [unit_l TM _ hu]; exact h
    · have hu : (unitF TM (toksF s)).e_ = 0 := by simpa using hu
      rw [if_neg (fun c => c hu)] at h
      show K ⟨_, _, _⟩
      rw [unit_0 TM _ hu, hu]; exact h
theorem same_v (l : List GNode) (hl : l.length < 2 ^ 60) (K : Bool → Prop) (h : K true) : V_R10_Same l l K := by
  refine R10_Same_lift _ _ _ (cond_f (by simp) ⟨fun i n => ∃ k : Nat, i = k ∧ k + n = l.length + 1 ∧ k ≤ l.length, ⟨_, 0, rfl, Nat.zero_add _, Nat.zero_le _⟩, ?_⟩)
  rintro _ n ⟨k, rfl, hn, hk⟩
  refine cond_intro (fun hc => ?_) fun hc => h
  have hlt : k < l.length := by simpa using hc
  refine ⟨⟨by omega, by omega⟩, fun x hx => ⟨⟨by omega, by omega⟩, fun y hy => ?_⟩⟩
  rw [hx] at hy
  cases hy
  exact cond_f (by simp) ⟨n - 1, by omega, k + 1, by rw [wrap_in (by omega) (by omega)]; omega, by omega, by omega⟩
theorem lsame_v (x : GR10_Got) (hl : x.l.length < 2 ^ 60) (K : Bool → Prop) (h : K true) : V_L11_same x.l x.at_ x.e_ x K := by
  refine L11_same_lift _ _ _ _ _ (same_v _ hl _ (cond_t rfl (cond_t (by simp) ?_)))
  rw [beq_self_eq_true]; exact h
theorem text_len (s : List UInt8) : (textF s).l.length < 2 ^ 60 := by
  unfold textF
  split
  · simp
  · rename_i he
    have he : (allS s).2.2 = 0 := Classical.not_not.1 he
    split
    · simp
    · rename_i hu
      have hu : (unitF TM (toksF s)).e_ = 0 := Classical.not_not.1 hu
      obtain ⟨hne, hlen⟩ := allS_ok s he
      have hN : (toksF s).length ≤ 65537 := by unfold toksF; rw [List.length_map]; omega
      have hw := cw_unit (toks := toksF s) TM
      dsimp only
      unfold unitF at hu ⊢
      split at hu
      · rename_i c; exact absurd hu c
      · rename_i c
        rw [if_neg c]
        have := hw.b
        have := hw.hi
        show (_ :: _).length < _
        rw [List.length_cons]
        omega
def txA : List UInt8 := [109, 97, 105, 110, 32, 123, 32, 125]
def txB : List UInt8 := [109, 97, 105, 110, 32, 123, 32, 99, 32, 33, 32, 59, 32, 125]
theorem txA_is : textF txA = ⟨[⟨42, [], 0, 1, 0⟩, ⟨41, [], 0, 1, 0⟩, ⟨32, [], 0, 0, 5⟩], 0, 0⟩ := by kernel_rfl
theorem txB_is : textF txB = ⟨[], 11, 11⟩ := by kernel_rfl
theorem live_v (K : Bool → Prop) (h : K true) : V_L11_live K := by
  refine L11_live_lift _ (text_v txA _ (text_v txB _ ?_))
  rw [txA_is, txB_is]
  refine cond_t rfl ⟨⟨by decide, by decide⟩, fun x hx => ?_⟩
  cases hx
  exact cond_t rfl (cond_t rfl (cond_t rfl (cond_t rfl h)))
theorem texts_v (s : List UInt8) : V_L11_ParseTexts s (fun b => b = true) := by
  refine L11_ParseTexts_lift _ _ (cond_intro (fun _ => live_v _ rfl) fun _ => ?_)
  exact text_v s _ (rtext_v s _ (lsame_v _ (text_len s) _ (cond_t rfl (live_v _ rfl))))
theorem ParseTexts_spec (s : List UInt8) (w : World) : Calls Try.prog 3 #[.string (mkS s)] w (Ret fun v w' => v = .bool true ∧ Ext w w') := by
  refine call_then (texts_v s [] w (MOk.nil trivial)) ?_
  rintro _ _ ⟨_, rfl, rfl, k⟩
  exact ⟨rfl, k.ext⟩
end Go.Proofs.Ytdbdkdmgfiiljaa
