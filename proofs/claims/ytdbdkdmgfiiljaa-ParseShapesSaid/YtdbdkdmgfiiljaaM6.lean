/- A part of the proof: conditions of the code, contracts, the plain law. -/
import Derived.Test.YtdbdkdmgfiiljaaM5
import Derived.Test.YtdbdkdmgfiiljaaM8
namespace Go.Proofs.Ytdbdkdmgfiiljaa
open Go.Vc Go.Lv Go.Ty
def wk (x : GNode) (n : Int) : GNode := ⟨x.op, x.name, x.n, n, x.at_⟩
def fromE (at_ e : Int) : Cur := ⟨[], 0, at_, e⟩
structure Re (toks : List GToken) (A : List GNode) (x : GNode) (at0 dp : Int) (s q p : Nat) (c : Cur) (r : Gparse_reader) : Prop where
  cw : Cw toks at0 s q c
  t : r.toks = toks
  at_ : r.at_ = c.at_
  e_ : r.e_ = c.e_
  dp : r.deep = dp
  ok : c.e_ = 0 → r.l = A ++ wk x c.n :: c.l
  lo : A.length < r.l.length
  hi : c.e_ ≠ 0 → (r.l.length : Int) ≤ A.length + 1 + (c.at_ - at0) + p
  ha : (A.length : Int) ≤ at0 + 2000
section
variable {toks : List GToken} {A : List GNode} {x : GNode} {at0 dp : Int} {s q p : Nat} {c d : Cur} {r : Gparse_reader}
theorem Re.re (h : Re toks A x at0 dp s q p c r) {L : List GNode} (hl : r.l = L) : Re toks A x at0 dp s q p c ⟨toks, r.at_, r.deep, L, r.e_⟩ := by
  subst hl
  exact ⟨h.cw, rfl, h.at_, h.e_, h.dp, h.ok, h.lo, h.hi, h.ha⟩
theorem Re.mono {s' q' p' : Nat} (h : Re toks A x at0 dp s q p c r) (hs : s' ≤ s) (hq : q ≤ q') (hp : p ≤ p') : Re toks A x at0 dp s' q' p' c r :=
  ⟨h.cw.mono hs hq, h.t, h.at_, h.e_, h.dp, h.ok, h.lo, fun e => by have := h.hi e; omega, h.ha⟩
theorem Re.len (h : Re toks A x at0 dp s q p c r) : (r.l.length : Int) ≤ A.length + 1 + (c.at_ - at0) + p := by
  by_cases he : c.e_ = 0
  · have h1 := h.cw.w he
    rw [h.ok he]
    simp only [List.length_append, List.length_cons]
    omega
  · exact h.hi he
theorem Re.small (hN : toks.length < 1000000) (h : Re toks A x at0 dp s q p c r) (hp : p ≤ 1000) : r.l.length < 2000000 := by
  have := h.len
  have := h.cw.z
  have := h.cw.hi
  have := h.cw.lo
  have := h.ha
  omega
theorem Re.stepE {c' : Cur} {r' : Gparse_reader} {s' : Nat} (h : Re toks A x at0 dp s q p c r) (hc : Cw toks at0 s' q c') (ht : r'.toks = toks) (hat : r'.at_ = c'.at_) (he : r'.e_ = c'.e_) (hd : r'.deep = r.deep) (hl : r'.l = r.l) (hge : c.at_ ≤ c'.at_) (hok : c'.e_ = 0 → r.l = A ++ wk x c'.n :: c'.l) : Re toks A x at0 dp s' q p c' r' :=
  ⟨hc, ht, hat, he, hd.trans h.dp, fun e => hl.trans (hok e), by rw [hl]; exact h.lo, fun _ => by rw [hl]; have := h.len; omega, h.ha⟩
theorem Re.anyx (h : Re toks A x at0 dp s q p c r) (he : c.e_ ≠ 0) (x' : GNode) : Re toks A x' at0 dp s q p c r :=
  ⟨h.cw, h.t, h.at_, h.e_, h.dp, fun e => absurd e he, h.lo, h.hi, h.ha⟩
theorem Re.resetp (h : Re toks A x at0 dp s q p c r) (he : c.e_ = 0) (p' : Nat) : Re toks A x at0 dp s q p' c r :=
  ⟨h.cw, h.t, h.at_, h.e_, h.dp, h.ok, h.lo, fun e => absurd he e, h.ha⟩
theorem Re.elem (h : Re toks A x at0 dp s q p c r) {P : GNode → Prop} (hP : ∀ y, r.l[A.length]? = some y → (c.e_ = 0 → y = wk x c.n) → P y) :
    ((0 : Int) ≤ (A.length : Int) ∧ (A.length : Int) < (r.l.length : Int)) ∧ ∀ y, r.l[(A.length : Int).toNat]? = some y → P y := by
  have := h.lo
  refine ⟨⟨by omega, by omega⟩, fun y hy => ?_⟩
  rw [Int.toNat_natCast] at hy
  refine hP y hy fun e => ?_
  rw [h.ok e] at hy
  simpa using hy.symm
theorem Re.upd (h : Re toks A x at0 dp s q p c r) {y y' : GNode} (x' : GNode) (hy : c.e_ = 0 → y = wk x c.n) (hy' : y = wk x c.n → y' = wk x' c.n) : Re toks A x' at0 dp s q p c ⟨toks, r.at_, r.deep, r.l.set (A.length : Int).toNat y', r.e_⟩ := by
  refine ⟨h.cw, rfl, h.at_, h.e_, h.dp, fun e => ?_, by rw [List.length_set]; exact h.lo, fun e => by rw [List.length_set]; exact h.hi e, h.ha⟩
  show r.l.set _ _ = _
  rw [h.ok e, Int.toNat_natCast, hy' (hy e)]
  simp
theorem psee_v (hN : toks.length < 1000000) (ht : r.toks = toks) (h0 : 0 ≤ r.at_) (h1 : r.at_ ≤ (toks.length : Int)) (k : Int) (hk : 0 ≤ k) (hk1 : k ≤ 1) (K : GToken → Prop) (h : K (tokF toks (r.at_ + k))) : V_parse_reader_see r k K := by
  subst ht
  refine parse_reader_see_lift _ _ _ ?_
  unfold parse_reader_see_vwp
  rw [wrap_in (by omega) (by omega)]
  refine cond_intro (fun hc => ?_) fun hc => ?_
  · have hlt : r.at_ + k < (r.toks.length : Int) := by simpa using hc
    refine ⟨⟨by omega, hlt⟩, fun x hx => ?_⟩
    unfold tokF at h
    rw [if_pos hlt, hx] at h; exact h
  · have hlt : ¬ r.at_ + k < (r.toks.length : Int) := by simpa using hc
    unfold tokF at h
    rw [if_neg hlt] at h; exact h
theorem pis_v (hN : toks.length < 1000000) (ht : r.toks = toks) (h0 : 0 ≤ r.at_) (h1 : r.at_ ≤ (toks.length : Int)) (k : Int) (hk : 0 ≤ k) (hk1 : k ≤ 1) (t : Str) (K : Bool → Prop) (h : K (isF toks (r.at_ + k) t)) : V_parse_reader_is r k t K :=
  parse_reader_is_lift _ _ _ _ (psee_v hN ht h0 h1 k hk hk1 _ (is_cond _ t K h))
theorem pfail_v (e : Int) (K : Gparse_reader → Prop) (h : K ⟨r.toks, r.at_, r.deep, r.l, if r.e_ = 0 then e else r.e_⟩) : V_parse_reader_fail r e K := by
  refine parse_reader_fail_lift _ _ _ (cond_intro (fun hc => ?_) fun hc => ?_)
  · rw [if_pos (by simpa using hc)] at h; exact h
  · rw [if_neg (by simpa using hc)] at h; exact h
theorem eat0 (t : Str) : seeB toks t c = true → eatC toks t c = ⟨c.l, c.n, c.at_ + 1, 0⟩ := see_eat
theorem eat1 {t : Str} (he : c.e_ = 0) (h : seeB toks t c = false) : eatC toks t c = ⟨c.l, c.n, c.at_, 11⟩ := by
  unfold seeB at h
  rw [decide_eq_true he] at h
  unfold eatC
  rw [if_pos he, if_neg (by simpa using h)]
theorem eatE {t : Str} (he : c.e_ ≠ 0) : eatC toks t c = c := by unfold eatC; rw [if_neg he]
theorem see_lt {t : Str} (h : seeB toks t c = true) : c.e_ = 0 ∧ isF toks c.at_ t = true := by
  unfold seeB at h
  simpa using h
theorem seeE {t : Str} (he : c.e_ ≠ 0) : seeB toks t c = false := by unfold seeB; rw [decide_eq_false he]; rfl
theorem eat_s (hN : toks.length < 1000000) (h : Re toks A x at0 dp s q p c r) (t : Str) (K : Bool → Gparse_reader → Prop)
    (hT : seeB toks t c = true → ∀ r', r'.l = r.l → Re toks A x at0 dp (s + 1) q p (eatC toks t c) r' → K true r')
    (hF : seeB toks t c = false → ∀ r', r'.l = r.l → Re toks A x at0 dp s q p c r' → K false r') : V_parse_reader_eat r t K := by
  have z0 := h.cw.z1
  have z1 := h.cw.hi
  refine parse_reader_eat_lift _ _ _ ⟨fun b => b = !seeB toks t c, cond_intro (fun he => ?_) (fun he => ?_), ?_⟩
  · show true = _
    have he : r.e_ ≠ 0 := by simpa using he
    rw [seeE (by rw [← h.e_]; exact he)]; rfl
  · have he : r.e_ = 0 := by simpa using he
    refine pis_v hN h.t (by rw [h.at_]; exact z0) (by rw [h.at_]; exact z1) 0 (by decide) (by decide) t _ ?_
    show _ = _
    unfold seeB
    rw [Int.add_zero, h.at_, decide_eq_true (by rw [← h.e_]; exact he)]; rfl
  · rintro _ rfl
    cases hb : seeB toks t c with
    | false => exact hF hb r rfl h
    | true =>
      obtain ⟨he, hi⟩ := see_lt hb
      have hlt := isF_lt hi
      refine hT hb _ rfl (h.stepE (cw_eat t h.cw) h.t ?_ ?_ rfl rfl ?_ ?_)
      · rw [eat0 t hb]
        dsimp only
        rw [wrap_in (by rw [h.at_]; omega) (by rw [h.at_]; omega), h.at_]
      · rw [eat0 t hb, h.e_, he]
      · rw [eat0 t hb]; dsimp only; omega
      · rw [eat0 t hb]
        exact fun _ => h.ok he
theorem must_s (hN : toks.length < 1000000) (h : Re toks A x at0 dp s q p c r) (t : Str) (K : Gparse_reader → Prop)
    (hK : ∀ r', r'.l = r.l → Re toks A x at0 dp (s + 1) q p (eatC toks t c) r' → K r') : V_parse_reader_must r [t] K := by
  obtain ⟨tk, a, dd, l, e⟩ := r
  obtain rfl : tk = toks := h.t
  refine parse_reader_must_lift _ _ _ ⟨fun i at_ deep ex n => (i = 0 ∧ at_ = a ∧ deep = dd ∧ ex = e ∧ n = 1) ∨ (i = 1 ∧ n = 0 ∧ Re tk A x at0 dp (s + 1) q p (eatC tk t c) ⟨tk, at_, deep, l, ex⟩), ⟨1, .inl ⟨rfl, rfl, rfl, rfl, rfl⟩⟩, ?_⟩
  rintro i at_ deep ex n (⟨rfl, rfl, rfl, rfl, rfl⟩ | ⟨rfl, rfl, hr⟩)
  · refine cond_t (by simp) ⟨⟨by decide, by simp⟩, fun x1 hx1 => ?_⟩
    obtain rfl : x1 = t := by simpa using hx1.symm
    refine eat_s hN h x1 _ (fun hb r' hl hr => cond_f rfl ⟨0, by decide, .inr ⟨by decide, rfl, hr.re hl⟩⟩) fun hb r' hl hr => cond_t rfl (pfail_v _ _ ?_)
    have hr := hr.re hl
    refine hK _ rfl (hr.stepE (cw_eat x1 h.cw) rfl ?_ ?_ rfl rfl ?_ ?_)
    · by_cases he : c.e_ = 0
      · rw [eat1 he hb]; exact hr.at_
      · rw [eatE he]; exact hr.at_
    · dsimp only
      have h2 := hr.e_
      dsimp only at h2
      rw [h2]
      by_cases he : c.e_ = 0
      · rw [eat1 he hb, if_pos he]
      · rw [eatE he, if_neg he]
    · by_cases he : c.e_ = 0
      · rw [eat1 he hb]; exact Int.le_refl _
      · rw [eatE he]; exact Int.le_refl _
    · intro h0
      exfalso
      by_cases he : c.e_ = 0
      · rw [eat1 he hb] at h0; cases h0
      · rw [eatE he] at h0; exact he h0
  · exact cond_f (by simp) (hK _ rfl hr)
theorem name_s (hN : toks.length < 1000000) (h : Re toks A x at0 dp s q p c r) (K : Str → Gparse_reader → Prop)
    (hK : ∀ r', r'.l = r.l → Re toks A x at0 dp (s + 1) q p (nameC toks c) r' → K (nameS toks c) r') : V_parse_reader_name r K := by
  have z0 := h.cw.z1
  have z1 := h.cw.hi
  have hcw := cw_name h.cw
  obtain ⟨tk, a, dd, l, e⟩ := r
  obtain rfl : tk = toks := h.t
  have hat : a = c.at_ := h.at_
  have hee : e = c.e_ := h.e_
  refine parse_reader_name_lift _ _ (psee_v hN rfl (by dsimp only; omega) (by dsimp only; omega) 0 (by decide) (by decide) _ ?_)
  dsimp only
  rw [Int.add_zero, hat]
  refine ⟨fun b => b = !decide (c.e_ = 0 ∧ (tokF tk c.at_).kind = 1), cond_intro (fun he => ?_) (fun he => ?_), ?_⟩
  · show true = _
    have he : e ≠ 0 := by simpa using he
    rw [decide_eq_false (fun hh => he (hee.trans hh.1))]; rfl
  · have he : e = 0 := by simpa using he
    show _ = _
    rw [Bool.eq_iff_iff]; simp [← hee, he]
  · rintro _ rfl
    by_cases hh : c.e_ = 0 ∧ (tokF tk c.at_).kind = 1
    · rw [decide_eq_true hh]
      have hc' : nameC tk c = ⟨c.l, c.n, c.at_ + 1, 0⟩ := by unfold nameC; rw [if_pos hh.1, if_pos hh.2]
      have hs : nameS tk c = (tokF tk c.at_).text := by unfold nameS; rw [if_pos hh.1, if_pos hh.2]
      have hlt := kind_lt (toks := tk) (at_ := c.at_) (by omega)
      show K _ _
      rw [← hs]
      refine hK _ rfl (h.stepE hcw rfl ?_ ?_ rfl rfl ?_ ?_)
      · rw [hc']; dsimp only; rw [wrap_in (by omega) (by omega)]
      · rw [hc']; exact hee.trans hh.1
      · rw [hc']; dsimp only; omega
      · rw [hc']; exact fun _ => h.ok hh.1
    · rw [decide_eq_false hh]
      show V_parse_reader_fail _ _ _
      refine pfail_v _ _ ?_
      have hs : nameS tk c = [] := by
        unfold nameS
        by_cases he : c.e_ = 0
        · rw [if_pos he, if_neg (fun hk => hh ⟨he, hk⟩)]
        · rw [if_neg he]
      have hc' : (nameC tk c).at_ = c.at_ ∧ (nameC tk c).e_ = if c.e_ = 0 then 11 else c.e_ := by
        unfold nameC
        by_cases he : c.e_ = 0
        · rw [if_pos he, if_neg (fun hk => hh ⟨he, hk⟩), if_pos he]; exact ⟨rfl, rfl⟩
        · rw [if_neg he, if_neg he]; exact ⟨rfl, rfl⟩
      rw [← hs]
      refine hK _ rfl (h.stepE hcw rfl ?_ ?_ rfl rfl ?_ ?_)
      · rw [hc'.1]
      · rw [hc'.2, ← hee]
      · rw [hc'.1]; exact Int.le_refl _
      · rw [hc'.2]
        intro h0
        exfalso
        split at h0
        · cases h0
        · rename_i he; exact he h0
theorem open_s (hN : toks.length < 1000000) (ht : r.toks = toks) (h0 : 0 ≤ r.at_) (h1 : r.at_ ≤ (toks.length : Int)) (hl : r.l.length < 3000000) (op : Int) (K : Int → Gparse_reader → Prop)
    (hK : ((r.l.length : Int) ≤ r.at_ + 2000 → ∀ r', Re toks r.l (nd toks op [] 0 r.at_) r.at_ r.deep 0 0 0 (fromE r.at_ r.e_) r' → r'.l = r.l ++ [nd toks op [] 0 r.at_] → K (r.l.length : Int) r')) (ha : (r.l.length : Int) ≤ r.at_ + 2000) : V_parse_reader_open r op K := by
  obtain ⟨tk, a, dd, l, e⟩ := r
  obtain rfl : tk = toks := ht
  dsimp only at h0 h1 hl ha hK
  refine parse_reader_open_lift _ _ _ ⟨fun a' d' l' e' => a' = a ∧ d' = dd ∧ l' = l ++ [nd tk op [] 0 a] ∧ e' = e, psee_v hN rfl h0 h1 0 (by decide) (by decide) _ ⟨by simp only [List.length_cons, List.length_nil]; omega, rfl, rfl, ?_, rfl⟩, ?_⟩
  · dsimp only; rw [Int.add_zero]; rfl
  · rintro a' d' l' e' ⟨h1', h2', h3', h4'⟩
    subst h1' h2' h3' h4'
    have hw : IntKind.i64.wrap (((l ++ [nd tk op [] 0 a']).length : Int) - 1) = (l.length : Int) := by
      rw [wrap_in (by simp only [List.length_append, List.length_cons, List.length_nil]; omega) (by simp only [List.length_append, List.length_cons, List.length_nil]; omega)]; simp
    rw [hw]
    refine hK ha _ ⟨⟨h0, Int.le_refl _, h1, fun _ => by simp [fromE], by simp [fromE]⟩, rfl, rfl, rfl, rfl, fun _ => rfl, by simp, fun _ => ?_, ha⟩ rfl
    simp only [fromE, List.length_append, List.length_cons, List.length_nil]; omega
theorem dbl {l : List GNode} {i : Int} {Q : GNode → GNode → Prop} (h0 : 0 ≤ i) (h1 : i < (l.length : Int)) (h : ∀ y, l[i.toNat]? = some y → Q y y) :
    ((0 : Int) ≤ i ∧ i < (l.length : Int)) ∧ ∀ y, l[i.toNat]? = some y → ((0 : Int) ≤ i ∧ i < (l.length : Int)) ∧ ∀ z, l[i.toNat]? = some z → Q y z :=
  ⟨⟨h0, h1⟩, fun y hy => ⟨⟨h0, h1⟩, fun z hz => by rw [hy] at hz; cases hz; exact h y hy⟩⟩
theorem term_s (M : TermC) (hN : toks.length < 1000000) (h : Re toks A x at0 dp s q p c r) (hp : p ≤ 1000) (K : Gparse_reader → Prop)
    (hK : ∀ r', Re toks A x at0 dp s q p (termC M toks c) r' → K r') : V_parse_reader_term r (A.length : Int) K := by
  have z0 := h.cw.z1
  have z1 := h.cw.hi
  have hcw := cw_term M h.cw
  have hsm := h.small hN hp
  have hln := h.len
  have hlo := h.lo
  obtain ⟨tk, a, dd, l, e⟩ := r
  obtain rfl : tk = toks := h.t
  have hat : a = c.at_ := h.at_
  have hee : e = c.e_ := h.e_
  dsimp only at hsm hln hlo
  refine parse_reader_term_lift _ _ _ (cond_intro (fun he => ?_) fun he => ?_)
  · have he : c.e_ ≠ 0 := by rw [← hee]; simpa using he
    refine hK _ ?_
    have : termC M tk c = c := by unfold termC addC; rw [if_neg he]
    rw [this]; exact h
  · have he0 : c.e_ = 0 := by rw [← hee]; simpa using he
    have hok := h.ok he0
    have htc : termC M tk c = ⟨c.l ++ (M.T tk c.at_).1, IntKind.i64.wrap (c.n + 1), (M.T tk c.at_).2.1, (M.T tk c.at_).2.2⟩ := by unfold termC addC; rw [if_pos he0]
    have hlo' := M.lo tk c.at_ z0 z1
    have hhi' := M.hi tk c.at_ z0 z1
    have hlen' := M.len tk c.at_ z0 z1
    dsimp only
    rw [hat]
    refine ⟨fun l1 a1 e1 => l1 = (M.T tk c.at_).1 ∧ a1 = (M.T tk c.at_).2.1 ∧ e1 = (M.T tk c.at_).2.2, M.pv tk (by omega) _ z0 z1 _ ⟨rfl, rfl, rfl⟩, ?_⟩
    rintro _ _ _ ⟨rfl, rfl, rfl⟩
    rw [htc] at hK hcw
    generalize M.T tk c.at_ = R at hK hcw hlo' hhi' hlen'
    obtain ⟨l1, a1, e1⟩ := R
    dsimp only at hK hcw hlo' hhi' hlen' hok ⊢
    refine cond_intro (fun h1 => ?_) fun h1 => ?_
    · have h1 : e1 ≠ 0 := by simpa using h1
      refine pfail_v _ _ (hK _ ⟨hcw, rfl, rfl, ?_, h.dp, fun e => absurd e h1, hlo, fun _ => ?_, h.ha⟩)
      · dsimp only; rw [if_pos (hee.trans he0)]
      · dsimp only; omega
    · have h1 : e1 = 0 := by simpa using h1
      subst h1
      refine ⟨by omega, dbl (by omega) (by simp only [List.length_append]; omega) fun y hy => hK _ ⟨hcw, rfl, rfl, hee.trans he0, h.dp, fun _ => ?_, by rw [List.length_set, List.length_append]; omega, fun e => absurd rfl e, h.ha⟩⟩
      rw [Int.toNat_natCast] at hy ⊢
      rw [hok] at hy ⊢
      have hy : y = wk x c.n := by simpa using hy.symm
      subst hy
      simp [wk]
theorem fin_add {x2 : GNode} {dp2 : Int} {s2 q2 p2 s' q' p' : Nat} {c2 dd : Cur} {r2 : Gparse_reader} {L : List GNode} (h : Re toks A x at0 dp s q p c r) (hL : r.l = L)
    (h2 : Re toks L x2 c.at_ dp2 s2 q2 p2 c2 r2) (hE : c.e_ ≠ 0 → c2.at_ = c.at_ ∧ c2.e_ = c.e_) (hd : c.e_ = 0 → dd.at_ = c2.at_ ∧ dd.e_ = c2.e_ ∧ (c2.e_ = 0 → dd.l = (underC c2 x2).l))
    (hcw : Cw toks at0 s' q' (addC c dd)) (hp : p + p2 + 1 ≤ p') {K : Gparse_reader → Prop} {dp3 : Int} (hdp : dp3 = dp)
    (hK : ∀ r', Re toks A x at0 dp s' q' p' (addC c dd) r' → K r') :
    ((0 : Int) ≤ (A.length : Int) ∧ (A.length : Int) < (r2.l.length : Int)) ∧ ∀ y, r2.l[(A.length : Int).toNat]? = some y → ((0 : Int) ≤ (A.length : Int) ∧ (A.length : Int) < (r2.l.length : Int)) ∧ ∀ z, r2.l[(A.length : Int).toNat]? = some z →
      K ⟨toks, r2.at_, dp3, r2.l.set (A.length : Int).toNat ⟨z.op, z.name, z.n, IntKind.i64.wrap (y.kids + 1), z.at_⟩, r2.e_⟩ := by
  subst hL
  have hlo := h.lo
  have hlo2 := h2.lo
  have hln := h.len
  have hln2 := h2.len
  refine dbl (by omega) (by omega) fun y hy => hK _ ?_
  rw [Int.toNat_natCast] at hy ⊢
  by_cases he : c.e_ = 0
  · have hd := hd he
    have ha : addC c dd = ⟨c.l ++ dd.l, IntKind.i64.wrap (c.n + 1), dd.at_, dd.e_⟩ := by unfold addC; rw [if_pos he]
    rw [ha] at hcw ⊢
    refine ⟨hcw, rfl, h2.at_.trans hd.1.symm, h2.e_.trans hd.2.1.symm, hdp, fun e => ?_, by rw [List.length_set]; omega, fun _ => ?_, h.ha⟩
    · have e2 : c2.e_ = 0 := hd.2.1.symm.trans e
      show r2.l.set _ _ = _
      have hl2 := h2.ok e2
      rw [h.ok he] at hl2
      rw [hl2] at hy ⊢
      have hy : y = wk x c.n := by simpa using hy.symm
      subst hy
      rw [hd.2.2 e2]
      simp [wk, underC]
    · rw [List.length_set]
      dsimp only
      rw [hd.1]
      have := h.cw.w he
      rw [h.ok he] at hln2
      simp only [List.length_append, List.length_cons] at hln2
      omega
  · obtain ⟨e1, e2⟩ := hE he
    have ha : addC c dd = c := by unfold addC; rw [if_neg he]
    rw [ha] at hcw ⊢
    refine ⟨hcw, rfl, h2.at_.trans e1, h2.e_.trans e2, hdp, fun e => absurd e he, by rw [List.length_set]; omega, fun _ => ?_, h.ha⟩
    rw [List.length_set]
    omega
end
end Go.Proofs.Ytdbdkdmgfiiljaa
namespace Go.Proofs.Ytdbdkdmgfiiljaa
open Go.Vc Go.Lv Go.Ty
section
variable {toks : List GToken} {A : List GNode} {x : GNode} {at0 dp : Int} {s q p : Nat} {c d : Cur} {r : Gparse_reader}
theorem nameE (he : c.e_ ≠ 0) : nameC toks c = c := by unfold nameC; rw [if_neg he]
theorem addE (he : c.e_ ≠ 0) (d : Cur) : addC c d = c := by unfold addC; rw [if_neg he]
theorem termE (M : TermC) (he : c.e_ ≠ 0) : termC M toks c = c := addE he _
theorem refC1E (M : TermC) (he : c.e_ ≠ 0) : refC1 M toks c = c := by unfold refC1; rw [if_neg (by rw [seeE he]; simp)]
theorem loopE {g : Cur → Bool} {b : Cur → Cur} (hg : g c = false) : ∀ f, loopC g b f c = c
  | 0 => rfl
  | f + 1 => by unfold loopC; rw [if_neg (by rw [hg]; simp)]
theorem Re.len' (h : Re toks A x at0 dp s q p c r) (hA : (A.length : Int) ≤ at0 + 1000) (hp : p ≤ 900) : (r.l.length : Int) ≤ r.at_ + 2000 := by
  have := h.len
  rw [h.at_]
  omega
theorem ref_s (M : TermC) (hN : toks.length < 1000000) (h : Re toks A x at0 dp s q p c r) (hA : (A.length : Int) ≤ at0 + 1000) (hp : p ≤ 900) (hq : 1 ≤ q) (K : Gparse_reader → Prop)
    (hK : ∀ r', Re toks A x at0 dp s q (p + 1) (addC c (refC M toks c.at_)) r' → K r') : V_parse_reader_ref r (A.length : Int) K := by
  have hsm := h.small hN (by omega)
  have hl' := h.len' hA hp
  have z0 := h.cw.z1
  have z1 := h.cw.hi
  obtain ⟨tk, a, dd, l, e⟩ := r
  obtain rfl : tk = toks := h.t
  obtain rfl : a = c.at_ := h.at_
  obtain rfl : e = c.e_ := h.e_
  have hdp : dd = dp := h.dp
  dsimp only at hsm hl'
  refine parse_reader_ref_lift _ _ _ (open_s hN rfl z0 z1 (by dsimp only; omega) 33 _ (fun _ r1 h1 hl1 => ?_) hl')
  refine ⟨fun at_ deep l' ex => Re tk l (nd tk 33 (nameS tk (fromE c.at_ c.e_)) 0 c.at_) c.at_ dd 1 0 0 (nameC tk (fromE c.at_ c.e_)) ⟨tk, at_, deep, l', ex⟩, name_s hN (h1.re rfl) _ (fun r2 hl2 h2 => ?_), ?_⟩
  · have h2 := h2.re hl2
    exact h2.elem fun y _ hy => h2.upd _ hy fun e => by rw [e]; rfl
  · intro at1 deep1 l1 ex1 h2
    refine ⟨fun at_ deep l' ex => Re tk l (nd tk 33 (nameS tk (fromE c.at_ c.e_)) 0 c.at_) c.at_ dd 1 0 0 (refC1 M tk (nameC tk (fromE c.at_ c.e_))) ⟨tk, at_, deep, l', ex⟩, eat_s hN h2 sLS _ (fun hb r3 hl3 h3 => ?_) (fun hb r3 hl3 h3 => ?_), ?_⟩
    · refine term_s M hN (h3.re hl3) (by omega) _ fun r4 h4 => must_s hN (h4.re rfl) sRS _ fun r5 hl5 h5 => ?_
      have h5 := h5.re hl5
      unfold refC1; rw [if_pos hb]
      exact h5.mono (by omega) (by omega) (by omega)
    · have h3 := h3.re hl3
      unfold refC1; rw [if_neg (by rw [hb]; simp)]
      exact h3
    · intro at2 deep2 l2 ex2 h3
      have hcw := cw_add h.cw (fun _ => cw_ref M z0 z1) hq
      refine fin_add (dd := refC M tk c.at_) h rfl h3 (fun he => ?_) (fun he => ?_) hcw (Nat.le_refl _) (h3.dp.trans hdp) hK
      · have h0 : (fromE c.at_ c.e_).e_ ≠ 0 := he
        rw [nameE h0, refC1E M h0]; exact ⟨rfl, rfl⟩
      · rw [he]; exact ⟨rfl, rfl, fun _ => rfl⟩
theorem param_s (hN : toks.length < 1000000) (h : Re toks A x at0 dp s q p c r) (hA : (A.length : Int) ≤ at0 + 1000) (hp : p ≤ 900) (hq : 1 ≤ q) (K : Gparse_reader → Prop)
    (hK : ∀ r', Re toks A x at0 dp s q (p + 1) (paramC toks c) r' → K r') : V_parse_reader_param r (A.length : Int) K := by
  have hsm := h.small hN (by omega)
  have hl' := h.len' hA hp
  have z0 := h.cw.z1
  have z1 := h.cw.hi
  obtain ⟨tk, a, dd, l, e⟩ := r
  obtain rfl : tk = toks := h.t
  obtain rfl : a = c.at_ := h.at_
  obtain rfl : e = c.e_ := h.e_
  have hdp : dd = dp := h.dp
  dsimp only at hsm hl'
  refine parse_reader_param_lift _ _ _ (open_s hN rfl z0 z1 (by dsimp only; omega) 39 _ (fun _ r1 h1 hl1 => ?_) hl')
  refine ⟨fun at_ deep l' ex => Re tk l (nd tk 39 (nameS tk (fromE c.at_ c.e_)) 0 c.at_) c.at_ dd 1 0 0 (nameC tk (fromE c.at_ c.e_)) ⟨tk, at_, deep, l', ex⟩, name_s hN (h1.re rfl) _ (fun r2 hl2 h2 => ?_), ?_⟩
  · have h2 := h2.re hl2
    exact h2.elem fun y _ hy => h2.upd _ hy fun e => by rw [e]; rfl
  · intro at1 deep1 l1 ex1 h3
    refine fin_add (dd := underC (nameC tk (fromC c.at_)) (nd tk 39 (nameS tk (fromC c.at_)) 0 c.at_)) h rfl h3 (fun he => ?_) (fun he => ?_) (cw_param h.cw hq) (Nat.le_refl _) (h3.dp.trans hdp) hK
    · have h0 : (fromE c.at_ c.e_).e_ ≠ 0 := he
      rw [nameE h0]; exact ⟨rfl, rfl⟩
    · rw [he]; exact ⟨rfl, rfl, fun _ => rfl⟩
theorem comm_s (M : TermC) (hN : toks.length < 1000000) (a b : Int) (h : Re toks A x at0 dp s q p c r) (hx : x.name = []) (hA : (A.length : Int) ≤ at0 + 1000) (hp : p ≤ 900) (hq : 1 ≤ q) (K : Gparse_reader → Prop)
    (hK : ∀ r', Re toks A ⟨(commC M toks a b c).op, (commC M toks a b c).name, x.n, x.kids, x.at_⟩ at0 dp (s + 1) q (p + 1) (commC M toks a b c).c r' → K r') : V_parse_reader_comm r (A.length : Int) a b K := by
  have hcm := cw_comm M a b h.cw hq
  obtain ⟨tk, a', dd, l, e⟩ := r
  obtain rfl : tk = toks := h.t
  refine parse_reader_comm_lift _ _ _ _ _ (ref_s M hN h hA hp hq _ fun r1 h1 => ?_)
  have hc1 : c.e_ ≠ 0 → addC c (refC M tk c.at_) = c := fun he => addE he _
  have hcm1 : c.e_ = 0 → commC M tk a b c = commC2 M tk a b (addC c (refC M tk c.at_)) := fun he => by unfold commC; rw [if_pos he]
  have hcm0 : c.e_ ≠ 0 → commC M tk a b c = ⟨c, 0, []⟩ := fun he => by unfold commC; rw [if_neg he]
  generalize addC c (refC M tk c.at_) = c1 at h1 hc1 hcm1
  have hsee : ∀ {t : Str}, seeB tk t c1 = true → c.e_ = 0 := fun {t} hb => by
    apply Classical.byContradiction
    intro he
    rw [hc1 he, seeE he] at hb; cases hb
  have h1 := h1.re rfl
  refine eat_s hN h1 sBang _ (fun hb r2 hl2 h2 => ?_) (fun hb r2 hl2 h2 => ?_)
  · have h2 := h2.re hl2
    have hcc : commC M tk a b c = ⟨termC M tk (eatC tk sBang c1), a, []⟩ := by rw [hcm1 (hsee hb)]; unfold commC2; rw [if_pos hb]
    rw [hcc] at hK hcm
    refine h2.elem fun y _ hy => term_s M hN (h2.upd (⟨a, [], x.n, x.kids, x.at_⟩ : GNode) hy fun e => by rw [e]; simp [wk, hx]) (by omega) _ fun r3 h3 => hK _ (h3.re rfl)
  · have h2 := h2.re hl2
    refine eat_s hN h2 sAsk _ (fun hb2 r4 hl4 h4 => ?_) (fun hb2 r4 hl4 h4 => ?_)
    · have h4 := h4.re hl4
      have hcc : commC M tk a b c = ⟨nameC tk (eatC tk sAsk c1), b, nameS tk (eatC tk sAsk c1)⟩ := by rw [hcm1 (hsee hb2)]; unfold commC2; rw [if_neg (by rw [hb]; simp)]
      rw [hcc] at hK hcm
      refine h4.elem fun y _ hy => name_s hN (h4.upd (⟨b, x.name, x.n, x.kids, x.at_⟩ : GNode) hy fun e => by rw [e]; rfl) _ fun r5 hl5 h5 => ?_
      have h5 := h5.re hl5
      exact h5.elem fun y _ hy => hK _ ((h5.upd _ hy fun e => by rw [e]; rfl).mono (by omega) (Nat.le_refl _) (Nat.le_refl _))
    · have h4 := h4.re hl4
      refine pfail_v _ _ ?_
      have hce : (commC M tk a b c).c.at_ = c1.at_ ∧ (commC M tk a b c).c.e_ = (if c1.e_ = 0 then 11 else c1.e_) := by
        by_cases he : c.e_ = 0
        · rw [hcm1 he]
          unfold commC2; rw [if_neg (by rw [hb]; simp)]
          dsimp only
          by_cases he1 : c1.e_ = 0
          · rw [eat1 he1 hb2, if_pos he1, nameE (by simp)]; exact ⟨rfl, rfl⟩
          · rw [eatE he1, nameE he1, if_neg he1]; exact ⟨rfl, rfl⟩
        · rw [hcm0 he, hc1 he, if_neg he]; exact ⟨rfl, rfl⟩
      have hne : (commC M tk a b c).c.e_ ≠ 0 := by
        rw [hce.2]
        split
        · decide
        · assumption
      have h4e := h4.e_
      dsimp only at h4e
      have hfin : Re tk A x at0 dp (s + 1) q (p + 1) (commC M tk a b c).c ⟨tk, r4.at_, r4.deep, r1.l, if r4.e_ = 0 then 11 else r4.e_⟩ := h4.stepE hcm rfl (by rw [hce.1]; exact h4.at_) (by rw [hce.2]; dsimp only; rw [h4e]) rfl rfl (by rw [hce.1]; exact Int.le_refl _) (fun e => absurd e hne)
      exact hK _ (hfin.anyx hne _)
theorem size_s (hN : toks.length < 1000000) (h : Re toks A x at0 dp s q p c r) (K : Gparse_reader → Prop)
    (hK : ∀ r', Re toks A ⟨x.op, x.name, sizeN toks c, x.kids, x.at_⟩ at0 dp (s + 1) q p (sizeC toks c) r' → K r') : V_parse_reader_size r (A.length : Int) K := by
  have z0 := h.cw.z1
  have z1 := h.cw.hi
  have hcw := cw_size h.cw
  obtain ⟨tk, a, dd, l, e⟩ := r
  obtain rfl : tk = toks := h.t
  obtain rfl : a = c.at_ := h.at_
  obtain rfl : e = c.e_ := h.e_
  refine parse_reader_size_lift _ _ _ (psee_v hN rfl z0 z1 0 (by decide) (by decide) _ ?_)
  dsimp only
  rw [Int.add_zero]
  refine cond_intro (fun he => ?_) fun he => ?_
  · have he : c.e_ ≠ 0 := by simpa using he
    have hs : sizeC tk c = c := by unfold sizeC; rw [if_neg he]
    rw [hs] at hK hcw
    have hfin : Re tk A x at0 dp (s + 1) q p c ⟨tk, c.at_, dd, l, c.e_⟩ := h.stepE hcw rfl rfl rfl rfl rfl (Int.le_refl _) (fun e => absurd e he)
    exact hK _ (hfin.anyx he _)
  · have he : c.e_ = 0 := by simpa using he
    refine cond_intro (fun hk => ?_) fun hk => ?_
    · have hk : (tokF tk c.at_).kind ≠ 2 := by simpa using hk
      have hs : sizeC tk c = ⟨c.l, c.n, c.at_, 11⟩ := by unfold sizeC; rw [if_pos he, if_neg hk]
      rw [hs] at hK hcw
      have hfin : Re tk A x at0 dp (s + 1) q p ⟨c.l, c.n, c.at_, 11⟩ ⟨tk, c.at_, dd, l, if c.e_ = 0 then 11 else c.e_⟩ := h.stepE hcw rfl rfl (by dsimp only; rw [if_pos he]) rfl rfl (Int.le_refl _) (fun e => by cases e)
      exact pfail_v _ _ (hK _ (hfin.anyx (by simp) _))
    · have hk : (tokF tk c.at_).kind = 2 := by simpa using hk
      refine ⟨fun b => b = decide ((tokF tk c.at_).n < 1 ∨ (tokF tk c.at_).n > 16), cond_intro (fun h1 => ?_) (fun h1 => ?_), ?_⟩
      · show true = _
        have h1 : (tokF tk c.at_).n < 1 := by simpa using h1
        rw [decide_eq_true (.inl h1)]
      · show _ = _
        have h1 : ¬ (tokF tk c.at_).n < 1 := by simpa using h1
        rw [Bool.eq_iff_iff]; simp; omega
      · rintro _ rfl
        refine cond_intro (fun hr => ?_) fun hr => ?_
        · have hr := of_decide_eq_true hr
          have hs : sizeC tk c = ⟨c.l, c.n, c.at_, 6⟩ := by unfold sizeC; rw [if_pos he, if_pos hk, if_pos hr]
          rw [hs] at hK hcw
          have hfin : Re tk A x at0 dp (s + 1) q p ⟨c.l, c.n, c.at_, 6⟩ ⟨tk, c.at_, dd, l, if c.e_ = 0 then 6 else c.e_⟩ := h.stepE hcw rfl rfl (by dsimp only; rw [if_pos he]) rfl rfl (Int.le_refl _) (fun e => by cases e)
          exact pfail_v _ _ (hK _ (hfin.anyx (by simp) _))
        · have hr := of_decide_eq_false hr
          have hs : sizeC tk c = ⟨c.l, c.n, c.at_ + 1, 0⟩ := by unfold sizeC; rw [if_pos he, if_pos hk, if_neg hr]
          have hn : sizeN tk c = (tokF tk c.at_).n := by unfold sizeN; rw [hs, if_pos rfl]
          rw [hs] at hK hcw
          rw [hn] at hK
          have hlt := kind_lt (toks := tk) (at_ := c.at_) (by rw [hk]; decide)
          rw [wrap_in (by omega) (by omega)]
          have h' : Re tk A x at0 dp (s + 1) q p ⟨c.l, c.n, c.at_ + 1, 0⟩ ⟨tk, c.at_ + 1, dd, l, c.e_⟩ := h.stepE hcw rfl rfl he rfl rfl (by dsimp only; omega) (fun _ => h.ok he)
          exact h'.elem fun y _ hy => hK _ (h'.upd _ hy fun e => by rw [e]; rfl)
theorem args_s (M : TermC) (hN : toks.length < 1000000) (h : Re toks A x at0 dp s q p c r) (hp : p ≤ 900) (K : Gparse_reader → Prop)
    (hK : ∀ r', Re toks A x at0 dp s q p (argsC M toks c) r' → K r') : V_parse_reader_args r (A.length : Int) K := by
  obtain ⟨tk, a, dd, l, e⟩ := r
  obtain rfl : tk = toks := h.t
  refine parse_reader_args_lift _ _ _ (must_s hN h sLP _ fun r1 hl1 h1 => ?_)
  have h1 := h1.re hl1
  have hcw := cw_args M h.cw
  unfold argsC at hK hcw
  generalize eatC tk sLP c = c1 at h1 hK hcw
  refine eat_s hN h1 sRP _ (fun hb r2 hl2 h2 => ?_) (fun hb r2 hl2 h2 => ?_)
  · have h2 := h2.re hl2
    obtain ⟨he, hi⟩ := see_lt hb
    rw [if_neg (by rw [hi]; simp)] at hK
    exact cond_f rfl (hK _ (h2.mono (by omega) (Nat.le_refl _) (Nat.le_refl _)))
  · have h2 := h2.re hl2
    refine cond_t rfl (term_s M hN h2 (by omega) _ fun r3 h3 => ?_)
    have h3 := (h3.re rfl).mono (s' := s) (by omega) (Nat.le_refl _) (Nat.le_refl _)
    have hF : (if (decide (c1.e_ = 0) && !isF tk c1.at_ sRP) then loopC (seeB tk sComma) (fun c => termC M tk (eatC tk sComma c)) (fuel tk) (termC M tk c1) else c1) = loopC (seeB tk sComma) (fun c => termC M tk (eatC tk sComma c)) (fuel tk) (termC M tk c1) := by
      by_cases he : c1.e_ = 0
      · have hi : isF tk c1.at_ sRP = false := by
          have := hb
          unfold seeB at this
          rw [decide_eq_true he] at this
          simpa using this
        rw [if_pos (by rw [decide_eq_true he, hi]; rfl)]
      · rw [if_neg (by rw [decide_eq_false he]; simp), termE M he, loopE (seeE he)]
    rw [hF] at hK
    refine ⟨fun at_ deep l' ex f => ∃ c', Re tk A x at0 dp s q p c' ⟨tk, at_, deep, l', ex⟩ ∧ LI tk (seeB tk sComma) (fun c => termC M tk (eatC tk sComma c)) (loopC (seeB tk sComma) (fun c => termC M tk (eatC tk sComma c)) (fuel tk) (termC M tk c1)) f c', ⟨_, _, h3, LI.start h3.cw⟩, ?_⟩
    rintro at1 deep1 l1 ex1 f ⟨c', h4, hl⟩
    refine eat_s hN h4 sComma _ (fun hb r5 hl5 h5 => cond_t rfl ?_) (fun hb r5 hl5 h5 => cond_f rfl ?_)
    · refine term_s M hN (h5.re hl5) (by omega) _ fun r6 h6 => ?_
      have h6 := h6.re rfl
      obtain ⟨f', hf', hl'⟩ := hl.step hb (see_lt hb).1 h4.cw.hi (fun hd => by
        have := term_at M (cw_eat sComma h4.cw) (by rw [eat0 sComma hb])
        rw [eat0 sComma hb] at this ⊢
        exact this)
      exact ⟨f', hf', _, h6.mono (by omega) (Nat.le_refl _) (Nat.le_refl _), hl'⟩
    · have h5 := h5.re hl5
      rw [← hl.stop hb] at hK
      exact must_s hN h5 sRP _ fun r6 hl6 h6 => hK _ ((h6.re hl6).mono (by omega) (Nat.le_refl _) (Nat.le_refl _))
def setB (M : TermC) (toks : List GToken) (c : Cur) : Cur :=
  if seeB toks sRandom (eatC toks sEq (nameC toks c)) then eatC toks sRP (termC M toks (eatC toks sLP (eatC toks sRandom (eatC toks sEq (nameC toks c))))) else termC M toks (eatC toks sEq (nameC toks c))
def setOp (toks : List GToken) (c : Cur) (o : Int) : Int := if seeB toks sRandom (eatC toks sEq (nameC toks c)) then 20 else o
theorem set_s (M : TermC) (hN : toks.length < 1000000) (h : Re toks A x at0 dp s q p c r) (hp : p ≤ 900) (K : Gparse_reader → Prop)
    (hK : ∀ r', Re toks A ⟨setOp toks c x.op, nameS toks c, x.n, x.kids, x.at_⟩ at0 dp (s + 2) q p (setB M toks c) r' → K r') : V_parse_reader_set r (A.length : Int) K := by
  obtain ⟨tk, a, dd, l, e⟩ := r
  obtain rfl : tk = toks := h.t
  refine parse_reader_set_lift _ _ _ ⟨fun at_ deep l' ex => Re tk A ⟨x.op, nameS tk c, x.n, x.kids, x.at_⟩ at0 dp (s + 1) q p (nameC tk c) ⟨tk, at_, deep, l', ex⟩, name_s hN h _ (fun r1 hl1 h1 => ?_), ?_⟩
  · have h1 := h1.re hl1
    exact h1.elem fun y _ hy => h1.upd _ hy fun e => by rw [e]; rfl
  · intro at1 deep1 l1 ex1 h1
    refine must_s hN h1 sEq _ fun r2 hl2 h2 => ?_
    have h2 := h2.re hl2
    unfold setB setOp at hK
    generalize eatC tk sEq (nameC tk c) = c2 at h2 hK
    refine eat_s hN h2 sRandom _ (fun hb r3 hl3 h3 => cond_t rfl ?_) (fun hb r3 hl3 h3 => cond_f rfl ?_)
    · rw [if_pos hb, if_pos hb] at hK
      have h3 := h3.re hl3
      refine h3.elem fun y _ hy => must_s hN (h3.upd (⟨20, nameS tk c, x.n, x.kids, x.at_⟩ : GNode) hy fun e => by rw [e]; rfl) sLP _ fun r4 hl4 h4 => term_s M hN (h4.re hl4) (by omega) _ fun r5 h5 => must_s hN (h5.re rfl) sRP _ fun r6 hl6 h6 => hK _ ((h6.re hl6).mono (by omega) (Nat.le_refl _) (Nat.le_refl _))
    · rw [if_neg (by rw [hb]; simp), if_neg (by rw [hb]; simp)] at hK
      exact term_s M hN (h3.re hl3) (by omega) _ fun r4 h4 => hK _ (h4.re rfl)
end
end Go.Proofs.Ytdbdkdmgfiiljaa
namespace Go.Proofs.Ytdbdkdmgfiiljaa
open Go.Vc Go.Lv Go.Ty
section
variable {toks : List GToken} {A : List GNode} {x : GNode} {at0 dp : Int} {s q p : Nat} {c d : Cur} {r : Gparse_reader}
def stK (M : TermC) (toks : List GToken) : Nat → Int → Cur
  | 0 => fromC
  | k + 1 => stmtC M toks (blkF M toks k)
theorem blk_eq (M : TermC) (k : Nat) (at_ : Int) (h : ¬ (k = 0 ∧ isF toks at_ sLB = true)) : blkF M toks k at_ = blockC toks (stK M toks k) at_ := by
  cases k with
  | zero =>
    unfold blkF
    rw [if_neg (fun hx => h ⟨rfl, hx⟩)]; rfl
  | succ k => rfl
theorem Re.dpset {at_ dp2 l e : _} {dp' : Int} (h : Re toks A x at0 dp s q p c ⟨toks, at_, dp2, l, e⟩) {d' : Int} (hd : d' = dp') : Re toks A x at0 dp' s q p c ⟨toks, at_, d', l, e⟩ :=
  ⟨h.cw, rfl, h.at_, h.e_, hd, h.ok, h.lo, h.hi, h.ha⟩
def Got (toks : List GToken) (L : List GNode) (at0 dp : Int) (p : Nat) (e0 : Int) (cc : Cur) (K : Gparse_reader → Prop) : Prop :=
  ∀ (r' : Gparse_reader) (x2 : GNode) (c2 : Cur), Re toks L x2 at0 dp 1 200 p c2 r' → (e0 = 0 → cc.at_ = c2.at_ ∧ cc.e_ = c2.e_ ∧ (c2.e_ = 0 → cc.l = (underC c2 x2).l)) → (e0 ≠ 0 → c2.at_ = at0 ∧ c2.e_ = e0) → K r'
def PB (M : TermC) (toks : List GToken) (k : Nat) : Prop := ∀ (A : List GNode) (x : GNode) (at0 : Int) (s p : Nat) (c : Cur) (r : Gparse_reader) (K : Gparse_reader → Prop),
  Re toks A x at0 (24 - (k : Int)) (s + 1) 200 p c r → (c.e_ = 0 → (A.length : Int) ≤ at0 + 1) → (A.length : Int) ≤ at0 + 1000 → p ≤ 300 →
  (∀ r', Re toks A x at0 (24 - (k : Int)) (s + 2) 200 (p + (10 * k + 20)) (inC (blkF M toks k) c) r' → K r') → V_parse_reader_block r (A.length : Int) K
def PS (M : TermC) (toks : List GToken) (k : Nat) : Prop := ∀ (r : Gparse_reader) (K : Gparse_reader → Prop),
  r.toks = toks → 0 ≤ r.at_ → r.at_ ≤ (toks.length : Int) → r.deep = 24 - (k : Int) → r.e_ = 0 → (r.l.length : Int) ≤ r.at_ + 1 →
  Got toks r.l r.at_ (24 - (k : Int)) (10 * k + 25) 0 (stmtC M toks (blkF M toks k) r.at_) K → V_parse_reader_stmt r K
theorem lenOk (h : Re toks A x at0 dp (s + 1) q p c r) (he : c.e_ = 0) (hA : (A.length : Int) ≤ at0 + 1) : (r.l.length : Int) ≤ c.at_ + 1 := by
  have := h.cw.w he
  rw [h.ok he]
  simp only [List.length_append, List.length_cons]
  omega
theorem block_s (M : TermC) (hN : toks.length < 1000000) (k : Nat) (hk : k ≤ 24) (hS : ∀ k', k = k' + 1 → PS M toks k') : PB M toks k := by
  intro A x at0 s p c r K h hA1 hA hp hK
  have hsm := h.small hN (by omega)
  have hl' := h.len' hA (by omega)
  have z0 := h.cw.z1
  have z1 := h.cw.hi
  have hok1 : c.e_ = 0 → (r.l.length : Int) ≤ c.at_ + 1 := fun he => lenOk h he (hA1 he)
  obtain ⟨tk, a, dd, l, e⟩ := r
  obtain rfl : tk = toks := h.t
  obtain rfl : a = c.at_ := h.at_
  obtain rfl : e = c.e_ := h.e_
  have hdp : dd = 24 - (k : Int) := h.dp
  subst hdp
  dsimp only at hsm hl' hok1
  generalize he0 : (if c.e_ = 0 ∧ isF tk c.at_ sLB = true ∧ k = 0 then (5 : Int) else c.e_) = e0
  refine parse_reader_block_lift _ _ _ ⟨fun at_ deep l' ex => at_ = c.at_ ∧ deep = 24 - (k : Int) ∧ l' = l ∧ ex = e0, ⟨fun b => b = decide (c.e_ = 0 ∧ isF tk c.at_ sLB = true ∧ k = 0), cond_intro (fun he => ?_) (fun he => ?_), ?_⟩, ?_⟩
  · have he : c.e_ = 0 := by simpa using he
    refine pis_v hN rfl z0 z1 0 (by decide) (by decide) sLB _ ?_
    dsimp only
    rw [Int.add_zero]
    refine cond_intro (fun hi => ?_) fun hi => ?_
    · show _ = _
      rw [Bool.eq_iff_iff]; simp [he, hi]; omega
    · show false = _
      rw [hi]; simp
  · have he : ¬ c.e_ = 0 := by simpa using he
    show false = _
    rw [decide_eq_false (fun hh => he hh.1)]
  · rintro _ rfl
    refine cond_intro (fun hb => ?_) fun hb => ?_
    · have hb := of_decide_eq_true hb
      refine pfail_v _ _ ⟨rfl, rfl, rfl, ?_⟩
      dsimp only
      rw [← he0, if_pos hb, if_pos hb.1]
    · have hb := of_decide_eq_false hb
      refine ⟨rfl, rfl, rfl, ?_⟩
      rw [← he0, if_neg hb]
  rintro a' d' l' x' ⟨q1, q2, q3, q4⟩
  have q3 := q3.symm
  have q4 := q4.symm
  subst q1 q2 q3 q4
  refine open_s hN rfl z0 z1 (by dsimp only; omega) 32 _ (fun _ r2 h2 hl2 => ?_) hl'
  dsimp only at h2
  refine must_s hN (h2.re rfl) sLB _ fun r3 hl3 h3 => ?_
  have h3 := h3.re hl3
  have hw : IntKind.i64.wrap (r3.deep + 1) = 25 - (k : Int) := by rw [show r3.deep = 24 - (k : Int) from h3.dp, wrap_in (by omega) (by omega)]; omega
  rw [hw]
  have h3 := (h3.dpset (dp' := 25 - (k : Int)) rfl).mono (s' := 1) (q' := 200) (p' := 10 * k + 16) (Nat.le_refl _) (by omega) (by omega)
  -- where the loop is entered, blocks may be within
  have hk0 : (eatC tk sLB (fromE c.at_ (if c.e_ = 0 ∧ isF tk c.at_ sLB = true ∧ k = 0 then (5 : Int) else c.e_))).e_ = 0 → k ≠ 0 ∧ c.e_ = 0 := by
    intro h0
    split at h0
    · rw [eatE (by simp [fromE])] at h0; simp [fromE] at h0
    · rename_i hb
      by_cases he : c.e_ = 0
      · refine ⟨fun hk0 => ?_, he⟩
        unfold eatC fromE at h0
        dsimp only at h0
        rw [if_pos he] at h0
        split at h0
        · rename_i hi; exact hb ⟨he, hi, hk0⟩
        · cases h0
      · rw [eatE (by exact he)] at h0; exact absurd h0 he
  rw [he0] at hk0
  generalize hc1 : eatC tk sLB (fromE c.at_ e0) = c1 at h3 hk0
  generalize hF : loopC (fun c => decide (c.e_ = 0) && !isF tk c.at_ sRB) (fun c => addC c (stK M tk k c.at_)) (fuel tk) c1 = F
  refine ⟨fun at_ deep l' ex f => ∃ c', Re tk l (nd tk 32 [] 0 c.at_) c.at_ (25 - (k : Int)) 1 200 (10 * k + 16) c' ⟨tk, at_, deep, l', ex⟩ ∧ LI tk (fun c => decide (c.e_ = 0) && !isF tk c.at_ sRB) (fun c => addC c (stK M tk k c.at_)) F f c' ∧ (c'.e_ = 0 → k ≠ 0 ∧ c.e_ = 0), ⟨_, c1, h3, hF ▸ LI.start h3.cw, hk0⟩, ?_⟩
  clear h2 h3 hl2 hl3 hw
  rintro at1 deep1 l1 ex1 f ⟨c', h4, hl, hk'⟩
  have h4e : ex1 = c'.e_ := h4.e_
  have h4a : at1 = c'.at_ := h4.at_
  subst h4e; subst h4a
  refine ⟨fun b => b = (decide (c'.e_ = 0) && !isF tk c'.at_ sRB), cond_intro (fun he => ?_) (fun he => ?_), ?_⟩
  · have he : c'.e_ = 0 := by simpa using he
    refine pis_v hN rfl h4.cw.z1 h4.cw.hi 0 (by decide) (by decide) sRB _ ?_
    dsimp only
    rw [Int.add_zero, decide_eq_true he]; rfl
  · have he : ¬ c'.e_ = 0 := by simpa using he
    show false = _
    rw [decide_eq_false he]; rfl
  rintro _ rfl
  refine cond_intro (fun hA' => ?_) fun hB => ?_
  · have he : c'.e_ = 0 := by simp at hA'; exact hA'.1
    obtain ⟨hkk, hce⟩ := hk' he
    obtain ⟨k', rfl⟩ : ∃ k', k = k' + 1 := ⟨k - 1, by omega⟩
    have hln := lenOk (s := 0) h4 he (by have := hok1 hce; omega)
    have hd : deep1 = 24 - (k' : Int) := by have : deep1 = 25 - ((k' + 1 : Nat) : Int) := h4.dp; omega
    refine hS k' rfl _ _ rfl h4.cw.z1 h4.cw.hi hd he hln fun r4 x2 c2 h5 hcc _ => ?_
    dsimp only at h5 hcc
    have hcw := cw_stmt M (cw_blk (toks := tk) M k') (by omega) h4.cw.z1 h4.cw.hi
    have hadd := (cw_add (q' := 3 * k' + 4) (s' := 1) h4.cw (fun _ => hcw) (by omega)).mono (s' := 1) (q' := 200) (by omega) (Nat.le_refl _)
    have h4r := h4.resetp he 0
    obtain ⟨f', hf', hl'⟩ := hl.step hA' he h4.cw.hi (fun hd => adv_add hcw he hd)
    exact fin_add (dd := stmtC M tk (blkF M tk k') c'.at_) (p' := 10 * (k' + 1) + 16) (dp3 := r4.deep) h4r rfl h5 (fun hne => absurd he hne) (fun _ => hcc rfl) hadd (by omega) (by rw [h5.dp]; omega) (K := fun r5 => ∃ n1, n1 < f ∧ ∃ c', Re tk l (nd tk 32 [] 0 c.at_) c.at_ (25 - ((k' + 1 : Nat) : Int)) 1 200 (10 * (k' + 1) + 16) c' ⟨tk, r5.at_, r5.deep, r5.l, r5.e_⟩ ∧ LI tk (fun c => decide (c.e_ = 0) && !isF tk c.at_ sRB) (fun c => addC c (stK M tk (k' + 1) c.at_)) F n1 c' ∧ (c'.e_ = 0 → k' + 1 ≠ 0 ∧ c.e_ = 0)) fun r5 h6 => ⟨f', hf', _, h6.re rfl, hl', fun _ => ⟨hkk, hce⟩⟩
  · have hst := (hl.stop hB).symm
    subst hst
    refine must_s hN h4 sRB _ fun r5 hl5 h5 => ?_
    have h5 := h5.re hl5
    have hw : IntKind.i64.wrap (r5.deep - 1) = 24 - (k : Int) := by rw [show r5.deep = 25 - (k : Int) from h5.dp, wrap_in (by omega) (by omega)]; omega
    rw [hw]
    have hcw := cw_in (cw_blk (toks := tk) M k) h.cw (by omega)
    refine fin_add (dd := blkF M tk k c.at_) (p' := p + (10 * k + 20)) h rfl h5 (fun hne => ?_) (fun he => ?_) hcw (by omega) rfl hK
    · have e0c : e0 = c.e_ := by rw [← he0, if_neg (fun hh => hne hh.1)]
      have hne0 : (fromE c.at_ e0).e_ ≠ 0 := by show e0 ≠ 0; rw [e0c]; exact hne
      have hc1' : c1 = fromE c.at_ e0 := by rw [← hc1, eatE hne0]
      have hF' : F = fromE c.at_ e0 := by rw [← hF, hc1', loopE (by rw [decide_eq_false hne0]; rfl)]
      rw [hF', eatE hne0]
      exact ⟨rfl, e0c⟩
    · by_cases hb : isF tk c.at_ sLB = true ∧ k = 0
      · have e05 : e0 = 5 := by rw [← he0, if_pos ⟨he, hb⟩]
        have hne0 : (fromE c.at_ e0).e_ ≠ 0 := by show e0 ≠ 0; rw [e05]; decide
        have hc1' : c1 = fromE c.at_ e0 := by rw [← hc1, eatE hne0]
        have hF' : F = fromE c.at_ e0 := by rw [← hF, hc1', loopE (by rw [decide_eq_false hne0]; rfl)]
        rw [hF', eatE hne0, e05]
        obtain ⟨hb1, rfl⟩ := hb
        unfold blkF
        rw [if_pos hb1]
        exact ⟨rfl, rfl, fun h => by cases h⟩
      · have e00 : e0 = 0 := by rw [← he0, if_neg (fun hh => hb hh.2)]; exact he
        rw [blk_eq M k c.at_ (fun hh => hb ⟨hh.2, hh.1⟩)]
        have hc1' : c1 = eatC tk sLB (fromC c.at_) := by rw [← hc1, e00]; rfl
        have : blockC tk (stK M tk k) c.at_ = underC (eatC tk sRB F) (nd tk 32 [] 0 c.at_) := by rw [← hF, hc1']; rfl
        rw [this]
        exact ⟨rfl, rfl, fun _ => rfl⟩
theorem clause_s (M : TermC) (hN : toks.length < 1000000) (k : Nat) (hk : k ≤ 24) (hB : PB M toks k) (r : Gparse_reader) (K : Gparse_reader → Prop) (ht : r.toks = toks) (h0 : 0 ≤ r.at_) (h1 : r.at_ ≤ (toks.length : Int)) (hd : r.deep = 24 - (k : Int))
    (hl1 : r.e_ = 0 → (r.l.length : Int) ≤ r.at_ + 1) (hl2 : (r.l.length : Int) ≤ r.at_ + 900) (hK : Got toks r.l r.at_ (24 - (k : Int)) (10 * k + 24) r.e_ (clauseC M toks (blkF M toks k) r.at_) K) : V_parse_reader_clause r K := by
  obtain ⟨tk, a, dd, l, e⟩ := r
  obtain rfl : tk = toks := ht
  dsimp only at h0 h1 hd hl1 hl2 hK
  subst hd
  have hsm : l.length < 3000000 := by omega
  refine parse_reader_clause_lift _ _ (open_s hN rfl h0 h1 hsm 37 _ (fun _ r1 h2 _ => ?_) (by dsimp only; omega))
  have h2 := (h2.re rfl).mono (s' := 0) (q' := 200) (p' := 0) (Nat.le_refl _) (by omega) (Nat.le_refl _)
  dsimp only at h2
  refine eat_s hN h2 sElse _ (fun hb r2 hl2' h3 => cond_t rfl ?_) (fun hb r2 hl2' h3 => cond_f rfl ?_)
  · obtain ⟨he, hi⟩ := see_lt hb
    have he : e = 0 := he
    subst he
    refine hB _ _ _ 0 _ _ _ _ (h3.re hl2') (fun _ => hl1 rfl) (by dsimp only; omega) (by omega) fun r3 h4 => hK _ _ _ ((h4.re rfl).mono (by omega) (Nat.le_refl _) (by omega)) (fun _ => ?_) (fun hne => absurd rfl hne)
    have hi : isF tk a sElse = true := hi
    unfold clauseC
    rw [if_pos hi]
    exact ⟨rfl, rfl, fun _ => rfl⟩
  · have h3 := h3.re hl2'
    refine must_s hN h3 sCase _ fun r4 hl4 h4 => ?_
    have h4 := h4.re hl4
    have hcE : e ≠ 0 → eatC tk sCase (fromE a e) = fromE a e := fun hne => eatE hne
    have hcO : e = 0 → clauseC M tk (blkF M tk k) a = underC (inC (blkF M tk k) (afterC M tk (whenC M tk (eatC tk sCase (fromE a e)))).c) (nd tk (afterC M tk (whenC M tk (eatC tk sCase (fromE a e)))).op (afterC M tk (whenC M tk (eatC tk sCase (fromE a e)))).name (whenN tk (eatC tk sCase (fromE a e))) a) := by
      intro he
      subst he
      have hi : isF tk a sElse = false := by
        unfold seeB fromE at hb
        simpa using hb
      unfold clauseC
      rw [if_neg (by rw [hi]; simp)]; rfl
    generalize eatC tk sCase (fromE a e) = c1 at h4 hcE hcO
    refine ⟨fun at_ deep l' ex => Re tk l (nd tk 37 [] (whenN tk c1) a) a (24 - (k : Int)) 1 200 0 (whenC M tk c1) ⟨tk, at_, deep, l', ex⟩, eat_s hN h4 sWhen _ (fun hb r5 hl5 h5 => cond_t rfl ?_) (fun hb r5 hl5 h5 => cond_f rfl ?_), ?_⟩
    · have h5 := h5.re hl5
      refine h5.elem fun y _ hy => term_s M hN (h5.upd (nd tk 37 [] 1 a) hy fun e => by rw [e]; rfl) (by omega) _ fun r6 h6 => must_s hN (h6.re rfl) sColon _ fun r7 hl7 h7 => ?_
      have h7 := h7.re hl7
      unfold whenN whenC; rw [if_pos hb, if_pos hb]
      exact h7.mono (by omega) (Nat.le_refl _) (Nat.le_refl _)
    · have h5 := h5.re hl5
      unfold whenN whenC; rw [if_neg (by rw [hb]; simp), if_neg (by rw [hb]; simp)]
      exact h5
    · intro at5 deep5 l5 ex5 h5
      have hwE : e ≠ 0 → whenC M tk c1 = fromE a e := fun hne => by
        rw [hcE hne]
        unfold whenC; rw [if_neg (by rw [seeE (show (fromE a e).e_ ≠ 0 from hne)]; simp)]
      generalize whenN tk c1 = wn at h5 hcO
      generalize whenC M tk c1 = c2 at h5 hwE hcO
      have hnm : (afterC M tk c2).c.e_ = 0 → True := fun _ => trivial
      refine ⟨fun at_ deep l' ex => Re tk l (nd tk (afterC M tk c2).op (afterC M tk c2).name wn a) a (24 - (k : Int)) 1 200 1 (afterC M tk c2).c ⟨tk, at_, deep, l', ex⟩, eat_s hN h5 sAfter _ (fun hb r6 hl6 h6 => cond_t rfl ?_) (fun hb r6 hl6 h6 => cond_f rfl ?_), ?_⟩
      · have h6 := h6.re hl6
        refine h6.elem fun y _ hy => term_s M hN (h6.upd (nd tk 36 [] wn a) hy fun e => by rw [e]; rfl) (by omega) _ fun r7 h7 => ?_
        unfold afterC; rw [if_pos hb]
        exact (h7.re rfl).mono (by omega) (Nat.le_refl _) (by omega)
      · have h6 := h6.re hl6
        refine comm_s M hN 35 34 h6 rfl (by omega) (by omega) (by omega) _ fun r7 h7 => ?_
        unfold afterC; rw [if_neg (by rw [hb]; simp)]
        exact (h7.re rfl).mono (by omega) (Nat.le_refl _) (by omega)
      · intro at7 deep7 l7 ex7 h7
        have haE : e ≠ 0 → (afterC M tk c2).c = fromE a e := fun hne => by
          rw [hwE hne]
          unfold afterC; rw [if_neg (by rw [seeE (show (fromE a e).e_ ≠ 0 from hne)]; simp)]
          unfold commC; rw [if_neg (show (fromE a e).e_ ≠ 0 from hne)]
        refine hB _ _ _ 0 _ _ _ _ h7 (fun he7 => ?_) (by dsimp only; omega) (by omega) fun r8 h8 => hK _ _ _ ((h8.re rfl).mono (by omega) (Nat.le_refl _) (by omega)) (fun he => ?_) (fun hne => ?_)
        · refine hl1 ?_
          apply Classical.byContradiction
          intro hne
          rw [haE hne] at he7
          exact hne he7
        · rw [hcO he]
          exact ⟨rfl, rfl, fun _ => rfl⟩
        · unfold inC
          rw [haE hne, addE (show (fromE a e).e_ ≠ 0 from hne)]
          exact ⟨rfl, rfl⟩
end
end Go.Proofs.Ytdbdkdmgfiiljaa
namespace Go.Proofs.Ytdbdkdmgfiiljaa
open Go.Vc Go.Lv Go.Ty
section
variable {toks : List GToken} {A : List GNode} {x : GNode} {at0 dp : Int} {s q p : Nat} {c d : Cur} {r : Gparse_reader}
theorem nameJ (hN : toks.length < 1000000) {a dd e : Int} {L : List GNode} (h : Re toks A x at0 dp s q p c ⟨toks, a, dd, L, e⟩) {G : Int → Int → List GNode → Int → Prop}
    (hG : ∀ a d l e, Re toks A ⟨x.op, nameS toks c, x.n, x.kids, x.at_⟩ at0 dp (s + 1) q p (nameC toks c) ⟨toks, a, d, l, e⟩ → G a d l e) :
    ∃ J2 : Int → Int → List GNode → Int → Prop, (V_parse_reader_name ⟨toks, a, dd, L, e⟩ (fun x4 r6 => ((0 : Int) ≤ (A.length : Int) ∧ (A.length : Int) < (L.length : Int)) ∧
      ∀ x5, L[(A.length : Int).toNat]? = some x5 → J2 r6.at_ r6.deep (L.set (A.length : Int).toNat ⟨x5.op, x4, x5.n, x5.kids, x5.at_⟩) r6.e_)) ∧ ∀ a d l e, J2 a d l e → G a d l e := by
  refine ⟨G, name_s hN h _ (fun r2 hl2 h2 => ?_), fun _ _ _ _ h => h⟩
  have h2 := h2.re hl2
  exact h2.elem fun y _ hy => hG _ _ _ _ (h2.upd _ hy fun e => by rw [e]; rfl)
theorem stmt_s (M : TermC) (hN : toks.length < 1000000) (k : Nat) (hk : k ≤ 24) (hB : PB M toks k) : PS M toks k := by
  intro r K ht h0 h1 hd he hl hK
  obtain ⟨tk, a, dd, l, e⟩ := r
  obtain rfl : tk = toks := ht
  dsimp only at h0 h1 hd he hl hK
  subst hd; subst he
  have hA1000 : (l.length : Int) ≤ a + 1000 := by omega
  refine parse_reader_stmt_lift _ _ (psee_v hN rfl h0 h1 0 (by decide) (by decide) _ (open_s hN rfl h0 h1 (by dsimp only; omega) 0 _ (fun _ r1 h2 _ => ?_) (by dsimp only; omega)))
  have h2 := (h2.re rfl).mono (s' := 0) (q' := 200) (p' := 0) (Nat.le_refl _) (by omega) (Nat.le_refl _)
  dsimp only at h2 ⊢
  rw [Int.add_zero]
  -- the end of a statement with a semicolon
  have semi : ∀ (at1 deep1 : Int) (l1 : List GNode) (ex1 : Int), (∃ x2 c2, Re tk l x2 a (24 - (k : Int)) 0 200 5 c2 ⟨tk, at1, deep1, l1, ex1⟩ ∧ stmtC M tk (blkF M tk k) a = underC (eatC tk sSemi c2) x2) →
      V_parse_reader_must (⟨tk, at1, deep1, l1, ex1⟩ : Gparse_reader) ([[59]] : List (List UInt8)) (fun r22 => K (⟨tk, r22.at_, r22.deep, l1, r22.e_⟩ : Gparse_reader)) := by
    rintro at1 deep1 l1 ex1 ⟨x2, c2, h3, hst⟩
    refine must_s hN h3 sSemi _ fun r4 hl4 h4 => hK _ x2 _ ((h4.re hl4).mono (by omega) (Nat.le_refl _) (by omega)) (fun _ => ?_) (fun hne => absurd rfl hne)
    rw [hst]; exact ⟨rfl, rfl, fun _ => rfl⟩
  -- the end of one without
  have fin : ∀ (r' : Gparse_reader) x2 c2, Re tk l x2 a (24 - (k : Int)) 1 200 (10 * k + 25) c2 r' → stmtC M tk (blkF M tk k) a = underC c2 x2 → K r' := by
    intro r' x2 c2 h3 hst
    refine hK _ x2 _ h3 (fun _ => ?_) (fun hne => absurd rfl hne)
    rw [hst]; exact ⟨rfl, rfl, fun _ => rfl⟩
  refine cond_intro (fun hk1 => ?_) fun hk1 => ⟨rfl, rfl, rfl, rfl, rfl, cond_intro (fun hk3 => ?_) fun hk3 => ?_⟩
  · have hk1 : (tokF tk a).kind = 1 := by simpa using hk1
    refine ⟨fun at1 deep1 l1 ex1 => ∃ x2 c2, Re tk l x2 a (24 - (k : Int)) 0 200 5 c2 ⟨tk, at1, deep1, l1, ex1⟩ ∧ stmtC M tk (blkF M tk k) a = underC (eatC tk sSemi c2) x2, ?_, semi⟩
    have h2a : r1.at_ = a := h2.at_
    refine pis_v hN rfl (by dsimp only; omega) (by dsimp only; omega) 1 (by decide) (by decide) sEq _ ?_
    dsimp only
    refine cond_intro (fun hi => ?_) fun hi => ?_
    · rw [h2a] at hi
      refine h2.elem fun y _ hy => set_s M hN (h2.upd (nd tk 19 [] 0 a) hy fun e => by rw [e]; rfl) (by omega) _ fun r3 h3 => ⟨_, _, (h3.re rfl).mono (by omega) (Nat.le_refl _) (by omega), ?_⟩
      unfold stmtC
      rw [if_pos hk1, if_pos hi]
      unfold setC setB setOp
      show (if seeB tk sRandom (eatC tk sEq (nameC tk (fromC a))) = true then _ else _) = underC (eatC tk sSemi (if seeB tk sRandom (eatC tk sEq (nameC tk (fromC a))) = true then _ else _)) ⟨if seeB tk sRandom (eatC tk sEq (nameC tk (fromC a))) = true then _ else _, _, _, _, _⟩
      split <;> rfl
    · rw [h2a] at hi
      refine comm_s M hN 21 22 h2 rfl hA1000 (by omega) (by omega) _ fun r3 h3 => ⟨_, _, (h3.re rfl).mono (by omega) (Nat.le_refl _) (by omega), ?_⟩
      unfold stmtC
      rw [if_pos hk1, if_neg (by rw [hi]; simp)]
      rfl
  · have hk1 : ¬ (tokF tk a).kind = 1 := by simpa using hk1
    have hk3 : ¬ (tokF tk a).kind = 3 := by simpa using hk3
    have hst : stmtC M tk (blkF M tk k) a = ⟨[], 0, a, 11⟩ := by unfold stmtC; rw [if_neg hk1, if_neg hk3]
    have h2e : r1.e_ = 0 := h2.e_
    have hfin : Re tk l (nd tk 0 [] 0 a) a (24 - (k : Int)) 1 200 0 ⟨[], 0, a, 11⟩ ⟨tk, r1.at_, r1.deep, r1.l, if r1.e_ = 0 then 11 else r1.e_⟩ := h2.stepE (cw_err h0 h1 (by decide) 1 200) rfl h2.at_ (by dsimp only; rw [if_pos h2e]) rfl rfl (Int.le_refl _) (fun e => by cases e)
    refine pfail_v _ _ (hK _ (nd tk 0 [] 0 a) ⟨[], 0, a, 11⟩ (hfin.mono (Nat.le_refl _) (Nat.le_refl _) (by omega)) (fun _ => ?_) (fun hne => absurd rfl hne))
    rw [hst]; exact ⟨rfl, rfl, fun e => by cases e⟩
  · have hk1 : ¬ (tokF tk a).kind = 1 := by simpa using hk1
    have hk3 : (tokF tk a).kind = 3 := by simpa using hk3
    have hst : stmtC M tk (blkF M tk k) a = wordC M tk (blkF M tk k) a := by unfold stmtC; rw [if_neg hk1, if_pos hk3]
    have hlt := kind_lt (toks := tk) (at_ := a) (by rw [hk3]; decide)
    have h2a : r1.at_ = a := h2.at_
    have h2e : r1.e_ = 0 := h2.e_
    have hwa : IntKind.i64.wrap (r1.at_ + 1) = a + 1 := by rw [h2a, wrap_in (by omega) (by omega)]
    have hE : ∀ t : Str, (tokF tk a).text = t → eatC tk t (fromC a) = ⟨[], 0, a + 1, 0⟩ := fun t htx => by
      unfold eatC fromC isF
      dsimp only
      rw [if_pos rfl, hk3, htx]
      simp
    have h3 : Re tk l (nd tk 0 [] 0 a) a (24 - (k : Int)) 1 200 0 ⟨[], 0, a + 1, 0⟩ ⟨tk, a + 1, r1.deep, r1.l, r1.e_⟩ :=
      h2.stepE ⟨h0, by dsimp only; omega, by dsimp only; omega, fun _ => by simp; omega, by simp; omega⟩ rfl rfl h2e rfl rfl (by show a ≤ a + 1; omega) (fun _ => h2.ok rfl)
    rw [hwa]
    rw [hst] at semi fin hK
    generalize htx : (tokF tk a).text = tx at hE
    refine ⟨fun at1 deep1 l1 ex1 => ∃ x2 c2, Re tk l x2 a (24 - (k : Int)) 0 200 5 c2 ⟨tk, at1, deep1, l1, ex1⟩ ∧ wordC M tk (blkF M tk k) a = underC (eatC tk sSemi c2) x2, ?_, semi⟩
    clear h2 h2a hwa
    unfold wordC at fin hK ⊢
    dsimp only at fin hK ⊢
    rw [htx] at fin hK ⊢
    refine cond_intro (fun hv => ?_) fun hv => ?_
    · obtain rfl : tx = sVar := eq_of_beq hv
      have hEv := hE sVar rfl
      rw [if_pos rfl, hEv]
      refine h3.elem fun y _ hy => nameJ hN (h3.upd (nd tk 18 [] 0 a) hy fun e => by rw [e]; rfl) fun a2 d2 l2 e2 h4 => must_s hN h4 sEq _ fun r5 hl5 h5 => term_s M hN (h5.re hl5) (by omega) _ fun r6 h6 => ⟨_, _, (h6.re rfl).mono (by omega) (Nat.le_refl _) (by omega), rfl⟩
    rw [if_neg (show ¬ tx = sVar from ne_of_beq_false hv)] at fin hK ⊢
    refine cond_intro (fun hv => ?_) fun hv => ?_
    · obtain rfl : tx = sStart := eq_of_beq hv
      have hEv := hE sStart rfl
      rw [if_pos rfl, hEv]
      refine h3.elem fun y _ hy => nameJ hN (h3.upd (nd tk 26 [] 0 a) hy fun e => by rw [e]; rfl) fun a2 d2 l2 e2 h4 => args_s M hN h4 (by omega) _ fun r6 h6 => ⟨_, _, (h6.re rfl).mono (by omega) (Nat.le_refl _) (by omega), rfl⟩
    rw [if_neg (show ¬ tx = sStart from ne_of_beq_false hv)] at fin hK ⊢
    refine ⟨fun b => b = true ↔ (tx = sSleep ∨ tx = sPrint ∨ tx = sAssert), ?_, ?_⟩
    · refine cond_intro (fun h => ?_) fun h => cond_intro (fun h' => ?_) fun h' => ?_
      · show _ ↔ _
        have h : tx = sSleep := eq_of_beq h
        subst h; decide
      · show _ ↔ _
        have h' : tx = sPrint := eq_of_beq h'
        subst h'; decide
      · show _ ↔ _
        have h : ¬ tx = sSleep := ne_of_beq_false h
        have h' : ¬ tx = sPrint := ne_of_beq_false h'
        simp [h, h', sAssert]
    intro b hb
    refine cond_intro (fun hbt => ?_) fun hbf => ?_
    · have hb := hb.1 hbt
      refine ⟨fun l4 => ∃ op, Re tk l (nd tk op [] 0 a) a (24 - (k : Int)) 1 200 0 ⟨[], 0, a + 1, 0⟩ ⟨tk, a + 1, r1.deep, l4, r1.e_⟩ ∧ ((op = 27 ∧ tx = sSleep) ∨ (op = 28 ∧ tx = sPrint) ∨ (op = 29 ∧ tx = sAssert)), ?_, ?_⟩
      · intro op hop
        refine h3.elem fun y _ hy => ⟨op, h3.upd (nd tk op [] 0 a) hy fun e => by rw [e]; rfl, ?_⟩
        rcases hb with rfl | rfl | rfl
        · exact .inl ⟨hop.trans (by decide), rfl⟩
        · exact .inr (.inl ⟨hop.trans (by decide), rfl⟩)
        · exact .inr (.inr ⟨hop.trans (by decide), rfl⟩)
      · rintro l4 ⟨op, h4, hop⟩
        refine term_s M hN h4 (by omega) _ fun r6 h6 => ⟨_, _, (h6.re rfl).mono (by omega) (Nat.le_refl _) (by omega), ?_⟩
        rcases hop with ⟨rfl, rfl⟩ | ⟨rfl, rfl⟩ | ⟨rfl, rfl⟩
        · rw [if_pos rfl]; unfold oneC; rw [hE sSleep rfl]
        · rw [if_neg (by decide), if_pos rfl]; unfold oneC; rw [hE sPrint rfl]
        · rw [if_neg (by decide), if_neg (by decide), if_pos rfl]; unfold oneC; rw [hE sAssert rfl]
    have hb : ¬ (tx = sSleep ∨ tx = sPrint ∨ tx = sAssert) := fun h => by rw [hb.2 h] at hbf; cases hbf
    simp only [not_or] at hb
    rw [if_neg hb.1, if_neg hb.2.1, if_neg hb.2.2] at fin hK ⊢
    refine ⟨fun b => b = true ↔ (tx = sSkip ∨ tx = sStop), ?_, ?_⟩
    · refine cond_intro (fun h => ?_) fun h => ?_
      · show _ ↔ _
        have h : tx = sSkip := eq_of_beq h
        subst h; decide
      · show _ ↔ _
        have h : ¬ tx = sSkip := ne_of_beq_false h
        simp [h, sStop]
    intro b2 hb2
    refine cond_intro (fun hbt => ?_) fun hbf => ?_
    · have hb2 := hb2.1 hbt
      intro op hop
      refine h3.elem fun y _ hy => ⟨_, _, (h3.upd (nd tk op [] 0 a) hy fun e => by rw [e]; rfl).mono (by omega) (Nat.le_refl _) (by omega), ?_⟩
      rcases hb2 with rfl | rfl
      · have : op = 30 := hop.trans (by decide)
        subst this
        rw [if_pos rfl]; unfold noneC; rw [hE sSkip rfl]
      · have : op = 31 := hop.trans (by decide)
        subst this
        rw [if_neg (by decide), if_pos rfl]; unfold noneC; rw [hE sStop rfl]
    have hb2 : ¬ (tx = sSkip ∨ tx = sStop) := fun h => by rw [hb2.2 h] at hbf; cases hbf
    simp only [not_or] at hb2
    rw [if_neg hb2.1, if_neg hb2.2] at fin hK
    -- the program asks for 'if' first
    refine cond_intro (fun hv => ?_) fun hv => ?_
    · obtain rfl : tx = sIf := eq_of_beq hv
      have hEv := hE sIf rfl
      rw [if_neg (by decide), if_pos rfl, hEv] at fin
      refine h3.elem fun y _ hy => term_s M hN (h3.upd (nd tk 23 [] 0 a) hy fun e => by rw [e]; rfl) (by omega) _ fun r4 h4 => hB _ _ _ 0 _ _ _ _ (h4.re rfl) (fun _ => hl) hA1000 (by omega) fun r5 h5 => ?_
      have h5 := h5.re rfl
      refine eat_s hN h5 sElse _ (fun hb r6 hl6 h6 => cond_t rfl ?_) (fun hb r6 hl6 h6 => cond_f rfl ?_)
      · have h6 := h6.re hl6
        have he6 : (eatC tk sElse (inC (blkF M tk k) (termC M tk ⟨[], 0, a + 1, 0⟩))).e_ = 0 := by rw [eat0 sElse hb]
        refine hB _ _ _ 2 _ _ _ _ (h6.resetp he6 0) (fun _ => hl) hA1000 (by omega) fun r7 h7 => fin _ _ _ ((h7.re rfl).mono (by omega) (Nat.le_refl _) (by omega)) ?_
        unfold ifC; rw [if_pos hb]
      · have h6 := h6.re hl6
        refine fin _ _ _ (h6.mono (by omega) (Nat.le_refl _) (by omega)) ?_
        unfold ifC; rw [if_neg (by rw [hb]; simp)]
    have hv : ¬ tx = sIf := ne_of_beq_false hv
    refine cond_intro (fun hw => ?_) fun hw => ?_
    · obtain rfl : tx = sWhile := eq_of_beq hw
      have hEv := hE sWhile rfl
      rw [if_pos rfl, hEv] at fin
      refine h3.elem fun y _ hy => term_s M hN (h3.upd (nd tk 24 [] 0 a) hy fun e => by rw [e]; rfl) (by omega) _ fun r4 h4 => hB _ _ _ 0 _ _ _ _ (h4.re rfl) (fun _ => hl) hA1000 (by omega) fun r5 h5 => ?_
      exact fin _ _ _ ((h5.re rfl).mono (by omega) (Nat.le_refl _) (by omega)) rfl
    have hw : ¬ tx = sWhile := ne_of_beq_false hw
    rw [if_neg hw, if_neg hv] at fin hK
    refine cond_intro (fun hs => ?_) fun hs => ?_
    · obtain rfl : tx = sSelect := eq_of_beq hs
      have hEv := hE sSelect rfl
      rw [if_pos rfl, hEv] at fin
      refine h3.elem fun y _ hy => must_s hN (h3.upd (nd tk 25 [] 0 a) hy fun e => by rw [e]; rfl) sLB _ fun r4 hl4 h4 => ?_
      have h4 := h4.re hl4
      generalize eatC tk sLB ⟨[], 0, a + 1, 0⟩ = c1 at h4 fin
      unfold selC at fin
      generalize hF : loopC (fun c => decide (c.e_ = 0) && !isF tk c.at_ sRB) (fun c => addC c (clauseC M tk (blkF M tk k) c.at_)) (fuel tk) (addC c1 (clauseC M tk (blkF M tk k) c1.at_)) = F at fin
      have hcl : ∀ {b : Int}, 0 ≤ b → b ≤ (tk.length : Int) → Cw tk b 1 (3 * k + 3) (clauseC M tk (blkF M tk k) b) := fun ha hb' => cw_clause M (cw_blk M k) (by omega) ha hb'
      have ha1 := cw_add h4.cw (fun _ => hcl h4.cw.z1 h4.cw.hi) (by omega)
      refine ⟨fun at_ deep l' ex f => ∃ c', Re tk l (nd tk 25 [] 0 a) a (24 - (k : Int)) 1 200 0 c' ⟨tk, at_, deep, l', ex⟩ ∧ LI tk (fun c => decide (c.e_ = 0) && !isF tk c.at_ sRB) (fun c => addC c (clauseC M tk (blkF M tk k) c.at_)) F f (addC c' (clauseC M tk (blkF M tk k) c'.at_)), ⟨_, c1, h4.mono (by omega) (Nat.le_refl _) (Nat.le_refl _), hF ▸ LI.start ha1⟩, ?_⟩
      rintro at5 deep5 l5 ex5 f ⟨c', h5, hl'⟩
      have h5e : ex5 = c'.e_ := h5.e_
      have h5a : at5 = c'.at_ := h5.at_
      subst h5e; subst h5a
      have hln := h5.len
      dsimp only at hln
      refine clause_s M hN k hk hB _ _ rfl h5.cw.z1 h5.cw.hi h5.dp (fun he => lenOk (s := 0) h5 he hl) (by dsimp only; omega) fun r6 x2 c2 h6 hcc hE6 => ?_
      dsimp only at h6 hcc hE6
      have hadd := (cw_add (q' := 3 * k + 3) (s' := 1) h5.cw (fun _ => hcl h5.cw.z1 h5.cw.hi) (by omega)).mono (s' := 1) (q' := 200) (by omega) (Nat.le_refl _)
      refine fin_add (dd := clauseC M tk (blkF M tk k) c'.at_) (p' := 10 * k + 25) (dp3 := r6.deep) h5 rfl h6 hE6 hcc hadd (by omega) h6.dp (K := fun r7 => ∃ J7 : Bool → Prop, (cond (r7.e_ != 0) (J7 (r7.e_ != 0)) (V_parse_reader_is r7 0 [125] (fun x22 => J7 x22))) ∧ ∀ x21, J7 x21 → cond x21 (V_parse_reader_must r7 [[125]] (fun r20 => K ⟨tk, r20.at_, r20.deep, r7.l, r20.e_⟩))
        (∃ n1, n1 < f ∧ ∃ c', Re tk l (nd tk 25 [] 0 a) a (24 - (k : Int)) 1 200 0 c' ⟨tk, r7.at_, r7.deep, r7.l, r7.e_⟩ ∧ LI tk (fun c => decide (c.e_ = 0) && !isF tk c.at_ sRB) (fun c => addC c (clauseC M tk (blkF M tk k) c.at_)) F n1 (addC c' (clauseC M tk (blkF M tk k) c'.at_)))) fun r7 h7 => ?_
      obtain ⟨tk7, a7, d7, l7, e7⟩ := r7
      obtain rfl : tk7 = tk := h7.t
      generalize addC c' (clauseC M tk7 (blkF M tk7 k) c'.at_) = cc at h7 hl' hadd
      obtain rfl : e7 = cc.e_ := h7.e_
      obtain rfl : a7 = cc.at_ := h7.at_
      dsimp only
      refine ⟨fun b => b = !(decide (cc.e_ = 0) && !isF tk7 cc.at_ sRB), cond_intro (fun hx => ?_) (fun hx => ?_), ?_⟩
      · have hx : ¬ cc.e_ = 0 := by simpa using hx
        show _ = _
        rw [decide_eq_false hx, show (cc.e_ != 0) = true by simpa using hx]; rfl
      · have hx : cc.e_ = 0 := by simpa using hx
        refine pis_v hN rfl hadd.z1 hadd.hi 0 (by decide) (by decide) sRB _ ?_
        show _ = _
        dsimp only
        rw [Int.add_zero, decide_eq_true hx]; simp
      · rintro _ rfl
        refine cond_intro (fun hx => ?_) fun hx => ?_
        · have hg : (decide (cc.e_ = 0) && !isF tk7 cc.at_ sRB) = false := by rw [Bool.eq_false_iff]; intro h; rw [h] at hx; cases hx
          have hst' := hl'.stop hg
          subst hst'
          exact must_s hN h7 sRB _ fun r8 hl8 h8 => fin _ _ _ ((h8.re hl8).mono (by omega) (Nat.le_refl _) (by omega)) rfl
        · have hg : (decide (cc.e_ = 0) && !isF tk7 cc.at_ sRB) = true := by simpa using hx
          have he : cc.e_ = 0 := by simp at hg; exact hg.1
          obtain ⟨f', hf', hl''⟩ := hl'.step hg he hadd.hi (fun hd => adv_add (hcl hadd.z1 hadd.hi) he hd)
          exact ⟨f', hf', _, h7.resetp he 0, hl''⟩
    have hs : ¬ tx = sSelect := ne_of_beq_false hs
    rw [if_neg hs] at hK
    have hw2 : IntKind.i64.wrap ((a + 1) - 1) = a := by rw [wrap_in (by omega) (by omega)]; omega
    rw [hw2]
    refine pfail_v _ _ (hK _ (nd tk 0 [] 0 a) ⟨[], 0, a, 11⟩ ?_ (fun _ => ⟨rfl, rfl, fun e => by cases e⟩) (fun hne => absurd rfl hne))
    refine ⟨cw_err h0 h1 (by decide) 1 200, rfl, rfl, ?_, h3.dp, (fun e => by cases e), h3.lo, fun _ => ?_, h3.ha⟩
    · dsimp only; rw [if_pos h2e]
    · have := h3.ok rfl
      dsimp only at this ⊢
      rw [this]
      simp only [List.length_append, List.length_cons, List.length_nil]; omega
end
end Go.Proofs.Ytdbdkdmgfiiljaa
namespace Go.Proofs.Ytdbdkdmgfiiljaa
open Go.Vc Go.Lv Go.Ty
section
variable {toks : List GToken} {A : List GNode} {x : GNode} {at0 dp : Int} {s q p : Nat} {c d : Cur} {r : Gparse_reader}
theorem pb_ps (M : TermC) (hN : toks.length < 1000000) : ∀ k, k ≤ 24 → PB M toks k ∧ PS M toks k
  | 0, h => by
    have hB := block_s M hN 0 h (fun k' e => by cases e)
    exact ⟨hB, stmt_s M hN 0 h hB⟩
  | k + 1, h => by
    have ih := pb_ps M hN k (by omega)
    have hs : ∀ k', k + 1 = k' + 1 → PS M toks k' := by
      intro k' e
      cases e
      exact ih.2
    have hB := block_s M hN (k + 1) h hs
    exact ⟨hB, stmt_s M hN (k + 1) h hB⟩
theorem pb_top (M : TermC) (hN : toks.length < 1000000) : PB M toks 24 := (pb_ps M hN 24 (Nat.le_refl _)).1
theorem decl_s (M : TermC) (hN : toks.length < 1000000) (r : Gparse_reader) (K : Gparse_reader → Prop) (ht : r.toks = toks) (h0 : 0 ≤ r.at_) (h1 : r.at_ ≤ (toks.length : Int)) (hd : r.deep = 0) (he : r.e_ = 0) (hl : (r.l.length : Int) ≤ r.at_ + 1)
    (hK : Got toks r.l r.at_ 0 300 0 (declC M toks r.at_) K) : V_parse_reader_decl r K := by
  obtain ⟨tk, a, dd, l, e⟩ := r
  obtain rfl : tk = toks := ht
  dsimp only at h0 h1 hd he hl hK
  subst hd; subst he
  have hA1000 : (l.length : Int) ≤ a + 1000 := by omega
  have hB := pb_top M hN
  refine parse_reader_decl_lift _ _ (open_s hN rfl h0 h1 (by dsimp only; omega) 41 _ (fun _ r1 h2 _ => ?_) (by dsimp only; omega))
  have h2 := (h2.re rfl).mono (s' := 0) (q' := 200) (p' := 0) (Nat.le_refl _) (by omega) (Nat.le_refl _)
  dsimp only at h2 ⊢
  have fin : ∀ (r' : Gparse_reader) x2 c2, Re tk l x2 a 0 1 200 300 c2 r' → declC M tk a = underC c2 x2 → K r' := by
    intro r' x2 c2 h3 hst
    refine hK _ x2 _ h3 (fun _ => ?_) (fun hne => absurd rfl hne)
    rw [hst]; exact ⟨rfl, rfl, fun _ => rfl⟩
  have hsee : ∀ {t : Str}, seeB tk t (fromE a 0) = isF tk a t := fun {t} => by unfold seeB fromE; simp
  refine eat_s hN h2 sChan _ (fun hb r2 hl2 h3 => cond_t rfl ?_) (fun hb r2 hl2 h3 => cond_f rfl ?_)
  · have h3 := h3.re hl2
    rw [hsee] at hb
    unfold declC at fin
    rw [if_pos hb] at fin
    change ∀ (r' : Gparse_reader) x2 c2, Re tk l x2 a 0 1 200 300 c2 r' → underC (eatC tk sSemi (chanC1 tk (nameC tk (eatC tk sChan (fromE a 0))))) (nd tk 38 (nameS tk (eatC tk sChan (fromE a 0))) (chanN tk (nameC tk (eatC tk sChan (fromE a 0)))) a) = underC c2 x2 → K r' at fin
    refine h3.elem fun y _ hy => nameJ hN (h3.upd (nd tk 38 [] 0 a) hy fun e => by rw [e]; rfl) fun a2 d2 l2 e2 h4 => ?_
    generalize nameS tk (eatC tk sChan (fromE a 0)) = nm at h4 fin
    generalize nameC tk (eatC tk sChan (fromE a 0)) = c1 at h4 fin
    refine ⟨fun at_ deep l' ex => Re tk l (nd tk 38 nm (chanN tk c1) a) a 0 0 200 0 (chanC1 tk c1) ⟨tk, at_, deep, l', ex⟩, eat_s hN h4 sLS _ (fun hb r3 hl3 h5 => cond_t rfl ?_) (fun hb r3 hl3 h5 => cond_f rfl ?_), ?_⟩
    · refine size_s hN (h5.re hl3) _ fun r6 h6 => must_s hN (h6.re rfl) sRS _ fun r7 hl7 h7 => ?_
      have h7 := h7.re hl7
      unfold chanN chanC1; rw [if_pos hb, if_pos hb]
      exact h7.mono (by omega) (Nat.le_refl _) (Nat.le_refl _)
    · have h5 := h5.re hl3
      unfold chanN chanC1; rw [if_neg (by rw [hb]; simp), if_neg (by rw [hb]; simp)]
      exact h5.mono (by omega) (Nat.le_refl _) (Nat.le_refl _)
    · intro at5 deep5 l5 ex5 h5
      exact must_s hN h5 sSemi _ fun r6 hl6 h6 => fin _ _ _ ((h6.re hl6).mono (by omega) (Nat.le_refl _) (by omega)) rfl
  rw [hsee] at hb
  have hbc : ¬ isF tk a sChan = true := by rw [hb]; simp
  have h3 := h3.re hl2
  refine eat_s hN h3 sProc _ (fun hb r4 hl4 h4 => cond_t rfl ?_) (fun hb r4 hl4 h4 => cond_f rfl ?_)
  · have h4 := h4.re hl4
    rw [hsee] at hb
    unfold declC at fin
    rw [if_neg hbc, if_pos hb] at fin
    change ∀ (r' : Gparse_reader) x2 c2, Re tk l x2 a 0 1 200 300 c2 r' → underC (inC (blkF M tk 24) (eatC tk sRP (procC1 tk (eatC tk sLP (nameC tk (eatC tk sProc (fromE a 0))))))) (nd tk 40 (nameS tk (eatC tk sProc (fromE a 0))) 0 a) = underC c2 x2 → K r' at fin
    refine h4.elem fun y _ hy => nameJ hN (h4.upd (nd tk 40 [] 0 a) hy fun e => by rw [e]; rfl) fun a2 d2 l2 e2 h5 => must_s hN h5 sLP _ fun r6 hl6 h6 => ?_
    have h6 := h6.re hl6
    generalize nameS tk (eatC tk sProc (fromE a 0)) = nm at h6 fin
    generalize eatC tk sLP (nameC tk (eatC tk sProc (fromE a 0))) = c1 at h6 fin
    refine ⟨fun at_ deep l' ex => Re tk l (nd tk 40 nm 0 a) a 0 1 200 2 (eatC tk sRP (procC1 tk c1)) ⟨tk, at_, deep, l', ex⟩, eat_s hN h6 sRP _ (fun hb r7 hl7 h7 => cond_f rfl ?_) (fun hb r7 hl7 h7 => cond_t rfl ?_), ?_⟩
    · have h7 := h7.re hl7
      obtain ⟨he, hi⟩ := see_lt hb
      unfold procC1
      rw [if_neg (by rw [hi]; simp)]
      exact h7.mono (by omega) (Nat.le_refl _) (by omega)
    · have h7 := h7.re hl7
      refine param_s hN h7 hA1000 (by omega) (by omega) _ fun r8 h8 => ?_
      have h8 := (h8.re rfl).mono (s' := 0) (q' := 200) (p' := 1) (by omega) (Nat.le_refl _) (by omega)
      have hF : procC1 tk c1 = loopC (seeB tk sComma) (fun c => paramC tk (eatC tk sComma c)) (fuel tk) (paramC tk c1) := by
        unfold procC1
        by_cases he : c1.e_ = 0
        · have hi : isF tk c1.at_ sRP = false := by
            have := hb
            unfold seeB at this
            rw [decide_eq_true he] at this
            simpa using this
          rw [if_pos (by rw [decide_eq_true he, hi]; rfl)]
        · rw [if_neg (by rw [decide_eq_false he]; simp), show paramC tk c1 = c1 from addE he _, loopE (seeE he)]
      rw [hF]
      generalize hG : loopC (seeB tk sComma) (fun c => paramC tk (eatC tk sComma c)) (fuel tk) (paramC tk c1) = G
      refine ⟨fun at_ deep l' ex f => ∃ c', Re tk l (nd tk 40 nm 0 a) a 0 0 200 (if c'.e_ = 0 then 1 else 2) c' ⟨tk, at_, deep, l', ex⟩ ∧ LI tk (seeB tk sComma) (fun c => paramC tk (eatC tk sComma c)) G f c', ⟨_, _, h8.mono (Nat.le_refl _) (Nat.le_refl _) (by split <;> omega), hG ▸ LI.start h8.cw⟩, ?_⟩
      rintro at9 deep9 l9 ex9 f ⟨c', h9, hl⟩
      refine eat_s hN h9 sComma _ (fun hb r10 hl10 h10 => cond_t rfl ?_) (fun hb r10 hl10 h10 => cond_f rfl ?_)
      · have h10 := h10.re hl10
        have he10 : (eatC tk sComma c').e_ = 0 := by rw [eat0 sComma hb]
        have h10 := h10.resetp he10 0
        refine param_s hN h10 hA1000 (by omega) (by omega) _ fun r11 h11 => ?_
        have h11 := h11.re rfl
        obtain ⟨f', hf', hl'⟩ := hl.step hb (see_lt hb).1 h9.cw.hi (fun hd => by
          have e4 := cw_eat sComma h9.cw
          have e6 := cw_under (x := nd tk 39 (nameS tk (fromC (eatC tk sComma c').at_)) 0 (eatC tk sComma c').at_) (cw_name (cw_from (toks := tk) (at_ := (eatC tk sComma c').at_) e4.z1 e4.hi 0))
          unfold paramC addC at hd ⊢
          rw [if_pos he10] at hd ⊢
          have := e6.lo
          have h2 : (eatC tk sComma c').at_ = c'.at_ + 1 := by rw [eat0 sComma hb]
          dsimp only at this ⊢
          omega)
        exact ⟨f', hf', _, h11.mono (by omega) (Nat.le_refl _) (by split <;> omega), hl'⟩
      · have h10 := h10.re hl10
        rw [← hl.stop hb]
        exact must_s hN h10 sRP _ fun r11 hl11 h11 => (h11.re hl11).mono (by omega) (Nat.le_refl _) (by split <;> omega)
    · intro at7 deep7 l7 ex7 h7
      exact hB _ _ _ 0 _ _ _ _ h7 (fun _ => hl) hA1000 (by omega) fun r8 h8 => fin _ _ _ ((h8.re rfl).mono (by omega) (Nat.le_refl _) (by omega)) rfl
  · have h4 := h4.re hl4
    rw [hsee] at hb
    have hbp : ¬ isF tk a sProc = true := by rw [hb]; simp
    unfold declC at fin
    rw [if_neg hbc, if_neg hbp] at fin
    change ∀ (r' : Gparse_reader) x2 c2, Re tk l x2 a 0 1 200 300 c2 r' → underC (inC (blkF M tk 24) (eatC tk sMain (fromE a 0))) (nd tk 41 [] 0 a) = underC c2 x2 → K r' at fin
    refine must_s hN h4 sMain _ fun r5 hl5 h5 => ?_
    exact hB _ _ _ 0 _ _ _ _ (h5.re hl5) (fun _ => hl) hA1000 (by omega) fun r8 h8 => fin _ _ _ ((h8.re rfl).mono (by omega) (Nat.le_refl _) (by omega)) rfl
theorem unit_s (M : TermC) (hN : toks.length < 1000000) (K : List GNode → Int → Int → Prop) (h : K (unitF M toks).l (unitF M toks).at_ (unitF M toks).e_) : V_parse_Unit toks K := by
  have hf := cw_from (toks := toks) (at_ := 0) (Int.le_refl _) (by omega) 200
  have hst : Re toks [] ⟨42, [], 0, 0, 0⟩ 0 0 0 200 0 (fromC 0) ⟨toks, 0, 0, [⟨42, [], 0, 0, 0⟩], 0⟩ :=
    ⟨hf, rfl, rfl, rfl, rfl, fun _ => rfl, by simp, fun h => absurd rfl h, by simp⟩
  refine parse_Unit_lift _ _ ⟨fun atx deep l ex f => ∃ c', Re toks [] ⟨42, [], 0, 0, 0⟩ 0 0 0 200 (if c'.e_ = 0 then 0 else 301) c' ⟨toks, atx, deep, l, ex⟩ ∧ LI toks (fun c => decide (c.e_ = 0) && !decide ((tokF toks c.at_).kind = 0)) (fun c => addC c (declC M toks c.at_)) (unitC M toks) f c', ⟨_, fromC 0, hst.mono (Nat.le_refl _) (Nat.le_refl _) (Nat.zero_le _), LI.start hf⟩, ?_⟩
  rintro atx deep l ex f ⟨c', h4, hl⟩
  obtain rfl : ex = c'.e_ := h4.e_
  obtain rfl : atx = c'.at_ := h4.at_
  obtain rfl : deep = 0 := h4.dp
  refine ⟨fun b => b = (decide (c'.e_ = 0) && !decide ((tokF toks c'.at_).kind = 0)), cond_intro (fun he => ?_) (fun he => ?_), ?_⟩
  · have he : c'.e_ = 0 := by simpa using he
    refine psee_v hN rfl h4.cw.z1 h4.cw.hi 0 (by decide) (by decide) _ ?_
    dsimp only
    show _ = _
    rw [Int.add_zero, Bool.eq_iff_iff]; simp [he]
  · have he : ¬ c'.e_ = 0 := by simpa using he
    show false = _
    rw [decide_eq_false he]; rfl
  rintro _ rfl
  refine cond_intro (fun hA' => ?_) fun hB => ?_
  · have he : c'.e_ = 0 := by simp at hA'; exact hA'.1
    rw [if_pos he] at h4
    have hw := h4.cw.w he
    have hln : (l.length : Int) ≤ c'.at_ + 1 := by
      have := h4.ok he
      dsimp only at this
      rw [this]
      simp only [List.nil_append, List.length_cons]
      omega
    refine decl_s M hN _ _ rfl h4.cw.z1 h4.cw.hi rfl he hln fun r4 x2 c2 h5 hcc _ => ?_
    dsimp only at h5 hcc
    have hcw := cw_decl M h4.cw.z1 h4.cw.hi
    have hadd := (cw_add (q' := 100) (s' := 1) h4.cw (fun _ => hcw) (by omega)).mono (s' := 0) (q' := 200) (by omega) (Nat.le_refl _)
    obtain ⟨f', hf', hl'⟩ := hl.step hA' he h4.cw.hi (fun hd => adv_add hcw he hd)
    exact fin_add (dd := declC M toks c'.at_) (p' := 301) (dp3 := r4.deep) h4 rfl h5 (fun hne => absurd he hne) (fun _ => hcc rfl) hadd (by omega) h5.dp (K := fun r5 => ∃ n1, n1 < f ∧ ∃ c', Re toks [] ⟨42, [], 0, 0, 0⟩ 0 0 0 200 (if c'.e_ = 0 then 0 else 301) c' ⟨toks, r5.at_, r5.deep, r5.l, r5.e_⟩ ∧ LI toks (fun c => decide (c.e_ = 0) && !decide ((tokF toks c.at_).kind = 0)) (fun c => addC c (declC M toks c.at_)) (unitC M toks) n1 c') fun r5 h6 => by
      refine ⟨f', hf', _, ?_, hl'⟩
      by_cases he2 : (addC c' (declC M toks c'.at_)).e_ = 0
      · rw [if_pos he2]; exact (h6.re rfl).resetp he2 0
      · rw [if_neg he2]; exact h6.re rfl
  · have hst := (hl.stop hB).symm
    unfold unitF at h
    rw [hst] at h
    refine cond_intro (fun hx => ?_) fun hx => ?_
    · rw [if_pos (by simpa using hx)] at h; exact h
    · have hx : c'.e_ = 0 := by simpa using hx
      rw [if_neg (fun hh => hh hx)] at h
      have := h4.ok hx
      dsimp only at this
      rw [this]
      exact h
end
end Go.Proofs.Ytdbdkdmgfiiljaa
namespace Go.Proofs.Ytdbdkdmgfiiljaa
open Go.Vc Go.Lv Go.Ty Go.Tk Go.Tm
def gT (t : Tok) : GToken := ⟨t.kind, t.text, t.n, t.at_⟩
def tT (t : GToken) : Tok := ⟨t.kind, t.text, t.n, t.at_⟩
def gN (x : Nd) : GNode := ⟨x.op, x.name, x.n, x.kids, x.at_⟩
theorem gT_map (toks : List GToken) : (toks.map tT).map gT = toks := by
  rw [List.map_map]
  exact List.map_id _
theorem ret_mono {K K' : Value → World → Prop} (h : ∀ v w', K v w' → K' v w') : ∀ e w', Ret K e w' → Ret K' e w'
  | .returned _, w', hk => h _ w' hk
  | .panicked _, _, hk => hk.elim
  | .outgrown, _, hk => hk.elim
theorem next_v (s : List UInt8) (hs : s.length < 2 ^ 40) (at_ : Int) (K : GToken → Int → Int → Prop) (h : K (gT (nextS s at_).1) (nextS s at_).2.1 (nextS s at_).2.2) : V_token_Next s at_ K := fun _ w _ =>
  (Next_spec s hs at_ w).mono (ret_mono fun _ _ ⟨hv, he⟩ => ⟨_, _, _, h, ⟨_, hv, GToken_in (gT (nextS s at_).1)⟩, Keep.ofExt he⟩)
theorem rnext_v (s : List UInt8) (hs : s.length < 2 ^ 40) (at_ : Int) (K : GR08_Got → Prop) (h : K ⟨gT (nextS s at_).1, (nextS s at_).2.1, (nextS s at_).2.2⟩) : V_R08_Next s at_ K := fun _ w _ =>
  (rNext_spec s hs at_ w).mono (ret_mono fun _ _ ⟨hv, he⟩ => ⟨_, h, ⟨_, hv, GR08_Got_in ⟨gT (nextS s at_).1, (nextS s at_).2.1, (nextS s at_).2.2⟩⟩, Keep.ofExt he⟩)
theorem op_v (s : List UInt8) (K : Int → Prop) (h : K (opOf s)) : V_R10_Op s K := fun _ w _ =>
  (rOp_spec s w).mono (ret_mono fun _ _ ⟨hv, he⟩ => ⟨_, h, hv, Keep.ofExt he⟩)
theorem level_v (op : Int) (K : Int → Prop) (h : K (levO op : Nat)) : V_R10_Level op K := fun _ w _ =>
  (rLevel_spec op w).mono (ret_mono fun _ _ ⟨hv, he⟩ => ⟨_, h, hv, Keep.ofExt he⟩)
theorem all_v (s : List UInt8) (K : List GToken → Int → Int → Prop) (h : K ((allS s).1.map gT) (allS s).2.1 (allS s).2.2) : V_token_All s K := by
  refine token_All_lift _ _ (cond_intro (fun hx => ?_) fun hx => ?_)
  · have : allS s = ([], 0, 5) := by unfold allS; rw [if_pos (by simp at hx; omega)]
    rw [this] at h; exact h
  · have hs : s.length ≤ 65536 := by simp at hx; omega
    have hall : allS s = allFrom s (s.length + 1) 0 [] := by unfold allS; rw [if_neg (by omega)]
    rw [hall] at h
    refine ⟨fun out atx n => ∃ (acc : List Tok) (k : Nat), atx = k ∧ out = acc.map gT ∧ acc.length ≤ k ∧ k ≤ s.length ∧ s.length < n + k ∧ allFrom s (s.length + 1) 0 [] = allFrom s n k acc, ⟨s.length + 1, [], 0, rfl, rfl, Nat.zero_le _, Nat.zero_le _, by omega, rfl⟩, ?_⟩
    rintro _ _ n ⟨acc, k, rfl, rfl, hacc, hk, hf, heq⟩
    rw [heq] at h
    obtain ⟨f, rfl⟩ : ∃ f', n = f' + 1 := ⟨n - 1, by omega⟩
    refine next_v s (by omega) k _ ?_
    have hadv := nextS_adv s k hk
    have hstep : allFrom s (f + 1) k acc = if (nextS s k).2.2 ≠ 0 then (([] : List Tok), ((nextS s k).2.1 : Int), (nextS s k).2.2) else if (nextS s k).1.kind = 0 then (acc ++ [(nextS s k).1], (nextS s k).1.at_, 0) else allFrom s f (nextS s k).2.1 (acc ++ [(nextS s k).1]) := rfl
    generalize nextS s k = x at *
    obtain ⟨t, nx, e⟩ := x
    dsimp only at hadv hstep ⊢
    refine cond_intro (fun he => ?_) fun he => ?_
    · rw [hstep, if_pos (by simpa using he)] at h; exact h
    · have he : e = 0 := by simpa using he
      subst he
      rw [if_neg (fun h => h rfl)] at hstep
      refine ⟨by simp only [List.length_map, List.length_cons, List.length_nil]; omega, cond_intro (fun hk0 => ?_) fun hk0 => ?_⟩
      · rw [hstep, if_pos (show t.kind = 0 by simpa [gT] using hk0)] at h
        simpa [gT] using h
      · have hk0 : t.kind ≠ 0 := by simpa [gT] using hk0
        rw [if_neg hk0] at hstep
        obtain ⟨h1, h2⟩ := hadv rfl hk0
        exact ⟨f, by omega, acc ++ [t], nx, rfl, by simp, by simp; omega, h2, by omega, heq.trans hstep⟩
theorem rall_v (s : List UInt8) (K : GR08_List → Prop) (h : K ⟨(allS s).1.map gT, (allS s).2.1, (allS s).2.2⟩) : V_R08_All s K := by
  refine R08_All_lift _ _ (cond_intro (fun hx => ?_) fun hx => ?_)
  · have : allS s = ([], 0, 5) := by unfold allS; rw [if_pos (by simp at hx; omega)]
    rw [this] at h; exact h
  · have hs : s.length ≤ 65536 := by simp at hx; omega
    have hall : allS s = allFrom s (s.length + 1) 0 [] := by unfold allS; rw [if_neg (by omega)]
    rw [hall] at h
    refine ⟨fun atx out _ E _ _ n => ∃ (acc : List Tok) (k : Nat), atx = k ∧ E = 0 ∧ out = acc.map gT ∧ acc.length ≤ k ∧ k ≤ s.length ∧ s.length < n + k ∧ allFrom s (s.length + 1) 0 [] = allFrom s n k acc, ⟨s.length + 1, [], 0, rfl, rfl, rfl, Nat.zero_le _, Nat.zero_le _, by omega, rfl⟩, ?_⟩
    rintro _ _ at0 _ at1 e1 n ⟨acc, k, rfl, rfl, rfl, hacc, hk, hf, heq⟩
    rw [heq] at h
    obtain ⟨f, rfl⟩ : ∃ f', n = f' + 1 := ⟨n - 1, by omega⟩
    refine rnext_v s (by omega) k _ ?_
    have hadv := nextS_adv s k hk
    have hstep : allFrom s (f + 1) k acc = if (nextS s k).2.2 ≠ 0 then (([] : List Tok), ((nextS s k).2.1 : Int), (nextS s k).2.2) else if (nextS s k).1.kind = 0 then (acc ++ [(nextS s k).1], (nextS s k).1.at_, 0) else allFrom s f (nextS s k).2.1 (acc ++ [(nextS s k).1]) := rfl
    generalize nextS s k = x at *
    obtain ⟨t, nx, e⟩ := x
    dsimp only at hadv hstep ⊢
    refine cond_intro (fun he => ?_) fun he => ?_
    · rw [hstep, if_pos (by simpa using he)] at h; exact h
    · have he : e = 0 := by simpa using he
      subst he
      rw [if_neg (fun h => h rfl)] at hstep
      refine ⟨by simp only [List.length_map, List.length_cons, List.length_nil]; omega, cond_intro (fun hk0 => ?_) fun hk0 => ?_⟩
      · rw [hstep, if_pos (show t.kind = 0 by simpa [gT] using hk0)] at h
        simpa [gT] using h
      · have hk0 : t.kind ≠ 0 := by simpa [gT] using hk0
        rw [if_neg hk0] at hstep
        obtain ⟨h1, h2⟩ := hadv rfl hk0
        exact ⟨f, by omega, acc ++ [t], nx, rfl, rfl, by simp, by simp; omega, h2, by omega, heq.trans hstep⟩
def gR (r : Res) : GR10_Got := ⟨r.l.map gN, (r.at_ : Int), r.e⟩
theorem tok_T (toks : List Tok) (p : Nat) : tokF (toks.map gT) (p : Int) = gT (T toks p) := by
  unfold tokF T
  rw [List.length_map, Int.toNat_natCast]
  by_cases h : p < toks.length
  · rw [if_pos (by omega), List.getElem?_map, List.getD_eq_getElem?_getD, List.getElem?_eq_getElem h]; rfl
  · rw [if_neg (by omega), List.getD_eq_getElem?_getD, List.getElem?_eq_none (by omega)]; rfl
theorem rtokT_v (toks : List Tok) (p : Nat) (K : GToken → Prop) (h : K (gT (T toks p))) : V_R10_Tok (toks.map gT) p K := rtok_v (by omega) _ (by rw [tok_T]; exact h)
section
variable (toks : List Tok) (hN : toks.length < 2 ^ 30)
include hN
theorem rone_s (r1 rl : Nat → Nat → Option Res)
    (hr1 : ∀ p d r, r1 p d = some r → d ≤ 24 → ∀ K : GR10_Got → Prop, K (gR r) → V_R10_one (toks.map gT) p d K)
    (hrl : ∀ p d r, rl p d = some r → d ≤ 24 → ∀ K : GR10_Got → Prop, K (gR r) → V_R10_level (toks.map gT) p 1 d K)
    (hk1 : ∀ p d r, r1 p d = some r → Ok toks p r) (hkl : ∀ p d r, rl p d = some r → Ok toks p r)
    (p d : Nat) (r : Res) (h : oneStep toks r1 rl p d = some r) (hd : d ≤ 24) (K : GR10_Got → Prop) (hK : K (gR r)) : V_R10_one (toks.map gT) p d K := by
  refine R10_one_lift _ _ _ _ (rtokT_v toks p _ ?_)
  have hlt : (T toks p).kind ≠ 0 → p < toks.length := T_lt
  unfold oneStep at h
  generalize T toks p = t at h hlt ⊢
  obtain ⟨tk, tx, tn, ta⟩ := t
  dsimp only [gT] at h hlt ⊢
  have hp1 : p < toks.length → IntKind.i64.wrap ((p : Int) + 1) = ((p + 1 : Nat) : Int) := fun hp => by rw [wrap_in (by omega) (by omega)]; omega
  have hd1 : IntKind.i64.wrap ((d : Int) + 1) = ((d + 1 : Nat) : Int) := by rw [wrap_in (by omega) (by omega)]; omega
  refine cond_intro (fun h2 => ?_) fun h2 => ?_
  · have h2 : tk = 2 := by simpa using h2
    rw [if_pos h2] at h
    cases h
    rw [hp1 (hlt (by omega))]
    exact hK
  have h2 : tk ≠ 2 := by simpa using h2
  rw [if_neg h2] at h
  refine cond_intro (fun h3 => ?_) fun h3 => ?_
  · have h3 : tk = 1 := by simpa using h3
    rw [if_pos h3] at h
    cases h
    rw [hp1 (hlt (by omega))]
    exact hK
  have h3 : tk ≠ 1 := by simpa using h3
  rw [if_neg h3] at h
  refine ⟨fun b => b = !decide (tk = 4 ∧ (tx = [45] ∨ tx = [33] ∨ tx = [40])), ?_, ?_⟩
  · refine cond_intro (fun h4 => ?_) fun h4 => ?_
    · have h4 : tk ≠ 4 := by simpa using h4
      show true = _
      rw [decide_eq_false (fun c => h4 c.1)]; rfl
    · have h4 : tk = 4 := by simpa using h4
      refine cond_intro (fun h5 => cond_intro (fun h6 => ?_) fun h6 => ?_) fun h5 => ?_
      · show _ = _
        have h5 : tx ≠ [45] := by simpa using h5
        have h6 : tx ≠ [33] := by simpa using h6
        rw [Bool.eq_iff_iff]; simp [h4, h5, h6]
      · show false = _
        have h6 : tx = [33] := by simpa using h6
        rw [decide_eq_true ⟨h4, .inr (.inl h6)⟩]; rfl
      · show false = _
        have h5 : tx = [45] := by simpa using h5
        rw [decide_eq_true ⟨h4, .inl h5⟩]; rfl
  rintro _ rfl
  refine cond_intro (fun hc => ?_) fun hc => ?_
  · have hc : ¬ (tk = 4 ∧ (tx = [45] ∨ tx = [33] ∨ tx = [40])) := by simpa only [Bool.not_eq_true', decide_eq_false_iff_not] using hc
    rw [if_neg (fun c => hc ⟨c.1, c.2.elim .inl (fun e => .inr (.inl e))⟩), if_neg (fun c => hc ⟨c.1, .inr (.inr c.2)⟩)] at h
    cases h
    exact hK
  have hc : tk = 4 ∧ (tx = [45] ∨ tx = [33] ∨ tx = [40]) := by simpa only [Bool.not_eq_false', decide_eq_true_eq] using hc
  have hp := hlt (by omega)
  rw [hp1 hp, hd1]
  by_cases h40 : tx = [40]
  · subst h40
    rw [if_neg (fun c => by simp at c), if_pos ⟨hc.1, rfl⟩] at h
    refine cond_intro (fun h24 => ?_) fun h24 => ?_
    · have h24 : d = 24 := by have : (d : Int) = 24 := by simpa using h24
                              omega
      rw [if_pos h24] at h
      cases h
      exact hK
    · have h24 : d ≠ 24 := by
        intro e; subst e; simp at h24
      rw [if_neg h24] at h
      obtain ⟨x, hx, rfl⟩ := Option.map_eq_some_iff.1 h
      refine cond_t (by simp) (hrl _ _ _ hx (by omega) _ ?_)
      have hk := hkl _ _ _ hx
      refine cond_intro (fun he => ?_) fun he => ?_
      · have he : x.e ≠ 0 := by simpa [gR] using he
        rw [if_pos he] at hK; exact hK
      · have he : x.e = 0 := by simpa [gR] using he
        rw [if_neg (fun c => c he)] at hK
        refine rtokT_v toks x.at_ _ ?_
        refine ⟨fun b => b = !decide ((T toks x.at_).kind = 4 ∧ (T toks x.at_).text = [41]), cond_intro (fun h4 => ?_) (fun h4 => ?_), ?_⟩
        · have h4 : (T toks x.at_).kind ≠ 4 := by simpa [gT] using h4
          show true = _
          rw [decide_eq_false (fun c => h4 c.1)]; rfl
        · have h4 : (T toks x.at_).kind = 4 := by simpa [gT] using h4
          show _ = _
          rw [Bool.eq_iff_iff]; simp [h4, gT]
        · rintro _ rfl
          refine cond_intro (fun hq => ?_) fun hq => ?_
          · rw [if_neg (by simpa only [Bool.not_eq_true', decide_eq_false_iff_not] using hq)] at hK; exact hK
          · have hq : (T toks x.at_).kind = 4 ∧ (T toks x.at_).text = [41] := by simpa only [Bool.not_eq_false', decide_eq_true_eq] using hq
            rw [if_pos hq] at hK
            have := (hk.1 he).2.1
            have hw : IntKind.i64.wrap ((gR x).at_ + 1) = ((x.at_ + 1 : Nat) : Int) := by
              show IntKind.i64.wrap ((x.at_ : Int) + 1) = _
              rw [wrap_in (by omega) (by omega)]; omega
            rw [hw]
            exact hK
  · have hs : tx = [45] ∨ tx = [33] := by
      rcases hc.2 with e | e | e
      · exact .inl e
      · exact .inr e
      · exact absurd e h40
    rw [if_pos ⟨hc.1, hs⟩] at h
    refine cond_intro (fun h24 => ?_) fun h24 => ?_
    · have h24 : d = 24 := by have : (d : Int) = 24 := by simpa using h24
                              omega
      rw [if_pos h24] at h
      cases h
      exact hK
    · have h24 : d ≠ 24 := by
        intro e; subst e; simp at h24
      rw [if_neg h24] at h
      obtain ⟨x, hx, rfl⟩ := Option.map_eq_some_iff.1 h
      have hk := hk1 _ _ _ hx
      refine cond_f (by simpa using h40) (hr1 _ _ _ hx (by omega) _ ?_)
      refine cond_intro (fun he => ?_) fun he => ?_
      · have he : x.e ≠ 0 := by simpa [gR] using he
        rw [if_neg he] at hK; exact hK
      · have he : x.e = 0 := by simpa [gR] using he
        rw [if_pos he] at hK
        refine ⟨fun op => op = if tx = [33] then 4 else 3, cond_intro (fun h5 => ?_) (fun h5 => ?_), ?_⟩
        · show (4 : Int) = _
          rw [if_pos (by simpa using h5)]
        · show (3 : Int) = _
          rw [if_neg (by simpa using h5)]
        · rintro _ rfl
          have := hk.1 he
          exact ⟨by simp only [List.length_cons, List.length_nil, gR, List.length_map]; omega, hK⟩
theorem rlev_s (f : Nat)
    (ih1 : ∀ f', f' ≤ f → ∀ p d r, R toks f' (.one p d) = some r → d ≤ 24 → ∀ K : GR10_Got → Prop, K (gR r) → V_R10_one (toks.map gT) p d K)
    (ihl : ∀ f', f' ≤ f → ∀ (n : Nat) p d r, 1 ≤ n → n ≤ 6 → R toks f' (.lev n p d) = some r → d ≤ 24 → ∀ K : GR10_Got → Prop, K (gR r) → V_R10_level (toks.map gT) p n d K)
    (n p d : Nat) (r : Res) (h1 : 1 ≤ n) (h6 : n ≤ 6) (h : R toks (f + 1) (.lev n p d) = some r) (hd : d ≤ 24) (K : GR10_Got → Prop) (hK : K (gR r)) : V_R10_level (toks.map gT) p n d K := by
  refine R10_level_lift _ _ _ _ _ ?_
  rw [R] at h
  refine cond_intro (fun h66 => ?_) fun h66 => ?_
  · have h66 : n = 6 := by have : (n : Int) = 6 := by simpa using h66
                           omega
    rw [if_pos h66] at h
    exact ih1 f (Nat.le_refl _) _ _ _ h hd _ hK
  · have h66 : n ≠ 6 := by
      intro e; subst e; simp at h66
    rw [if_neg h66] at h
    obtain ⟨x0, hx0, hr0⟩ := Option.bind_eq_some_iff.1 h
    have hn1 : IntKind.i64.wrap ((n : Int) + 1) = ((n + 1 : Nat) : Int) := by rw [wrap_in (by omega) (by omega)]; omega
    rw [hn1]
    refine ihl f (Nat.le_refl _) (n + 1) p d x0 (by omega) (by omega) hx0 hd _ ?_
    have hok0 := (R_ok toks f).2.1 _ _ _ _ hx0
    refine ⟨fun L At E _ _ _ n1 => ∃ x, n1 ≤ f ∧ R toks n1 (.loop n 0 d x) = some r ∧ L = x.l.map gN ∧ At = (x.at_ : Int) ∧ E = x.e ∧ (x.e = 0 → x.at_ ≤ toks.length ∧ x.l.length ≤ x.at_), ⟨f, x0, Nat.le_refl _, hr0, rfl, rfl, rfl, fun he => by have := hok0.1 he; omega⟩, ?_⟩
    clear hr0 hok0 hx0
    rintro _ _ _ L1 At1 E1 n1 ⟨x, hf1, hr, rfl, rfl, rfl, hxo⟩
    obtain ⟨g, rfl⟩ : ∃ g, n1 = g + 1 := by
      cases n1 with
      | zero => simp [R] at hr
      | succ g => exact ⟨g, rfl⟩
    rw [R] at hr
    refine cond_intro (fun he => ?_) fun he => ?_
    · have he : x.e = 0 := by simpa using he
      obtain ⟨hxN, hxl⟩ := hxo he
      rw [if_neg (fun c => c he)] at hr
      refine rtokT_v toks x.at_ _ (op_v _ _ ?_)
      have hjoin : ∀ y, join toks x y = ⟨⟨opOf (T toks x.at_).text, [], 0, 2, (T toks x.at_).at_⟩ :: x.l ++ y.l, y.at_, 0⟩ := fun _ => rfl
      have hmine : mine toks x.at_ = if (T toks x.at_).kind = 4 then levO (opOf (T toks x.at_).text) else 0 := rfl
      have hmlt := mine_lt (toks := toks) (p := x.at_)
      have hlv := lev_bd (T toks x.at_).text
      generalize T toks x.at_ = t at hjoin hmine hlv ⊢
      obtain ⟨tk, tx, tn, ta⟩ := t
      dsimp only [gT] at hjoin hmine hlv ⊢
      refine ⟨fun b => b = decide (mine toks x.at_ = 0 ∨ mine toks x.at_ ≠ n), ?_, ?_⟩
      · refine cond_intro (fun h4 => ?_) fun h4 => cond_intro (fun h0 => ?_) fun h0 => ?_
        · have h4 : tk ≠ 4 := by simpa using h4
          show true = _
          rw [hmine, if_neg h4]; simp
        · have h4 : tk = 4 := by simpa using h4
          have h0 : opOf tx = 0 := by simpa using h0
          show true = _
          rw [hmine, if_pos h4]
          rcases hlv with h | h
          · rw [h.2]; simp
          · exact absurd h0 h.1
        · have h4 : tk = 4 := by simpa using h4
          have h0 : opOf tx ≠ 0 := by simpa using h0
          refine level_v _ _ ?_
          show _ = _
          rw [hmine, if_pos h4, Bool.eq_iff_iff]
          simp only [bne_iff_ne, ne_eq, decide_eq_true_eq]
          rcases hlv with h | h
          · exact absurd h.1 h0
          · constructor
            · intro hh; right; intro e; exact hh (by rw [e])
            · rintro (hh | hh)
              · omega
              · intro e; apply hh; omega
      · rintro _ rfl
        refine cond_intro (fun hc => ?_) fun hc => ?_
        · rw [if_pos (of_decide_eq_true hc)] at hr
          cases hr
          exact hK
        · have hc := of_decide_eq_false hc
          rw [if_neg hc] at hr
          simp only [not_or, Classical.not_not] at hc
          have hlt := hmlt hc.1
          obtain ⟨y, hy, hr⟩ := Option.bind_eq_some_iff.1 hr
          have hyk := (R_ok toks g).2.1 _ _ _ _ hy
          have hx1 : IntKind.i64.wrap ((x.at_ : Int) + 1) = ((x.at_ + 1 : Nat) : Int) := by rw [wrap_in (by omega) (by omega)]; omega
          rw [hx1]
          refine ihl g (by omega) (n + 1) _ d y (by omega) (by omega) hy hd _ ?_
          refine cond_intro (fun hye => ?_) fun hye => ?_
          · have hye : y.e ≠ 0 := by simpa [gR] using hye
            rw [if_pos hye] at hr
            cases hr
            exact hK
          · have hye : y.e = 0 := by simpa [gR] using hye
            rw [if_neg (fun c => c hye)] at hr
            have hyk := hyk.1 hye
            refine ⟨by simp only [List.length_cons, List.length_nil, List.length_map]; omega, fun L2 At2 E2 => L2 = (join toks x y).l.map gN ∧ At2 = (y.at_ : Int) ∧ E2 = 0, ⟨by simp only [List.length_cons, List.length_nil, List.length_append, List.length_map, gR]; omega, ?_, rfl, rfl⟩, ?_⟩
            · rw [hjoin]; simp [gR, gN]
            · rintro _ _ _ ⟨rfl, rfl, rfl⟩
              have hja : (join toks x y).at_ = y.at_ := rfl
              have hje : (join toks x y).e = 0 := rfl
              refine cond_intro (fun h3 => ?_) fun h3 => ?_
              · have h3 : n = 3 := by have : (n : Int) = 3 := by simpa using h3
                                      omega
                rw [if_pos h3] at hr
                cases hr
                exact hK
              · have h3 : n ≠ 3 := by
                  intro e; subst e; simp at h3
                rw [if_neg h3] at hr
                refine ⟨g, by omega, join toks x y, by omega, hr, rfl, rfl, rfl, fun _ => ⟨by rw [hja]; omega, ?_⟩⟩
                rw [hja, hjoin]
                simp only [List.cons_append, List.length_cons, List.length_append]
                omega
    · have he : x.e ≠ 0 := by simpa using he
      rw [if_pos he] at hr
      cases hr
      exact hK
theorem rwalk_v : ∀ f, ∀ f1, f1 ≤ f →
    (∀ p d r, R toks f1 (.one p d) = some r → d ≤ 24 → ∀ K : GR10_Got → Prop, K (gR r) → V_R10_one (toks.map gT) p d K) ∧
    (∀ (n : Nat) p d r, 1 ≤ n → n ≤ 6 → R toks f1 (.lev n p d) = some r → d ≤ 24 → ∀ K : GR10_Got → Prop, K (gR r) → V_R10_level (toks.map gT) p n d K) := by
  intro f
  induction f with
  | zero =>
    intro f1 hf
    obtain rfl : f1 = 0 := by omega
    exact ⟨fun _ _ _ h => by simp [R] at h, fun _ _ _ _ _ _ h => by simp [R] at h⟩
  | succ f ih =>
    intro f1 hf
    by_cases hle : f1 ≤ f
    · exact ih f1 hle
    · obtain rfl : f1 = f + 1 := by omega
      refine ⟨fun p d r h hd K hK => ?_, fun n p d r h1 h6 h hd K hK => rlev_s toks hN f (fun f' hf' => (ih f' hf').1) (fun f' hf' => (ih f' hf').2) n p d r h1 h6 h hd K hK⟩
      simp only [R] at h
      exact rone_s toks hN _ _ (ih f (Nat.le_refl _)).1 (fun p d r h hd K hK => (ih f (Nat.le_refl _)).2 1 p d r (by omega) (by omega) h hd K hK) (fun p d r h => (R_ok toks f).1 p d r h) (fun p d r h => (R_ok toks f).2.1 1 p d r h) p d r h hd K hK
theorem rparse_v (at_ : Int) (h0 : 0 ≤ at_) (K : GR10_Got → Prop) (hK : K (gR (parseOf toks at_))) : V_R10_Parse (toks.map gT) at_ K := by
  refine R10_Parse_lift _ _ _ (cond_f (by simp; omega) ?_)
  have hP := parseOf_pos toks at_ (by omega)
  generalize parseOf toks at_ = r at hP hK
  obtain ⟨p, rfl⟩ : ∃ p : Nat, at_ = p := ⟨at_.toNat, by omega⟩
  obtain ⟨g, hg⟩ := (P_R toks _).2.1 1 _ _ _ (by omega) (by omega) hP
  exact (rwalk_v toks hN g g (Nat.le_refl _)).2 1 p 0 r (by omega) (by omega) hg (by omega) _ hK
end
theorem el_toks {m : List Nat} {w : World} : ∀ {l : List GToken} {xs : List Value}, El cGToken m w l xs → xs = flat tokC (l.map tT)
  | [], xs, ⟨css, h, ha⟩ => by
    cases css with
    | nil => rw [h]; rfl
    | cons a b => exact ha.elim
  | t :: l, xs, ⟨css, h, ha⟩ => by
    cases css with
    | nil => exact ha.elim
    | cons a b =>
      have h1 := GToken_out ha.1
      have h2 := el_toks (l := l) ⟨b, rfl, ha.2⟩
      rw [h, List.flatten_cons, h2, h1]
      rfl
theorem sl_toks {m : List Nat} {w : World} {a : Option Addr} {l : List GToken} (h : SlR cGToken m w a l) : SlAt w a (flat tokC (l.map tT)) := by
  rcases h with rfl | ⟨p, xs, rfl, _, hc, he⟩
  · cases a with
    | none => rfl
    | some p => intro i hi; exact absurd hi (Nat.not_lt_zero _)
  · rw [← el_toks he]; exact hc
theorem el_nds (m : List Nat) (w : World) : ∀ (l : List Nd), El cGNode m w (l.map gN) (flat ndC l)
  | [] => El.nil _ _ _
  | x :: l => by
    have : flat ndC (x :: l) = ndC x ++ flat ndC l := by simp [flat]
    rw [this]
    exact El.cons (GNode_in (gN x)) (el_nds m w l)
theorem sl_nds {m : List Nat} {w w' : World} {a : Option Addr} {l : List Nd} (h : SlAt w' a (flat ndC l)) (hf : ∀ k, blk a = some k → w.heap.size ≤ k) (hm : ∀ b ∈ m, b < w.heap.size) : SlR cGNode m w' a (l.map gN) := by
  cases a with
  | none =>
    left
    cases l with
    | nil => rfl
    | cons x l => simp [SlAt, flat, ndC] at h
  | some p =>
    refine .inr ⟨p, _, rfl, fun hp => ?_, h, el_nds _ _ _⟩
    have h1 := hm _ hp
    have h2 := hf p.block rfl
    omega
theorem parse_v (toks : List GToken) (hN : toks.length < 2 ^ 30) (at_ : Int) (K : List GNode → Int → Int → Prop) (hK : K ((parseOf (toks.map tT) at_).l.map gN) (parseOf (toks.map tT) at_).at_ (parseOf (toks.map tT) at_).e) : V_term_Parse toks at_ K := by
  intro m w hm ta tc htc hs
  have := Parse_F (toks.map tT) (by rw [List.length_map]; exact hN) ta tc at_ w (sl_toks hs)
  rw [List.length_map] at this
  refine this.mono (ret_mono ?_)
  rintro _ w' ⟨a, c, rfl, ⟨hf, hc⟩, hsl, he⟩
  refine ⟨_, _, _, hK, ⟨a, c, ?_, by rw [List.length_map]; exact hc, sl_nds hsl hf hm.lt⟩, Keep.ofExt he⟩
  rw [List.length_map]
theorem one_bd {toks : List Tok} {r1 rl : Nat → Nat → Option Res} (h1 : ∀ p d r, r1 p d = some r → p ≤ toks.length → p ≤ r.at_ ∧ r.at_ ≤ toks.length) (hl : ∀ p d r, rl p d = some r → p ≤ toks.length → p ≤ r.at_ ∧ r.at_ ≤ toks.length) {p d : Nat} {r : Res}
    (h : oneStep toks r1 rl p d = some r) (hp : p ≤ toks.length) : p ≤ r.at_ ∧ r.at_ ≤ toks.length := by
  unfold oneStep at h
  split at h
  · rename_i c
    have := T_lt (toks := toks) (p := p) (by rw [c]; decide)
    cases h; exact ⟨by simp, by simp; omega⟩
  split at h
  · rename_i c
    have := T_lt (toks := toks) (p := p) (by rw [c]; decide)
    cases h; exact ⟨by simp, by simp; omega⟩
  split at h
  · rename_i c
    have := T_lt (toks := toks) (p := p) (by rw [c.1]; decide)
    split at h
    · cases h; exact ⟨Nat.le_refl _, hp⟩
    · obtain ⟨x, hx, rfl⟩ := Option.map_eq_some_iff.1 h
      have hk := h1 _ _ _ hx (by omega)
      split
      · exact ⟨by dsimp only; omega, by dsimp only; omega⟩
      · exact ⟨by omega, by omega⟩
  split at h
  · rename_i c
    have := T_lt (toks := toks) (p := p) (by rw [c.1]; decide)
    split at h
    · cases h; exact ⟨Nat.le_refl _, hp⟩
    · obtain ⟨x, hx, rfl⟩ := Option.map_eq_some_iff.1 h
      have hk := hl _ _ _ hx (by omega)
      split
      · exact ⟨by omega, by omega⟩
      · split
        · rename_i c
          have := T_lt (toks := toks) (p := x.at_) (by rw [c.1]; decide)
          exact ⟨by dsimp only; omega, by dsimp only; omega⟩
        · exact ⟨by dsimp only; omega, by dsimp only; omega⟩
  · cases h; exact ⟨Nat.le_refl _, hp⟩
theorem P_bd (toks : List Tok) : ∀ (f : Nat), (∀ p d r, P toks f (.one p d) = some r → p ≤ toks.length → p ≤ r.at_ ∧ r.at_ ≤ toks.length) ∧ (∀ n p d r, P toks f (.lev n p d) = some r → p ≤ toks.length → p ≤ r.at_ ∧ r.at_ ≤ toks.length) ∧
    (∀ n m d x r, P toks f (.loop n m d x) = some r → x.at_ ≤ toks.length → x.at_ ≤ r.at_ ∧ r.at_ ≤ toks.length) := by
  intro f
  induction f with
  | zero => exact ⟨fun _ _ _ h => by simp [P] at h, fun _ _ _ _ h => by simp [P] at h, fun _ _ _ _ _ h => by simp [P] at h⟩
  | succ f ih =>
    obtain ⟨ih1, ih2, ih3⟩ := ih
    refine ⟨fun p d r h hp => ?_, fun n p d r h hp => ?_, fun n m d x r h hp => ?_⟩
    · simp only [P] at h
      exact one_bd (fun p d r h => ih1 p d r h) (fun p d r h => ih2 1 p d r h) h hp
    · rw [P] at h
      obtain ⟨x, hx, hr⟩ := Option.bind_eq_some_iff.1 h
      have h1 := ih1 _ _ _ hx hp
      have h2 := ih3 _ _ _ _ _ hr h1.2
      omega
    · rw [P] at h
      split at h
      · cases h; exact ⟨Nat.le_refl _, hp⟩
      split at h
      · cases h; exact ⟨Nat.le_refl _, hp⟩
      · rename_i c
        obtain ⟨y, hy, hr⟩ := Option.bind_eq_some_iff.1 h
        have := mine_lt (toks := toks) (p := x.at_) (fun e => c (.inl e))
        have h1 := ih2 _ _ _ _ hy (by omega)
        split at hr
        · cases hr; omega
        · have h2 := ih3 _ _ _ _ _ hr h1.2
          have : (join toks x y).at_ = y.at_ := rfl
          omega
def TM : TermC where
  T toks at_ := ((parseOf (toks.map tT) at_).l.map gN, ((parseOf (toks.map tT) at_).at_ : Int), (parseOf (toks.map tT) at_).e)
  lo toks at_ h0 h1 := by
    have := ((P_bd (toks.map tT) _).2.1 _ _ _ _ (parseOf_pos (toks.map tT) at_ (by omega)) (by rw [List.length_map]; omega)).1
    dsimp only; omega
  hi toks at_ h0 h1 := by
    have := ((P_bd (toks.map tT) _).2.1 _ _ _ _ (parseOf_pos (toks.map tT) at_ (by omega)) (by rw [List.length_map]; omega)).2
    rw [List.length_map] at this
    dsimp only; omega
  len toks at_ h0 h1 := by
    have hb := ((P_bd (toks.map tT) _).2.1 _ _ _ _ (parseOf_pos (toks.map tT) at_ (by omega)) (by rw [List.length_map]; omega)).1
    have hk := (P_ok (toks.map tT) _).2.1 _ _ _ _ (parseOf_pos (toks.map tT) at_ (by omega))
    dsimp only
    rw [List.length_map]
    by_cases he : (parseOf (toks.map tT) at_).e = 0
    · have := (hk.1 he).2.2
      omega
    · rw [hk.2 he]
      simp only [List.length_nil]
      omega
  pv toks hN at_ _ _ K hK := parse_v toks (by omega) at_ K hK
  rv toks hN at_ h0 _ K hK := by
    have := rparse_v (toks.map tT) (by rw [List.length_map]; omega) at_ h0 K hK
    rwa [gT_map] at this
end Go.Proofs.Ytdbdkdmgfiiljaa
namespace Go.Proofs.Ytdbdkdmgfiiljaa
open Go.Vc Go.Lv Go.Ty Go.Tk Go.Tm
theorem allFrom_ok (s : List UInt8) : ∀ (f k : Nat) (acc : List Tok), k ≤ s.length → s.length < f + k → (allFrom s f k acc).2.2 = 0 → (allFrom s f k acc).1 ≠ [] ∧ (allFrom s f k acc).1.length ≤ acc.length + f
  | 0, k, acc, hk, hf, _ => by omega
  | f + 1, k, acc, hk, hf, h => by
    unfold allFrom at h ⊢
    have hadv := nextS_adv s k hk
    split at h
    · rename_i he; exact absurd h he
    · rename_i he
      have he : (nextS s k).2.2 = 0 := Classical.not_not.1 he
      rw [if_neg (by rw [he]; simp)]
      split at h
      · rename_i hk0
        rw [if_pos hk0]
        exact ⟨by simp, by simp⟩
      · rename_i hk0
        rw [if_neg hk0]
        obtain ⟨h1, h2⟩ := hadv he hk0
        have := allFrom_ok s f (nextS s k).2.1 (acc ++ [(nextS s k).1]) h2 (by omega) h
        refine ⟨this.1, ?_⟩
        have h3 := this.2
        simp only [List.length_append, List.length_cons, List.length_nil] at h3
        omega
theorem allS_ok (s : List UInt8) (h : (allS s).2.2 = 0) : (allS s).1 ≠ [] ∧ (allS s).1.length ≤ 65537 := by
  unfold allS at h ⊢
  split at h
  · cases h
  · rename_i hl
    rw [if_neg hl]
    have := allFrom_ok s (s.length + 1) 0 [] (Nat.zero_le _) (by omega) h
    refine ⟨this.1, ?_⟩
    have h2 := this.2
    simp only [List.length_nil] at h2
    omega
def toksF (s : List UInt8) : List GToken := (allS s).1.map gT
def lastI (toks : List GToken) (a : Int) : Int := if (toks.length : Int) - 1 < a then (toks.length : Int) - 1 else a
def atF (toks : List GToken) (a : Int) : Int := ((toks[(lastI toks a).toNat]?).getD ⟨0, [], 0, 0⟩).at_
def textF (s : List UInt8) : GR10_Got :=
  if (allS s).2.2 ≠ 0 then ⟨[], (allS s).2.1, (allS s).2.2⟩
  else if (unitF TM (toksF s)).e_ ≠ 0 then ⟨[], atF (toksF s) (unitF TM (toksF s)).at_, (unitF TM (toksF s)).e_⟩
  else ⟨(unitF TM (toksF s)).l, 0, 0⟩
theorem unit_l (M : TermC) (toks : List GToken) (h : (unitF M toks).e_ ≠ 0) : (unitF M toks).l = [] := by
  unfold unitF at h ⊢
  split
  · rfl
  · rename_i c; rw [if_neg c] at h; exact absurd rfl h
theorem unit_0 (M : TermC) (toks : List GToken) (h : (unitF M toks).e_ = 0) : (unitF M toks).at_ = 0 := by
  unfold unitF at h ⊢
  split
  · rename_i c; rw [if_pos c] at h; exact absurd h c
  · rfl
theorem unit_at (M : TermC) (toks : List GToken) : 0 ≤ (unitF M toks).at_ ∧ (unitF M toks).at_ ≤ (toks.length : Int) := by
  have := cw_unit (toks := toks) M
  unfold unitF
  split
  · exact ⟨this.z1, this.hi⟩
  · exact ⟨Int.le_refl _, by dsimp only; omega⟩
theorem last_bd {toks : List GToken} {a : Int} (h : toks ≠ []) (h0 : 0 ≤ a) (P : Int → Prop) (hP : P (atF toks a)) (hN : toks.length < 1000000) :
    ((0 : Int) ≤ (if (IntKind.i64.wrap ((toks.length : Int) - 1)) < a then IntKind.i64.wrap ((toks.length : Int) - 1) else a) ∧ (if (IntKind.i64.wrap ((toks.length : Int) - 1)) < a then IntKind.i64.wrap ((toks.length : Int) - 1) else a) < (toks.length : Int)) ∧
    ∀ x, toks[(if (IntKind.i64.wrap ((toks.length : Int) - 1)) < a then IntKind.i64.wrap ((toks.length : Int) - 1) else a).toNat]? = some x → P x.at_ := by
  have hl := List.length_pos_iff.2 h
  have hw : IntKind.i64.wrap ((toks.length : Int) - 1) = (toks.length : Int) - 1 := wrap_in (by omega) (by omega)
  rw [hw]
  unfold atF lastI at hP
  refine ⟨by split <;> omega, fun x hx => ?_⟩
  rw [hx] at hP
  exact hP
theorem text_v (s : List UInt8) (K : List GNode → Int → Int → Prop) (h : K (textF s).l (textF s).at_ (textF s).e_) : V_parse_Text s K := by
  refine parse_Text_lift _ _ (all_v s _ ?_)
  unfold textF at h
  refine cond_intro (fun he => ?_) fun he => ?_
  · rw [if_pos (by simpa using he)] at h; exact h
  · have he : (allS s).2.2 = 0 := by simpa using he
    rw [if_neg (fun c => c he)] at h
    obtain ⟨hne, hlen⟩ := allS_ok s he
    have hN : (toksF s).length < 1000000 := by unfold toksF; rw [List.length_map]; omega
    have hne : toksF s ≠ [] := by unfold toksF; simpa using hne
    show V_parse_Unit (toksF s) _
    refine unit_s TM hN _ ?_
    refine cond_intro (fun hu => ?_) fun hu => ?_
    · rw [if_pos (by simpa using hu)] at h
      exact last_bd hne (unit_at TM _).1 (fun a => K [] a (unitF TM (toksF s)).e_) h hN
    · rw [if_neg (fun c => c (by simpa using hu))] at h; exact h
theorem rtext_v (s : List UInt8) (K : GR10_Got → Prop) (h : K (textF s)) : V_R11_Text s K := by
  refine R11_Text_lift _ _ (rall_v s _ ?_)
  unfold textF at h
  refine cond_intro (fun he => ?_) fun he => ?_
  · rw [if_pos (by simpa using he)] at h; exact h
  · have he : (allS s).2.2 = 0 := by simpa using he
    rw [if_neg (fun c => c he)] at h
    obtain ⟨hne, hlen⟩ := allS_ok s he
    have hN : (toksF s).length < 1000000 := by unfold toksF; rw [List.length_map]; omega
    have hne : toksF s ≠ [] := by unfold toksF; simpa using hne
    show V_R11_Unit (toksF s) _
    refine runit_v TM hN _ ?_
    refine ⟨fun L A E => K ⟨L, A, E⟩, cond_intro (fun hu => ?_) (fun hu => ?_), fun _ _ _ h => h⟩
    · have hu : (unitF TM (toksF s)).e_ ≠ 0 := by simpa using hu
      rw [if_pos hu] at h
      refine last_bd hne (unit_at TM _).1 (fun a => K ⟨(unitF TM (toksF s)).l, a, (unitF TM (toksF s)).e_⟩) ?_ hN
      rw [unit_l TM _ hu]; exact h
    · have hu : (unitF TM (toksF s)).e_ = 0 := by simpa using hu
      rw [if_neg (fun c => c hu)] at h
      show K ⟨_, _, _⟩
      rw [unit_0 TM _ hu, hu]; exact h
def txA : List UInt8 := [109, 97, 105, 110, 32, 123, 32, 125]
def txB : List UInt8 := [109, 97, 105, 110, 32, 123, 32, 99, 32, 33, 32, 59, 32, 125]
theorem txA_is : textF txA = ⟨[⟨42, [], 0, 1, 0⟩, ⟨41, [], 0, 1, 0⟩, ⟨32, [], 0, 0, 5⟩], 0, 0⟩ := by kernel_rfl
theorem txB_is : textF txB = ⟨[], 11, 11⟩ := by kernel_rfl
theorem live_v (K : Bool → Prop) (h : K true) : V_L11_live K := by
  refine L11_live_lift _ (text_v txA _ (text_v txB _ ?_))
  rw [txA_is, txB_is]
  refine cond_t rfl ⟨⟨by decide, by decide⟩, fun x hx => ?_⟩
  cases hx
  exact cond_t rfl (cond_t rfl (cond_t rfl (cond_t rfl h)))
end Go.Proofs.Ytdbdkdmgfiiljaa
namespace Go.Proofs.Ytdbdkdmgfiiljaa
open Go.Vc Go.Lv Go.Ty Go.Tk Go.Tm
def wr (n : Nat) : Int := IntKind.i64.wrap (n : Int)
theorem wr_in {n : Nat} (h : n < 2 ^ 40) : wr n = n := wrap_in (by omega) (by omega)
inductive OkN : UInt8 → GNode → List UInt8 → Prop
  | num (n a : Int) : 0 ≤ n → n ≤ 999999999999999999 → OkN 69 ⟨1, [], n, 0, a⟩ []
  | name (s : Str) (a : Int) : Tk.nameS s = true → OkN 69 ⟨2, s, 0, 0, a⟩ []
  | un (op a : Int) : op = 3 ∨ op = 4 → OkN 69 ⟨op, [], 0, 1, a⟩ [69]
  | bin (op a : Int) : 5 ≤ op → op ≤ 17 → OkN 69 ⟨op, [], 0, 2, a⟩ [69, 69]
  | set (op : Int) (s : Str) (a : Int) : op = 18 ∨ op = 19 ∨ op = 20 → Tk.nameS s = true → OkN 83 ⟨op, s, 0, 1, a⟩ [69]
  | send (a : Int) : OkN 83 ⟨21, [], 0, 2, a⟩ [82, 69]
  | recv (s : Str) (a : Int) : Tk.nameS s = true → OkN 83 ⟨22, s, 0, 1, a⟩ [82]
  | if2 (a : Int) : OkN 83 ⟨23, [], 0, 2, a⟩ [69, 66]
  | if3 (a : Int) : OkN 83 ⟨23, [], 0, 3, a⟩ [69, 66, 66]
  | whil (a : Int) : OkN 83 ⟨24, [], 0, 2, a⟩ [69, 66]
  | sel (k : Nat) (a : Int) : 1 ≤ k → OkN 83 ⟨25, [], 0, wr k, a⟩ (List.replicate k 67)
  | start (s : Str) (k : Nat) (a : Int) : Tk.nameS s = true → OkN 83 ⟨26, s, 0, wr k, a⟩ (List.replicate k 69)
  | one (op a : Int) : op = 27 ∨ op = 28 ∨ op = 29 → OkN 83 ⟨op, [], 0, 1, a⟩ [69]
  | none (op a : Int) : op = 30 ∨ op = 31 → OkN 83 ⟨op, [], 0, 0, a⟩ []
  | els (a : Int) : OkN 67 ⟨37, [], 0, 1, a⟩ [66]
  | clause (op : Int) (s : Str) (a : Int) (w : Bool) (ds : List UInt8) : (op = 34 ∧ Tk.nameS s = true ∧ ds = [82, 66]) ∨ (op = 35 ∧ s = [] ∧ ds = [82, 69, 66]) ∨ (op = 36 ∧ s = [] ∧ ds = [69, 66]) →
      OkN 67 ⟨op, s, (if w then 1 else 0), wr ((if w then [69] else []) ++ ds).length, a⟩ ((if w then [69] else []) ++ ds)
  | ref0 (s : Str) (a : Int) : Tk.nameS s = true → OkN 82 ⟨33, s, 0, 0, a⟩ []
  | ref1 (s : Str) (a : Int) : Tk.nameS s = true → OkN 82 ⟨33, s, 0, 1, a⟩ [69]
  | block (k : Nat) (a : Int) : OkN 66 ⟨32, [], 0, wr k, a⟩ (List.replicate k 83)
  | param (s : Str) (a : Int) : Tk.nameS s = true → OkN 80 ⟨39, s, 0, 0, a⟩ []
  | unit (k : Nat) (a : Int) : OkN 85 ⟨42, [], 0, wr k, a⟩ (List.replicate k 68)
  | chan (s : Str) (n a : Int) : Tk.nameS s = true → 0 ≤ n → n ≤ 16 → OkN 68 ⟨38, s, n, 0, a⟩ []
  | main (a : Int) : OkN 68 ⟨41, [], 0, 1, a⟩ [66]
  | proc (s : Str) (k : Nat) (a : Int) : Tk.nameS s = true → OkN 68 ⟨40, s, 0, wr (k + 1), a⟩ (List.replicate k 80 ++ [66])
inductive Wf : List UInt8 → List GNode → Prop
  | nil : Wf [] []
  | cons {c : UInt8} {x : GNode} {ds cs : List UInt8} {a b : List GNode} : OkN c x ds → Wf ds a → Wf cs b → Wf (c :: cs) (x :: (a ++ b))
theorem Wf.one {c : UInt8} {x : GNode} {ds : List UInt8} {a : List GNode} (h : OkN c x ds) (k : Wf ds a) : Wf [c] (x :: a) := by
  have := Wf.cons h k .nil
  rwa [List.append_nil] at this
theorem Wf.app {cs ds : List UInt8} {a b : List GNode} (h : Wf cs a) (k : Wf ds b) : Wf (cs ++ ds) (a ++ b) := by
  induction h with
  | nil => exact k
  | cons ho h1 h2 _ ih2 =>
    rw [List.cons_append, List.cons_append, List.append_assoc]
    exact .cons ho h1 ih2
theorem Wf.len {cs : List UInt8} {a : List GNode} (h : Wf cs a) : cs.length ≤ a.length := by
  induction h with
  | nil => exact Nat.le_refl _
  | cons _ _ _ _ ih2 =>
    simp only [List.length_cons, List.length_append]
    omega
theorem nameS_len {s : Str} (h : Tk.nameS s = true) : s.length ≤ 16 := by
  cases s with
  | nil => simp
  | cons c l =>
    rw [nameS_cons] at h
    exact of_decide_eq_true (Bool.and_eq_true_iff.1 h).1
theorem nm_v (s : Str) (hs : s.length < 2 ^ 40) (K : Bool → Prop) (h : K (Tk.nameS s)) : V_R08_Name s K := fun _ w _ =>
  (rName_spec s hs w).mono (ret_mono fun _ _ ⟨hv, he⟩ => ⟨_, h, hv, Keep.ofExt he⟩)
theorem name_v (x : GNode) (k : Int) (hs : x.name.length < 2 ^ 40) (K : Bool → Prop) (h : K (Tk.nameS x.name && (x.n == 0 && x.kids == k))) : V_R09_name x k K := by
  refine R09_name_lift _ _ _ (nm_v _ hs _ (cond_intro (fun h1 => cond_intro (fun h2 => ?_) fun h2 => ?_) fun h1 => ?_))
  · rw [h1, h2] at h; exact h
  · rw [h1, h2] at h; exact h
  · rw [h1] at h; exact h
theorem bare_v (x : GNode) (k : Int) (K : Bool → Prop) (h : K (x.name == [] && (x.n == 0 && x.kids == k))) : V_R09_bare x k K := by
  refine R09_bare_lift _ _ _ (cond_intro (fun h1 => cond_intro (fun h2 => ?_) fun h2 => ?_) fun h1 => ?_)
  · rw [h1, h2] at h; exact h
  · rw [h1, h2] at h; exact h
  · rw [h1] at h; exact h
theorem name_t (x : GNode) (k : Int) (hs : Tk.nameS x.name = true) (hn : x.n = 0) (hk : x.kids = k) (K : Bool → Prop) (h : K true) : V_R09_name x k K := by
  refine name_v x k (by have := nameS_len hs; omega) K ?_
  rw [hs, hn, hk]; simpa using h
theorem bare_t (op n k a : Int) (hn : n = 0) (K : Bool → Prop) (h : K true) : V_R09_bare ⟨op, [], n, k, a⟩ k K := by
  refine bare_v _ k K ?_
  rw [hn]; simpa using h
section
variable {l : List GNode}
def PV (l : List GNode) (i : Nat) (c : UInt8) (m : Nat) : Prop := ∀ K : GR09_Cur → Prop, K ⟨(m : Int), true⟩ → V_R09_Piece l i [c] K
def Seq (l : List GNode) : List UInt8 → Nat → Nat → Prop
  | [], i, j => i = j
  | c :: cs, i, j => ∃ m, PV l i c m ∧ Seq l cs m j
theorem Seq.split : ∀ {cs ds : List UInt8} {i j : Nat}, Seq l (cs ++ ds) i j → ∃ m, Seq l cs i m ∧ Seq l ds m j
  | [], _, i, _, h => ⟨i, rfl, h⟩
  | _ :: _, _, _, _, ⟨m, h1, h2⟩ => let ⟨m', h3, h4⟩ := Seq.split h2; ⟨m', ⟨m, h1, h3⟩, h4⟩
theorem row_v {cs : List UInt8} (hN : cs.length < 2 ^ 40) {i j : Nat} (h : Seq l cs i j) (K : GR09_Cur → Prop) (hK : K ⟨(j : Int), true⟩) : V_R09_row l ⟨(i : Int), true⟩ cs K := by
  refine R09_row_lift _ _ _ _ ⟨fun k At Ok n => ∃ k' m : Nat, k = k' ∧ k' ≤ cs.length ∧ n = cs.length - k' ∧ Ok = true ∧ At = m ∧ Seq l (cs.drop k') m j, ⟨_, 0, i, rfl, Nat.zero_le _, rfl, rfl, rfl, h⟩, ?_⟩
  rintro _ _ _ _ ⟨k, m, rfl, hk, rfl, rfl, rfl, hs⟩
  refine ⟨fun b => b = decide (k < cs.length), cond_intro (fun hc => ?_) (fun hc => ?_), ?_⟩
  · show true = _
    exact (decide_eq_true (by have := of_decide_eq_true hc; omega)).symm
  · show false = _
    exact (decide_eq_false (by have := of_decide_eq_false hc; omega)).symm
  rintro _ rfl
  refine cond_intro (fun hc => ?_) fun hc => ?_
  · have hc := of_decide_eq_true hc
    rw [List.drop_eq_getElem_cons hc] at hs
    obtain ⟨m', h1, h2⟩ := hs
    have hw : IntKind.i64.wrap ((k : Int) + 1) = ((k + 1 : Nat) : Int) := by rw [wrap_in (by omega) (by omega)]; omega
    rw [hw, Int.toNat_natCast, Int.toNat_natCast]
    have hcl : (cs.take (k + 1)).drop k = [cs[k]] := by
      rw [List.take_succ_eq_append_getElem hc, List.drop_append, List.drop_of_length_le (by rw [List.length_take]; exact Nat.min_le_left _ _), List.length_take, Nat.min_eq_left (by omega)]; simp
    rw [hcl]
    refine ⟨fun At Ok => At = (m' : Int) ∧ Ok = true, ⟨⟨⟨by omega, by omega⟩, by omega, by omega⟩, h1 _ ⟨rfl, rfl⟩⟩, ?_⟩
    rintro _ _ ⟨rfl, rfl⟩
    exact ⟨_, by omega, k + 1, m', rfl, by omega, rfl, rfl, rfl, h2⟩
  · have hc := of_decide_eq_false hc
    rw [List.drop_of_length_le (by omega)] at hs
    have hs : m = j := hs
    subst hs; exact hK
theorem all_v' {c : UInt8} {n : Nat} (hN : n < 2 ^ 40) {i j : Nat} (h : Seq l (List.replicate n c) i j) (K : GR09_Cur → Prop) (hK : K ⟨(j : Int), true⟩) : V_R09_all l ⟨(i : Int), true⟩ [c] (n : Int) K := by
  refine R09_all_lift _ _ _ _ _ ⟨fun k At Ok r => ∃ k' m : Nat, k = k' ∧ k' ≤ n ∧ r = n - k' ∧ Ok = true ∧ At = m ∧ Seq l (List.replicate (n - k') c) m j, ⟨_, 0, i, rfl, Nat.zero_le _, rfl, rfl, rfl, h⟩, ?_⟩
  rintro _ _ _ _ ⟨k, m, rfl, hk, rfl, rfl, rfl, hs⟩
  refine ⟨fun b => b = decide (k < n), cond_intro (fun hc => ?_) (fun hc => ?_), ?_⟩
  · show true = _
    exact (decide_eq_true (by have := of_decide_eq_true hc; omega)).symm
  · show false = _
    exact (decide_eq_false (by have := of_decide_eq_false hc; omega)).symm
  rintro _ rfl
  refine cond_intro (fun hc => ?_) fun hc => ?_
  · have hc := of_decide_eq_true hc
    rw [show n - k = (n - (k + 1)) + 1 by omega, List.replicate_succ] at hs
    obtain ⟨m', h1, h2⟩ := hs
    have hw : IntKind.i64.wrap ((k : Int) + 1) = ((k + 1 : Nat) : Int) := by rw [wrap_in (by omega) (by omega)]; omega
    rw [hw]
    exact h1 _ ⟨n - (k + 1), by omega, k + 1, m', rfl, by omega, rfl, rfl, rfl, h2⟩
  · have hc := of_decide_eq_false hc
    rw [show n - k = 0 by omega] at hs
    have hs : m = j := hs
    subst hs; exact hK
theorem term_ok {x : GNode} {ds : List UInt8} (ho : OkN 69 x ds) {no : GR09_Cur} {i j : Nat} (hs : Seq l ds i j) (K : GR09_Cur → Prop) (hK : K ⟨(j : Int), true⟩) : V_R09_term l x no ⟨(i : Int), true⟩ K := by
  refine R09_term_lift _ _ _ _ _ ?_
  cases ho with
  | num n a h1 h2 =>
    have hs : i = j := hs
    subst hs
    refine ⟨(· = true), cond_t rfl (cond_t rfl (cond_t rfl (cond_t (decide_eq_true h1) (decide_eq_true h2)))), ?_⟩
    rintro _ rfl
    exact hK
  | name s a h =>
    have hs : i = j := hs
    subst hs
    refine ⟨(· = false), cond_f rfl rfl, ?_⟩
    rintro _ rfl
    refine ⟨(· = true), cond_t rfl (name_t _ _ h rfl rfl _ rfl), ?_⟩
    rintro _ rfl
    exact hK
  | un op a h =>
    refine ⟨(· = false), cond_f (by rcases h with rfl | rfl <;> rfl) rfl, ?_⟩
    rintro _ rfl
    refine ⟨(· = false), cond_f (by rcases h with rfl | rfl <;> rfl) rfl, ?_⟩
    rintro _ rfl
    refine ⟨(· = true), ?_, ?_⟩
    · rcases h with rfl | rfl
      · exact cond_t rfl (bare_t _ _ _ _ rfl _ rfl)
      · exact cond_f rfl (cond_t rfl (bare_t _ _ _ _ rfl _ rfl))
    · rintro _ rfl
      exact row_v (by decide) hs K hK
  | bin op a h1 h2 =>
    refine ⟨(· = false), cond_f (by simp; omega) rfl, ?_⟩
    rintro _ rfl
    refine ⟨(· = false), cond_f (by simp; omega) rfl, ?_⟩
    rintro _ rfl
    refine ⟨(· = false), cond_f (by simp; omega) (cond_f (by simp; omega) rfl), ?_⟩
    rintro _ rfl
    refine ⟨(· = true), cond_t (decide_eq_true h1) (cond_t (decide_eq_true h2) (bare_t _ _ _ _ rfl _ rfl)), ?_⟩
    rintro _ rfl
    exact row_v (by decide) hs K hK
theorem stmt_ok {x : GNode} {ds : List UInt8} (ho : OkN 83 x ds) (hN : ds.length < 2 ^ 40) {no : GR09_Cur} {i j : Nat} (hs : Seq l ds i j) (K : GR09_Cur → Prop) (hK : K ⟨(j : Int), true⟩) : V_R09_stmt l x no ⟨(i : Int), true⟩ K := by
  refine R09_stmt_lift _ _ _ _ _ ⟨fun _ _ => False, ?_, fun _ _ h => h.elim⟩
  cases ho with
  | set op s a h hn =>
    refine ⟨(· = true), by rcases h with rfl | rfl | rfl; exact cond_t rfl rfl; exact cond_f rfl (cond_t rfl rfl); exact cond_f rfl (cond_f rfl rfl), ?_⟩
    rintro _ rfl
    exact name_t _ _ hn rfl rfl _ (cond_t rfl (row_v hN hs K hK))
  | send a =>
    refine ⟨(· = false), cond_f rfl (cond_f rfl rfl), ?_⟩
    rintro _ rfl
    exact cond_f rfl (cond_t rfl (bare_t _ _ _ _ rfl _ (cond_t rfl (row_v hN hs K hK))))
  | recv s a hn =>
    refine ⟨(· = false), cond_f rfl (cond_f rfl rfl), ?_⟩
    rintro _ rfl
    exact cond_f rfl (cond_f rfl (cond_t rfl (name_t _ _ hn rfl rfl _ (cond_t rfl (row_v hN hs K hK)))))
  | if2 a =>
    refine ⟨(· = false), cond_f rfl (cond_f rfl rfl), ?_⟩
    rintro _ rfl
    exact cond_f rfl (cond_f rfl (cond_f rfl (cond_t rfl (bare_t _ _ _ _ rfl _ (cond_t rfl (row_v hN hs K hK))))))
  | if3 a =>
    refine ⟨(· = false), cond_f rfl (cond_f rfl rfl), ?_⟩
    rintro _ rfl
    exact cond_f rfl (cond_f rfl (cond_f rfl (cond_t rfl (bare_v _ _ _ (cond_f rfl (bare_t _ _ _ _ rfl _ (cond_t rfl (row_v hN hs K hK))))))))
  | whil a =>
    refine ⟨(· = false), cond_f rfl (cond_f rfl rfl), ?_⟩
    rintro _ rfl
    exact cond_f rfl (cond_f rfl (cond_f rfl (cond_f rfl (cond_t rfl (bare_t _ _ _ _ rfl _ (cond_t rfl (row_v hN hs K hK)))))))
  | sel k a h =>
    rw [List.length_replicate] at hN
    rw [wr_in hN]
    refine ⟨(· = false), cond_f rfl (cond_f rfl rfl), ?_⟩
    rintro _ rfl
    refine cond_f rfl (cond_f rfl (cond_f rfl (cond_f rfl (cond_f rfl (cond_t rfl ⟨(· = true), cond_t (decide_eq_true (by dsimp only; omega)) (bare_t _ _ _ _ rfl _ rfl), ?_⟩)))))
    rintro _ rfl
    exact all_v' hN hs K hK
  | start s k a hn =>
    rw [List.length_replicate] at hN
    rw [wr_in hN]
    refine ⟨(· = false), cond_f rfl (cond_f rfl rfl), ?_⟩
    rintro _ rfl
    refine cond_f rfl (cond_f rfl (cond_f rfl (cond_f rfl (cond_f rfl (cond_f rfl (cond_t rfl ⟨(· = true), cond_t (decide_eq_true (by dsimp only; omega)) (name_t _ _ hn rfl rfl _ rfl), ?_⟩))))))
    rintro _ rfl
    exact all_v' hN hs K hK
  | one op a h =>
    refine ⟨(· = false), by rcases h with rfl | rfl | rfl <;> exact cond_f rfl (cond_f rfl rfl), ?_⟩
    rintro _ rfl
    have hb : ∀ y : Int, y < 27 → (op == y) = false := fun y hy => by simp; omega
    refine cond_f rfl (cond_f (hb 21 (by decide)) (cond_f (hb 22 (by decide)) (cond_f (hb 23 (by decide)) (cond_f (hb 24 (by decide)) (cond_f (hb 25 (by decide)) (cond_f (hb 26 (by decide)) ⟨(· = true), by rcases h with rfl | rfl | rfl; exact cond_t rfl rfl; exact cond_f rfl (cond_t rfl rfl); exact cond_f rfl (cond_f rfl rfl), ?_⟩))))))
    rintro _ rfl
    exact cond_t rfl (bare_t _ _ _ _ rfl _ (cond_t rfl (row_v hN hs K hK)))
  | none op a h =>
    have hs : i = j := hs
    subst hs
    refine ⟨(· = false), by rcases h with rfl | rfl <;> exact cond_f rfl (cond_f rfl rfl), ?_⟩
    rintro _ rfl
    have hb : ∀ y : Int, y < 27 → (op == y) = false := fun y hy => by simp; omega
    refine cond_f rfl (cond_f (hb 21 (by decide)) (cond_f (hb 22 (by decide)) (cond_f (hb 23 (by decide)) (cond_f (hb 24 (by decide)) (cond_f (hb 25 (by decide)) (cond_f (hb 26 (by decide)) ⟨(· = false), by rcases h with rfl | rfl <;> exact cond_f rfl (cond_f rfl rfl), ?_⟩))))))
    rintro _ rfl
    refine cond_f rfl ⟨(· = true), by rcases h with rfl | rfl; exact cond_t rfl rfl; exact cond_f rfl rfl, ?_⟩
    rintro _ rfl
    exact cond_t rfl (bare_t _ _ _ _ rfl _ (cond_t rfl hK))
theorem clause_ok {x : GNode} {ds : List UInt8} (ho : OkN 67 x ds) {no : GR09_Cur} {i j : Nat} (hs : Seq l ds i j) (K : GR09_Cur → Prop) (hK : K ⟨(j : Int), true⟩) : V_R09_clause l x no ⟨(i : Int), true⟩ K := by
  refine R09_clause_lift _ _ _ _ _ ?_
  cases ho with
  | els a => exact cond_t rfl (bare_t _ _ _ _ rfl _ (cond_t rfl (row_v (by decide) hs K hK)))
  | clause op s a w ds h =>
    refine cond_f (by rcases h with h | h | h <;> (rw [h.1]; rfl)) ⟨fun want _ _ => want = ds, ?_, ?_⟩
    · rcases h with ⟨rfl, _, rfl⟩ | ⟨rfl, _, rfl⟩ | ⟨rfl, _, rfl⟩
      · exact cond_t rfl rfl
      · exact cond_f rfl (cond_t rfl rfl)
      · exact cond_f rfl (cond_f rfl (cond_t rfl rfl))
    · intro want _ _ hwn
      have hwn := hwn.symm
      subst hwn
      have hd3 : ds.length ≤ 3 := by rcases h with ⟨_, _, rfl⟩ | ⟨_, _, rfl⟩ | ⟨_, _, rfl⟩ <;> decide
      refine ⟨fun want => want = (if w then [69] else []) ++ ds, ?_, ?_⟩
      · cases w with
        | true => exact cond_t rfl ⟨by have : IntKind.i64.max = 9223372036854775807 := rfl
                                       simp only [List.length_cons, List.length_nil]; omega, rfl⟩
        | false => exact cond_f rfl rfl
      rintro _ rfl
      have hl : ((if w = true then [69] else []) ++ ds).length < 2 ^ 40 := by cases w <;> simp <;> omega
      rw [wr_in hl]
      have hsl : s.length < 2 ^ 40 := by
        rcases h with ⟨_, h, _⟩ | ⟨_, rfl, _⟩ | ⟨_, rfl, _⟩
        · have := nameS_len h; omega
        · decide
        · decide
      refine ⟨(· = false), cond_f (by cases w <;> rfl) (cond_f (by cases w <;> rfl) (cond_f (by simp) (nm_v _ hsl _ ?_))), ?_⟩
      · rcases h with ⟨rfl, hn, _⟩ | ⟨rfl, rfl, _⟩ | ⟨rfl, rfl, _⟩
        · exact cond_f (by rw [hn]; rfl) (cond_f rfl rfl)
        · exact cond_f rfl (cond_t rfl rfl)
        · exact cond_f rfl (cond_t rfl rfl)
      rintro _ rfl
      exact row_v hl hs K hK
theorem node_ok (hN : l.length < 2 ^ 40) {c : UInt8} {x : GNode} {ds : List UInt8} (ho : OkN c x ds) {i j : Nat} (hx : l[i]? = some x) (hd : ds.length < 2 ^ 40) (hs : Seq l ds (i + 1) j) : PV l i c j := by
  intro K hK
  have hlt := (List.getElem?_eq_some_iff.1 hx).1
  refine R09_Piece_lift _ _ _ _ (cond_f (by simp; omega) ⟨⟨by omega, by omega⟩, fun y hy => ?_⟩)
  rw [Int.toNat_natCast, hx] at hy
  cases hy
  have hw : IntKind.i64.wrap ((i : Int) + 1) = ((i + 1 : Nat) : Int) := by rw [wrap_in (by omega) (by omega)]; omega
  rw [hw]
  refine ⟨fun _ _ => False, ?_, fun _ _ h => h.elim⟩
  cases ho with
  | num n a h1 h2 => exact cond_t rfl (term_ok (.num n a h1 h2) hs K hK)
  | name s a h => exact cond_t rfl (term_ok (.name s a h) hs K hK)
  | un op a h => exact cond_t rfl (term_ok (.un op a h) hs K hK)
  | bin op a h1 h2 => exact cond_t rfl (term_ok (.bin op a h1 h2) hs K hK)
  | set op s a h hn => exact cond_f rfl (cond_t rfl (stmt_ok (.set op s a h hn) hd hs K hK))
  | send a => exact cond_f rfl (cond_t rfl (stmt_ok (.send a) hd hs K hK))
  | recv s a h => exact cond_f rfl (cond_t rfl (stmt_ok (.recv s a h) hd hs K hK))
  | if2 a => exact cond_f rfl (cond_t rfl (stmt_ok (.if2 a) hd hs K hK))
  | if3 a => exact cond_f rfl (cond_t rfl (stmt_ok (.if3 a) hd hs K hK))
  | whil a => exact cond_f rfl (cond_t rfl (stmt_ok (.whil a) hd hs K hK))
  | sel k a h => exact cond_f rfl (cond_t rfl (stmt_ok (.sel k a h) hd hs K hK))
  | start s k a h => exact cond_f rfl (cond_t rfl (stmt_ok (.start s k a h) hd hs K hK))
  | one op a h => exact cond_f rfl (cond_t rfl (stmt_ok (.one op a h) hd hs K hK))
  | none op a h => exact cond_f rfl (cond_t rfl (stmt_ok (.none op a h) hd hs K hK))
  | els a => exact cond_f rfl (cond_f rfl (cond_t rfl (clause_ok (.els a) hs K hK)))
  | clause op s a w ds h => exact cond_f rfl (cond_f rfl (cond_t rfl (clause_ok (.clause op s a w ds h) hs K hK)))
  | ref0 s a h =>
    refine cond_f rfl (cond_f rfl (cond_f rfl (cond_t rfl ⟨(· = true), cond_t rfl (name_t _ _ h rfl rfl _ (cond_t rfl rfl)), ?_⟩)))
    rintro _ rfl
    exact all_v' (n := 0) (by decide) hs K hK
  | ref1 s a h =>
    refine cond_f rfl (cond_f rfl (cond_f rfl (cond_t rfl ⟨(· = true), cond_t rfl (name_v _ _ (by have := nameS_len h; dsimp only; omega) _ (cond_f (by simp) (name_t _ _ h rfl rfl _ rfl))), ?_⟩)))
    rintro _ rfl
    exact all_v' (n := 1) (by decide) hs K hK
  | block k a =>
    rw [List.length_replicate] at hd
    rw [wr_in hd]
    refine cond_f rfl (cond_f rfl (cond_f rfl (cond_f rfl (cond_t rfl ⟨(· = true), cond_t rfl (cond_t (decide_eq_true (by dsimp only; omega)) (bare_t _ _ _ _ rfl _ rfl)), ?_⟩))))
    rintro _ rfl
    exact all_v' hd hs K hK
  | param s a h =>
    have hs : i + 1 = j := hs
    subst hs
    refine cond_f rfl (cond_f rfl (cond_f rfl (cond_f rfl (cond_f rfl (cond_t rfl ⟨(· = true), cond_t rfl (name_t _ _ h rfl rfl _ rfl), ?_⟩)))))
    rintro _ rfl
    exact hK
  | unit k a =>
    rw [List.length_replicate] at hd
    rw [wr_in hd]
    refine cond_f rfl (cond_f rfl (cond_f rfl (cond_f rfl (cond_f rfl (cond_f rfl (cond_t rfl ⟨(· = true), cond_t rfl (cond_t (decide_eq_true (by dsimp only; omega)) (bare_t _ _ _ _ rfl _ rfl)), ?_⟩))))))
    rintro _ rfl
    exact all_v' hd hs K hK
  | chan s n a h h1 h2 =>
    have hs : i + 1 = j := hs
    subst hs
    refine cond_f rfl (cond_f rfl (cond_f rfl (cond_f rfl (cond_f rfl (cond_f rfl (cond_f rfl (cond_t rfl (cond_t rfl ⟨(· = true), nm_v _ (by have := nameS_len h; dsimp only; omega) _ (cond_t h (cond_t rfl (cond_t (decide_eq_true h1) (decide_eq_true h2)))), ?_⟩))))))))
    rintro _ rfl
    exact hK
  | main a =>
    exact cond_f rfl (cond_f rfl (cond_f rfl (cond_f rfl (cond_f rfl (cond_f rfl (cond_f rfl (cond_t rfl (cond_f rfl (cond_t rfl (bare_t _ _ _ _ rfl _ (cond_t rfl (row_v hd hs K hK))))))))))))
  | proc s k a h =>
    rw [List.length_append, List.length_replicate] at hd
    have hd : k + 1 < 2 ^ 40 := hd
    rw [wr_in hd]
    obtain ⟨m, h1, h2⟩ := Seq.split hs
    refine cond_f rfl (cond_f rfl (cond_f rfl (cond_f rfl (cond_f rfl (cond_f rfl (cond_f rfl (cond_t rfl (cond_f rfl (cond_f rfl (cond_t rfl ⟨(· = true), cond_t (decide_eq_true (by dsimp only; omega)) (name_t _ _ h rfl rfl _ rfl), ?_⟩))))))))))
    rintro _ rfl
    refine cond_t rfl ?_
    have hw1 : IntKind.i64.wrap (((k + 1 : Nat) : Int) - 1) = (k : Int) := by rw [wrap_in (by omega) (by omega)]; omega
    show V_R09_all l _ [80] (IntKind.i64.wrap (((k + 1 : Nat) : Int) - 1)) _
    rw [hw1]
    exact all_v' (by omega) h1 _ (row_v (by decide) h2 K hK)
theorem walk_ok (hN : l.length < 2 ^ 40) {cs : List UInt8} {a : List GNode} (h : Wf cs a) : ∀ pre post : List GNode, l = pre ++ (a ++ post) → Seq l cs pre.length (pre.length + a.length) := by
  induction h with
  | nil => intro pre post _; rfl
  | @cons c x ds cs a b ho h1 _ ih1 ih2 =>
    intro pre post hl
    have e1 : l = (pre ++ [x]) ++ (a ++ (b ++ post)) := by rw [hl]; simp
    have e2 : l = (pre ++ x :: a) ++ (b ++ post) := by rw [hl]; simp
    have s1 := ih1 _ _ e1
    have s2 := ih2 _ _ e2
    have hx : l[pre.length]? = some x := by rw [hl]; simp
    have hlen := congrArg List.length hl
    have hdl := h1.len
    simp only [List.length_append, List.length_cons, List.length_nil] at s1 s2 hlen ⊢
    refine ⟨pre.length + (a.length + 1), ?_, ?_⟩
    · exact node_ok hN ho hx (by omega) (by rw [show pre.length + (a.length + 1) = pre.length + (0 + 1) + a.length by omega]; exact s1)
    · rw [show pre.length + (a.length + b.length + 1) = pre.length + (a.length + 1) + b.length by omega]
      exact s2
theorem is_v (hN : l.length < 2 ^ 40) (h : Wf [85] l) (K : Bool → Prop) (hK : K true) : V_R09_Is l K := by
  obtain ⟨m, h1, h2⟩ := walk_ok hN h [] [] (by simp)
  have h2 : m = 0 + l.length := h2
  rw [Nat.zero_add] at h2
  subst h2
  refine R09_Is_lift _ _ (R09_Check_lift _ _ (h1 _ ⟨(· = true), cond_t rfl (by simp), ?_⟩))
  rintro _ rfl
  exact hK
end
end Go.Proofs.Ytdbdkdmgfiiljaa
namespace Go.Proofs.Ytdbdkdmgfiiljaa
open Go.Vc Go.Lv Go.Ty Go.Tk Go.Tm
def TokOk (t : Tok) : Prop := (t.kind = 1 → Tk.nameS t.text = true) ∧ (t.kind = 2 → 0 ≤ t.n ∧ t.n ≤ 999999999999999999)
theorem takeWhile_sub {p : UInt8 → Bool} : ∀ (l : List UInt8), ∀ c ∈ l.takeWhile p, p c = true
  | [], c, h => by simp at h
  | a :: l, c, h => by
    rw [List.takeWhile_cons] at h
    split at h
    · rename_i ha
      rcases List.mem_cons.1 h with rfl | h
      · exact ha
      · exact takeWhile_sub l c h
    · simp at h
theorem tokAt_ok (l : List UInt8) (p : Nat) : TokOk (tokAt l p).1 := by
  have hz : TokOk Tok.zero := ⟨fun h => (by cases h), fun h => (by cases h)⟩
  cases l with
  | nil => exact ⟨fun h => (by cases h), fun h => (by cases h)⟩
  | cons c l =>
    rw [tokAt_cons]
    split
    · rename_i hl
      split
      · exact hz
      · rename_i h16
        refine ⟨fun hk => ?_, fun hk => ?_⟩
        · have hw : decide ((c :: l).takeWhile Tk.wordC ∈ words) = false := by
            cases h : decide ((c :: l).takeWhile Tk.wordC ∈ words) with
            | false => rfl
            | true => dsimp only at hk; rw [h] at hk; cases hk
          dsimp only
          have hcw : Tk.wordC c = true := by
            have h2 : letC c = true := hl
            unfold Tk.wordC wordN
            unfold letC at h2
            rw [h2]; rfl
          have hall := takeWhile_sub (p := Tk.wordC) (c :: l)
          rw [List.takeWhile_cons, if_pos hcw] at h16 hw hall ⊢
          rw [nameS_cons, decide_eq_true (by omega), show letC c = true from hl, hw]
          simpa using hcw
        · exfalso
          dsimp only at hk
          split at hk <;> cases hk
    · split
      · split
        · rename_i h0
          refine ⟨fun hk => (by cases hk), fun _ => ?_⟩
          dsimp only
          unfold numRes at h0 ⊢
          split at h0
          · cases h0
          · rename_i hc1
            rw [if_neg hc1]
            split at h0
            · cases h0
            · rename_i hc2
              rw [if_neg hc2]
              split at h0
              · cases h0
              · rename_i hc3
                rw [if_neg hc3]
                have := numVal_bd _ (takeWhile_sub (p := digC) (c :: l))
                have h18 : 10 ^ ((c :: l).takeWhile digC).length ≤ 10 ^ 18 := Nat.pow_le_pow_right (by decide) (by omega)
                dsimp only
                omega
        · exact hz
      · split
        · exact hz
        · exact ⟨fun h => (by cases h), fun h => (by cases h)⟩
theorem nextS_ok (s : List UInt8) (a : Int) : TokOk (nextS s a).1 := by
  unfold nextS
  split
  · exact ⟨fun h => (by cases h), fun h => (by cases h)⟩
  · exact tokAt_ok _ _
theorem allFrom_tok_ok (s : List UInt8) : ∀ (f k : Nat) (acc : List Tok), (∀ t ∈ acc, TokOk t) → ∀ t ∈ (allFrom s f k acc).1, TokOk t
  | 0, _, _, h => h
  | f + 1, k, acc, h => by
    have ha : ∀ t ∈ acc ++ [(nextS s k).1], TokOk t := fun t ht => by
      rcases List.mem_append.1 ht with ht | ht
      · exact h t ht
      · rw [List.mem_singleton.1 ht]; exact nextS_ok s k
    unfold allFrom
    split
    · intro t ht; simp at ht
    split
    · exact ha
    · exact allFrom_tok_ok s f _ _ ha
theorem allS_tok_ok (s : List UInt8) : ∀ t ∈ (allS s).1, TokOk t := by
  unfold allS
  split
  · intro t ht; simp at ht
  · exact allFrom_tok_ok s _ _ _ (fun t ht => by simp at ht)
def TksOk (toks : List GToken) : Prop := ∀ t ∈ toks, TokOk (tT t)
theorem toksF_ok (s : List UInt8) : TksOk (toksF s) := by
  intro t ht
  unfold toksF at ht
  obtain ⟨u, hu, rfl⟩ := List.mem_map.1 ht
  exact allS_tok_ok s u hu
theorem tokF_ok {toks : List GToken} (h : TksOk toks) (p : Int) : TokOk (tT (tokF toks p)) := by
  have hz : TokOk (tT ⟨0, [], 0, 0⟩) := ⟨fun h => (by cases h), fun h => (by cases h)⟩
  unfold tokF
  split
  · cases hq : toks[p.toNat]? with
    | none => exact hz
    | some t => exact h t (List.mem_of_getElem? hq)
  · exact hz
theorem T_ok {ts : List Tok} (h : ∀ t ∈ ts, TokOk t) (p : Nat) : TokOk (T ts p) := by
  unfold T
  rw [List.getD_eq_getElem?_getD]
  cases hq : ts[p]? with
  | none => exact ⟨fun h => (by cases h), fun h => (by cases h)⟩
  | some t => exact h t (List.mem_of_getElem? hq)
def TOk (r : Res) : Prop := r.e = 0 → Wf [69] (r.l.map gN)
theorem one_wf {ts : List Tok} (hT : ∀ t ∈ ts, TokOk t) {r1 rl : Nat → Nat → Option Res} (h1 : ∀ p d r, r1 p d = some r → TOk r) (hl : ∀ p d r, rl p d = some r → TOk r) {p d : Nat} {r : Res}
    (h : oneStep ts r1 rl p d = some r) : TOk r := by
  have ht := T_ok hT p
  unfold oneStep at h
  split at h
  · rename_i c
    cases h
    intro _
    exact .one (.num _ _ (ht.2 c).1 (ht.2 c).2) .nil
  split at h
  · rename_i c
    cases h
    intro _
    exact .one (.name _ _ (ht.1 c)) .nil
  split at h
  · split at h
    · cases h; intro h; cases h
    · obtain ⟨x, hx, rfl⟩ := Option.map_eq_some_iff.1 h
      have hk := h1 _ _ _ hx
      split
      · rename_i he
        intro _
        refine .one (.un _ _ ?_) (hk he)
        split
        · exact .inr rfl
        · exact .inl rfl
      · rename_i he
        exact fun h => absurd h he
  split at h
  · split at h
    · cases h; intro h; cases h
    · obtain ⟨x, hx, rfl⟩ := Option.map_eq_some_iff.1 h
      have hk := hl _ _ _ hx
      split
      · rename_i he
        exact fun h => absurd h he
      · rename_i he
        split
        · exact fun _ => hk (Classical.not_not.1 he)
        · intro h; cases h
  · cases h; intro h; cases h
theorem P_wf {ts : List Tok} (hT : ∀ t ∈ ts, TokOk t) : ∀ (f : Nat), (∀ p d r, P ts f (.one p d) = some r → TOk r) ∧ (∀ n p d r, P ts f (.lev n p d) = some r → TOk r) ∧
    (∀ n m d x r, P ts f (.loop n m d x) = some r → TOk x → TOk r) := by
  intro f
  induction f with
  | zero => exact ⟨fun _ _ _ h => by simp [P] at h, fun _ _ _ _ h => by simp [P] at h, fun _ _ _ _ _ h => by simp [P] at h⟩
  | succ f ih =>
    obtain ⟨ih1, ih2, ih3⟩ := ih
    refine ⟨fun p d r h => ?_, fun n p d r h => ?_, fun n m d x r h hx => ?_⟩
    · simp only [P] at h
      exact one_wf hT (fun p d r h => ih1 p d r h) (fun p d r h => ih2 1 p d r h) h
    · rw [P] at h
      obtain ⟨x, hx, hr⟩ := Option.bind_eq_some_iff.1 h
      exact ih3 _ _ _ _ _ hr (ih1 _ _ _ hx)
    · rw [P] at h
      split at h
      · cases h; exact hx
      rename_i he
      split at h
      · cases h; exact hx
      · rename_i c
        obtain ⟨y, hy, hr⟩ := Option.bind_eq_some_iff.1 h
        have hyk := ih2 _ _ _ _ hy
        split at hr
        · cases hr; exact hyk
        · rename_i hye
          refine ih3 _ _ _ _ _ hr fun _ => ?_
          have hm : mine ts x.at_ ≠ 0 := fun e => c (.inl e)
          have hop : 5 ≤ opOf (T ts x.at_).text ∧ opOf (T ts x.at_).text ≤ 17 := by
            rcases opOf_bd (T ts x.at_).text with h | h
            · exfalso
              apply hm
              unfold mine
              split
              · rw [h]; rfl
              · rfl
            · exact h
          have := (hx (Classical.not_not.1 he)).app (hyk (Classical.not_not.1 hye))
          show Wf [69] ((⟨_, [], 0, 2, _⟩ :: x.l ++ y.l).map gN)
          rw [List.cons_append, List.map_cons, List.map_append]
          exact .one (.bin _ _ hop.1 hop.2) this
theorem TM_wf {toks : List GToken} (hT : TksOk toks) (a : Int) (h : (TM.T toks a).2.2 = 0) : Wf [69] (TM.T toks a).1 := by
  have h : (parseOf (toks.map tT) a).e = 0 := h
  show Wf [69] ((parseOf (toks.map tT) a).l.map gN)
  by_cases h0 : a < 0
  · unfold parseOf at h; rw [if_pos h0] at h; cases h
  · exact (P_wf (fun t ht => by obtain ⟨u, hu, rfl⟩ := List.mem_map.1 ht; exact hT u hu) _).2.1 _ _ _ _ (parseOf_pos (toks.map tT) a h0) h
def Wk (φ : Prop) (Q : List UInt8 → Prop) (c : Cur) : Prop := c.e_ = 0 → φ ∧ ∃ cs, Q cs ∧ Wf cs c.l ∧ c.n = wr cs.length
def W1 (k : UInt8) (c : Cur) : Prop := c.e_ = 0 → Wf [k] c.l
theorem wr_succ (k : Nat) : IntKind.i64.wrap (wr k + 1) = wr (k + 1) := by
  unfold wr
  simp only [IntKind.wrap_i64]
  omega
section
variable {toks : List GToken} (hT : TksOk toks) {φ ψ : Prop} {Q Q' : List UInt8 → Prop} {c d : Cur} {blk : Int → Cur}
theorem wk_from (a : Int) : Wk True (· = []) (fromC a) := fun _ => ⟨trivial, [], rfl, .nil, rfl⟩
theorem Wk.imp (h : Wk φ Q c) (hQ : φ → ∀ cs, Q cs → Q' cs) : Wk φ Q' c := fun e => let ⟨h1, cs, h2, h3⟩ := h e; ⟨h1, cs, hQ h1 cs h2, h3⟩
theorem wk_eat (t : Str) (h : Wk φ Q c) : Wk φ Q (eatC toks t c) := by
  unfold eatC
  split
  · rename_i he
    split
    · exact fun _ => h he
    · intro e; cases e
  · exact h
include hT in
theorem wk_name (h : Wk φ Q c) : Wk (φ ∧ Tk.nameS (nameS toks c) = true) Q (nameC toks c) := by
  intro e
  by_cases he : c.e_ = 0
  · by_cases hk : (tokF toks c.at_).kind = 1
    · have h1 : nameC toks c = ⟨c.l, c.n, c.at_ + 1, 0⟩ := by unfold nameC; rw [if_pos he, if_pos hk]
      have h2 : nameS toks c = (tokF toks c.at_).text := by unfold nameS; rw [if_pos he, if_pos hk]
      obtain ⟨p, q⟩ := h he
      rw [h1, h2]
      exact ⟨⟨p, (tokF_ok hT c.at_).1 hk⟩, q⟩
    · unfold nameC at e; rw [if_pos he, if_neg hk] at e; cases e
  · unfold nameC at e; rw [if_neg he] at e; exact absurd e he
theorem wk_size (h : Wk φ Q c) : Wk (φ ∧ 0 ≤ sizeN toks c ∧ sizeN toks c ≤ 16) Q (sizeC toks c) := by
  intro e
  have hn : sizeN toks c = (tokF toks c.at_).n := by unfold sizeN; rw [if_pos e]
  rw [hn]
  unfold sizeC at e ⊢
  split at e
  · rename_i he
    rw [if_pos he]
    split at e
    · rename_i hk
      rw [if_pos hk]
      split at e
      · cases e
      · rename_i hr
        rw [if_neg hr]
        obtain ⟨p, q⟩ := h he
        exact ⟨⟨p, by omega, by omega⟩, q⟩
    · cases e
  · rename_i he; exact absurd e he
theorem wk_add {k : UInt8} (h : Wk φ Q c) (hd : W1 k d) (hQ : φ → ∀ cs, Q cs → Q' (cs ++ [k])) : Wk φ Q' (addC c d) := by
  unfold addC
  split
  · rename_i he
    intro e
    obtain ⟨p, cs, q, w, n⟩ := h he
    refine ⟨p, _, hQ p cs q, w.app (hd e), ?_⟩
    dsimp only
    rw [n, wr_succ, List.length_append]; rfl
  · rename_i he
    exact fun e => absurd e he
include hT in
theorem wk_term (h : Wk φ Q c) (hQ : φ → ∀ cs, Q cs → Q' (cs ++ [69])) : Wk φ Q' (termC TM toks c) :=
  wk_add h (d := ⟨_, _, _, _⟩) (fun e => TM_wf hT _ e) hQ
theorem w1_under {k : UInt8} {x : GNode} (h : Wk φ Q c) (ho : φ → ∀ cs, Q cs → OkN k ⟨x.op, x.name, x.n, wr cs.length, x.at_⟩ cs) : W1 k (underC c x) := by
  intro e
  obtain ⟨p, cs, q, w, n⟩ := h e
  show Wf [k] (⟨x.op, x.name, x.n, c.n, x.at_⟩ :: c.l)
  rw [n]
  exact .one (ho p cs q) w
theorem loop_P {P : Cur → Prop} {g : Cur → Bool} {b : Cur → Cur} (hb : ∀ c, P c → P (b c)) : ∀ (f : Nat) (c : Cur), P c → P (loopC g b f c)
  | 0, _, h => h
  | f + 1, c, h => by
    unfold loopC
    split
    · exact loop_P hb f _ (hb c h)
    · exact h
theorem rep_snoc (k : Nat) (x : UInt8) : List.replicate k x ++ [x] = List.replicate (k + 1) x := (List.replicate_succ' (n := k) (a := x)).symm
include hT in
theorem w1_ref (a : Int) : W1 82 (refC TM toks a) := by
  unfold refC refC1
  split
  · exact w1_under (wk_eat _ (wk_term hT (Q' := (· = [69])) (wk_eat _ (wk_name hT (wk_from a))) (fun _ cs h => by rw [h]; rfl))) (fun p cs h => by subst h; exact .ref1 _ _ p.2)
  · exact w1_under (wk_name hT (wk_from a)) (fun p cs h => by subst h; exact .ref0 _ _ p.2)
theorem w1_block {stmt : Int → Cur} (hs : ∀ a, W1 83 (stmt a)) (a : Int) : W1 66 (blockC toks stmt a) := by
  have h0 : Wk True (fun cs => ∃ k, cs = List.replicate k 83) (eatC toks sLB (fromC a)) := wk_eat _ ((wk_from a).imp (fun _ cs h => ⟨0, h⟩))
  refine w1_under (wk_eat _ (loop_P (P := Wk True (fun cs => ∃ k, cs = List.replicate k 83)) (fun c h => wk_add h (hs c.at_) ?_) _ _ h0)) ?_
  · rintro _ _ ⟨k, rfl⟩; exact ⟨k + 1, rep_snoc k 83⟩
  · rintro _ _ ⟨k, rfl⟩
    rw [List.length_replicate]
    exact .block k _
theorem wk_in (hb : ∀ a, W1 66 (blk a)) (h : Wk φ Q c) (hQ : φ → ∀ cs, Q cs → Q' (cs ++ [66])) : Wk φ Q' (inC blk c) := wk_add h (hb c.at_) hQ
structure CommW (φ : Prop) (cs : List UInt8) (s r : Int) (x : Comm) : Prop where
  w : x.c.e_ = 0 → φ ∧ ∃ ds, ((x.op = s ∧ x.name = [] ∧ ds = cs ++ [82, 69]) ∨ (x.op = r ∧ Tk.nameS x.name = true ∧ ds = cs ++ [82])) ∧ Wf ds x.c.l ∧ x.c.n = wr ds.length
include hT in
theorem comm_w (s r : Int) {cs : List UInt8} (h : Wk φ (· = cs) c) : CommW φ cs s r (commC TM toks s r c) := by
  constructor
  intro e
  unfold commC at e ⊢
  split at e
  · rename_i he
    rw [if_pos he]
    have h1 : Wk φ (· = cs ++ [82]) (addC c (refC TM toks c.at_)) := wk_add h (w1_ref hT c.at_) (fun _ _ h => by rw [h])
    unfold commC2 at e ⊢
    split at e
    · rename_i hb
      rw [if_pos hb]
      obtain ⟨p, ds, q, w⟩ := wk_term hT (Q' := (· = cs ++ [82, 69])) (wk_eat (toks := toks) sBang h1) (fun _ _ h => by rw [h]; simp) e
      exact ⟨p, ds, .inl ⟨rfl, rfl, q⟩, w⟩
    · rename_i hb
      rw [if_neg hb]
      obtain ⟨p, ds, q, w⟩ := wk_name hT (wk_eat (toks := toks) sAsk h1) e
      exact ⟨p.1, ds, .inr ⟨rfl, p.2, q⟩, w⟩
  · rename_i he; exact absurd e he
theorem eat_eq {t : Str} (e : (eatC toks t c).e_ = 0) : c.e_ = 0 ∧ (eatC toks t c).l = c.l ∧ (eatC toks t c).n = c.n := by
  unfold eatC at e ⊢
  split at e
  · rename_i he
    rw [if_pos he]
    split at e
    · rename_i hi; rw [if_pos hi]; exact ⟨he, rfl, rfl⟩
    · cases e
  · rename_i he; exact absurd e he
include hT in
theorem w1_clause (hb : ∀ a, W1 66 (blk a)) (a : Int) : W1 67 (clauseC TM toks blk a) := by
  unfold clauseC
  split
  · exact w1_under (wk_in hb (Q' := (· = [66])) (wk_eat _ (wk_from a)) (fun _ _ h => by rw [h]; rfl)) (fun _ _ h => by subst h; exact .els _)
  · -- what stands ahead
    have h0 : Wk True (· = []) (eatC toks sCase (fromC a)) := wk_eat _ (wk_from a)
    generalize eatC toks sCase (fromC a) = c0 at h0
    have hw : ∃ w : Bool, whenN toks c0 = (if w then 1 else 0) ∧ Wk True (· = if w then [69] else []) (whenC TM toks c0) := by
      unfold whenN whenC
      split
      · exact ⟨true, rfl, wk_eat _ (wk_term hT (wk_eat _ h0) (fun _ _ h => by rw [h]; rfl))⟩
      · exact ⟨false, rfl, h0⟩
    obtain ⟨w, hn, h1⟩ := hw
    generalize whenC TM toks c0 = c1 at h1
    rw [hn]
    intro e
    have ha : (afterC TM toks c1).c.e_ = 0 → ∃ ds : List UInt8, (((afterC TM toks c1).op = 34 ∧ Tk.nameS (afterC TM toks c1).name = true ∧ ds = [82]) ∨ ((afterC TM toks c1).op = 35 ∧ (afterC TM toks c1).name = [] ∧ ds = [82, 69]) ∨ ((afterC TM toks c1).op = 36 ∧ (afterC TM toks c1).name = [] ∧ ds = [69])) ∧
        Wf ((if w then [69] else ([] : List UInt8)) ++ ds) (afterC TM toks c1).c.l ∧ (afterC TM toks c1).c.n = wr ((if w then [69] else ([] : List UInt8)) ++ ds).length := by
      unfold afterC
      split
      · intro e
        obtain ⟨_, ds, q, wf⟩ := wk_term hT (Q' := (· = (if w then [69] else []) ++ [69])) (wk_eat (toks := toks) sAfter h1) (fun _ _ h => by rw [h]) e
        subst q
        exact ⟨_, .inr (.inr ⟨rfl, rfl, rfl⟩), wf⟩
      · intro e
        obtain ⟨_, ds, q, wf⟩ := (comm_w hT 35 34 h1).w e
        rcases q with ⟨q1, q2, rfl⟩ | ⟨q1, q2, rfl⟩
        · exact ⟨_, .inr (.inl ⟨q1, q2, rfl⟩), wf⟩
        · exact ⟨_, .inl ⟨q1, q2, rfl⟩, wf⟩
    generalize afterC TM toks c1 = x at ha e ⊢
    obtain ⟨xc, op, nm⟩ := x
    dsimp only at ha e ⊢
    have hx : Wk (∃ ds : List UInt8, ((op = 34 ∧ Tk.nameS nm = true ∧ ds = [82]) ∨ (op = 35 ∧ nm = [] ∧ ds = [82, 69]) ∨ (op = 36 ∧ nm = [] ∧ ds = [69]))) (fun cs => ∃ ds, ((op = 34 ∧ Tk.nameS nm = true ∧ ds = [82]) ∨ (op = 35 ∧ nm = [] ∧ ds = [82, 69]) ∨ (op = 36 ∧ nm = [] ∧ ds = [69])) ∧ cs = (if w then [69] else []) ++ ds) xc := by
      intro e
      obtain ⟨ds, q, wf⟩ := ha e
      exact ⟨⟨ds, q⟩, _, ⟨ds, q, rfl⟩, wf⟩
    refine w1_under (wk_in hb (Q' := fun cs => ∃ ds, ((op = 34 ∧ Tk.nameS nm = true ∧ ds = [82, 66]) ∨ (op = 35 ∧ nm = [] ∧ ds = [82, 69, 66]) ∨ (op = 36 ∧ nm = [] ∧ ds = [69, 66])) ∧ cs = (if w then [69] else []) ++ ds) hx ?_) ?_ e
    · rintro _ _ ⟨ds, q, rfl⟩
      refine ⟨ds ++ [66], ?_, by rw [List.append_assoc]⟩
      rcases q with ⟨q1, q2, rfl⟩ | ⟨q1, q2, rfl⟩ | ⟨q1, q2, rfl⟩
      · exact .inl ⟨q1, q2, rfl⟩
      · exact .inr (.inl ⟨q1, q2, rfl⟩)
      · exact .inr (.inr ⟨q1, q2, rfl⟩)
    · rintro _ _ ⟨ds, q, rfl⟩
      exact .clause op nm _ w ds q
include hT in
theorem wk_args (h : Wk φ (· = []) c) : Wk φ (fun cs => ∃ k, cs = List.replicate k 69) (argsC TM toks c) := by
  unfold argsC
  refine wk_eat _ ?_
  have h1 : Wk φ (· = []) (eatC toks sLP c) := wk_eat _ h
  split
  · refine loop_P (P := Wk φ (fun cs => ∃ k, cs = List.replicate k 69)) (fun c h => wk_term hT (wk_eat _ h) ?_) _ _ (wk_term hT h1 (fun _ _ h => ⟨1, by rw [h]; rfl⟩))
    rintro _ _ ⟨k, rfl⟩; exact ⟨k + 1, rep_snoc k 69⟩
  · exact h1.imp (fun _ _ h => ⟨0, h⟩)
include hT in
theorem w1_set (a : Int) : W1 83 (setC TM toks a) := by
  have h0 := wk_name hT (wk_from a)
  unfold setC
  split
  · exact w1_under (wk_eat _ (wk_eat _ (wk_term hT (Q' := (· = [69])) (wk_eat _ (wk_eat _ (wk_eat _ h0))) (fun _ _ h => by rw [h]; rfl)))) (fun p _ h => by subst h; exact .set _ _ _ (.inr (.inr rfl)) p.2)
  · exact w1_under (wk_eat _ (wk_term hT (Q' := (· = [69])) (wk_eat _ h0) (fun _ _ h => by rw [h]; rfl))) (fun p _ h => by subst h; exact .set _ _ _ (.inr (.inl rfl)) p.2)
include hT in
theorem w1_one (s : Str) (op : Int) (ho : op = 27 ∨ op = 28 ∨ op = 29) (a : Int) : W1 83 (oneC TM toks s op a) :=
  w1_under (wk_eat _ (wk_term hT (Q' := (· = [69])) (wk_eat _ (wk_from a)) (fun _ _ h => by rw [h]; rfl))) (fun _ _ h => by subst h; exact .one _ _ ho)
theorem w1_none (s : Str) (op : Int) (ho : op = 30 ∨ op = 31) (a : Int) : W1 83 (noneC toks s op a) :=
  w1_under (wk_eat _ (wk_eat _ (wk_from a))) (fun _ _ h => by subst h; exact .none _ _ ho)
include hT in
theorem w1_word (hb : ∀ a, W1 66 (blk a)) (a : Int) : W1 83 (wordC TM toks blk a) := by
  unfold wordC
  dsimp only
  split
  · exact w1_under (wk_eat _ (wk_term hT (Q' := (· = [69])) (wk_eat _ (wk_name hT (wk_eat _ (wk_from a)))) (fun _ _ h => by rw [h]; rfl))) (fun p _ h => by subst h; exact .set _ _ _ (.inl rfl) p.2)
  split
  · refine w1_under (wk_eat _ (wk_args hT (wk_name hT (wk_eat _ (wk_from a))))) ?_
    rintro p _ ⟨k, rfl⟩
    rw [List.length_replicate]
    exact .start _ k _ p.2
  split
  · exact w1_one hT _ _ (.inl rfl) a
  split
  · exact w1_one hT _ _ (.inr (.inl rfl)) a
  split
  · exact w1_one hT _ _ (.inr (.inr rfl)) a
  split
  · exact w1_none _ _ (.inl rfl) a
  split
  · exact w1_none _ _ (.inr rfl) a
  split
  · exact w1_under (wk_in hb (Q' := (· = [69, 66])) (wk_term hT (Q' := (· = [69])) (wk_eat _ (wk_from a)) (fun _ _ h => by rw [h]; rfl)) (fun _ _ h => by rw [h]; rfl)) (fun _ _ h => by subst h; exact .whil _)
  split
  · have h1 : Wk True (· = [69, 66]) (inC blk (termC TM toks (eatC toks sIf (fromC a)))) := wk_in hb (wk_term hT (Q' := (· = [69])) (wk_eat _ (wk_from a)) (fun _ _ h => by rw [h]; rfl)) (fun _ _ h => by rw [h]; rfl)
    unfold ifC
    split
    · exact w1_under (wk_in hb (Q' := (· = [69, 66, 66])) (wk_eat _ h1) (fun _ _ h => by rw [h]; rfl)) (fun _ _ h => by subst h; exact .if3 _)
    · exact w1_under h1 (fun _ _ h => by subst h; exact .if2 _)
  split
  · have h1 : Wk True (fun cs => ∃ k, 1 ≤ k ∧ cs = List.replicate k 67) (addC (eatC toks sLB (eatC toks sSelect (fromC a))) (clauseC TM toks blk (eatC toks sLB (eatC toks sSelect (fromC a))).at_)) :=
      wk_add (wk_eat _ (wk_eat _ (wk_from a))) (w1_clause hT hb _) (fun _ _ h => ⟨1, Nat.le_refl _, by rw [h]; rfl⟩)
    unfold selC
    refine w1_under (wk_eat _ (loop_P (P := Wk True (fun cs => ∃ k, 1 ≤ k ∧ cs = List.replicate k 67)) (fun c h => wk_add h (w1_clause hT hb c.at_) ?_) _ _ h1)) ?_
    · rintro _ _ ⟨k, hk, rfl⟩; exact ⟨k + 1, by omega, rep_snoc k 67⟩
    · rintro _ _ ⟨k, hk, rfl⟩
      rw [List.length_replicate]
      exact .sel k _ hk
  · intro e; cases e
include hT in
theorem w1_stmt (hb : ∀ a, W1 66 (blk a)) (a : Int) : W1 83 (stmtC TM toks blk a) := by
  unfold stmtC
  split
  · split
    · exact w1_set hT a
    · intro e
      have hc := (comm_w hT 21 22 (wk_from a)).w
      generalize commC TM toks 21 22 (fromC a) = x at hc e ⊢
      obtain ⟨h1, h2, h3⟩ := eat_eq e
      obtain ⟨_, ds, q, w, n⟩ := hc h1
      show Wf [83] (⟨x.op, x.name, 0, (eatC toks sSemi x.c).n, _⟩ :: (eatC toks sSemi x.c).l)
      rw [h2, h3, n]
      rcases q with ⟨q1, q2, rfl⟩ | ⟨q1, q2, rfl⟩
      · rw [q1, q2]; exact .one (.send _) w
      · rw [q1]; exact .one (.recv _ _ q2) w
  · split
    · exact w1_word hT hb a
    · intro e; cases e
include hT in
theorem w1_blk : ∀ k a, W1 66 (blkF TM toks k a)
  | 0, a => by
    unfold blkF
    split
    · intro e; cases e
    · rename_i hi
      intro e
      exfalso
      unfold blockC at e
      have he : eatC toks sLB (fromC a) = ⟨[], 0, a, 11⟩ := by
        unfold eatC fromC
        dsimp only
        rw [if_pos rfl, if_neg hi]
      rw [he, loopE rfl, eatE (show (11 : Int) ≠ 0 by decide)] at e
      cases e
  | k + 1, a => w1_block (w1_stmt hT (w1_blk k)) a
include hT in
theorem w1_param (a : Int) : W1 80 (underC (nameC toks (fromC a)) (nd toks 39 (nameS toks (fromC a)) 0 a)) :=
  w1_under (wk_name hT (wk_from a)) (fun p _ h => by subst h; exact .param _ _ p.2)
include hT in
theorem w1_decl (a : Int) : W1 68 (declC TM toks a) := by
  have hb := w1_blk hT 24
  unfold declC
  split
  · have h0 := wk_name hT (wk_eat (toks := toks) sChan (wk_from a))
    unfold chanC1 chanN
    split
    · exact w1_under (wk_eat _ (wk_eat _ (wk_size (wk_eat _ h0)))) (fun p _ h => by subst h; exact .chan _ _ _ p.1.2 p.2.1 p.2.2)
    · exact w1_under (wk_eat _ h0) (fun p _ h => by subst h; exact .chan _ _ _ p.2 (Int.le_refl 0) (show (0 : Int) ≤ 16 by decide))
  split
  · have h0 := wk_eat (toks := toks) sLP (wk_name hT (wk_eat (toks := toks) sProc (wk_from a)))
    refine w1_under (wk_in hb (Q := fun cs => ∃ k, cs = List.replicate k 80) (Q' := fun cs => ∃ k, cs = List.replicate k 80 ++ [66]) (wk_eat _ ?_) (fun _ _ ⟨k, h⟩ => ⟨k, by rw [h]⟩)) (fun p _ ⟨k, h⟩ => ?_) (φ := True ∧ Tk.nameS (nameS toks (eatC toks sProc (fromC a))) = true)
    · unfold procC1
      split
      · refine loop_P (P := Wk _ (fun cs => ∃ k, cs = List.replicate k 80)) (fun c h => wk_add (wk_eat _ h) (w1_param hT _) ?_) _ _ (wk_add h0 (w1_param hT _) (fun _ _ h => ⟨1, by rw [h]; rfl⟩))
        rintro _ _ ⟨k, rfl⟩; exact ⟨k + 1, rep_snoc k 80⟩
      · exact h0.imp (fun _ _ h => ⟨0, h⟩)
    · subst h
      rw [List.length_append, List.length_replicate]
      exact .proc _ k _ p.2
  · exact w1_under (wk_in hb (Q' := (· = [66])) (wk_eat _ (wk_from a)) (fun _ _ h => by rw [h]; rfl)) (fun _ _ h => by subst h; exact .main _)
include hT in
theorem unit_wf (h : (unitF TM toks).e_ = 0) : Wf [85] (unitF TM toks).l := by
  have hu : Wk True (fun cs => ∃ k, cs = List.replicate k 68) (unitC TM toks) := by
    refine loop_P (P := Wk True (fun cs => ∃ k, cs = List.replicate k 68)) (fun c h => wk_add h (w1_decl hT c.at_) ?_) _ _ ((wk_from 0).imp (fun _ _ h => ⟨0, h⟩))
    rintro _ _ ⟨k, rfl⟩; exact ⟨k + 1, rep_snoc k 68⟩
  unfold unitF at h ⊢
  split at h
  · rename_i c; exact absurd h c
  · rename_i c
    rw [if_neg c]
    refine w1_under hu ?_ (Classical.not_not.1 c)
    rintro _ _ ⟨k, rfl⟩
    rw [List.length_replicate]
    exact .unit k _
end
theorem text_wf (s : List UInt8) (h : (textF s).e_ = 0) : Wf [85] (textF s).l := by
  unfold textF at h ⊢
  split at h
  · rename_i c; exact absurd h c
  · rename_i c
    rw [if_neg c]
    split at h
    · rename_i c2; exact absurd h c2
    · rename_i c2
      rw [if_neg c2]
      exact unit_wf (toksF_ok s) (Classical.not_not.1 c2)
theorem text_len40 (s : List UInt8) : (textF s).l.length < 2 ^ 40 := by
  unfold textF
  split
  · simp
  · rename_i he
    have he : (allS s).2.2 = 0 := Classical.not_not.1 he
    split
    · simp
    · rename_i hu
      obtain ⟨_, hlen⟩ := allS_ok s he
      have hN : (toksF s).length ≤ 65537 := by unfold toksF; rw [List.length_map]; omega
      have hw := cw_unit (toks := toksF s) TM
      dsimp only
      unfold unitF at hu ⊢
      split at hu
      · rename_i c; exact absurd c hu
      · rename_i c
        rw [if_neg c]
        have := hw.b
        have := hw.hi
        show (_ :: _).length < _
        rw [List.length_cons]
        omega
theorem shapes_v (s : List UInt8) : V_L11_ParseShapes s (fun b => b = true) := by
  refine L11_ParseShapes_lift _ _ (cond_intro (fun _ => live_v _ rfl) fun _ => text_v s _ ?_)
  refine cond_intro (fun he => ?_) fun he => ?_
  · have he : (textF s).e_ ≠ 0 := by simpa using he
    have hl : (textF s).l = [] := by
      unfold textF at he ⊢
      split
      · rfl
      · rename_i c
        rw [if_neg c] at he
        split
        · rfl
        · rename_i c2; rw [if_neg c2] at he; exact absurd rfl he
    refine cond_t (by rw [hl]; rfl) (rall_v s _ (cond_intro (fun _ => live_v _ rfl) fun _ => rtext_v s _ (cond_t (by simpa using he) (live_v _ rfl))))
  · exact is_v (text_len40 s) (text_wf s (by simpa using he)) _ (cond_t rfl (live_v _ rfl))
theorem ParseShapes_spec (s : List UInt8) (w : World) : Calls Try.prog 5 #[.string (mkS s)] w (Ret fun v w' => v = .bool true ∧ Ext w w') := by
  refine call_then (shapes_v s [] w (MOk.nil trivial)) ?_
  rintro _ _ ⟨_, rfl, rfl, k⟩
  exact ⟨rfl, k.ext⟩
end Go.Proofs.Ytdbdkdmgfiiljaa
