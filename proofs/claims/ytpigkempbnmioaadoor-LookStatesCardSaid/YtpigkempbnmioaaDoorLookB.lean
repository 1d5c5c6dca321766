/- Code that may be: tables, meets, Flow, Check, Right. -/
import Derived.Test.YtpigkempbnmioaaDoorLookA
namespace Go.Proofs.YtpigkempbnmioaaDoor
open Go.Vc Go.Lv Go.Ty

theorem letter_v (c : Int) (K : Bool → Prop) (h : ∀ b, (b = true → 11 ≤ c) → K b) : V_R08_Letter c K := by
  refine R08_Letter_lift _ _ (h _ fun e => ?_)
  by_cases h1 : c ≥ 97
  · omega
  · rw [decide_eq_false h1] at e
    by_cases h2 : c ≥ 65
    · omega
    · rw [decide_eq_false h2] at e
      simp at e; omega
theorem digit_v (c : Int) (K : Bool → Prop) (h : ∀ b, (b = true → 11 ≤ c) → K b) : V_R08_Digit c K := by
  refine R08_Digit_lift _ _ (h _ fun e => ?_)
  simp at e; omega
theorem in_v (l : List (List UInt8)) (hl : l.length ≤ 1000) (s : List UInt8) (K : Bool → Prop) (h : ∀ b, K b) : V_R08_In l s K := by
  refine R08_In_lift _ _ _ ⟨At l.length fun _ => True, ⟨_, At.start trivial⟩, ?_⟩
  rintro _ _ ⟨k, rfl, hk, rfl, -⟩
  exact At.cond hk (fun hlt => at_elem hlt (cond_intro (fun _ => h _) fun _ => At.next (by omega) hlt trivial)) fun _ => h _
theorem name_v (s : List UInt8) (hs : s.length ≤ 9223372036854775807) (K : Bool → Prop) (h : ∀ b, (b = true → noNl s) → K b) : V_R08_Name s K := by
  have hf : K false := h _ fun e => by cases e
  refine R08_Name_lift _ _ ⟨At s.length fun k => ∀ b ∈ s.take k, b ≠ 10, ⟨_, At.start (by simp)⟩, ?_⟩
  rintro _ _ ⟨k, rfl, hk, rfl, hall⟩
  refine At.cond hk (fun hlt => ⟨fun z => z = false → s[k] ≠ 10, ⟨⟨by omega, by omega⟩, ?_⟩, fun z hz => cond_intro (fun _ => hf) fun e => At.next' (by omega) hlt ?_⟩) fun he => ?_
  · have hg : s.getD (k : Int).toNat 0 = s[k] := by rw [Int.toNat_natCast, List.getD_eq_getElem?_getD, List.getElem?_eq_getElem hlt]; rfl
    rw [hg]
    have ne : 11 ≤ ((s[k]).toNat : Int) → s[k] ≠ 10 := fun h e => by rw [e] at h; exact absurd h (by decide)
    refine letter_v _ _ fun b hb => cond_intro (fun _ => cond_intro (fun _ e => by cases e) fun _ => ⟨⟨by omega, by omega⟩, digit_v _ _ fun b2 hb2 e => ne (hb2 (by simpa using e))⟩) fun e _ => ne (hb (by simpa using e))
  · rw [take_snoc hlt]
    intro b hb
    rcases List.mem_append.1 hb with hb | hb
    · exact hall b hb
    · rw [List.mem_singleton.1 hb]; exact hz e
  · subst he
    rw [List.take_length] at hall
    refine cond_intro (fun _ => cond_intro (fun h16 => R08_Words_lift _ (in_v _ (by decide) _ _ fun _ => h _ fun _ => ⟨hall, by simp at h16; omega⟩)) fun _ => hf) fun _ => hf
theorem tables_v (c : GCode) (sm : Sm c) (K : Bool → Prop) (h : ∀ b, (b = true → Tab c) → K b) : V_R20_tables c K := by
  have hf : K false := h _ fun e => by cases e
  have s1 := sm.ins
  have s2 := sm.defs
  have s3 := sm.chans
  refine R20_tables_lift _ _ ⟨fun _ => True, ?_, fun _ _ => cond_intro (fun _ => hf) fun _ => ?_⟩
  · refine cond_intro (fun _ => trivial) fun _ => cond_intro (fun _ => trivial) fun _ => cond_intro (fun _ => trivial) fun _ => cond_intro (fun _ => trivial) fun h1 => cond_intro (fun _ => trivial) fun h2 => ?_
    exact ⟨⟨by simpa using h1, by simpa using h2⟩, fun _ _ => trivial⟩
  refine ⟨At c.defs.length fun k => ∀ d ∈ c.defs.take k, 0 ≤ d.entry ∧ d.entry < c.ins.length ∧ noNl d.name, ⟨_, At.start (by simp)⟩, ?_⟩
  rintro _ _ ⟨k, rfl, hk, rfl, hall⟩
  refine At.cond hk (fun hlt => at_elem hlt ?_) fun he => ?_
  · have prev : ∀ {A : GDef → Prop}, decide ((k : Int) > 0) = true → (∀ d, A d) → ((0 : Int) ≤ IntKind.i64.wrap ((k : Int) - 1) ∧ IntKind.i64.wrap ((k : Int) - 1) < (c.defs.length : Int)) ∧ ∀ x5, c.defs[(IntKind.i64.wrap ((k : Int) - 1)).toNat]? = some x5 → A x5 := by
      intro A hp ha
      have hp : 0 < (k : Int) := by simpa using hp
      rw [wrap_in (by omega) (by omega)]
      exact ⟨⟨by omega, by omega⟩, fun x _ => ha x⟩
    have fin : ∀ {z : Bool}, (z = false → 0 ≤ c.defs[k].entry ∧ c.defs[k].entry < c.ins.length ∧ noNl c.defs[k].name) → cond z (K false) (∃ J2 : Bool → Prop, (cond (decide (c.defs[k].params < 0)) (J2 true) (cond (decide (c.defs[k].params > c.defs[k].vars)) (J2 true) (J2 (decide (c.defs[k].vars > 16))))) ∧ ∀ x9 : Bool, J2 x9 → cond x9 (K false) (∃ n1, n1 < c.defs.length - k ∧ At c.defs.length (fun k => ∀ d ∈ c.defs.take k, 0 ≤ d.entry ∧ d.entry < c.ins.length ∧ noNl d.name) (IntKind.i64.wrap ((k : Int) + 1)) n1)) := by
      intro z hz
      refine cond_intro (fun _ => hf) fun e => ⟨fun _ => True, ?_, fun _ _ => cond_intro (fun _ => hf) fun _ => At.next (by omega) hlt ?_⟩
      · repeat' first | exact trivial | refine cond_intro (fun _ => ?_) fun _ => ?_
      · rw [take_snoc hlt]
        intro d hd
        rcases List.mem_append.1 hd with hd | hd
        · exact hall d hd
        · rw [List.mem_singleton.1 hd]; exact hz e
    refine ⟨fun z => z = false → 0 ≤ c.defs[k].entry ∧ c.defs[k].entry < c.ins.length ∧ noNl c.defs[k].name, ?_, fun z hz => fin hz⟩
    have rest : ∀ {J1 : Bool → Prop}, (J1 true) → (∀ z : Bool, (0 ≤ c.defs[k].entry ∧ c.defs[k].entry < c.ins.length) → J1 z) → cond (decide (c.defs[k].entry < 0)) (J1 true) (cond (decide (c.defs[k].entry ≥ (c.ins.length : Int))) (J1 true) (cond ((k : Int) == 0) (cond (c.defs[k].entry != 0) (J1 true) (cond (decide ((k : Int) > 0)) (((0 : Int) ≤ IntKind.i64.wrap ((k : Int) - 1) ∧ IntKind.i64.wrap ((k : Int) - 1) < (c.defs.length : Int)) ∧ ∀ x5, c.defs[(IntKind.i64.wrap ((k : Int) - 1)).toNat]? = some x5 → J1 (decide (c.defs[k].entry ≤ x5.entry))) (J1 false))) (cond (decide ((k : Int) > 0)) (((0 : Int) ≤ IntKind.i64.wrap ((k : Int) - 1) ∧ IntKind.i64.wrap ((k : Int) - 1) < (c.defs.length : Int)) ∧ ∀ x5, c.defs[(IntKind.i64.wrap ((k : Int) - 1)).toNat]? = some x5 → J1 (decide (c.defs[k].entry ≤ x5.entry))) (J1 false)))) := by
      intro J1 ht hz
      refine cond_intro (fun _ => ht) fun h1 => cond_intro (fun _ => ht) fun h2 => ?_
      have h1 : 0 ≤ c.defs[k].entry := by simpa using h1
      have h2 : c.defs[k].entry < c.ins.length := by simpa using h2
      have z := fun z => hz z ⟨h1, h2⟩
      exact cond_intro (fun _ => cond_intro (fun _ => ht) fun _ => cond_intro (fun hp => prev hp fun _ => z _) fun _ => z _) fun _ => cond_intro (fun hp => prev hp fun _ => z _) fun _ => z _
    refine cond_intro (fun _ => name_v _ (sm.dn _ (List.getElem_mem hlt)) _ fun b hb => cond_intro (fun _ e => by cases e) fun e => rest (J1 := fun z => z = false → 0 ≤ c.defs[k].entry ∧ c.defs[k].entry < c.ins.length ∧ noNl c.defs[k].name) (fun e => by cases e) fun _ he _ => ⟨he.1, he.2, hb (by simpa using e)⟩) fun e => rest (J1 := fun z => z = false → 0 ≤ c.defs[k].entry ∧ c.defs[k].entry < c.ins.length ∧ noNl c.defs[k].name) (fun e => by cases e) fun _ he _ => ⟨he.1, he.2, ?_⟩
    have e : c.defs[k].name = [109, 97, 105, 110] := by simpa using e
    rw [e]
    unfold noNl
    decide
  subst he
  rw [List.take_length] at hall
  refine ⟨fun b i n => 0 ≤ b ∧ b ≤ 100 ∧ At c.chans.length (fun k => ∀ x ∈ c.chans.take k, 0 ≤ x.size ∧ x.size ≤ 16 ∧ 0 ≤ x.base ∧ x.base < 64 ∧ noNl x.name) i n, ⟨_, by omega, by omega, At.start (by simp)⟩, ?_⟩
  rintro b _ _ ⟨hb0, hb1, k, rfl, hk, rfl, hch⟩
  refine At.cond hk (fun hlt => ⟨fun b1 => (0 ≤ b1 ∧ b1 ≤ 100) ∧ 0 ≤ c.chans[k].size ∧ c.chans[k].size ≤ 16 ∧ 0 ≤ c.chans[k].base ∧ c.chans[k].base < 64 ∧ noNl c.chans[k].name, at_elem hlt ?_, ?_⟩) fun he => ?_
  · refine ⟨fun z => z = false → 0 ≤ c.chans[k].size ∧ c.chans[k].size ≤ 16 ∧ b < 64 ∧ c.chans[k].base = b ∧ noNl c.chans[k].name, ?_, ?_⟩
    · refine name_v _ (sm.cn _ (List.getElem_mem hlt)) _ fun z hz => cond_intro (fun _ e => by cases e) fun e => cond_intro (fun _ e => by cases e) fun h1 => cond_intro (fun _ e => by cases e) fun h2 => cond_intro (fun _ e => by cases e) fun h3 h4 => ?_
      exact ⟨by simpa using h1, by simpa using h2, by simpa using h4, by simpa using h3, hz (by simpa using e)⟩
    · intro z hz
      refine cond_intro (fun _ => hf) fun e => ?_
      obtain ⟨a1, a2, a3, a4, a5⟩ := hz e
      rw [wrap_in (n := b + c.chans[k].size) (by omega) (by omega)]
      refine cond_intro (fun _ => ?_) fun _ => ⟨by omega, a1, a2, by omega, by omega, a5⟩
      rw [wrap_in (by omega) (by omega)]
      exact ⟨by omega, a1, a2, by omega, by omega, a5⟩
  · rintro b1 ⟨⟨c0, c1⟩, hx⟩
    obtain ⟨n1, hn, hA⟩ := At.next (P := fun k => ∀ x ∈ c.chans.take k, 0 ≤ x.size ∧ x.size ≤ 16 ∧ 0 ≤ x.base ∧ x.base < 64 ∧ noNl x.name) (by omega) hlt (by
      rw [take_snoc hlt]
      intro d hd
      rcases List.mem_append.1 hd with hd | hd
      · exact hch d hd
      · rw [List.mem_singleton.1 hd]; exact hx)
    exact ⟨n1, hn, c0, c1, hA⟩
  · subst he
    rw [List.take_length] at hch
    exact h _ fun _ => ⟨fun d hd => ⟨(hall d hd).1, (hall d hd).2.1⟩, fun d hd => (hall d hd).2.2, hch⟩
theorem meets_v (all : List GR20_Is) (hl : all.length ≤ 200) (f a : Int) (ha : f < a → 0 ≤ a ∧ a < all.length) (now : GR20_Is) (K : List GR20_Is → Bool → Prop) (h : ∀ l b, l.length = all.length → K l b) : V_R20_meets all f a now K := by
  refine R20_meets_lift _ _ _ _ _ (cond_intro (fun _ => h _ _ rfl) fun e => ?_)
  have hb := ha (by simpa using e)
  exact ⟨hb, fun _ _ => cond_intro (fun _ => ⟨hb, fun _ _ => h _ _ rfl⟩) fun _ => ⟨by omega, hb, fun _ _ => h _ _ (by rw [List.length_set])⟩⟩
theorem flow_v (c : GCode) (sm : Sm c) (tb : Tab c) (r : Nat) (hr : r < c.defs.length) (ok : ∀ k : Nat, c.defs[r].entry ≤ k → (k : Int) < toF c r → TargOk c r k) (K : List GR20_Is → Int → Prop) (h : ∀ l i, K l i) : V_R20_Flow c r K := by
  have s1 := sm.ins
  have he := tb.ents _ (List.getElem_mem hr)
  have hto := toF_le tb r
  have hN : (IntKind.i64.wrap ((c.ins.length : Int) + 1)).toNat = c.ins.length + 1 := by rw [wrap_in (by omega) (by omega)]; omega
  have hR : ∀ z : GR20_Is, (List.replicate (IntKind.i64.wrap ((c.ins.length : Int) + 1)).toNat z).length = c.ins.length + 1 := fun z => by rw [List.length_replicate, hN]
  refine R20_Flow_lift _ _ _ ⟨by rw [wrap_in (by omega) (by omega)]; omega, at_elem hr ⟨by rw [hN]; omega, fun x1 _ => at_elem hr ⟨fun l a n => ∃ k : Nat, a = k ∧ c.defs[r].entry ≤ k ∧ k ≤ c.ins.length ∧ n = c.ins.length - k ∧ l.length = c.ins.length + 1, ⟨_, c.defs[r].entry.toNat, by omega, by omega, by omega, rfl, by rw [List.length_set, hR]⟩, ?_⟩⟩⟩
  rintro all _ _ ⟨k, rfl, hk0, hk, rfl, hl⟩
  refine to_v c sm r hr _ (cond_intro (fun hc => ?_) fun _ => h _ _)
  have hc : (k : Int) < toF c r := by simpa using hc
  have hlt : k < c.ins.length := by omega
  have hla : k < all.length := by omega
  have tk := ok k hk0 hc _ (List.getElem?_eq_getElem hlt)
  refine ⟨fun l => l.length = c.ins.length + 1, ?_, fun l hl => ⟨c.ins.length - (k + 1), by omega, k + 1, by rw [wrap_in (by omega) (by omega)]; omega, by omega, by omega, rfl, hl⟩⟩
  refine ⟨fun _ => True, at_elem hla (cond_intro (fun _ => at_elem hlt trivial) fun _ => trivial), fun _ _ => cond_intro (fun _ => hl) fun _ => at_elem hla (at_elem hlt ?_)⟩
  have get : ∀ {A : GR20_Is → Prop} {l : List GR20_Is}, (∀ x, A x) → ((0 : Int) ≤ (k : Int) ∧ (k : Int) < (all.length : Int)) ∧ ∀ x, l[(k : Int).toNat]? = some x → A x := fun ha => ⟨⟨by omega, by omega⟩, fun x _ => ha x⟩
  refine ⟨fun _ => True, get fun _ => fits_v _ _ _ fun _ => trivial, fun _ _ => cond_intro (fun _ => h _ _) fun _ => ?_⟩
  refine ⟨fun _ _ _ => True, get fun _ => get fun _ => takes_v _ _ fun _ => gives_v _ _ fun _ => cond_intro (fun _ => trivial) fun _ => trivial, fun _ _ _ _ => ?_⟩
  refine ⟨fun l _ => l.length = c.ins.length + 1, target_v _ _ (cond_intro (fun ht => ?_) fun _ => by show List.length _ = _; rw [List.length_set]; exact hl), fun l2 _ hl2 => cond_intro (fun _ => h _ _) fun _ => ?_⟩
  · obtain ⟨t1, t2⟩ := tk ht
    have t1 := t1 _ (List.getElem?_eq_getElem hr)
    refine ⟨fun _ _ _ => True, chooses_v _ _ fun _ => cond_intro (fun _ => trivial) fun _ => trivial, fun _ _ _ _ => meets_v _ (by rw [List.length_set]; omega) _ _ (fun _ => by rw [List.length_set]; omega) _ _ fun l b hl' => by show l.length = _; rw [hl', List.length_set]; exact hl⟩
  · refine ⟨fun l _ => l.length = c.ins.length + 1, ⟨fun _ => True, ?_, fun _ _ => cond_intro (fun _ => ?_) fun _ => hl2⟩, fun l3 _ hl3 => cond_intro (fun _ => h _ _) fun _ => hl3⟩
    · repeat' first | exact trivial | refine cond_intro (fun _ => ?_) fun _ => ?_
    · rw [wrap_in (by omega) (by omega)]
      exact meets_v _ (by omega) _ _ (fun _ => by omega) _ _ fun l b hl' => by show l.length = _; rw [hl']; exact hl2
theorem check_v (c : GCode) (sm : Sm c) (K : GArr2_int → Prop) (h : ∀ x, (x.x0 = 0 → x.x1 = 0 → Tab c) → K x) : V_R20_Check c K := by
  have s1 := sm.ins
  have s2 := sm.defs
  refine R20_Check_lift _ _ (tables_v c sm _ fun b hb => cond_intro (fun _ => h _ fun _ e => by cases e) fun e => ?_)
  have tb := hb (by simpa using e)
  have hk : ∀ x, K x := fun x => h x fun _ _ => tb
  let Done : Nat → Prop := fun r => ∀ r', r' < r → ∀ (d : GDef), c.defs[r']? = some d → ∀ k : Nat, d.entry ≤ k → (k : Int) < toF c r' → TargOk c r' k
  refine ⟨fun _ r _ _ n => At c.defs.length Done r n, ⟨_, At.start fun r' h => absurd h (by omega)⟩, ?_⟩
  rintro marks _ x0 x1 _ ⟨r, rfl, hr, rfl, hdone⟩
  refine At.cond hr (fun hlt => at_elem hlt ?_) fun hre => cond_intro (fun _ => hk _) fun _ => ?_
  · have he := tb.ents _ (List.getElem_mem hlt)
    have hto := toF_le tb r
    refine ⟨fun _ a _ _ n => ∃ k : Nat, a = k ∧ c.defs[r].entry ≤ k ∧ k ≤ c.ins.length ∧ n = c.ins.length - k ∧ ∀ j : Nat, c.defs[r].entry ≤ j → j < k → TargOk c r j, ⟨_, c.defs[r].entry.toNat, by omega, by omega, by omega, rfl, fun j h1 h2 => by omega⟩, ?_⟩
    rintro marks1 _ y0 y1 _ ⟨k, rfl, hk0, hk1, rfl, hj⟩
    refine to_v c sm r hlt _ (cond_intro (fun hc => ?_) fun hc => ?_)
    · have hc : (k : Int) < toF c r := by simpa using hc
      have hkl : k < c.ins.length := by omega
      refine ⟨fun _ _ _ => TargOk c r k, may_v c sm tb r hlt k hkl _ _ fun b hb => cond_intro (fun _ => hk _) fun e => at_elem hkl ?_, fun _ _ _ ht => ?_⟩
      · have := hb (by simpa using e)
        exact cond_intro (fun _ => this) fun _ => this
      · refine ⟨c.ins.length - (k + 1), by omega, k + 1, by rw [wrap_in (by omega) (by omega)]; omega, by omega, by omega, rfl, fun j h1 h2 => ?_⟩
        by_cases e : j = k
        · subst e; exact ht
        · exact hj j h1 (by omega)
    · have hc : toF c r ≤ (k : Int) := by simpa using hc
      refine At.next (by omega) hlt ?_
      intro r' hr' d hd j h1 h2
      by_cases e : r' = r
      · subst e
        rw [List.getElem?_eq_getElem hlt] at hd
        cases hd
        exact hj j h1 (by omega)
      · exact hdone r' (by omega) d hd j h1 h2
  · subst hre
    refine ⟨fun r _ _ n => At c.defs.length (fun _ => True) r n, ⟨_, At.start trivial⟩, ?_⟩
    rintro _ _ _ _ ⟨r, rfl, hr, rfl, -⟩
    refine At.cond hr (fun hlt => ?_) fun _ => hk _
    refine flow_v c sm tb r hlt (fun k h1 h2 => hdone r hlt _ (List.getElem?_eq_getElem hlt) k h1 h2) _ fun l i => cond_intro (fun _ => hk _) fun _ => At.next (by omega) hlt trivial
theorem right_v (c : GCode) (sm : Sm c) (K : Bool → Prop) (h : ∀ b, (b = true → Tab c) → K b) : V_R20_Right c K := by
  refine R20_Right_lift _ _ (check_v c sm _ fun x hx => h _ fun e => ?_)
  simp at e
  exact hx e.1 e.2
end Go.Proofs.YtpigkempbnmioaaDoor
