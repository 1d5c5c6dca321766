/- Code that may be (retraceref20.Right): it is gone through safely, and what it tells of the tables. -/
import Derived.Test.YtpigkempbnmioaaDoorLtK
import Derived.Test.YtpigkempbnmioaaDoorLoop
namespace Go.Proofs.YtpigkempbnmioaaDoor
open Go.Vc Go.Lv Go.Ty

/-- code that is not large -/
structure Sm (c : GCode) : Prop where
  ins : c.ins.length ≤ 150
  defs : c.defs.length ≤ 40
  chans : c.chans.length ≤ 80
  dn : ∀ d ∈ c.defs, d.name.length ≤ 9223372036854775807
  cn : ∀ d ∈ c.chans, d.name.length ≤ 9223372036854775807
/-- a name: short, and no line's end in it -/
def noNl (s : List UInt8) : Prop := (∀ b ∈ s, b ≠ 10) ∧ s.length ≤ 16
theorem At.next' {len k : Nat} {P : Nat → Prop} (hl : len ≤ 9223372036854775807) (hk : k < len) (h : P (k + 1)) : ∃ n1, n1 < len - k ∧ At len P (IntKind.i64.wrap ((k : Int) + 1)) n1 :=
  ⟨len - (k + 1), by omega, k + 1, by rw [wrap_in (by omega) (by omega)]; omega, by omega, rfl, h⟩
/-- what the tables tell -/
structure Tab (c : GCode) : Prop where
  ents : ∀ d ∈ c.defs, 0 ≤ d.entry ∧ d.entry < c.ins.length
  dn : ∀ d ∈ c.defs, noNl d.name
  chans : ∀ x ∈ c.chans, 0 ≤ x.size ∧ x.size ≤ 16 ∧ 0 ≤ x.base ∧ x.base < 64 ∧ noNl x.name
theorem nums_v (op : Int) (K : Int → Prop) (h : ∀ n, K n) : V_R16_Nums op K := by
  refine R16_Nums_lift _ _ ?_
  unfold R16_Nums_vwp
  repeat' first | exact trivial | exact h _ | refine cond_intro (fun _ => ?_) fun _ => ?_ | refine ⟨fun _ => True, ?_, fun _ _ => ?_⟩
theorem wide_v (op : Int) (K : Int → Prop) (h : ∀ n, K n) : V_R15_Wide op K := by
  refine R15_Wide_lift _ _ ?_
  unfold R15_Wide_vwp
  repeat' first | exact trivial | exact h _ | refine cond_intro (fun _ => ?_) fun _ => ?_ | refine ⟨fun _ => True, ?_, fun _ _ => ?_⟩
theorem right16_v (x : GIns) (K : Bool → Prop) (h : ∀ n, K n) : V_R16_Right x K := by
  refine R16_Right_lift _ _ ?_
  unfold R16_Right_vwp
  repeat' first | exact trivial | exact h _ | refine nums_v _ _ fun _ => ?_ | refine cond_intro (fun _ => ?_) fun _ => ?_ | refine ⟨fun _ => True, ?_, fun _ _ => ?_⟩
theorem takes_v (x : GIns) (K : Int → Prop) (h : ∀ n, K n) : V_R16_Takes x K := by
  refine R16_Takes_lift _ _ ?_
  unfold R16_Takes_vwp
  repeat' first | exact trivial | exact h _ | refine right16_v _ _ fun _ => ?_ | refine wide_v _ _ fun _ => ?_ | refine cond_intro (fun _ => ?_) fun _ => ?_ | refine ⟨fun _ => True, ?_, fun _ _ => ?_⟩
theorem gives_v (x : GIns) (K : Int → Prop) (h : ∀ n, K n) : V_R16_Gives x K := by
  refine R16_Gives_lift _ _ ?_
  unfold R16_Gives_vwp
  repeat' first | exact trivial | exact h _ | refine right16_v _ _ fun _ => ?_ | refine wide_v _ _ fun _ => ?_ | refine cond_intro (fun _ => ?_) fun _ => ?_ | refine ⟨fun _ => True, ?_, fun _ _ => ?_⟩
theorem chooses_v (op : Int) (K : Bool → Prop) (h : ∀ n, K n) : V_R20_Chooses op K := R20_Chooses_lift _ _ (h _)
theorem acts_v (op : Int) (K : Bool → Prop) (h : ∀ n, K n) : V_R20_Acts op K := R20_Acts_lift _ _ (h _)
theorem fits_v (x : GIns) (t : GR20_Is) (K : Bool → Prop) (h : ∀ n, K n) : V_R20_fits x t K := by
  refine R20_fits_lift _ _ _ ?_
  unfold R20_fits_vwp
  repeat' first | exact trivial | exact h _ | refine takes_v _ _ fun _ => ?_ | refine chooses_v _ _ fun _ => ?_ | refine acts_v _ _ fun _ => ?_ | refine cond_intro (fun _ => ?_) fun _ => ?_ | refine ⟨fun _ => True, ?_, fun _ _ => ?_⟩
def whichF (op : Int) : Int := cond (op == 19) 2 (cond (((op == 6) || ((op == 7) || ((op == 8) || ((op == 20) || ((op == 21) || (op == 22))))))) 1 0)
theorem which_v (op : Int) (K : Int → Prop) (h : K (whichF op)) : V_R17_Which op K := by
  refine R17_Which_lift _ _ ?_
  unfold whichF at h
  refine cond_intro (fun e => by rw [e] at h; exact h) fun e => cond_intro (fun e2 => by rw [e, e2] at h; exact h) fun e2 => by rw [e, e2] at h; exact h
def targF (x : GIns) : Int × Bool := cond (whichF x.op == 1) (x.a, true) (cond (whichF x.op == 2) (x.b, true) (0, false))
theorem target_v (x : GIns) (K : Int → Bool → Prop) (h : K (targF x).1 (targF x).2) : V_R20_target x K := by
  refine R20_target_lift _ _ (which_v _ _ ?_)
  unfold targF at h
  refine cond_intro (fun e => by rw [e] at h; exact h) fun e => cond_intro (fun e2 => by rw [e, e2] at h; exact h) fun e2 => by rw [e, e2] at h; exact h
theorem settle_v (c : GCode) (hl : c.ins.length ≤ 150) (at_ : Int) (K : Int → Prop) (h : ∀ n, K n) : V_R20_Settle c at_ K := by
  refine R20_Settle_lift _ _ _ ⟨fun _ k n => ∃ a : Nat, k = a ∧ a ≤ c.ins.length + 1 ∧ n = c.ins.length + 1 - a, ⟨_, 0, rfl, by omega, rfl⟩, ?_⟩
  rintro now _ _ ⟨a, rfl, ha, rfl⟩
  refine cond_intro (fun hc => ?_) fun _ => h _
  have hlt : a ≤ c.ins.length := by simpa using hc
  refine ⟨fun b => b = false → 0 ≤ now ∧ now < c.ins.length, ?_, ?_⟩
  · refine cond_intro (fun _ => fun e => by cases e) fun h1 => cond_intro (fun _ => fun e => by cases e) fun h2 => ?_
    have h1 : 0 ≤ now := by simpa using h1
    have h2 : now < c.ins.length := by simpa using h2
    exact ⟨⟨h1, h2⟩, fun _ _ _ => ⟨h1, h2⟩⟩
  · intro x hx
    refine cond_intro (fun _ => h _) fun hf => ?_
    exact ⟨hx hf, fun _ _ => ⟨c.ins.length + 1 - (a + 1), by omega, a + 1, by rw [wrap_in (by omega) (by omega)]; omega, by omega, rfl⟩⟩
def toF (c : GCode) (r : Nat) : Int := match c.defs[r + 1]? with
  | some d => d.entry
  | none => c.ins.length
theorem toF_le {c : GCode} (tb : Tab c) (r : Nat) : toF c r ≤ c.ins.length := by
  unfold toF
  split
  · rename_i d hd
    have := tb.ents d (List.mem_of_getElem? hd)
    omega
  · exact Int.le_refl _
theorem to_v (c : GCode) (sm : Sm c) (r : Nat) (hr : r < c.defs.length) (K : Int → Prop) (h : K (toF c r)) : V_R20_To c r K := by
  have := sm.defs
  refine R20_To_lift _ _ _ ?_
  unfold R20_To_vwp
  rw [wrap_in (by omega) (by omega)]
  have e : (r : Int) + 1 = ((r + 1 : Nat) : Int) := by omega
  rw [e]
  unfold toF at h
  refine cond_intro (fun hc => ?_) fun hc => ?_
  · have hlt : r + 1 < c.defs.length := by simp at hc; omega
    refine at_elem hlt ?_
    rw [List.getElem?_eq_getElem hlt] at h
    exact h
  · have hlt : c.defs.length ≤ r + 1 := by simp at hc; omega
    rw [List.getElem?_eq_none hlt] at h
    exact h
theorem rests_v (c : GCode) (sm : Sm c) (tb : Tab c) (r : Nat) (hr : r < c.defs.length) (at_ : Int) (K : Bool → Prop) (h : ∀ b, K b) : V_R20_rests c r at_ K := by
  refine R20_rests_lift _ _ _ _ (settle_v c sm.ins _ _ fun n => at_elem hr ?_)
  refine cond_intro (fun h1 => to_v c sm r hr _ ?_) fun _ => h _
  refine cond_intro (fun h2 => ?_) fun _ => h _
  have he := tb.ents _ (List.getElem_mem hr)
  have hto := toF_le tb r
  have h1 : c.defs[r].entry ≤ n := by simpa using h1
  have h2 : n < toF c r := by simpa using h2
  refine ⟨⟨by omega, by omega⟩, fun x _ => cond_intro (fun _ => h _) fun _ => ⟨⟨by omega, by omega⟩, fun _ _ => h _⟩⟩
theorem channel_v (c : GCode) (sm : Sm c) (a b : Int) (K : Bool → Prop) (h : ∀ b, K b) : V_R20_channel c a b K := by
  have hs := sm.chans
  refine R20_channel_lift _ _ _ _ ⟨At c.chans.length fun _ => True, ⟨_, At.start trivial⟩, ?_⟩
  rintro _ _ ⟨k, rfl, hk, rfl, -⟩
  refine At.cond hk (fun hlt => ⟨fun _ => True, at_elem hlt (cond_intro (fun _ => at_elem hlt trivial) fun _ => trivial), fun _ _ => cond_intro (fun _ => h _) fun _ => At.next (by omega) hlt trivial⟩) fun _ => h _
/-- an instruction's target lies in its routine -/
def TargOk (c : GCode) (r k : Nat) : Prop := ∀ x, c.ins[k]? = some x → (targF x).2 = true → (∀ d, c.defs[r]? = some d → d.entry ≤ (targF x).1) ∧ (targF x).1 < toF c r
theorem may_v (c : GCode) (sm : Sm c) (tb : Tab c) (r : Nat) (hr : r < c.defs.length) (k : Nat) (hk : k < c.ins.length) (marks : Int) (K : Bool → Prop) (h : ∀ b, (b = true → TargOk c r k) → K b) : V_R20_may c r k marks K := by
  have hf : K false := h _ fun e => by cases e
  have he := tb.ents _ (List.getElem_mem hr)
  have hto := toF_le tb r
  refine R20_may_lift _ _ _ _ _ ⟨fun f t o a b => f = c.defs[r].entry ∧ t = toF c r ∧ (⟨o, a, b⟩ : GIns) = c.ins[k], at_elem hk (at_elem hr (to_v c sm r hr _ ⟨rfl, rfl, rfl⟩)), ?_⟩
  rintro _ _ o a b ⟨rfl, rfl, hi⟩
  refine ⟨fun _ => True, right16_v _ _ fun _ => ?_, fun _ _ => cond_intro (fun _ => hf) fun _ => ?_⟩
  · repeat' first | exact trivial | refine cond_intro (fun _ => ?_) fun _ => ?_
  refine ⟨fun _ => True, ?_, fun _ _ => cond_intro (fun _ => hf) fun _ => ?_⟩
  · repeat' first | exact trivial | refine cond_intro (fun _ => ?_) fun _ => ?_
  refine ⟨fun _ => True, ?_, fun _ _ => ?_⟩
  · repeat' first | exact trivial | refine cond_intro (fun _ => ?_) fun _ => ?_
  refine ⟨fun _ => True, ?_, fun _ _ => cond_intro (fun _ => hf) fun _ => ?_⟩
  · repeat' first | exact trivial | refine channel_v c sm _ _ _ fun _ => ?_ | refine at_elem hr ?_ | refine cond_intro (fun _ => ?_) fun _ => ?_
  refine ⟨fun _ => True, ?_, fun _ _ => cond_intro (fun _ => hf) fun _ => ?_⟩
  · refine cond_intro (fun _ => cond_intro (fun _ => trivial) fun h1 => cond_intro (fun _ => trivial) fun h2 => ?_) fun _ => trivial
    exact ⟨⟨by simpa using h1, by simpa using h2⟩, fun _ _ => trivial⟩
  rw [hi]
  refine ⟨TargOk c r k, target_v _ _ ?_, fun ok => acts_v _ _ fun _ => cond_intro (fun _ => h _ fun _ => ok) fun _ => ?_⟩
  · refine cond_intro (fun ht => ⟨fun z => z = false → c.defs[r].entry ≤ (targF c.ins[k]).1 ∧ (targF c.ins[k]).1 < toF c r, ?_, ?_⟩) fun ht => ?_
    · refine cond_intro (fun _ e => by cases e) fun h1 => cond_intro (fun _ e => by cases e) fun h2 => ?_
      have h1 : c.defs[r].entry ≤ (targF c.ins[k]).1 := by simpa using h1
      have h2 : (targF c.ins[k]).1 < toF c r := by simpa using h2
      refine cond_intro (fun _ => ⟨⟨by omega, by omega⟩, fun _ _ => cond_intro (fun _ e => by cases e) fun _ => chooses_v _ _ fun _ => cond_intro (fun _ => rests_v c sm tb r hr _ _ fun _ _ => ⟨h1, h2⟩) fun _ _ => ⟨h1, h2⟩⟩) fun _ => chooses_v _ _ fun _ => cond_intro (fun _ => rests_v c sm tb r hr _ _ fun _ _ => ⟨h1, h2⟩) fun _ _ => ⟨h1, h2⟩
    · intro z hz
      refine cond_intro (fun _ => hf) fun e => ?_
      intro x hx _
      rw [List.getElem?_eq_getElem hk] at hx
      cases hx
      refine ⟨fun d hd => ?_, (hz e).2⟩
      rw [List.getElem?_eq_getElem hr] at hd
      cases hd
      exact (hz e).1
    · intro x hx h2
      rw [List.getElem?_eq_getElem hk] at hx
      cases hx
      rw [ht] at h2
      cases h2
  · have := sm.ins
    exact rests_v c sm tb r hr _ _ fun b => h _ fun _ => ok
end Go.Proofs.YtpigkempbnmioaaDoor
