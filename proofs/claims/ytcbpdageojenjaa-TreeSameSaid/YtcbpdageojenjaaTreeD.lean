/- The laws TreePieces and TreeSame. -/
import Derived.Test.YtcbpdageojenjaaTreeB
import Derived.Test.YtcbpdageojenjaaTreeC
namespace Go.Proofs.Ytcbpdageojenjaa
open Go.Vc Go.Lv Go.Ty Go.Tr

theorem join1 {α : Type} {A : (α → Prop) → Prop} {C : α → Prop} (h : A C) : ∃ J : α → Prop, A J ∧ ∀ x, J x → C x := ⟨C, h, fun _ h => h⟩
theorem many_v (n most : Int) (a : List UInt8) (c : Int) (b : List UInt8) (k : Nat) (hk : IntKind.i64.wrap ((IntKind.i64.wrap ((if most < n then most else n) - (a.length : Int))) - (b.length : Int)) = k) (hb : k + a.length + b.length < 2 ^ 32) (K : List UInt8 → Bool → Prop) (h : K (a ++ strOf (List.replicate k c) ++ b) true) : V_tree_many n most a c b K := by
  refine tree_many_lift _ _ _ _ _ _ ?_
  unfold tree_many_vwp
  rw [hk]
  refine cond_f (by simp) (repeat_v c k (by omega) (by omega) _ ?_)
  rw [Int.toNat_natCast]
  have h1 : (strOf (List.replicate k c)).length = k := by simp [strOf]
  refine ⟨?_, ?_, h⟩
  · rw [h1]; show _ ≤ (9223372036854775807 : Int); omega
  · rw [List.length_append, h1]; show _ ≤ (9223372036854775807 : Int); omega
theorem rev0_v (K : List Int → Prop) (h : K []) : V_slices_Reverse_Slbyte_byte [] K := by
  refine slices_Reverse_Slbyte_byte_lift _ _ ⟨fun i j l n => i = 0 ∧ j = -1 ∧ l = [] ∧ n = 0, ⟨0, rfl, by decide, rfl, rfl⟩, ?_⟩
  rintro _ _ _ _ ⟨rfl, rfl, rfl, rfl⟩
  exact cond_f rfl h
theorem rev1_v (c : Int) (K : List Int → Prop) (h : K [c]) : V_slices_Reverse_Slbyte_byte [c] K := by
  refine slices_Reverse_Slbyte_byte_lift _ _ ⟨fun i j l n => i = 0 ∧ j = 0 ∧ l = [c] ∧ n = 0, ⟨0, rfl, rfl, rfl, rfl⟩, ?_⟩
  rintro _ _ _ _ ⟨rfl, rfl, rfl, rfl⟩
  exact cond_f rfl h
/-- one node is right -/
theorem node_ok (x : GNode) (r : List UInt8) (c most : Int) (hc : ∀ K : Int → Prop, K c → V_tree_class x.op K) (hk : ∀ K : List UInt8 → Bool → Prop, K r true → V_tree_kids x most K) (hf : ∀ K : Bool → Prop, K true → V_tree_fields x K)
    (C : List UInt8 → Prop) (D : Prop) (h : C r) : V_tree_kids x most (fun r r1 =>
        ∃ (J : Bool → Prop),
        (V_tree_class x.op (fun x4 =>
            cond (x4 != c)
              (J true)
              (cond (!r1)
                (J true)
                (V_tree_fields x (fun x5 =>
                  J (!x5)))))) ∧
        ∀ (x3 : Bool), J x3 →
        cond (x3)
          D
          (C r)) := by
  refine hk _ ⟨fun b => b = false, hc _ (cond_f (by simp) (cond_f rfl (hf _ rfl))), ?_⟩
  rintro _ rfl
  exact h
theorem n42 : (∀ K : Int → Prop, K 85 → V_tree_class 42 K) ∧ (∀ most : Int, 1 ≤ most → ∀ K : List UInt8 → Bool → Prop, K [68] true → V_tree_kids ⟨42, [], 0, 1, 0⟩ most K) ∧ (∀ K : Bool → Prop, K true → V_tree_fields ⟨42, [], 0, 1, 0⟩ K) := by
  refine ⟨fun K h => ?_, fun most hm K h => ?_, fun K h => ?_⟩
  · repeat (first | refine tree_class_lift _ _ ?_ | refine join1 ?_ | refine cond_f rfl ?_ | refine cond_t rfl ?_)
    exact h
  · repeat (first | refine tree_kids_lift _ _ _ ?_ | refine join1 ?_ | refine cond_f rfl ?_ | refine cond_t rfl ?_)
    refine many_v _ _ _ _ _ 1 ?_ (by decide) _ h
    rw [if_neg (show ¬ most < (1 : Int) by omega)]; decide +kernel
  · repeat (first | refine tree_fields_lift _ _ ?_ | refine join1 ?_ | refine cond_f rfl ?_ | refine cond_t rfl ?_ | refine tree_named_lift _ _ ?_ | refine tree_guarded_lift _ _ ?_)
    exact h
theorem n41 : (∀ K : Int → Prop, K 68 → V_tree_class 41 K) ∧ (∀ most : Int, ∀ K : List UInt8 → Bool → Prop, K [66] true → V_tree_kids ⟨41, [], 0, 1, 0⟩ most K) ∧ (∀ K : Bool → Prop, K true → V_tree_fields ⟨41, [], 0, 1, 0⟩ K) := by
  refine ⟨fun K h => ?_, fun most K h => ?_, fun K h => ?_⟩
  · repeat (first | refine tree_class_lift _ _ ?_ | refine join1 ?_ | refine cond_f rfl ?_ | refine cond_t rfl ?_)
    exact h
  · repeat (first | refine tree_kids_lift _ _ _ ?_ | refine join1 ?_ | refine cond_f rfl ?_ | refine cond_t rfl ?_ | refine tree_guarded_lift _ _ ?_)
    exact h
  · repeat (first | refine tree_fields_lift _ _ ?_ | refine join1 ?_ | refine cond_f rfl ?_ | refine cond_t rfl ?_ | refine tree_named_lift _ _ ?_ | refine tree_guarded_lift _ _ ?_)
    exact h
theorem n32 : (∀ K : Int → Prop, K 66 → V_tree_class 32 K) ∧ (∀ most : Int, 1 ≤ most → ∀ K : List UInt8 → Bool → Prop, K [] true → V_tree_kids ⟨32, [], 0, 0, 0⟩ most K) ∧ (∀ K : Bool → Prop, K true → V_tree_fields ⟨32, [], 0, 0, 0⟩ K) := by
  refine ⟨fun K h => ?_, fun most hm K h => ?_, fun K h => ?_⟩
  · repeat (first | refine tree_class_lift _ _ ?_ | refine join1 ?_ | refine cond_f rfl ?_ | refine cond_t rfl ?_)
    exact h
  · repeat (first | refine tree_kids_lift _ _ _ ?_ | refine join1 ?_ | refine cond_f rfl ?_ | refine cond_t rfl ?_)
    refine many_v _ _ _ _ _ 0 ?_ (by decide) _ h
    rw [if_neg (show ¬ most < (0 : Int) by omega)]; decide +kernel
  · repeat (first | refine tree_fields_lift _ _ ?_ | refine join1 ?_ | refine cond_f rfl ?_ | refine cond_t rfl ?_ | refine tree_named_lift _ _ ?_ | refine tree_guarded_lift _ _ ?_)
    exact h
abbrev l3 : List GNode := [⟨42, [], 0, 1, 0⟩, ⟨41, [], 0, 1, 0⟩, ⟨32, [], 0, 0, 0⟩]
theorem check3 (K : Int → Int → Prop) (h : K 0 0) : V_tree_Check l3 K := by
  refine tree_Check_lift _ _ ⟨fun todo x n => (x = 0 ∧ todo = [85] ∧ n = 3) ∨ (x = 1 ∧ todo = [68] ∧ n = 2) ∨ (x = 2 ∧ todo = [66] ∧ n = 1) ∨ (x = 3 ∧ todo = [] ∧ n = 0), ⟨3, .inl ⟨rfl, rfl, rfl⟩⟩, ?_⟩
  rintro _ _ _ (⟨rfl, rfl, rfl⟩ | ⟨rfl, rfl, rfl⟩ | ⟨rfl, rfl, rfl⟩ | ⟨rfl, rfl, rfl⟩)
  · refine cond_t rfl ⟨by decide +kernel, fun x1 h1 => ?_⟩
    cases (Option.some.inj h1 : (⟨42, [], 0, 1, 0⟩ : GNode) = x1)
    refine cond_f rfl ⟨by decide +kernel, fun x2 h2 => ?_⟩
    cases (Option.some.inj h2 : (85 : Int) = x2)
    exact node_ok ⟨42, [], 0, 1, 0⟩ [68] 85 _ n42.1 (n42.2.1 _ (by decide +kernel)) n42.2.2 _ _ (rev1_v _ _ ⟨by decide +kernel, by decide +kernel, 2, by decide +kernel, .inr (.inl ⟨by decide +kernel, rfl, rfl⟩)⟩)
  · refine cond_t rfl ⟨by decide +kernel, fun x1 h1 => ?_⟩
    cases (Option.some.inj h1 : (⟨41, [], 0, 1, 0⟩ : GNode) = x1)
    refine cond_f rfl ⟨by decide +kernel, fun x2 h2 => ?_⟩
    cases (Option.some.inj h2 : (68 : Int) = x2)
    exact node_ok ⟨41, [], 0, 1, 0⟩ [66] 68 _ n41.1 (n41.2.1 _) n41.2.2 _ _ (rev1_v _ _ ⟨by decide +kernel, by decide +kernel, 1, by decide +kernel, .inr (.inr (.inl ⟨by decide +kernel, rfl, rfl⟩))⟩)
  · refine cond_t rfl ⟨by decide +kernel, fun x1 h1 => ?_⟩
    cases (Option.some.inj h1 : (⟨32, [], 0, 0, 0⟩ : GNode) = x1)
    refine cond_f rfl ⟨by decide +kernel, fun x2 h2 => ?_⟩
    cases (Option.some.inj h2 : (66 : Int) = x2)
    exact node_ok ⟨32, [], 0, 0, 0⟩ [] 66 _ n32.1 (n32.2.1 _ (by decide +kernel)) n32.2.2 _ _ (rev0_v _ ⟨by decide +kernel, by decide +kernel, 0, by decide +kernel, .inr (.inr (.inr ⟨by decide +kernel, rfl, rfl⟩))⟩)
  · exact cond_f rfl (cond_f rfl h)
theorem check2 (K : Int → Int → Prop) (h : K 2 3) : V_tree_Check (l3.take 2) K := by
  refine tree_Check_lift _ _ ⟨fun todo x n => (x = 0 ∧ todo = [85] ∧ n = 3) ∨ (x = 1 ∧ todo = [68] ∧ n = 2) ∨ (x = 2 ∧ todo = [66] ∧ n = 1), ⟨3, .inl ⟨rfl, rfl, rfl⟩⟩, ?_⟩
  rintro _ _ _ (⟨rfl, rfl, rfl⟩ | ⟨rfl, rfl, rfl⟩ | ⟨rfl, rfl, rfl⟩)
  · refine cond_t rfl ⟨by decide +kernel, fun x1 h1 => ?_⟩
    cases (Option.some.inj h1 : (⟨42, [], 0, 1, 0⟩ : GNode) = x1)
    refine cond_f rfl ⟨by decide +kernel, fun x2 h2 => ?_⟩
    cases (Option.some.inj h2 : (85 : Int) = x2)
    exact node_ok ⟨42, [], 0, 1, 0⟩ [68] 85 _ n42.1 (n42.2.1 _ (by decide +kernel)) n42.2.2 _ _ (rev1_v _ _ ⟨by decide +kernel, by decide +kernel, 2, by decide +kernel, .inr (.inl ⟨by decide +kernel, rfl, rfl⟩)⟩)
  · refine cond_t rfl ⟨by decide +kernel, fun x1 h1 => ?_⟩
    cases (Option.some.inj h1 : (⟨41, [], 0, 1, 0⟩ : GNode) = x1)
    refine cond_f rfl ⟨by decide +kernel, fun x2 h2 => ?_⟩
    cases (Option.some.inj h2 : (68 : Int) = x2)
    exact node_ok ⟨41, [], 0, 1, 0⟩ [66] 68 _ n41.1 (n41.2.1 _) n41.2.2 _ _ (rev1_v _ _ ⟨by decide +kernel, by decide +kernel, 1, by decide +kernel, .inr (.inr ⟨by decide +kernel, rfl, rfl⟩)⟩)
  · exact cond_f rfl (cond_t rfl h)
theorem live_v (K : Bool → Prop) (h : K true) : V_L09_live K := by
  refine L09_live_lift _ (check3 _ ⟨by decide, check2 _ (cond_t rfl (cond_t rfl (cond_t rfl ?_)))⟩)
  have e : endZ l3 0 = 3 := by
    show ((endF [1, 1, 0] 0 : Nat) : Int) = 3
    have : endF [1, 1, 0] 0 = 3 := by simp [endF, eat_cons, eat_nil]
    rw [this]; rfl
  have ee : endF [1, 1, 0] 2 = 3 := by simp [endF, eat_cons, eat_nil]
  have e2 : kidsZ l3 1 = [2] := by
    show kidsOf [1, 1, 0] 1 = [2]
    simp [kidsOf, kidsF]
  have k : kidZ l3 1 0 = 2 := by unfold kidZ; rw [e2]; rfl
  refine end_v l3 0 (by decide) _ (cond_t (by rw [e]; rfl) (kid_v l3 1 0 (by decide) (by decide) _ (cond_t (by rw [k]; rfl) (up_v l3 2 (by decide) _ fun r hr => ?_))))
  have hr1 : r = 1 := hr.unique (.inl ⟨1, rfl, by show (2 : Int) ∈ kidsZ l3 1; rw [e2]; simp⟩)
  subst hr1
  refine cond_t rfl (same_v l3 l3 (by decide) _ ?_)
  exact h
theorem TreeSame_v (a b : List GNode) (at_ : Int) (K : Bool → Prop) (h : K true) : V_L09_TreeSame a b at_ K := by
  refine L09_TreeSame_lift _ _ _ _ (cond_intro (fun _ => live_v _ h) fun hc => ?_)
  have ha : a.length ≤ 120 := by simp at hc; omega
  refine ⟨fun own i n => ∃ k : Nat, i = k ∧ k ≤ a.length ∧ n = a.length - k ∧ own = (a.take k).map fun x => ⟨x.op, x.name, x.n, x.kids, at_⟩, ⟨_, 0, rfl, by omega, rfl, by simp⟩, ?_⟩
  rintro _ _ _ ⟨k, rfl, hk, rfl, rfl⟩
  refine cond_intro (fun hd => ⟨by simp at hd; omega, fun x hx => ?_⟩) fun hd => ?_
  · rw [Int.toNat_natCast] at hx
    have hlt := (List.getElem?_eq_some_iff.1 hx).1
    refine ⟨by simp; omega, a.length - (k + 1), by omega, k + 1, by rw [wrap_in (by omega) (by omega)]; omega, by omega, rfl, ?_⟩
    rw [List.take_add_one, hx]
    simp
  · have hkk : k = a.length := by simp at hd; omega
    subst hkk
    rw [List.take_length]
    refine same_v a b (by omega) _ (rsame_v a b (by omega) _ (cond_t (by simp) (same_v a _ (by omega) _ (cond_t ?_ (live_v _ h)))))
    clear hc ha hk hd
    induction a with
    | nil => rfl
    | cons x a ih => simp [sameL, alike, ih]
theorem TreePieces_v (l : List GNode) (i k stop : Int) (hk : k < 9223372036854775808) (K : Bool → Prop) (h : K true) : V_L09_TreePieces l i k stop K := by
  refine L09_TreePieces_lift _ _ _ _ _ ⟨fun b => b = decide ((l.length : Int) > 80), cond_intro (fun hc => by rw [hc]) (fun hc => live_v _ (by rw [hc]; rfl)), ?_⟩
  rintro _ rfl
  refine cond_intro (fun _ => live_v _ h) fun hc => ?_
  have hl : l.length ≤ 100000 := by simp at hc; omega
  have fin : V_tree_End l i (fun x6 => V_R09_End l i (fun x7 => cond (x6 == x7) (V_tree_Kid l i k (fun x8 => V_R09_Kid l i k (fun x9 => cond (x8 == x9) (V_tree_Up l i (fun x10 => V_R09_Up l i (fun x11 => cond (x10 == x11) (V_L09_live (fun x12 => K x12)) (K false)))) (K false)))) (K false))) := by
    refine end_v l i hl _ (rend l i hl _ (cond_t (by simp) (kid_v l i k hl hk _ (rkid_v l i k hl _ (cond_t (by simp) (up_v l i hl _ fun r hr => rup_v l i hl _ fun r' hr' => ?_))))))
    exact cond_t (by rw [hr.unique hr']; simp) (live_v _ h)
  refine rkids l i hl _ (kids_v l i _ ⟨_, kids_it l i hl, fun pre v _ => v = pre.length, rfl, ?_, ?_⟩)
  · rintro pre x v2 v3 ⟨t, ht⟩ rfl
    have hlen : pre.length < (kidsZ l i).length := by rw [← ht]; simp
    have hlen2 := kidsZ_len l i
    have hget : (kidsZ l i)[pre.length]? = some x := by rw [← ht]; simp
    have hw : IntKind.i64.wrap ((pre.length : Int) + 1) = (pre.length : Int) + 1 := wrap_in (by omega) (by omega)
    rw [hw]
    refine ⟨fun b => b = false, cond_f (by simp; omega) ⟨by omega, fun y hy => ?_⟩, ?_⟩
    · rw [Int.toNat_natCast, hget] at hy
      cases hy
      simp
    · rintro _ rfl
      refine cond_f rfl (cond_intro (fun hs => ?_) fun hs => by simp)
      refine ⟨fun b => b = false, cond_intro (fun _ => ?_) (fun _ => rfl), ?_⟩
      · have : (pre.length : Int) + 1 = stop := by simpa using hs
        show (_ != _) = false
        rw [this]; simp
      · rintro _ rfl
        exact cond_f rfl fin
  · rintro v2 v3 rfl
    refine ⟨fun b => b = false, cond_f (by simp) rfl, ?_⟩
    rintro _ rfl
    exact cond_f rfl fin
theorem TreeSame_spec (a b : List GNode) (at_ : Int) (aA bA : Option Addr) (aC bC : Nat) (ha : a.length ≤ aC) (hb : b.length ≤ bC) (w : World) (h1 : SlR cGNode [] w aA a) (h2 : SlR cGNode [] w bA b) :
    Calls Try.prog 6 #[.slice aA a.length aC, .slice bA b.length bC, .int .i64 at_] w (Ret fun v w' => v = .bool true ∧ Ext w w') := by
  refine call_then (TreeSame_v a b at_ (· = true) rfl [] w nofun aA aC ha h1 bA bC hb h2) ?_
  rintro _ _ ⟨_, rfl, rfl, k⟩
  exact ⟨rfl, k.ext⟩
theorem TreePieces_spec (l : List GNode) (i k stop : Int) (hk : k < 9223372036854775808) (A : Option Addr) (C : Nat) (ha : l.length ≤ C) (w : World) (h1 : SlR cGNode [] w A l) :
    Calls Try.prog 5 #[.slice A l.length C, .int .i64 i, .int .i64 k, .int .i64 stop] w (Ret fun v w' => v = .bool true ∧ Ext w w') := by
  refine call_then (TreePieces_v l i k stop hk (· = true) rfl [] w nofun A C ha h1) ?_
  rintro _ _ ⟨_, rfl, rfl, k⟩
  exact ⟨rfl, k.ext⟩
end Go.Proofs.Ytcbpdageojenjaa
