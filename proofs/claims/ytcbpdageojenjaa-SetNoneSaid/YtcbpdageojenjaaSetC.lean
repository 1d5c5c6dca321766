/- The laws SetGoes and SetNone. -/
import Derived.Test.YtcbpdageojenjaaAllI
namespace Go.Proofs.Ytcbpdageojenjaa
open Go.Vc Go.Lv Go.Ty Go.St Go.Proofs Go.Sort

theorem del_head {l : List Int} {x : Int} (h : Asc ltI (x :: l)) : delF (x :: l) x = l := by
  have h1 := (List.pairwise_cons.1 h).1
  unfold delF
  rw [List.filter_cons_of_neg (by simp), List.filter_eq_self]
  intro y hy
  have : x < y := h1 y hy
  simp; omega
theorem SetGoes_v (l : List Int) (stop : Int) (K : Bool → Prop) (h : K true) : V_L06_SetGoes l stop K := by
  refine L06_SetGoes_lift _ _ _ ⟨fun b => b = false ∧ l.length ≤ 100 ∨ b = true, cond_intro (fun _ => .inr rfl) fun hc => live6_v _ (.inl ⟨rfl, by simp at hc; omega⟩), ?_⟩
  rintro _ (⟨rfl, hl⟩ | rfl)
  case inr => exact live6_v _ h
  refine of_v l (by omega) _ (rof_v l (by omega) _ ⟨all_call, _, all_seq _ ?_, ?_⟩)
  · have := fold_len ordI l (s := []) List.Pairwise.nil
    rw [List.length_nil] at this
    show (ofF ltI l).length < _
    unfold ofF; omega
  have hs := ofF_asc ordI l
  have hsl : (ofF ltI l).length ≤ l.length := by
    have := fold_len ordI l (s := []) List.Pairwise.nil
    rw [List.length_nil] at this
    unfold ofF; omega
  generalize ofF ltI l = s at hs hsl
  have fin : ∀ v : Nat, v ≤ s.length → V_sorted_Set_int_Len (⟨s.drop v⟩ : Gsorted_Set_int) (fun x7 => cond (x7 == (IntKind.i64.wrap ((s.length : Int) - (v : Int)))) (V_L06_live (fun x8 => K x8)) (K false)) := fun v hv =>
    len_v _ _ (cond_t (by rw [wrap_in (by omega) (by omega), List.length_drop, beq_iff_eq]; omega) (live6_v _ h))
  refine ⟨fun pre v l1 _ => v = pre.length ∧ pre.length ≤ s.length ∧ l1 = s.drop pre.length, ⟨rfl, by simp, rfl⟩, ?_, ?_⟩
  · rintro pre i x _ _ b hpre ⟨rfl, hle, rfl⟩
    obtain ⟨rfl, hx⟩ := prs_pre hpre
    change s[pre.length]? = some x at hx
    obtain ⟨hlt, rfl⟩ := List.getElem?_eq_some_iff.1 hx
    have hd : s.drop pre.length = s[pre.length] :: s.drop (pre.length + 1) := List.drop_eq_getElem_cons hlt
    have ha : Asc ltI (s.drop pre.length) := List.Pairwise.drop hs
    refine ⟨fun b l => b = false ∧ l = s.drop (pre.length + 1), ?_, ?_⟩
    · refine cond_f (by simp) (cond_f (by simp; omega) ⟨by omega, fun y hy => ?_⟩)
      rw [Int.toNat_natCast, hx] at hy
      cases hy
      refine cond_f (by simp) (del_v _ ha (by rw [List.length_drop]; omega) _ _ ?_)
      rw [hd] at ha
      exact ⟨by rw [hd, decide_eq_true (List.mem_cons_self)]; rfl, by rw [hd]; exact del_head ha⟩
    · rintro _ _ ⟨rfl, rfl⟩
      have hw : IntKind.i64.wrap ((pre.length : Int) + 1) = ((pre.length + 1 : Nat) : Int) := by rw [wrap_in (by omega) (by omega)]; omega
      rw [hw]
      refine cond_f rfl (cond_intro (fun hst => ?_) fun _ => ⟨by simp, by simp; omega, by simp⟩)
      exact cond_intro (fun _ => fin _ (by omega)) fun _ => cond_t hst (fin _ (by omega))
  · rintro _ _ b ⟨rfl, hle, rfl⟩
    rw [prs_len]
    exact cond_t (by simp) (fin _ (Nat.le_refl _))
theorem lenN (K : Int → Prop) (h : K 0) : V_sorted_Set_int_Len_nil K := sorted_Set_int_Len_nil_lift _ h
theorem atN (i : Int) (K : Int → Bool → Prop) (h : K 0 false) : V_sorted_Set_int_At_nil i K := by
  refine sorted_Set_int_At_nil_lift _ _ ⟨(· = true), cond_intro (fun _ => rfl) fun hc => lenN _ (by simp at hc ⊢; omega), ?_⟩
  rintro _ rfl; exact h
theorem fromN (x : Int) (K : Int → Prop) (h : K 0) : V_sorted_Set_int_From_nil x K := by
  refine sorted_Set_int_From_nil_lift _ _ (lenN _ ⟨fun a b _ => a = 0 ∧ b = 0, ⟨0, rfl, rfl⟩, ?_⟩)
  rintro _ _ _ ⟨rfl, rfl⟩; exact h
theorem hasN (x : Int) (K : Bool → Prop) (h : K false) : V_sorted_Set_int_Has_nil x K :=
  sorted_Set_int_Has_nil_lift _ _ (fromN _ _ (atN _ _ h))
theorem addN (x : Int) (K : Bool → Prop) (h : K false) : V_sorted_Set_int_Add_nil x K := by
  refine sorted_Set_int_Add_nil_lift _ _ ⟨(· = true), rfl, ?_⟩
  rintro _ rfl; exact h
theorem delN (x : Int) (K : Bool → Prop) (h : K false) : V_sorted_Set_int_Del_nil x K :=
  sorted_Set_int_Del_nil_lift _ _ (hasN _ _ h)
theorem SetNone_v (x i : Int) (K : Bool → Prop) (h : K true) : V_L06_SetNone x i K := by
  refine L06_SetNone_lift _ _ _ (atN _ _ ⟨all_call, (· = false), live6_v _ rfl, ?_⟩)
  rintro _ rfl
  refine ⟨[], all_nil, fun _ _ => True, trivial, ?_, ?_⟩
  · rintro pre a b _ hp _
    have := hp.length_le
    simp at this
  · rintro _ _
    refine ⟨(· = false), addN _ _ (delN _ _ (hasN _ _ (lenN _ (fromN _ _ rfl)))), ?_⟩
    rintro _ rfl
    have e0 : Asc ltI [] := List.Pairwise.nil
    have e1 := addF_asc ordI e0 x
    have hm : x ∈ addF ltI [] x := (addF_mem ordI _ _ _).2 (.inl rfl)
    have hl : (addF ltI [] x).length = 1 := by simp [addF]
    refine len_v [] _ (cond_t rfl (add_v [] e0 (by decide) x _ (cond_t (by simp) (add_v _ e1 (by omega) x _ (cond_t (by simp [hm]) ?_)))))
    have e2 : addF ltI (addF ltI [] x) x = addF ltI [] x := asc_ext ordI (addF_asc ordI e1 x) e1 fun y => by
      rw [addF_mem ordI]
      exact ⟨fun h => h.elim (fun e => e ▸ hm) id, .inr⟩
    rw [e2]
    exact has_v _ e1 (by omega) x _ (cond_t (by simp [hm]) (len_v _ _ (cond_t (by rw [hl]; rfl) (live6_v _ h))))
theorem SetGoes_spec (l : List Int) (stop : Int) (A : Option Addr) (AC : Nat) (w : World) (ha : l.length ≤ AC) (h1 : SlR (cInt .i64) [] w A l) :
    Calls Try.prog 11 #[.slice A l.length AC, .int .i64 stop] w (Ret fun v w' => v = .bool true ∧ Ext w w') := by
  refine call_then (SetGoes_v l stop (· = true) rfl [] w nofun A AC ha h1) ?_
  rintro _ _ ⟨_, rfl, rfl, k⟩
  exact ⟨rfl, k.ext⟩
theorem SetNone_spec (x i : Int) (w : World) :
    Calls Try.prog 14 #[.int .i64 x, .int .i64 i] w (Ret fun v w' => v = .bool true ∧ Ext w w') := by
  refine call_then (SetNone_v x i (· = true) rfl [] w nofun) ?_
  rintro _ _ ⟨_, rfl, rfl, k⟩
  exact ⟨rfl, k.ext⟩
end Go.Proofs.Ytcbpdageojenjaa
