/- Breakpoints: contracts, and the laws StopPlays and StopMore. -/
import Derived.Test.YtcbpdageojenjaaStopP
import Derived.Test.YtcbpdageojenjaaAllI
import Derived.Test.YtcbpdageojenjaaLoop
namespace Go.Proofs.Ytcbpdageojenjaa
open Go.Vc Go.Lv Go.Ty Go.St Go.Proofs Go.Sort

theorem eqB (x b : GBreak) : ((x.kind == b.kind) && ((x.n == b.n) && true)) = decide (x = b) := by
  obtain ⟨k, n⟩ := x
  obtain ⟨k', n'⟩ := b
  rw [Bool.eq_iff_iff]; simp
theorem code_v (b : GBreak) (K : Int → Bool → Prop) (h1 : IsB b → K (encB b) true) (h2 : ∀ n, ¬ IsB b → K n false) : V_stop_code b K := by
  refine stop_code_lift _ _ ?_
  by_cases hb : IsB b
  · have hb' := hb
    obtain ⟨h3, h4, h5, h6⟩ := hb
    have e : IntKind.i64.wrap ((IntKind.i64.wrap (b.kind * 1048576)) + b.n) = encB b := by
      rw [wrap_in (n := b.kind * 1048576) (by omega) (by omega), wrap_in (by omega) (by omega)]; rfl
    unfold stop_code_vwp
    rw [e, decide_eq_true h6]
    exact cond_t (by simpa using h3) (cond_t (by simpa using h4) (cond_t (by simpa using h5) (h1 hb')))
  · refine cond_intro (fun h3 => cond_intro (fun h4 => cond_intro (fun h5 => ?_) fun _ => h2 _ hb) fun _ => h2 _ hb) fun _ => h2 _ hb
    have : decide (b.n < 1048576) = false := by
      rw [decide_eq_false_iff_not]
      exact fun h6 => hb ⟨by simpa using h3, by simpa using h4, by simpa using h5, h6⟩
    rw [this]; exact h2 _ hb
theorem is_v (b : GBreak) (K : Bool → Prop) (h : K (decide (IsB b))) : V_R37_Is b K := by
  refine R37_Is_lift _ _ ?_
  have e : decide (IsB b) = (decide (b.kind ≥ 1) && (decide (b.kind ≤ 3) && (decide (b.n ≥ 0) && decide (b.n < 1048576)))) := by
    rw [Bool.eq_iff_iff, decide_eq_true_iff]; simp [IsB]
  rw [e] at h
  unfold R37_Is_vwp
  revert h
  generalize decide (b.kind ≥ 1) = x
  generalize decide (b.kind ≤ 3) = y
  generalize decide (b.n ≥ 0) = z
  intro h
  cases x
  · exact h
  · cases y
    · exact h
    · cases z
      · exact h
      · exact h
theorem rhas37 (l : List GBreak) (hl : l.length < 1000000) (b : GBreak) (K : Bool → Prop) (h : K (decide (b ∈ l))) : V_R37_Has l b K := by
  refine R37_Has_lift _ _ _ ⟨fun i n => At l.length (fun k => b ∉ l.take k) i n, ⟨_, At.start (by simp)⟩, ?_⟩
  rintro _ _ ⟨k, rfl, hk, rfl, hno⟩
  refine At.cond hk (fun hk => at_elem hk ?_) fun hk => ?_
  · rw [eqB]
    refine cond_intro (fun hq => ?_) fun hq => At.next (by omega) hk ?_
    · have e : l[k] = b := of_decide_eq_true hq
      rw [decide_eq_true (e ▸ List.getElem_mem hk)] at h; exact h
    · rw [take_snoc hk, List.mem_append, List.mem_singleton]
      exact fun h' => h'.elim hno fun e => (of_decide_eq_false hq) e.symm
  · rw [hk, List.take_length] at hno
    rw [decide_eq_false hno] at h; exact h
theorem less_v (a b : GBreak) (K : Bool → Prop) (h : K (lessB a b)) : V_R37_less a b K := by
  refine R37_less_lift _ _ _ ?_
  unfold lessB at h
  unfold R37_less_vwp
  revert h
  generalize decide (a.kind < b.kind) = x
  generalize (a.kind == b.kind) = y
  intro h
  cases x
  · cases y
    · exact h
    · exact h
  · exact h
theorem radd37g (l : List GBreak) (hl : l.length < 1000000) (b : GBreak) (K : List GBreak → Int → Prop) (h1 : ¬ IsB b → K l 1) (h2 : IsB b → b ∈ l → K l 8)
    (h3 : IsB b → b ∉ l → K (l.filter (fun x => lessB x b) ++ [b] ++ l.filter (fun x => lessB b x)) 0) : V_R37_Add l b K := by
  refine R37_Add_lift _ _ _ (is_v _ _ (cond_intro (fun hc => h1 (by simpa using hc)) fun hc => ?_))
  have hb : IsB b := by simpa using hc
  refine rhas37 _ (by omega) _ _ (cond_intro (fun hc => h2 hb (of_decide_eq_true hc)) fun hc => ?_)
  replace h3 := h3 hb (of_decide_eq_false hc)
  refine ⟨fun out i n => At l.length (fun k => out = (l.take k).filter fun x => lessB x b) i n, ⟨_, At.start (by simp)⟩, ?_⟩
  rintro _ _ _ ⟨k, rfl, hk, rfl, rfl⟩
  have hfl : ((l.take k).filter fun x => lessB x b).length ≤ l.length := by
    have := List.length_filter_le (fun x => lessB x b) (l.take k)
    rw [List.length_take] at this; omega
  refine At.cond hk (fun hk => ?_) fun hk => ?_
  · refine ⟨fun o => o = (l.take (k + 1)).filter fun x => lessB x b, ⟨fun y => y = lessB l[k] b, at_elem hk (less_v _ _ _ rfl), ?_⟩, ?_⟩
    · rintro _ rfl
      rw [filter_snoc _ hk]
      refine cond_intro (fun hq => at_elem hk ⟨by rw [List.length_singleton]; omega, ?_⟩) fun hq => ?_
      · rw [if_pos hq]
      · rw [hq]; simp
    · rintro _ rfl
      exact At.next (by omega) hk rfl
  · subst hk
    rw [List.take_length] at hfl ⊢
    refine ⟨by rw [List.length_singleton]; omega, fun out i n => At l.length (fun k => out = l.filter (fun x => lessB x b) ++ [b] ++ (l.take k).filter fun x => lessB b x) i n, ⟨_, At.start (by simp)⟩, ?_⟩
    rintro _ _ _ ⟨k, rfl, hk, rfl, rfl⟩
    have hf2 : ((l.take k).filter fun x => lessB b x).length ≤ l.length := by
      have := List.length_filter_le (fun x => lessB b x) (l.take k)
      rw [List.length_take] at this; omega
    refine At.cond hk (fun hk => ?_) fun hk => ?_
    · refine ⟨fun o => o = l.filter (fun x => lessB x b) ++ [b] ++ (l.take (k + 1)).filter fun x => lessB b x, ⟨fun y => y = lessB b l[k], at_elem hk (less_v _ _ _ rfl), ?_⟩, ?_⟩
      · rintro _ rfl
        rw [filter_snoc _ hk]
        refine cond_intro (fun hq => at_elem hk ⟨by simp only [List.length_append, List.length_singleton]; omega, ?_⟩) fun hq => ?_
        · rw [if_pos hq]; simp
        · rw [hq]; simp
      · rintro _ rfl
        exact At.next (by omega) hk rfl
    · rw [hk, List.take_length]; exact h3
theorem radd37 (sl : List Int) (hs : Nums sl) (hl : sl.length < 1000000) (b : GBreak) (K : List GBreak → Int → Prop) (h : K ((addS sl b).map decB) (addE sl b)) : V_R37_Add (sl.map decB) b K := by
  refine radd37g _ (by rw [List.length_map]; exact hl) _ _ (fun hb => ?_) (fun hb hm => ?_) fun hb hm => ?_
  · unfold addS addE at h
    rwa [if_neg hb, if_neg hb] at h
  · have hq := (mem_dec hs hb).1 hm
    unfold addS addE addF at h
    rwa [if_pos hb, if_pos hb, if_pos hq, if_pos hq] at h
  · have hq := fun h' => hm ((mem_dec hs hb).2 h')
    rw [add_dec hs hb hq]
    have e : addE sl b = 0 := by unfold addE; rw [if_pos hb, if_neg hq]
    rwa [e] at h
theorem rdel37g (l : List GBreak) (hl : l.length < 1000000) (b : GBreak) (K : List GBreak → Int → Prop) (h1 : ¬ IsB b → K l 1) (h2 : IsB b → b ∉ l → K l 7)
    (h3 : IsB b → b ∈ l → K (l.filter fun x => decide (x ≠ b)) 0) : V_R37_Del l b K := by
  refine R37_Del_lift _ _ _ (is_v _ _ (cond_intro (fun hc => h1 (by simpa using hc)) fun hc => ?_))
  have hb : IsB b := by simpa using hc
  refine rhas37 _ (by omega) _ _ (cond_intro (fun hc => h2 hb (by simpa using hc)) fun hc => ?_)
  replace h3 := h3 hb (by simpa using hc)
  refine ⟨fun out i n => At l.length (fun k => out = (l.take k).filter fun x => decide (x ≠ b)) i n, ⟨_, At.start (by simp)⟩, ?_⟩
  rintro _ _ _ ⟨k, rfl, hk, rfl, rfl⟩
  have hfl : ((l.take k).filter fun x => decide (x ≠ b)).length ≤ l.length := by
    have := List.length_filter_le (fun x => decide (x ≠ b)) (l.take k)
    rw [List.length_take] at this; omega
  refine At.cond hk (fun hk => ?_) fun hk => ?_
  · refine ⟨fun o => o = (l.take (k + 1)).filter fun x => decide (x ≠ b), at_elem hk ?_, ?_⟩
    · rw [filter_snoc _ hk, eqB]
      refine cond_intro (fun hq => at_elem hk ⟨by rw [List.length_singleton]; omega, ?_⟩) fun hq => ?_
      · rw [if_pos (by simpa using hq)]
      · rw [if_neg (by simpa using hq)]; simp
    · rintro _ rfl
      exact At.next (by omega) hk rfl
  · rw [hk, List.take_length]; exact h3
theorem rdel37 (sl : List Int) (hs : Nums sl) (hl : sl.length < 1000000) (b : GBreak) (K : List GBreak → Int → Prop) (h : K ((delS sl b).map decB) (delE sl b)) : V_R37_Del (sl.map decB) b K := by
  refine rdel37g _ (by rw [List.length_map]; exact hl) _ _ (fun hb => ?_) (fun hb hm => ?_) fun hb hm => ?_
  · unfold delS delE at h
    rwa [if_neg hb, if_neg hb] at h
  · have hq := fun h' => hm ((mem_dec hs hb).2 h')
    have e1 : delS sl b = sl := by
      unfold delS delF
      rw [if_pos hb, List.filter_eq_self]
      intro y hy
      exact decide_eq_true fun e => hq (e ▸ hy)
    have e2 : delE sl b = 7 := by unfold delE; rw [if_pos hb, if_neg hq]
    rwa [e1, e2] at h
  · have hq := (mem_dec hs hb).1 hm
    rw [del_dec hs hb]
    have e : delE sl b = 0 := by unfold delE; rw [if_pos hb, if_pos hq]
    rwa [e] at h
theorem rhits_v (b : GBreak) (x : GHappen) (K : Bool → Prop) (h : K (hitB b x)) : V_R37_Hits b x K := by
  refine R37_Hits_lift _ _ _ ?_
  unfold hitB at h
  refine cond_intro (fun hc => ?_) fun hc => cond_intro (fun hd => ?_) fun hd => cond_intro (fun he => ?_) fun he => ?_
  · rwa [if_pos (by simpa using hc)] at h
  · rwa [if_neg (by simpa using hc), if_pos (by simpa using hd)] at h
  · rwa [if_neg (by simpa using hc), if_neg (by simpa using hd), if_pos (by simpa using he)] at h
  · rwa [if_neg (by simpa using hc), if_neg (by simpa using hd), if_neg (by simpa using he)] at h
theorem rwhich_v (l : List GBreak) (hl : l.length < 1000000) (x : GHappen) (K : List GBreak → Prop) (h : K (l.filter fun b => hitB b x)) : V_R37_Which l x K := by
  refine R37_Which_lift _ _ _ ⟨fun out i n => At l.length (fun k => out = (l.take k).filter fun b => hitB b x) i n, ⟨_, At.start (by simp)⟩, ?_⟩
  rintro _ _ _ ⟨k, rfl, hk, rfl, rfl⟩
  have hfl : ((l.take k).filter fun b => hitB b x).length ≤ l.length := by
    have := List.length_filter_le (fun b => hitB b x) (l.take k)
    rw [List.length_take] at this; omega
  refine At.cond hk (fun hk => ?_) fun hk => ?_
  · refine ⟨fun o => o = (l.take (k + 1)).filter fun b => hitB b x, ⟨fun y => y = hitB l[k] x, at_elem hk (rhits_v _ _ _ rfl), ?_⟩, ?_⟩
    · rintro _ rfl
      rw [filter_snoc _ hk]
      refine cond_intro (fun hq => at_elem hk ⟨by rw [List.length_singleton]; omega, ?_⟩) fun hq => ?_
      · rw [if_pos hq]
      · rw [hq]; simp
    · rintro _ rfl
      exact At.next (by omega) hk rfl
  · rw [hk, List.take_length]; exact h
theorem rsame37 (l : List GBreak) (hl : l.length < 1000000) (K : Bool → Prop) (h : K true) : V_R37_Same l l K := by
  refine R37_Same_lift _ _ _ (cond_f (by simp) ⟨fun i n => At l.length (fun _ => True) i n, ⟨_, At.start trivial⟩, ?_⟩)
  rintro _ _ ⟨k, rfl, hk, rfl, -⟩
  refine At.cond hk (fun hk => at_elem hk (at_elem hk ?_)) fun _ => h
  rw [eqB]
  exact cond_f (by simp) (At.next (by omega) hk trivial)
/-! ## the program's -/
theorem sadd_v (sl : List Int) (hs : Nums sl) (hl : sl.length < 900000) (b : GBreak) (K : Int → Gstop_Set → Prop) (h : K (addE sl b) ⟨⟨addS sl b⟩⟩) : V_stop_Set_Add ⟨⟨sl⟩⟩ b K := by
  refine stop_Set_Add_lift _ _ _ (code_v _ _ (fun hb => cond_f rfl (add_v sl hs.asc hl _ _ ?_)) fun n hb => cond_t rfl ?_)
  · unfold addE addS at h
    rw [if_pos hb, if_pos hb] at h
    refine cond_intro (fun hc => ?_) fun hc => ?_
    · rwa [if_pos (by simpa using hc)] at h
    · rwa [if_neg (by simpa using hc)] at h
  · unfold addE addS at h
    rwa [if_neg hb, if_neg hb] at h
theorem sdel_v (sl : List Int) (hs : Nums sl) (hl : sl.length < 900000) (b : GBreak) (K : Int → Gstop_Set → Prop) (h : K (delE sl b) ⟨⟨delS sl b⟩⟩) : V_stop_Set_Del ⟨⟨sl⟩⟩ b K := by
  refine stop_Set_Del_lift _ _ _ (code_v _ _ (fun hb => cond_f rfl (del_v sl hs.asc hl _ _ ?_)) fun n hb => cond_t rfl ?_)
  · unfold delE delS at h
    rw [if_pos hb, if_pos hb] at h
    refine cond_intro (fun hc => ?_) fun hc => ?_
    · rwa [if_neg (by simpa using hc)] at h
    · rwa [if_pos (by simpa using hc)] at h
  · unfold delE delS at h
    rwa [if_neg hb, if_neg hb] at h
theorem sall_v (sl : List Int) (hs : Nums sl) (hl : sl.length < 900000) (K : List GBreak → Prop) (h : K (sl.map decB)) : V_stop_Set_All ⟨⟨sl⟩⟩ K := by
  refine stop_Set_All_lift _ _ ⟨all_call, _, all_seq _ (by show sl.length < _; omega), fun pre v => v = (sl.take pre.length).map decB ∧ pre.length ≤ sl.length, ⟨rfl, by simp⟩, ?_, ?_⟩
  · rintro pre i x _ hpre ⟨rfl, hle⟩
    obtain ⟨rfl, hx⟩ := prs_pre hpre
    change sl[pre.length]? = some x at hx
    obtain ⟨hlt, rfl⟩ := List.getElem?_eq_some_iff.1 hx
    have hr := hs.rng _ (List.getElem_mem hlt)
    refine ⟨by decide, by decide, by simp only [List.length_map, List.length_take, List.length_singleton]; omega, ?_, by simp; omega⟩
    rw [List.length_append, List.length_singleton, map_snoc _ hlt, wrap_in (by rw [Int.tdiv_eq_ediv_of_nonneg (by omega)]; omega) (by rw [Int.tdiv_eq_ediv_of_nonneg (by omega)]; omega)]
    rfl
  · rintro _ ⟨rfl, hle⟩
    rw [prs_len]
    show K ((sl.take sl.length).map decB)
    rw [List.take_length]; exact h
theorem clip_v (l : List GBreak) (K : List GBreak → Prop) (h : K l) : V_slices_Clip_Slapi_Break_api_Break l K := slices_Clip_Slapi_Break_api_Break_lift _ _ h
theorem looks_v (x : GHappen) : V_stop_looks x := by
  intro m w hm cs hr
  obtain rfl := GHappen_out hr
  refine looks0_ok _ _ _ _ _ _ _ ?_
  intro b w1 hb hw b1 w2 hb1 hw2
  obtain ⟨hel, hk⟩ := box_el hm hb hw
  have hbx := Box.new hb1 hw2
  refine ⟨rfl, rfl, rfl, rfl, hbx.writable (by decide), fun w3 hw3 => ?_⟩
  have hbx3 := hbx.sets hw3
  have hk2 : Keep [] w1 w3 := by
    refine Keep.ofExt ?_
    have := below_sets (n := w1.heap.size) (w0 := w1) (w := w2) (Ext.alloc hw2) (by omega) hw3
    exact this
  exact ⟨_, _, _, _, hbx3.whole, b, rfl, hel.st (Keep.stw (hk2.mono (by simp))), hk.trans hk2⟩
theorem look_step (sl : List Int) (hs : Nums sl) (hl : sl.length < 900000) (b : GBreak) (out : List GBreak) (ho : out.length ≤ 3) (J : List GBreak → Prop) (h : J (out ++ [b].filter fun b => decide (IsB b ∧ encB b ∈ sl))) :
    V_stop_code b (fun r r1 => ∃ (J2 : Bool → Prop), (cond r1 (V_sorted_Set_int_Has (⟨sl⟩ : Gsorted_Set_int) r (fun x2 => J2 x2)) (J2 false)) ∧ ∀ (x1 : Bool), J2 x1 → cond (x1) (out.length + [b].length < 2 ^ 32 ∧ J (out ++ [b])) (J out)) := by
  refine code_v _ _ (fun hb => ⟨fun y => y = decide (encB b ∈ sl), cond_t rfl (has_v sl hs.asc (by omega) _ _ rfl), ?_⟩) fun n hb => ⟨fun y => y = false, cond_f rfl rfl, ?_⟩
  · rintro _ rfl
    refine cond_intro (fun hq => ⟨by rw [List.length_singleton]; omega, ?_⟩) fun hq => ?_
    · rw [List.filter_cons_of_pos (by simpa [hb] using hq)] at h; exact h
    · rw [List.filter_cons_of_neg (by simpa [hb] using hq)] at h; simpa using h
  · rintro _ rfl
    rw [List.filter_cons_of_neg (by simp [hb])] at h
    exact cond_f rfl (by simpa using h)
theorem swhich_v (sl : List Int) (hs : Nums sl) (hl : sl.length < 900000) (x : GHappen) (K : List GBreak → Prop) (h : K (whichS sl x)) : V_stop_Set_Which ⟨⟨sl⟩⟩ x K := by
  have h1 := fun a : List GBreak => List.length_filter_le (fun b => decide (IsB b ∧ encB b ∈ sl)) a
  refine stop_Set_Which_lift _ _ _ ⟨looks_v _, fun o => o = [], rfl, ?_⟩
  rintro _ rfl
  refine ⟨fun o => o = [(⟨1, x.stmt⟩ : GBreak)].filter fun b => decide (IsB b ∧ encB b ∈ sl), stop_looks_1_lift _ _ ?_, ?_⟩
  · exact look_step sl hs hl ⟨1, x.stmt⟩ [] (by decide) (fun o => o = [(⟨1, x.stmt⟩ : GBreak)].filter fun b => decide (IsB b ∧ encB b ∈ sl)) rfl
  rintro _ rfl
  refine ⟨fun o => o = [(⟨1, x.stmt⟩ : GBreak), ⟨2, x.chan⟩].filter fun b => decide (IsB b ∧ encB b ∈ sl), stop_looks_2_lift _ _ ?_, ?_⟩
  · refine look_step sl hs hl ⟨2, x.chan⟩ _ (Nat.le_trans (h1 _) (by show 1 ≤ 3; decide)) (fun o => o = [(⟨1, x.stmt⟩ : GBreak), ⟨2, x.chan⟩].filter fun b => decide (IsB b ∧ encB b ∈ sl)) ?_
    rw [← List.filter_append]; rfl
  rintro _ rfl
  refine ⟨fun o => o = whichS sl x, stop_looks_3_lift _ _ ?_, ?_⟩
  · refine look_step sl hs hl ⟨3, x.who⟩ _ (Nat.le_trans (h1 _) (by show 2 ≤ 3; decide)) (fun o => o = whichS sl x) ?_
    rw [← List.filter_append]; rfl
  rintro _ rfl
  exact clip_v _ _ h
theorem shits_v (sl : List Int) (hs : Nums sl) (hl : sl.length < 900000) (x : GHappen) (K : Bool → Prop) (h : K (decide (((whichS sl x).length : Int) > 0))) : V_stop_Set_Hits ⟨⟨sl⟩⟩ x K :=
  stop_Set_Hits_lift _ _ _ (swhich_v sl hs hl _ _ h)
theorem nums_nil : Nums [] := ⟨List.Pairwise.nil, by simp⟩
theorem live37 (K : Bool → Prop) (h : K true) : V_L37_live K := by
  have e : addS [] ⟨2, 3⟩ = [2097155] := by decide
  have hs : Nums [2097155] := e ▸ addS_nums nums_nil _
  refine L37_live_lift _ (sadd_v [] nums_nil (by decide) _ _ (cond_t (by decide) ?_))
  rw [e]
  exact shits_v _ hs (by decide) _ _ (cond_t (by decide) (shits_v _ hs (by decide) _ _ (cond_t (by decide) (sall_v _ hs (by decide) _ h))))
theorem StopPlays_v (l : List GL37_Act) (K : Bool → Prop) (h : K true) : V_L37_StopPlays l K := by
  refine L37_StopPlays_lift _ _ (cond_intro (fun _ => live37 _ h) fun hc => ?_)
  have hl : l.length ≤ 100 := by simp at hc; omega
  refine ⟨fun hv i sl n => hv = sl.map decB ∧ Nums sl ∧ At l.length (fun k => sl.length ≤ k) i n, ⟨_, rfl, nums_nil, At.start (by simp)⟩, ?_⟩
  rintro _ _ sl _ ⟨rfl, hs, k, rfl, hk, rfl, hsl⟩
  refine At.cond hk (fun hk => ?_) fun _ => live37 _ h
  refine ⟨fun hv l2 => hv = l2.map decB ∧ Nums l2 ∧ l2.length ≤ k + 1, at_elem hk ?_, ?_⟩
  · refine cond_intro (fun _ => at_elem hk (radd37 sl hs (by omega) _ _ ⟨fun b l2 => b = false ∧ l2 = addS sl l[k].b, at_elem hk (sadd_v sl hs (by omega) _ _ (cond_f (by simp) (at_elem hk (stop_Set_Add_nil_lift _ _ ?_)))), ?_⟩)) fun _ => cond_intro (fun _ => at_elem hk (rdel37 sl hs (by omega) _ _ ⟨fun b l2 => b = false ∧ l2 = delS sl l[k].b, at_elem hk (sdel_v sl hs (by omega) _ _ (cond_f (by simp) (at_elem hk (stop_Set_Del_nil_lift _ _ ?_)))), ?_⟩)) fun _ => cond_intro (fun _ => stop_Set_Clear_lift _ _ (stop_Set_Clear_nil_lift _ ⟨rfl, nums_nil, by simp⟩)) fun _ => ⟨rfl, hs, by omega⟩
    · exact code_v _ _ (fun _ => ⟨rfl, rfl⟩) fun _ _ => ⟨rfl, rfl⟩
    · rintro _ _ ⟨rfl, rfl⟩
      have := addS_len hs l[k].b
      exact cond_f rfl ⟨rfl, addS_nums hs _, by omega⟩
    · exact code_v _ _ (fun _ => ⟨rfl, rfl⟩) fun _ _ => ⟨rfl, rfl⟩
    · rintro _ _ ⟨rfl, rfl⟩
      have := delS_len sl l[k].b
      exact cond_f rfl ⟨rfl, delS_nums hs _, by omega⟩
  · rintro _ l2 ⟨rfl, hs2, hl2⟩
    refine at_elem hk (rwhich_v _ (by rw [List.length_map]; omega) _ _ ?_)
    have hw := which_eq hs2 l[k].h_
    have hw2 := hw
    generalize (l2.map decB).filter (fun b => hitB b l[k].h_) = wh at hw2 ⊢
    have hwl : wh.length ≤ 3 := by rw [← hw2]; exact List.length_filter_le _ _
    refine ⟨fun y => y = false, sall_v _ hs2 (by omega) _ (rsame37 _ (by rw [List.length_map]; omega) _ (cond_f rfl (at_elem hk (swhich_v _ hs2 (by omega) _ _ ?_)))), ?_⟩
    · rw [show whichS l2 (⟨l[k].h_.kind, l[k].h_.who, l[k].h_.stmt, l[k].h_.chan, l[k].h_.peer⟩ : GHappen) = wh from hw2]
      refine rsame37 _ (by omega) _ (cond_f rfl (at_elem hk (shits_v _ hs2 (by omega) _ _ ?_)))
      rw [show whichS l2 (⟨l[k].h_.kind, l[k].h_.who, l[k].h_.stmt, l[k].h_.chan, l[k].h_.peer⟩ : GHappen) = wh from hw2]
      refine cond_f (by simp) (at_elem hk (stop_Set_Hits_nil_lift _ _ (stop_Set_Which_nil_lift _ _ ?_)))
      unfold stop_Set_Which_nil_vwp
      refine cond_f rfl ?_
      exact at_elem hk (stop_Set_All_nil_lift _ (stop_Set_Which_nil_lift _ _ rfl))
    · rintro _ rfl
      exact cond_f rfl (by
        obtain ⟨n1, h1, h2⟩ := At.next (P := fun k => l2.length ≤ k) (by omega) hk hl2
        exact ⟨n1, h1, rfl, hs2, h2⟩)
theorem hits_add {sl : List Int} (hs : Nums sl) {b : GBreak} (hb : IsB b) (x : GHappen) : decide (((whichS (addS sl b) x).length : Int) > 0) = (decide (((whichS sl x).length : Int) > 0) || hitB b x) := by
  rw [Bool.eq_iff_iff, Bool.or_eq_true, decide_eq_true_iff, decide_eq_true_iff]
  have h1 := which_some (addS_nums hs b) x
  have h2 := which_some hs x
  have e1 : ((whichS (addS sl b) x).length : Int) > 0 ↔ 0 < (whichS (addS sl b) x).length := by omega
  have e2 : ((whichS sl x).length : Int) > 0 ↔ 0 < (whichS sl x).length := by omega
  rw [e1, e2, h1, h2]
  unfold addS
  rw [if_pos hb]
  constructor
  · rintro ⟨c, hc, h3⟩
    rcases (addF_mem ordI _ _ _).1 hc with rfl | hc
    · rw [dec_enc hb] at h3; exact .inr h3
    · exact .inl ⟨c, hc, h3⟩
  · rintro (⟨c, hc, h3⟩ | h3)
    · exact ⟨c, (addF_mem ordI _ _ _).2 (.inr hc), h3⟩
    · exact ⟨encB b, (addF_mem ordI _ _ _).2 (.inl rfl), by rw [dec_enc hb]; exact h3⟩
theorem del_add {sl : List Int} (hs : Nums sl) {b : GBreak} (hb : IsB b) (hm : encB b ∉ sl) : delS (addS sl b) b = sl := by
  refine asc_ext ordI (delS_nums (addS_nums hs b) b).asc hs.asc fun c => ?_
  unfold delS addS
  rw [if_pos hb, if_pos hb, delF_mem, addF_mem ordI]
  constructor
  · rintro ⟨rfl | h, h'⟩
    · exact absurd rfl h'
    · exact h
  · exact fun h => ⟨.inr h, fun e => hm (e ▸ h)⟩
theorem len_add {sl : List Int} (hs : Nums sl) {b : GBreak} (hb : IsB b) (hm : encB b ∉ sl) : (addS sl b).length = sl.length + 1 := by
  unfold addS
  rw [if_pos hb, add_at ordI hs.asc hm]
  have := fromF_le (lt := ltI) sl (encB b)
  simp only [List.length_append, List.length_take, List.length_cons, List.length_drop]; omega
theorem StopMore_v (l : List GBreak) (b : GBreak) (x : GHappen) (K : Bool → Prop) (h : K true) : V_L37_StopMore l b x K := by
  refine L37_StopMore_lift _ _ _ _ (cond_intro (fun _ => live37 _ h) fun hc => ?_)
  have hl : l.length ≤ 100 := by simp at hc; omega
  refine ⟨fun i sl n => Nums sl ∧ At l.length (fun k => sl.length ≤ k) i n, ⟨_, nums_nil, At.start (by simp)⟩, ?_⟩
  rintro _ sl _ ⟨hs, k, rfl, hk, rfl, hsl⟩
  refine At.cond hk (fun hk => at_elem hk (sadd_v sl hs (by omega) _ _ ?_)) fun hk => ?_
  · have := addS_len hs l[k]
    obtain ⟨n1, h1, h2⟩ := At.next (P := fun j => (addS sl l[k]).length ≤ j) (by omega) hk (by omega)
    exact ⟨n1, h1, addS_nums hs _, h2⟩
  have hsl2 : sl.length ≤ 100 := by omega
  refine shits_v sl hs (by omega) _ _ (sall_v sl hs (by omega) _ (sadd_v sl hs (by omega) _ _ ?_))
  have hs2 := addS_nums hs b
  have hal := addS_len hs b
  by_cases hok : IsB b ∧ encB b ∉ sl
  · obtain ⟨hb, hm⟩ := hok
    have e0 : addE sl b = 0 := by unfold addE; rw [if_pos hb, if_neg hm]
    rw [e0]
    have hlen := len_add hs hb hm
    have hdel := del_add hs hb hm
    have hhit := hits_add hs hb x
    have e1 : delE (addS sl b) b = 0 := by
      unfold delE
      rw [if_pos hb, if_pos]
      unfold addS; rw [if_pos hb]; exact (addF_mem ordI _ _ _).2 (.inl rfl)
    refine cond_f rfl ⟨fun y => y = false, shits_v _ hs2 (by omega) _ _ ?_, ?_⟩
    · rw [hhit]
      have lp : ((((addS sl b).map decB).length : Int) != (IntKind.i64.wrap (((sl.map decB).length : Int) + 1))) = false := by
        rw [List.length_map, List.length_map, wrap_in (by omega) (by omega), hlen]; simp
      refine cond_intro (fun hw => ?_) fun hw => rhits_v _ _ _ ?_
      · rw [hw]
        exact cond_f rfl (sall_v _ hs2 (by omega) _ lp)
      · rw [hw]
        exact cond_f (by simp) (sall_v _ hs2 (by omega) _ lp)
    · rintro _ rfl
      refine cond_f rfl (sdel_v _ hs2 (by omega) _ _ ?_)
      rw [hdel, e1]
      exact cond_t rfl (shits_v sl hs (by omega) _ _ (cond_t (by simp) (sall_v sl hs (by omega) _ (cond_t (by simp) (live37 _ h)))))
  · have e0 : addE sl b ≠ 0 ∧ addS sl b = sl := by
      unfold addE addS
      by_cases hb : IsB b
      · have hm : encB b ∈ sl := Classical.not_not.1 fun h' => hok ⟨hb, h'⟩
        rw [if_pos hb, if_pos hm, if_pos hb]
        exact ⟨by decide, by unfold addF; rw [if_pos hm]⟩
      · rw [if_neg hb, if_neg hb]; exact ⟨by decide, rfl⟩
    rw [e0.2]
    exact cond_t (by simpa using e0.1) (shits_v sl hs (by omega) _ _ (cond_t (by simp) (sall_v sl hs (by omega) _ (cond_t (by simp) (live37 _ h)))))
theorem StopPlays_spec (l : List GL37_Act) (A : Option Addr) (AC : Nat) (w : World) (ha : l.length ≤ AC) (h1 : SlR cGL37_Act [] w A l) :
    Calls Try.prog 4 #[.slice A l.length AC] w (Ret fun v w' => v = .bool true ∧ Ext w w') := by
  refine call_then (StopPlays_v l (· = true) rfl [] w nofun A AC ha h1) ?_
  rintro _ _ ⟨_, rfl, rfl, k⟩
  exact ⟨rfl, k.ext⟩
theorem StopMore_spec (l : List GBreak) (b : GBreak) (x : GHappen) (A : Option Addr) (AC : Nat) (bcs xcs : Array Value) (w : World) (ha : l.length ≤ AC) (h1 : SlR cGBreak [] w A l) (h2 : cGBreak.rep [] w b bcs.toList) (h3 : cGHappen.rep [] w x xcs.toList) :
    Calls Try.prog 3 #[.slice A l.length AC, .agg bcs, .agg xcs] w (Ret fun v w' => v = .bool true ∧ Ext w w') := by
  refine call_then (StopMore_v l b x (· = true) rfl [] w nofun A AC ha h1 bcs.toList h2 xcs.toList h3) ?_
  rintro _ _ ⟨_, rfl, rfl, k⟩
  exact ⟨rfl, k.ext⟩
end Go.Proofs.Ytcbpdageojenjaa
