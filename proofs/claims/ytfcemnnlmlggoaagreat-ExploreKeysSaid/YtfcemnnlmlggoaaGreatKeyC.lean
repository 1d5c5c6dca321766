/- Layer 42: what the document makes of states: ranks, states as they count, states alike. -/
import Derived.Test.YtfcemnnlmlggoaaGreatKeyB
namespace Go.Proofs.YtfcemnnlmlggoaaGreat
open Go.Vc Go.Lv Go.Ty Go.Iv Go.Ky

theorem queued_v (p : GProc) (K : Bool → Prop) (h : K (qd p)) : V_explore_queued p K := by
  refine explore_queued_lift _ _ (cond_intro (fun h1 => ?_) fun h1 => cond_intro (fun h2 => ?_) fun h2 => ?_)
  · rwa [show qd p = true by simp [qd, h1]] at h
  · rwa [show qd p = true by simp [qd, h2]] at h
  · rwa [show qd p = (p.mode == 3) by simp [qd, h1, h2]] at h
theorem rwaits_v (p : GProc) (K : Bool → Prop) (h : K (qd p)) : V_R42_waits p K := by
  refine R42_waits_lift _ _ (cond_intro (fun h1 => ?_) fun h1 => cond_intro (fun h2 => ?_) fun h2 => ?_)
  · rwa [show qd p = true by simp [qd, h1]] at h
  · rwa [show qd p = true by simp [qd, h2]] at h
  · rwa [show qd p = (p.mode == 3) by simp [qd, h1, h2]] at h
theorem qd_snoc {l : List GProc} {k : Nat} (h : k < l.length) : ((l.take (k + 1)).filter qd).map (·.since) = ((l.take k).filter qd).map (·.since) ++ (if qd l[k] then [l[k].since] else []) := by
  rw [filter_snoc qd h, List.map_append]
  by_cases hq : qd l[k] <;> simp [hq]
theorem seen_snoc {l : List Int} {k : Nat} (n : Int) (h : k < l.length) : seenF n (l.take (k + 1)) = if l[k] < n ∧ l[k] ∉ seenF n (l.take k) then seenF n (l.take k) ++ [l[k]] else seenF n (l.take k) := by
  rw [take_snoc h]
  unfold seenF
  rw [List.foldl_append]
  rfl
theorem mem_snoc {l : List Int} {k : Nat} {x : Int} (h : k < l.length) : decide (x ∈ l.take (k + 1)) = (decide (x ∈ l.take k) || (l[k] == x)) := by
  rw [take_snoc h, Bool.eq_iff_iff]
  simp only [List.mem_append, List.mem_singleton, Bool.or_eq_true, decide_eq_true_eq, beq_iff_eq]
  constructor
  · rintro (h | h)
    · exact .inl h
    · exact .inr h.symm
  · rintro (h | h)
    · exact .inl h
    · exact .inr h.symm
theorem sinL_len (s : GState) : (sinL s).length ≤ s.procs.length + 1 := by
  unfold sinL
  rw [List.length_cons, List.length_map]
  have := List.length_filter_le qd s.procs
  omega
theorem rank_v (s : GState) (hs : s.procs.length ≤ 1000) (n : Int) (K : Int → Prop) (h : K ((rk (sinL s) n : Nat) : Int)) : V_R42_rank s n K := by
  refine R42_rank_lift _ _ _ ⟨fun all i c => At s.procs.length (fun k => all = s.since :: (((s.procs.take k).filter qd).map (·.since))) i c, ⟨_, At.start (by simp)⟩, ?_⟩
  rintro _ _ _ ⟨k, rfl, hk, rfl, rfl⟩
  refine At.cond hk (fun hk => ⟨fun all => all = s.since :: (((s.procs.take (k + 1)).filter qd).map (·.since)), at_elem hk (rwaits_v _ _ (cond_intro (fun hc => at_elem hk ⟨?_, ?_⟩) fun hc => ?_)), ?_⟩) fun hk => ?_
  · have := List.length_filter_le qd (s.procs.take k)
    simp only [List.length_cons, List.length_map, List.length_nil, List.length_take] at this ⊢
    omega
  · rw [qd_snoc hk, if_pos hc]; rfl
  · rw [qd_snoc hk, if_neg (by rw [hc]; decide), List.append_nil]
  · rintro _ rfl
    exact At.next (by omega) hk rfl
  · rw [hk, List.take_length]
    change ∃ I1, _
    have hL := sinL_len s
    rw [show (s.since :: ((s.procs.filter qd).map (·.since))) = sinL s from rfl]
    generalize hl : sinL s = l at h hL
    refine ⟨fun seen i c => At l.length (fun k => seen = seenF n (l.take k)) i c, ⟨_, At.start (by simp [seenF])⟩, ?_⟩
    rintro _ _ _ ⟨j, rfl, hj, rfl, rfl⟩
    have hsl : (seenF n (l.take j)).length ≤ l.length := by
      have := rk_le (l.take j) n
      unfold rk at this
      rw [List.length_take] at this
      omega
    refine At.cond hj (fun hj => ⟨fun seen => seen = seenF n (l.take (j + 1)), ⟨fun known i c => At (seenF n (l.take j)).length (fun k => known = decide (l[j] ∈ (seenF n (l.take j)).take k)) i c, ⟨_, At.start (by simp)⟩, ?_⟩, ?_⟩) fun hj => ?_
    · rintro _ _ _ ⟨i, rfl, hi, rfl, rfl⟩
      refine At.cond hi (fun hi => ⟨fun b => b = decide (l[j] ∈ (seenF n (l.take j)).take (i + 1)), cond_intro (fun hc => ?_) fun hc => at_elem hi (at_elem hj ?_), ?_⟩) fun hi => ?_
      · rw [mem_snoc hi, hc]; rfl
      · rw [mem_snoc hi, hc]; rfl
      · rintro _ rfl
        exact At.next (by omega) hi rfl
      · rw [hi, List.take_length]
        refine ⟨fun b => b = decide (l[j] < n ∧ l[j] ∉ seenF n (l.take j)), at_elem hj (cond_intro (fun hc => ?_) fun hc => ?_), ?_⟩
        · have hc : l[j] < n := of_decide_eq_true hc
          simp [hc]
        · have hc : ¬ l[j] < n := of_decide_eq_false hc
          simp [hc]
        · rintro _ rfl
          refine cond_intro (fun hc => at_elem hj ⟨by simp only [List.length_singleton]; omega, ?_⟩) fun hc => ?_
          · rw [seen_snoc n hj, if_pos (of_decide_eq_true hc)]
          · rw [seen_snoc n hj, if_neg (of_decide_eq_false hc)]
    · rintro _ rfl
      exact At.next (by omega) hj rfl
    · rw [hj, List.take_length]; exact h
theorem plain_v (s : GState) (sm : Sm s) (K : GState → Prop) (h : K (refS s)) : V_R42_Plain s K := by
  have hs := sm.procs
  refine R42_Plain_lift _ _ ?_
  refine ⟨fun i Now Since Halt Fault Who Procs Out c => At s.procs.length (fun k => (⟨Now, Since, Halt, Fault, Who, Procs, Out⟩ : GState) = { s with procs := (s.procs.take k).map (procP (fun n => ((rk (sinL s) n : Nat) : Int)) s.now) }) i c, ⟨_, At.start (by simp)⟩, ?_⟩
  rintro _ Now Since Halt Fault Who Procs Out _ ⟨k, rfl, hk, rfl, hE⟩
  have hP := congrArg GState.procs hE
  simp only at hP
  refine At.cond hk (fun hk => at_elem hk ?_) fun hk => ?_
  · have hx := sm.each _ (List.getElem_mem hk)
    generalize hxe : s.procs[k] = x at hx
    refine ⟨fun d a v f m c va sl u si al => (⟨d, a, v, f, m, c, va, sl, u, si, al⟩ : GProc) = { x with since := if qd x then ((rk (sinL s) x.since : Nat) : Int) else x.since }, rwaits_v _ _ (cond_intro (fun hc => rank_v s (by omega) _ _ ?_) fun hc => ?_), ?_⟩
    · rw [if_pos hc]
    · rw [if_neg (by rw [hc]; decide)]
    rintro d a v f m c va sl u si al hJ
    have hm := congrArg GProc.mode hJ
    have hu := congrArg GProc.until_ hJ
    simp only at hm hu
    refine ⟨fun d a v f m c va sl u si al => (⟨d, a, v, f, m, c, va, sl, u, si, al⟩ : GProc) = { x with since := if qd x then ((rk (sinL s) x.since : Nat) : Int) else x.since, until_ := if x.mode = 4 then wr (x.until_ - s.now) else x.until_ }, cond_intro (fun hc => ?_) fun hc => ?_, ?_⟩
    · have hc : m = 4 := by simpa using hc
      rw [if_pos (by rw [← hm]; exact hc), ← hu]
      cases hJ; rfl
    · have hc : ¬ m = 4 := by simpa using hc
      rw [if_neg (by rw [← hm]; exact hc), ← hu]
      cases hJ; rfl
    clear hJ hm hu
    rintro d a v f m c va sl u si al hJ
    refine ⟨fun i d a v f m c va sl u si al n => At x.alts.length (fun j => (⟨d, a, v, f, m, c, va, sl, u, si, al⟩ : GProc) = { x with since := if qd x then ((rk (sinL s) x.since : Nat) : Int) else x.since, until_ := if x.mode = 4 then wr (x.until_ - s.now) else x.until_, alts := (x.alts.take j).map (altP s.now) }) i n, ⟨_, At.start ?_⟩, ?_⟩
    · cases hJ; rfl
    clear hJ
    rintro _ d a v f m c va sl u si al _ ⟨j, rfl, hj, rfl, hJ⟩
    have hal := congrArg GProc.alts hJ
    simp only at hal
    refine at_elem hk ?_
    rw [hxe]
    refine At.cond hj (fun hj => at_elem hk ?_) fun hj => ?_
    · rw [hxe]
      refine at_elem hj ⟨fun k c v s' g => (⟨k, c, v, s', g⟩ : GAlt) = altP s.now x.alts[j], cond_intro (fun hc => ?_) fun hc => ?_, ?_⟩
      · have hc : x.alts[j].kind = 3 := by simpa using hc
        unfold altP; rw [if_pos hc]
      · have hc : ¬ x.alts[j].kind = 3 := by simpa using hc
        unfold altP; rw [if_neg hc]
      rintro k' c' v' s' g' hA
      refine ⟨?_, At.next (by omega) hj ?_⟩
      · rw [hal, List.length_map, List.length_take, List.length_singleton]; omega
      · rw [hA, map_snoc _ hj, ← hal]
        cases hJ; rfl
    · refine ⟨?_, At.next (by omega) hk ?_⟩
      · rw [hP, List.length_map, List.length_take, List.length_singleton]; omega
      · rw [hj, List.take_length] at hJ
        rw [map_snoc _ hk, ← hP, hxe]
        have hJ' : (⟨d, a, v, f, m, c, va, sl, u, si, al⟩ : GProc) = procP (fun n => ((rk (sinL s) n : Nat) : Int)) s.now x := hJ
        rw [hJ']
        cases hE; rfl
  · refine rank_v s (by omega) _ _ ?_
    rw [hk, List.take_length] at hE
    have : (⟨0, ((rk (sinL s) s.since : Nat) : Int), Halt, Fault, Who, Procs, Out⟩ : GState) = refS s := by
      cases hE; rfl
    rw [this]; exact h
/-! ## alike -/
theorem take_eq_snoc {α : Type} {a b : List α} {k : Nat} (ha : k < a.length) (hb : k < b.length) : a.take (k + 1) = b.take (k + 1) ↔ a.take k = b.take k ∧ a[k] = b[k] := by
  rw [take_snoc ha, take_snoc hb]
  constructor
  · intro h
    have := List.append_inj h (by simp; omega)
    exact ⟨this.1, by simpa using this.2⟩
  · rintro ⟨h1, h2⟩; rw [h1, h2]
theorem rints_v (a b : List Int) (ha : a.length < 2 ^ 40) (K : Bool → Prop) (h : K (decide (a = b))) : V_R03_Same a b K := by
  refine R03_Same_lift _ _ _ (cond_intro (fun hc => ?_) fun hc => ?_)
  · rwa [show decide (a = b) = false by
      rw [decide_eq_false_iff_not]; rintro rfl; simp at hc] at h
  · have hl : a.length = b.length := by simp at hc; omega
    refine ⟨fun i c => At a.length (fun k => a.take k = b.take k) i c, ⟨_, At.start (by simp)⟩, ?_⟩
    rintro _ _ ⟨k, rfl, hk, rfl, he⟩
    refine At.cond hk (fun hk => at_elem hk (at_elem (by omega) (cond_intro (fun hc => ?_) fun hc => At.next (by omega) hk ?_))) fun hk => ?_
    · rwa [show decide (a = b) = false by
        rw [decide_eq_false_iff_not]; rintro rfl; simp at hc] at h
    · exact (take_eq_snoc hk (by omega)).2 ⟨he, by simpa using hc⟩
    · rw [hk, List.take_length, hl, List.take_length] at he
      rwa [show decide (a = b) = true by simpa using he] at h
theorem alt_eq (x y : GAlt) : ((x.kind == y.kind) && ((x.chan == y.chan) && ((x.val == y.val) && ((x.slot == y.slot) && ((x.goto == y.goto) && true))))) = decide (x = y) := by
  rw [Bool.eq_iff_iff]
  cases x; cases y
  simp
theorem ralts_v (a b : List GAlt) (ha : a.length < 2 ^ 40) (K : Bool → Prop) (h : K (decide (a = b))) : V_R22_Alts a b K := by
  refine R22_Alts_lift _ _ _ (cond_intro (fun hc => ?_) fun hc => ?_)
  · rwa [show decide (a = b) = false by
      rw [decide_eq_false_iff_not]; rintro rfl; simp at hc] at h
  · have hl : a.length = b.length := by simp at hc; omega
    refine ⟨fun i c => At a.length (fun k => a.take k = b.take k) i c, ⟨_, At.start (by simp)⟩, ?_⟩
    rintro _ _ ⟨k, rfl, hk, rfl, he⟩
    refine At.cond hk (fun hk => at_elem hk (at_elem (by omega) ?_)) fun hk => ?_
    · rw [alt_eq]
      refine cond_intro (fun hc => ?_) fun hc => At.next (by omega) hk ?_
      · rwa [show decide (a = b) = false by
          rw [decide_eq_false_iff_not]; rintro rfl; simp at hc] at h
      · exact (take_eq_snoc hk (by omega)).2 ⟨he, by simpa using hc⟩
    · rw [hk, List.take_length, hl, List.take_length] at he
      rwa [show decide (a = b) = true by simpa using he] at h
theorem rproc_v (x y : GProc) (hv : x.vars.length < 2 ^ 40) (ha : x.alts.length < 2 ^ 40) (K : Bool → Prop) (h : K (decide (x = y))) : V_R22_Same x y K := by
  have no : ∀ {b : Bool}, x ≠ y → K (decide (x = y)) → K false := fun hn h => by rwa [decide_eq_false hn] at h
  refine R22_Same_lift _ _ _ ⟨fun b => b = !(decide (x.def_ = y.def_ ∧ x.at_ = y.at_ ∧ x.fuel = y.fuel ∧ x.mode = y.mode ∧ x.chan = y.chan ∧ x.val = y.val)), ?_, ?_⟩
  · refine cond_intro (fun hc => ?_) fun h1 => cond_intro (fun hc => ?_) fun h2 => cond_intro (fun hc => ?_) fun h3 => cond_intro (fun hc => ?_) fun h4 => cond_intro (fun hc => ?_) fun h5 => ?_
    all_goals simp at *
    all_goals simp [*]
    all_goals (rw [Bool.eq_iff_iff]; simp)
  rintro _ rfl
  refine cond_intro (fun hc => ?_) fun hc => ?_
  · refine no (b := true) ?_ h
    rintro rfl; simp at hc
  simp only [Bool.not_eq_false', decide_eq_true_eq] at hc
  obtain ⟨c1, c2, c3, c4, c5, c6⟩ := hc
  refine cond_intro (fun d1 => ?_) fun d1 => no (b := true) (fun e => by rw [e] at d1; simp at d1) h
  refine cond_intro (fun d2 => ?_) fun d2 => no (b := true) (fun e => by rw [e] at d2; simp at d2) h
  refine cond_intro (fun d3 => ?_) fun d3 => no (b := true) (fun e => by rw [e] at d3; simp at d3) h
  refine rints_v _ _ hv _ (cond_intro (fun d4 => ?_) fun d4 => no (b := true) (fun e => by rw [e] at d4; simp at d4) h)
  refine ralts_v _ _ ha _ ?_
  have d1 : x.slot = y.slot := by simpa using d1
  have d2 : x.until_ = y.until_ := by simpa using d2
  have d3 : x.since = y.since := by simpa using d3
  have d4 : x.vars = y.vars := by simpa using d4
  rwa [show decide (x = y) = decide (x.alts = y.alts) by
    rw [Bool.eq_iff_iff, decide_eq_true_eq, decide_eq_true_eq]
    refine ⟨fun e => by rw [e], fun e => ?_⟩
    cases x; cases y
    simp_all] at h
theorem rstate_v (x y : GState) (sm : Sm x) (K : Bool → Prop) (h : K (decide (x = y))) : V_R28_Same x y K := by
  have ho := sm.out
  have hp := sm.procs
  have no : x ≠ y → K (decide (x = y)) → K false := fun hn h => by rwa [decide_eq_false hn] at h
  refine R28_Same_lift _ _ _ ⟨fun b => b = !(decide (x.now = y.now ∧ x.since = y.since ∧ x.halt = y.halt ∧ x.fault = y.fault ∧ x.who = y.who ∧ x.out = y.out ∧ x.procs.length = y.procs.length)), ?_, ?_⟩
  · refine cond_intro (fun hc => ?_) fun h1 => cond_intro (fun hc => ?_) fun h2 => cond_intro (fun hc => ?_) fun h3 => cond_intro (fun hc => ?_) fun h4 => cond_intro (fun hc => ?_) fun h5 => rints_v _ _ (by omega) _ (cond_intro (fun hc => ?_) fun h6 => ?_)
    all_goals simp at *
    all_goals simp [*]
    all_goals (rw [Bool.eq_iff_iff]; simp; omega)
  rintro _ rfl
  refine cond_intro (fun hc => ?_) fun hc => ?_
  · refine no ?_ h
    rintro rfl; simp at hc
  simp only [Bool.not_eq_false', decide_eq_true_eq] at hc
  obtain ⟨c1, c2, c3, c4, c5, c6, c7⟩ := hc
  refine ⟨fun i c => At x.procs.length (fun k => x.procs.take k = y.procs.take k) i c, ⟨_, At.start (by simp)⟩, ?_⟩
  rintro _ _ ⟨k, rfl, hk, rfl, he⟩
  refine At.cond hk (fun hk => ?_) fun hk => ?_
  · have hx := sm.each _ (List.getElem_mem hk)
    refine ⟨fun b => b = !(decide (x.procs[k] = y.procs[k])), at_elem hk (at_elem (by omega) (rproc_v _ _ (by omega) (by omega) _ rfl)), ?_⟩
    rintro _ rfl
    refine cond_intro (fun hc => no ?_ h) fun hc => At.next (by omega) hk ?_
    · rintro rfl; simp at hc
    · exact (take_eq_snoc hk (by omega)).2 ⟨he, by simpa using hc⟩
  · rw [hk, List.take_length, c7, List.take_length] at he
    rwa [show decide (x = y) = true by
      rw [decide_eq_true_eq]
      cases x; cases y
      simp_all] at h
theorem refS_sm {s : GState} (sm : Sm s) : Sm (refS s) := by
  refine ⟨by simpa [refS, plainP] using sm.procs, sm.out, fun p hp => ?_⟩
  simp only [refS, plainP, List.mem_map] at hp
  obtain ⟨q, hq, rfl⟩ := hp
  have := sm.each q hq
  simpa [procP] using this
theorem alike_v (a b : GState) (sa : Sm a) (sb : Sm b) (K : Bool → Prop) (h : K (decide (refS a = refS b))) : V_R42_Alike a b K :=
  R42_Alike_lift _ _ _ (plain_v a sa _ (plain_v b sb _ (rstate_v _ _ (refS_sm sa) _ h)))
theorem large_v (s : GState) (hr : s.procs.length ≤ maxLen) (K : Bool → Prop) (h1 : ∀ b, (b = false → Sm s) → K b) : V_L42_large ⟨[], [], [], 0, 0⟩ s K := by
  have ht : K true := h1 _ nofun
  refine L42_large_lift _ _ _ ⟨fun b => b = false → s.procs.length ≤ 20 ∧ s.out.length ≤ 60, ?_, ?_⟩
  · refine cond_intro (fun _ => nofun) fun a1 => cond_intro (fun _ => nofun) fun a2 => cond_intro (fun _ => nofun) fun a3 => cond_intro (fun _ => nofun) fun a4 a5 => ?_
    simp at a4 a5
    omega
  intro b hb
  refine cond_intro (fun _ => ht) fun hc => ?_
  obtain ⟨b1, b2⟩ := hb hc
  refine ⟨fun i n => At s.procs.length (fun k => ∀ p ∈ s.procs.take k, p.vars.length ≤ 40 ∧ p.alts.length ≤ 40) i n, ⟨_, At.start (by simp)⟩, ?_⟩
  rintro _ _ ⟨k, rfl, hk, rfl, hI⟩
  refine At.cond hk (fun hk => ⟨fun b => b = false → s.procs[k].vars.length ≤ 40 ∧ s.procs[k].alts.length ≤ 40, at_elem hk (cond_intro (fun hc => nofun) fun hc => at_elem hk fun hd => ?_), ?_⟩) fun hk => ?_
  · simp at hc hd; omega
  · rintro b hb
    refine cond_intro (fun _ => ht) fun hc => At.next (by omega) hk ?_
    intro p hp
    rw [take_snoc hk, List.mem_append, List.mem_singleton] at hp
    rcases hp with hp | rfl
    · exact hI p hp
    · exact hb hc
  rw [hk, List.take_length] at hI
  exact h1 _ fun _ => ⟨b1, b2, hI⟩
end Go.Proofs.YtfcemnnlmlggoaaGreat
