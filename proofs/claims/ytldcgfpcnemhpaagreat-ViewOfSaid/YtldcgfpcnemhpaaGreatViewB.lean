/- The law ViewOf. -/
import Derived.Test.YtldcgfpcnemhpaaGreatViewA
import Derived.Test.YtldcgfpcnemhpaaGreatViewL
namespace Go.Proofs.YtldcgfpcnemhpaaGreat
open Go.Vc Go.Lv Go.Ty
theorem rof_v (c : GCode) (s : GState) (hp : s.procs.length ≤ 20) (hv : ∀ p ∈ s.procs, p.vars.length ≤ 40 ∧ p.alts.length ≤ 40) (K : GState → Prop) (h : K (viewF c s)) : V_R29_Of c s K := by
  refine R29_Of_lift _ _ _ ⟨fun i a b d e f ps out n => a = s.now ∧ b = s.since ∧ d = s.halt ∧ e = s.fault ∧ f = s.who ∧ out = s.out ∧ At s.procs.length (fun k => ps = (s.procs.take k).map (viewP c)) i n, ⟨_, rfl, rfl, rfl, rfl, rfl, rfl, At.start (by simp)⟩, ?_⟩
  rintro _ _ _ _ _ _ _ _ _ ⟨rfl, rfl, rfl, rfl, rfl, rfl, k, rfl, hk, rfl, rfl⟩
  refine At.cond hk (fun hk => at_elem hk (rstmt_v _ _ _ ?_)) fun hk => ?_
  · obtain ⟨_, hba⟩ := hv _ (List.getElem_mem hk)
    generalize hx : s.procs[k] = x at *
    have e5 : cond (x.mode == 5) (-1) (stmtF c x.at_) = (viewP c x).at_ := by
      show _ = if x.mode == 5 then -1 else stmtF c x.at_
      cases x.mode == 5 <;> rfl
    refine ⟨fun a1 a2 a3 a4 a5 a6 a7 a8 a9 a10 a11 => a1 = x.def_ ∧ a2 = (viewP c x).at_ ∧ a3 = x.vars ∧ a4 = x.fuel ∧ a5 = x.mode ∧ a6 = x.chan ∧ a7 = x.val ∧ a8 = x.slot ∧ a9 = x.until_ ∧ a10 = x.since ∧ a11 = x.alts, cond_intro (fun h5 => ?_) (fun h5 => ?_), ?_⟩
    · rw [h5] at e5
      exact ⟨rfl, e5, rfl, rfl, rfl, rfl, rfl, rfl, rfl, rfl, rfl⟩
    · rw [h5] at e5
      exact ⟨rfl, e5, rfl, rfl, rfl, rfl, rfl, rfl, rfl, rfl, rfl⟩
    rintro _ _ _ _ _ _ _ _ _ _ _ ⟨rfl, rfl, rfl, rfl, rfl, rfl, rfl, rfl, rfl, rfl, rfl⟩
    refine ⟨fun j a1 a2 a3 a4 a5 a6 a7 a8 a9 a10 a11 n => a1 = x.def_ ∧ a2 = (viewP c x).at_ ∧ a3 = x.vars ∧ a4 = x.fuel ∧ a5 = x.mode ∧ a6 = x.chan ∧ a7 = x.val ∧ a8 = x.slot ∧ a9 = x.until_ ∧ a10 = x.since ∧ At x.alts.length (fun j => a11 = (x.alts.take j).map (altF c)) j n, ⟨_, rfl, rfl, rfl, rfl, rfl, rfl, rfl, rfl, rfl, rfl, At.start (by simp)⟩, ?_⟩
    rintro _ _ _ _ _ _ _ _ _ _ _ _ _ ⟨rfl, rfl, rfl, rfl, rfl, rfl, rfl, rfl, rfl, rfl, j, rfl, hj, rfl, rfl⟩
    refine at_elem hk ?_
    rw [hx]
    refine At.cond hj (fun hj => at_elem hk ?_) fun hj => ?_
    · rw [hx]
      refine at_elem hj (rstmt_v _ _ _ ⟨by simp only [List.length_map, List.length_take, List.length_singleton]; omega, ?_⟩)
      obtain ⟨n1, h1, h2⟩ := At.next (P := fun j => ((x.alts.take j).map (altF c)) = ((x.alts.take j).map (altF c))) (by omega) hj rfl
      refine ⟨n1, h1, rfl, rfl, rfl, rfl, rfl, rfl, rfl, rfl, rfl, rfl, ?_⟩
      obtain ⟨q, hq, h3, h4, -⟩ := h2
      rw [wrap_in (by omega) (by omega)] at hq ⊢
      have : q = j + 1 := by omega
      subst this
      exact ⟨j + 1, hq, h3, h4, (map_snoc (altF c) hj).symm⟩
    · rw [hj, List.take_length]
      refine ⟨by simp only [List.length_map, List.length_take, List.length_singleton]; omega, ?_⟩
      refine ⟨s.procs.length - (k + 1), by omega, rfl, rfl, rfl, rfl, rfl, rfl, k + 1, by rw [wrap_in (by omega) (by omega)]; omega, by omega, rfl, ?_⟩
      have e := map_snoc (viewP c) hk
      rw [hx] at e
      exact e.symm
  · rw [hk, List.take_length]; exact h
theorem rsame3 (l : List Int) (hl : l.length < 1000000) (K : Bool → Prop) (h : K true) : V_R03_Same l l K := by
  refine R03_Same_lift _ _ _ (cond_f (by simp) ⟨fun i n => At l.length (fun _ => True) i n, ⟨_, At.start trivial⟩, ?_⟩)
  rintro _ _ ⟨k, rfl, hk, rfl, -⟩
  exact At.cond hk (fun hk => at_elem hk (at_elem hk (cond_f (by simp) (At.next (by omega) hk trivial)))) fun _ => h
theorem ralts (l : List GAlt) (hl : l.length < 1000000) (K : Bool → Prop) (h : K true) : V_R22_Alts l l K := by
  refine R22_Alts_lift _ _ _ (cond_f (by simp) ⟨fun i n => At l.length (fun _ => True) i n, ⟨_, At.start trivial⟩, ?_⟩)
  rintro _ _ ⟨k, rfl, hk, rfl, -⟩
  exact At.cond hk (fun hk => at_elem hk (at_elem hk (cond_f (by simp) (At.next (by omega) hk trivial)))) fun _ => h
theorem rproc (p : GProc) (hv : p.vars.length ≤ 40 ∧ p.alts.length ≤ 40) (K : Bool → Prop) (h : K true) : V_R22_Same p p K := by
  refine R22_Same_lift _ _ _ ⟨fun b => b = false, cond_f (by simp) (cond_f (by simp) (cond_f (by simp) (cond_f (by simp) (cond_f (by simp) (by simp))))), ?_⟩
  rintro _ rfl
  exact cond_f rfl (cond_t (by simp) (cond_t (by simp) (cond_t (by simp) (rsame3 _ (by omega) _ (cond_t rfl (ralts _ (by omega) _ h))))))
theorem rsame29 (s : GState) (hp : s.procs.length ≤ 20) (hv : ∀ p ∈ s.procs, p.vars.length ≤ 40 ∧ p.alts.length ≤ 40) (ho : s.out.length ≤ 100) (K : Bool → Prop) (h : K true) : V_R29_Same s s K := by
  refine R29_Same_lift _ _ _ (R28_Same_lift _ _ _ ⟨fun b => b = false, cond_f (by simp) (cond_f (by simp) (cond_f (by simp) (cond_f (by simp) (cond_f (by simp) (rsame3 _ (by omega) _ (cond_f rfl (by simp))))))), ?_⟩)
  rintro _ rfl
  refine cond_f rfl ⟨fun i n => At s.procs.length (fun _ => True) i n, ⟨_, At.start trivial⟩, ?_⟩
  rintro _ _ ⟨k, rfl, hk, rfl, -⟩
  refine At.cond hk (fun hk => ⟨fun b => b = false, at_elem hk (at_elem hk (rproc _ (hv _ (List.getElem_mem hk)) _ rfl)), ?_⟩) fun _ => h
  rintro _ rfl
  exact cond_f rfl (At.next (by omega) hk trivial)
def Small (s : GState) : Prop := s.procs.length ≤ 20 ∧ s.out.length ≤ 100 ∧ ∀ p ∈ s.procs, p.vars.length ≤ 40 ∧ p.alts.length ≤ 40
theorem large29 (s : GState) (K : Bool → Prop) (h1 : K true) (h2 : Small s → K false) : V_L29_large s K := by
  refine L29_large_lift _ _ ⟨fun b => b = false → s.procs.length ≤ 20 ∧ s.out.length ≤ 100, cond_intro (fun hc => nofun) (fun hc => fun hd => ?_), ?_⟩
  · simp at hc hd; omega
  rintro b hb
  refine cond_intro (fun _ => h1) fun hc => ?_
  obtain ⟨h3, h4⟩ := hb hc
  refine ⟨fun i n => At s.procs.length (fun k => ∀ p ∈ s.procs.take k, p.vars.length ≤ 40 ∧ p.alts.length ≤ 40) i n, ⟨_, At.start (by simp)⟩, ?_⟩
  rintro _ _ ⟨k, rfl, hk, rfl, hI⟩
  refine At.cond hk (fun hk => ⟨fun b => b = false → s.procs[k].vars.length ≤ 40 ∧ s.procs[k].alts.length ≤ 40, at_elem hk (cond_intro (fun hc => nofun) fun hc => at_elem hk fun hd => ?_), ?_⟩) fun hk => ?_
  · simp at hc hd; omega
  · rintro b hb
    refine cond_intro (fun _ => h1) fun hc => At.next (by omega) hk ?_
    intro p hp
    rw [take_snoc hk, List.mem_append, List.mem_singleton] at hp
    rcases hp with hp | rfl
    · exact hI p hp
    · exact hb hc
  · rw [hk, List.take_length] at hI
    exact h2 ⟨h3, h4, hI⟩
theorem ViewOf_v (c : GCode) (s : GState) (K : Bool → Prop) (h : K true) : V_L29_ViewOf c s K := by
  refine L29_ViewOf_lift _ _ _ ⟨fun b => b = true ∨ b = false ∧ Small s, cond_intro (fun _ => .inl rfl) fun _ => large29 s _ (.inl rfl) fun hs => .inr ⟨rfl, hs⟩, ?_⟩
  rintro _ (rfl | ⟨rfl, hp, ho, hv⟩)
  · exact live_v _ h
  have hp2 : (viewF c s).procs.length ≤ 20 := by show (s.procs.map (viewP c)).length ≤ 20; rw [List.length_map]; exact hp
  have hv2 : ∀ p ∈ (viewF c s).procs, p.vars.length ≤ 40 ∧ p.alts.length ≤ 40 := by
    intro p hm
    obtain ⟨q, hq, rfl⟩ := List.mem_map.1 (show p ∈ s.procs.map (viewP c) from hm)
    exact ⟨(hv q hq).1, by show (q.alts.map (altF c)).length ≤ 40; rw [List.length_map]; exact (hv q hq).2⟩
  exact rof_v c s hp hv _ (view_v c s hp hv ho _ (rsame29 _ hp2 hv2 ho _ (cond_t rfl (rof_v c s hp hv _ (rsame29 _ hp2 hv2 ho _ (cond_t rfl (live_v _ h)))))))
theorem ViewOf_spec (c : GCode) (s : GState) (ccs scs : Array Value) (w : World) (h1 : cGCode.rep [] w c ccs.toList) (h2 : cGState.rep [] w s scs.toList) :
    Calls Tryz.prog 3 #[.agg ccs, .agg scs] w (Ret fun v w' => v = .bool true ∧ Ext w w') := by
  refine call_then (ViewOf_v c s (· = true) rfl [] w nofun ccs.toList h1 scs.toList h2) ?_
  rintro _ _ ⟨_, rfl, rfl, k⟩
  exact ⟨rfl, k.ext⟩
end Go.Proofs.YtldcgfpcnemhpaaGreat
