/- LookLines, LookStates: the laws. -/
import Derived.Test.YtpigkempbnmioaaDoorLookE
namespace Go.Proofs.YtpigkempbnmioaaDoor
open Go.Vc Go.Lv Go.Ty

def c10 (s : List UInt8) : Nat := s.countP fun b => b.toNat == 10
theorem c10_app (a b : List UInt8) : c10 (a ++ b) = c10 a + c10 b := List.countP_append
theorem c10_no {s : List UInt8} (h : no10 s) : c10 s = 0 := by
  refine List.countP_eq_zero.2 fun b hb => ?_
  intro e
  have e : b.toNat = 10 := by simpa using e
  exact h b hb (UInt8.toNat_inj.1 e)
theorem c10_flat {α : Type} {f : α → List UInt8} {n : Nat} : ∀ {l : List α}, (∀ x ∈ l, c10 (f x) = n) → c10 (l.map f).flatten = n * l.length
  | [], _ => by simp [c10]
  | x :: l, h => by
    rw [List.map_cons, List.flatten_cons, c10_app, h x (by simp), c10_flat (l := l) fun y hy => h y (by simp [hy]), List.length_cons, Nat.mul_succ]; omega
theorem flat_no {α : Type} {f : α → List UInt8} {l : List α} (h : ∀ x ∈ l, no10 (f x)) : no10 (l.map f).flatten := by
  intro b hb
  obtain ⟨s, hs, hb⟩ := List.mem_flatten.1 hb
  obtain ⟨x, hx, rfl⟩ := List.mem_map.1 hs
  exact h x hx b hb
def emptyPlan : GPlan := ⟨[], [], 0, []⟩
theorem emptyOk : PlanOk emptyPlan := fun r hr => by cases hr
theorem names_empty (x : GProc) : namesF emptyPlan x = [] := by
  unfold namesF
  split
  · rename_i h; have := h.2; simp [emptyPlan] at this; omega
  · rfl
theorem procF_no {c : GCode} (tb : Tab c) (rc : RgC c) {x : GProc} (r : RgP x) : no10 (procF emptyPlan c x) := by
  unfold procF headF varsF
  refine no10_app (no10_app (nameF_ok tb x).2 (no10_app (by unfold no10; decide) (doesF_ok tb rc r).2)) (flat_no fun k hk => ?_)
  have hk := List.mem_range.1 hk
  unfold varF vnF
  rw [names_empty, if_neg (by simp; omega)]
  exact no10_app (by unfold no10; decide) (no10_app (no10_app (by unfold no10; decide) (itoa_no _)) (no10_app (by unfold no10; decide) (itoa_no _)))
theorem state_lines {c : GCode} (tb : Tab c) (rc : RgC c) {s : GState} (r : RgS s) : c10 (stateF emptyPlan c s) = s.procs.length + 2 := by
  have one : ∀ {a : List UInt8}, no10 a → c10 (a ++ [10]) = 1 := fun h => by rw [c10_app, c10_no h]; rfl
  unfold stateF
  rw [c10_app, List.map_cons, List.flatten_cons, c10_app, one, one, c10_flat (n := 1)]
  · simp [linesF]; omega
  · intro l hl
    obtain ⟨k, _, rfl⟩ := List.mem_map.1 hl
    refine one ?_
    unfold lineF
    refine no10_app (by unfold no10; decide) (no10_app (itoa_no _) (no10_app (by unfold no10; decide) ?_))
    split
    · rename_i x hx; exact procF_no tb rc (r.procs x (List.mem_of_getElem? hx))
    · intro b hb; cases hb
  · unfold outF
    exact no10_app (by unfold no10; decide) (flat_no fun v _ => no10_app (by unfold no10; decide) (itoa_no _))
  · unfold firstF
    exact no10_app (by unfold no10; decide) (no10_app (itoa_no _) (no10_app (by unfold no10; decide) (haltF_ok r).2))
/-- numbers of a state that is given -/
structure RgS0 (s : GState) : Prop where
  now : I64 s.now
  who : I64 s.who
  fault : I64 s.fault
  out : ∀ v ∈ s.out, I64 v
  procs : ∀ x ∈ s.procs, I64 x.val ∧ I64 x.chan ∧ I64 x.until_ ∧ I64 x.def_ ∧ ∀ v ∈ x.vars, I64 v
theorem rgs {s : GState} (r : RgS0 s) (h : SmS s) : RgS s := ⟨r.now, r.who, r.fault, r.out, fun x hx => ⟨(r.procs x hx).1, (r.procs x hx).2.1, (r.procs x hx).2.2.1, (r.procs x hx).2.2.2.1, (r.procs x hx).2.2.2.2, (h.2.2 x hx).1, (h.2.2 x hx).2⟩, h.1, h.2.1⟩
theorem LookLines_v (c : GCode) (ft : Fit c) (rc : RgC c) (s : GState) (r0 : RgS0 s) (K : Bool → Prop) (hK : K true) : V_L40_LookLines c s K := by
  refine L40_LookLines_lift _ _ _ ⟨fun b => b = false → (Sm c ∧ SmS s) ∧ Tab c, large_v _ c _ (fun r hr => by cases hr) ft _ fun b hb => cond_intro (fun _ => nofun) fun e => right_v c (hb e).1 _ fun b hb2 e2 => ⟨⟨(hb e).1, (hb e).2.1⟩, hb2 (by simpa using e2)⟩, ?_⟩
  intro b hb
  refine cond_intro (fun _ => live_v _ hK) fun e => ?_
  obtain ⟨⟨sm, ss⟩, tb⟩ := hb e
  have r := rgs r0 ss
  refine state_v emptyPlan emptyOk c sm tb rc s r _ ?_
  have hlen : (stateF emptyPlan c s).length ≤ 900000000 := by
    have h1 := firstF_len r
    have h2 := linesF_len emptyOk tb rc r r.np
    have h3 := outF_len r (Nat.le_refl _)
    have h4 := r.np
    have h5 := r.no
    unfold stateF
    simp only [List.map_cons, List.flatten_cons, List.length_append, List.length_singleton]; omega
  have hc := state_lines tb rc r
  have hnp := r.np
  generalize hT : stateF emptyPlan c s = t at *
  refine ⟨fun n i k => At t.length (fun k => n = (c10 (t.take k) : Nat)) i k, ⟨_, At.start (by simp [c10])⟩, ?_⟩
  rintro n _ _ ⟨k, rfl, hk, rfl, rfl⟩
  refine At.cond hk (fun hlt => ⟨fun n => n = (c10 (t.take (k + 1)) : Nat), ⟨⟨by omega, by omega⟩, ?_⟩, ?_⟩) fun hk => ?_
  · have hle : c10 (t.take k) ≤ k := Nat.le_trans List.countP_le_length (by simp; omega)
    have hg : t.getD (k : Int).toNat 0 = t[k] := by
      show t.getD k 0 = _
      rw [getD_lt hlt]
    rw [hg, take_snoc hlt, c10_app]
    refine cond_intro (fun e => ?_) (fun e => ?_)
    · have e : t[k].toNat = 10 := by simp at e; omega
      rw [wrap_in (by omega) (by omega)]
      have : c10 [t[k]] = 1 := by simp [c10, e]
      omega
    · have e : ¬ t[k].toNat = 10 := by simp at e; omega
      have : c10 [t[k]] = 0 := by simp [c10, e]
      omega
  · rintro _ rfl
    exact At.next (by omega) hlt rfl
  · subst hk
    rw [List.take_length, hc]
    refine cond_t ?_ (live_v _ hK)
    rw [wrap_in (by omega) (by omega)]
    simp
/-- all names of a plan are short -/
def Names (n : Nat) (l : List GRoutine) : Prop := ∀ r ∈ l, ∀ v ∈ r.vars, v.length ≤ n
structure Fit2 (p : GPlan) (c : GCode) : Prop where
  pn : Names 140737488351232 p.routines
  pv : ∀ r ∈ p.routines, r.vars.length ≤ 9223372036854775807
  dn : ∀ d ∈ c.defs, d.name.length ≤ 140737488351232
  cn : ∀ d ∈ c.chans, d.name.length ≤ 140737488351232
theorem Fit2.fit {p : GPlan} {c : GCode} (h : Fit2 p c) : Fit c := ⟨fun d hd => Nat.le_trans (h.dn d hd) (by decide), fun d hd => Nat.le_trans (h.cn d hd) (by decide)⟩
/-- a sum that goes on while it is at most 5000 -/
def Sum (n : Int) (A : Prop) : Prop := 0 ≤ n ∧ n ≤ 281474976720656 ∧ (n ≤ 5000 → A)
theorem large2_v (p : GPlan) (c : GCode) (s : GState) (ft : Fit2 p c) (K : Bool → Prop) (h1 : ∀ b, (b = false → Sm c ∧ SmS s ∧ Names 5000 p.routines) → K b) : V_L40_large p c s K := by
  have ht : K true := h1 _ nofun
  refine L40_large_lift _ _ _ _ ⟨fun b => b = false → c.ins.length ≤ 150 ∧ c.defs.length ≤ 40 ∧ c.chans.length ≤ 80 ∧ s.procs.length ≤ 20 ∧ s.out.length ≤ 100 ∧ p.routines.length ≤ 40, ?_, ?_⟩
  · refine cond_intro (fun _ => nofun) fun a1 => cond_intro (fun _ => nofun) fun a2 => cond_intro (fun _ => nofun) fun a3 => cond_intro (fun _ => nofun) fun a4 => cond_intro (fun _ => nofun) fun a5 a6 => ?_
    simp at a1 a2 a3 a4 a5 a6
    omega
  intro b hb
  refine cond_intro (fun _ => ht) fun hc => ?_
  obtain ⟨b1, b2, b3, b4, b5, b6⟩ := hb hc
  refine ⟨fun i n => At s.procs.length (fun k => ∀ p ∈ s.procs.take k, p.vars.length ≤ 40 ∧ p.alts.length ≤ 40) i n, ⟨_, At.start (by simp)⟩, ?_⟩
  rintro _ _ ⟨k, rfl, hk, rfl, hI⟩
  refine At.cond hk (fun hk => ⟨fun b => b = false → s.procs[k].vars.length ≤ 40 ∧ s.procs[k].alts.length ≤ 40, at_elem hk (cond_intro (fun hc => nofun) fun hc => at_elem hk fun hd => ?_), ?_⟩) fun hk => ?_
  · simp at hc hd; omega
  · rintro b hb
    refine cond_intro (fun _ => ht) fun hc => At.next (by omega) hk ?_
    intro p hp
    rw [take_snoc hk, List.mem_append, List.mem_singleton] at hp
    rcases hp with hp | rfl
    · exact hI p hp
    · exact hb hc
  rw [hk, List.take_length] at hI
  refine ⟨fun t i n => At p.routines.length (fun k => Sum t (Names 5000 (p.routines.take k))) i n, ⟨_, At.start ⟨by omega, by omega, fun _ r hr => by simp at hr⟩⟩, ?_⟩
  rintro t _ _ ⟨k, rfl, hk, rfl, hT⟩
  refine At.cond hk (fun hlt => ?_) fun hk => ?_
  · have hm := ft.pv _ (List.getElem_mem hlt)
    have hn := ft.pn _ (List.getElem_mem hlt)
    generalize hV : p.routines[k].vars = vs at hm hn
    refine ⟨fun t' i n => At vs.length (fun j => Sum t' (Names 5000 (p.routines.take k) ∧ ∀ v ∈ vs.take j, v.length ≤ 5000)) i n, ⟨_, At.start ⟨hT.1, hT.2.1, fun h => ⟨hT.2.2 h, fun v hv => by simp at hv⟩⟩⟩, ?_⟩
    rintro t' _ _ ⟨j, rfl, hj, rfl, hS⟩
    refine ⟨fun b => (b = true → j < vs.length ∧ t' ≤ 5000) ∧ (b = false → j = vs.length ∨ 5000 < t'), at_elem hlt ?_, ?_⟩
    · rw [hV]
      refine cond_intro (fun h3 => ⟨fun h4 => ?_, fun h4 => ?_⟩) fun h3 => ⟨nofun, fun _ => ?_⟩
      · simp at h3 h4; omega
      · simp at h3 h4; omega
      · simp at h3; omega
    rintro b ⟨e1, e2⟩
    refine cond_intro (fun hb => at_elem hlt ?_) fun hb => ?_
    · obtain ⟨g1, g2⟩ := e1 hb
      rw [hV]
      refine at_elem g1 ?_
      have hl := hn _ (List.getElem_mem g1)
      obtain ⟨s1, s2, s3⟩ := hS
      rw [wrap_in (n := t' + 1) (by omega) (by omega), wrap_in (n := t' + 1 + _) (by omega) (by omega)]
      refine At.next' (by omega) g1 ⟨by omega, by omega, fun h => ⟨(s3 g2).1, fun v hv => ?_⟩⟩
      rw [take_snoc g1, List.mem_append, List.mem_singleton] at hv
      rcases hv with hv | rfl
      · exact (s3 g2).2 v hv
      · omega
    · refine At.next (by omega) hlt ⟨hS.1, hS.2.1, fun h => ?_⟩
      rcases e2 hb with rfl | g
      · have := hS.2.2 h
        rw [List.take_length] at this
        intro r hr
        rw [take_snoc hlt, List.mem_append, List.mem_singleton] at hr
        rcases hr with hr | rfl
        · exact this.1 r hr
        · rw [hV]; exact this.2
      · omega
  subst hk
  rw [List.take_length] at hT
  refine ⟨fun t1 i n => At c.defs.length (fun _ => Sum t1 (Names 5000 p.routines)) i n, ⟨_, At.start hT⟩, ?_⟩
  rintro t1 _ _ ⟨j, rfl, hj, rfl, hD⟩
  refine ⟨fun b => b = true → j < c.defs.length ∧ t1 ≤ 5000, cond_intro (fun h3 => fun h4 => by simp at h3 h4; omega) fun h3 => nofun, ?_⟩
  rintro b e1
  refine cond_intro (fun hb => at_elem (e1 hb).1 (At.next (by omega) (e1 hb).1 ?_)) fun hb => ?_
  · have hl := ft.dn _ (List.getElem_mem (e1 hb).1)
    have g := (e1 hb).2
    obtain ⟨s1, s2, s3⟩ := hD
    rw [wrap_in (by omega) (by omega)]
    exact ⟨by omega, by omega, fun _ => s3 g⟩
  refine ⟨fun t2 i n => At c.chans.length (fun _ => Sum t2 (Names 5000 p.routines)) i n, ⟨_, At.start hD⟩, ?_⟩
  rintro t2 _ _ ⟨i, rfl, hi, rfl, hC⟩
  refine ⟨fun b => b = true → i < c.chans.length ∧ t2 ≤ 5000, cond_intro (fun h3 => fun h4 => by simp at h3 h4; omega) fun h3 => nofun, ?_⟩
  rintro b f1
  refine cond_intro (fun hb => at_elem (f1 hb).1 (At.next (by omega) (f1 hb).1 ?_)) fun hb => h1 _ fun e => ⟨⟨b1, b2, b3, ft.fit.dn, ft.fit.cn⟩, ⟨b4, b5, hI⟩, hC.2.2 (by simpa using e)⟩
  have hl := ft.cn _ (List.getElem_mem (f1 hb).1)
  have g := (f1 hb).2
  obtain ⟨s1, s2, s3⟩ := hC
  rw [wrap_in (by omega) (by omega)]
  exact ⟨by omega, by omega, fun _ => s3 g⟩
theorem LookStates_v (p : GPlan) (c : GCode) (ft : Fit2 p c) (rc : RgC c) (s : GState) (r0 : RgS0 s) (K : Bool → Prop) (hK : K true) : V_L40_LookStates p c s K := by
  refine L40_LookStates_lift _ _ _ _ ⟨fun b => b = false → (Sm c ∧ SmS s ∧ Names 5000 p.routines) ∧ Tab c, large2_v _ c _ ft _ fun b hb => cond_intro (fun _ => nofun) fun e => right_v c (hb e).1 _ fun b hb2 e2 => ⟨hb e, hb2 (by simpa using e2)⟩, ?_⟩
  intro b hb
  refine cond_intro (fun _ => live_v _ hK) fun e => ?_
  obtain ⟨⟨sm, ss, nm⟩, tb⟩ := hb e
  have hp : PlanOk p := fun r hr v hv => Nat.le_trans (nm r hr v hv) (by decide)
  have r := rgs r0 ss
  have hnp := r.np
  refine ⟨fun i k => At s.procs.length (fun _ => True) i k, ⟨_, At.start trivial⟩, ?_⟩
  rintro _ _ ⟨k, rfl, hk, rfl, -⟩
  refine At.cond hk (fun hlt => ⟨fun b => b = false, at_elem hlt (at_elem hlt ?_), ?_⟩) fun hk => ?_
  · have hx := r.procs _ (List.getElem_mem hlt)
    exact proc_v p hp c sm tb rc _ hx _ (rproc_v p hp c sm tb rc _ hx _ (by simp))
  · rintro _ rfl
    exact At.next (by omega) hlt trivial
  · exact state_v p hp c sm tb rc s r _ (rstate_v p hp c sm tb rc s r _ (cond_t (by simp) (live_v _ hK)))
theorem spec1 {P : Program} {f : FuncId} {args : Array Value} {w : World} (h : Calls P f args w (Ret fun v w' => ∃ b, b = true ∧ v = .bool b ∧ Keep [] w w')) : Calls P f args w (Ret fun v w' => v = .bool true ∧ Ext w w') := by
  refine call_then h ?_
  rintro _ _ ⟨_, rfl, rfl, k⟩
  exact ⟨rfl, k.ext⟩
theorem LookHappens_spec (c : GCode) (ft : Fit c) (h : GHappen) (r : RgH h) (ccs hcs : Array Value) (w : World) (hh : held.T w) (h1 : cGCode.rep [] w c ccs.toList) (h2 : cGHappen.rep [] w h hcs.toList) :
    Calls Tryd.prog 3 #[.agg ccs, .agg hcs] w (Ret fun v w' => v = .bool true ∧ Ext w w') := spec1 (LookHappens_v c ft h r (· = true) rfl [] w (.nil hh) ccs.toList h1 hcs.toList h2)
theorem LookLines_spec (c : GCode) (ft : Fit c) (rc : RgC c) (s : GState) (r : RgS0 s) (ccs scs : Array Value) (w : World) (hh : held.T w) (h1 : cGCode.rep [] w c ccs.toList) (h2 : cGState.rep [] w s scs.toList) :
    Calls Tryd.prog 5 #[.agg ccs, .agg scs] w (Ret fun v w' => v = .bool true ∧ Ext w w') := spec1 (LookLines_v c ft rc s r (· = true) rfl [] w (.nil hh) ccs.toList h1 scs.toList h2)
theorem LookStates_spec (p : GPlan) (c : GCode) (ft : Fit2 p c) (rc : RgC c) (s : GState) (r : RgS0 s) (pcs ccs scs : Array Value) (w : World) (hh : held.T w) (h0 : cGPlan.rep [] w p pcs.toList) (h1 : cGCode.rep [] w c ccs.toList) (h2 : cGState.rep [] w s scs.toList) :
    Calls Tryd.prog 4 #[.agg pcs, .agg ccs, .agg scs] w (Ret fun v w' => v = .bool true ∧ Ext w w') := spec1 (LookStates_v p c ft rc s r (· = true) rfl [] w (.nil hh) pcs.toList h0 ccs.toList h1 scs.toList h2)
end Go.Proofs.YtpigkempbnmioaaDoor
