/- LookLines, LookStates: the lines of a state. -/
import Derived.Test.YtpigkempbnmioaaDoorLookD
namespace Go.Proofs.YtpigkempbnmioaaDoor
open Go.Vc Go.Lv Go.Ty

/-! ## what a process does -/
def stmtS (n : Int) : List UInt8 := if n < 0 then [101, 110, 100] else Lib.itoa n
def doesF (c : GCode) (x : GProc) : List UInt8 :=
  if x.mode = 0 then [97, 116, 32] ++ stmtS (stmtF c x.at_)
  else if x.mode = 1 then [115, 101, 110, 100, 115, 32] ++ (Lib.itoa x.val ++ ([32, 111, 110, 32] ++ chanF x.chan c.chans))
  else if x.mode = 2 then [114, 101, 99, 101, 105, 118, 101, 115, 32, 111, 110, 32] ++ chanF x.chan c.chans
  else if x.mode = 3 then [115, 101, 108, 101, 99, 116, 115, 32] ++ Lib.itoa (x.alts.length : Int)
  else if x.mode = 4 then [115, 108, 101, 101, 112, 115, 32, 117, 110, 116, 105, 108, 32] ++ Lib.itoa x.until_
  else if x.mode = 5 then [100, 111, 110, 101]
  else if x.mode = 6 then [102, 97, 105, 108, 101, 100, 32, 97, 116, 32] ++ stmtS (stmtF c x.at_)
  else [63]
structure RgP (x : GProc) : Prop where
  val : I64 x.val
  chan : I64 x.chan
  until_ : I64 x.until_
  def_ : I64 x.def_
  vars : ∀ v ∈ x.vars, I64 v
  nv : x.vars.length ≤ 40
  na : x.alts.length ≤ 40
def RgC (c : GCode) : Prop := ∀ x ∈ c.ins, I64 x.a
theorem stmtF_rg {c : GCode} (rc : RgC c) (a : Int) : I64 (stmtF c a) := by
  unfold stmtF
  split
  · split
    · rename_i x hx
      split
      · exact rc x (List.mem_of_getElem? hx)
      · exact ⟨by decide, by decide⟩
    · exact ⟨by decide, by decide⟩
  · exact ⟨by decide, by decide⟩
theorem stmtS_len {n : Int} (h : I64 n) : (stmtS n).length ≤ 20 := by unfold stmtS; split; simp; exact itoa_len20 h
theorem stmtS_no (n : Int) : no10 (stmtS n) := by unfold stmtS; split; (intro b hb; revert hb; revert b; decide); exact itoa_no n
theorem lstmt_v (n : Int) (h : I64 n) (K : List UInt8 → Prop) (hK : K (stmtS n)) : V_look_stmt n K := by
  unfold stmtS at hK
  refine look_stmt_lift _ _ (cond_intro (fun e => ?_) (fun e => ?_))
  · rw [if_pos (by simpa using e)] at hK; exact hK
  · rw [if_neg (by simpa using e)] at hK; exact itoaz_v n h _ hK
theorem rstmts_v (c : GCode) (rc : RgC c) (a : Int) (K : List UInt8 → Prop) (hK : K (stmtS (stmtF c a))) : V_R40_stmt c a K := by
  unfold stmtS at hK
  refine R40_stmt_lift _ _ _ (rstmt_v c a _ (cond_intro (fun e => ?_) (fun e => ?_)))
  · rw [if_pos (by simpa using e)] at hK; exact hK
  · rw [if_neg (by simpa using e)] at hK; exact rnumz_v _ (stmtF_rg rc a) _ hK
theorem alts_rg {x : GProc} (r : RgP x) : I64 (x.alts.length : Int) := by have := r.na; exact ⟨by omega, by omega⟩
theorem doesF_ok {c : GCode} (tb : Tab c) (rc : RgC c) {x : GProc} (r : RgP x) : (doesF c x).length ≤ 60 ∧ no10 (doesF c x) := by
  obtain ⟨c1, c2⟩ := chanF_ok x.chan c.chans tb.chans
  have s1 := stmtS_len (stmtF_rg rc x.at_)
  have s2 := stmtS_no (stmtF c x.at_)
  have v1 := itoa_len20 r.val
  have v2 := itoa_len20 r.until_
  have v3 := itoa_len20 (alts_rg r)
  unfold doesF
  repeat' split
  all_goals refine ⟨by simp only [List.length_append, List.length_cons, List.length_nil]; omega, ?_⟩
  all_goals first
    | exact no10_app (by unfold no10; decide) (no10_app (itoa_no _) (no10_app (by unfold no10; decide) c2))
    | exact no10_app (by unfold no10; decide) s2
    | exact no10_app (by unfold no10; decide) c2
    | exact no10_app (by unfold no10; decide) (itoa_no _)
    | (unfold no10; decide)
theorem does_v (c : GCode) (sm : Sm c) (tb : Tab c) (rc : RgC c) (x : GProc) (r : RgP x) (K : List UInt8 → Prop) (hK : K (doesF c x)) : V_look_does c x K := by
  have c1 := (chanF_ok x.chan c.chans tb.chans).1
  have s1 := stmtS_len (stmtF_rg rc x.at_)
  have v1 := itoa_len20 r.val
  have v2 := itoa_len20 r.until_
  have v3 := itoa_len20 (alts_rg r)
  have hv := r.nv
  have ha := r.na
  unfold doesF at hK
  refine look_does_lift _ _ _ (view_v c _ (by simp) (fun p hp => by simp at hp; subst hp; exact ⟨hv, ha⟩) (by simp) _ ?_)
  refine ⟨⟨by omega, by simp [viewF]⟩, fun x1 hx1 => ?_⟩
  have hx1 : viewP c x = x1 := by simpa [viewF] using hx1
  subst hx1
  have hat : ∀ {k : Int}, x.mode = k → k ≠ 5 → (viewP c x).at_ = stmtF c x.at_ := by
    intro k e hk
    have : (x.mode == 5) = false := by simp; omega
    simp [viewP, this]
  refine cond_intro (fun e => ?_) fun e => ?_
  · have e : x.mode = 0 := by simpa using e
    rw [if_pos e] at hK
    rw [hat e (by decide)]
    exact lstmt_v _ (stmtF_rg rc _) _ (words2 _ _ _ (by simp only [List.length_cons, List.length_nil]; omega) hK)
  have e : ¬ x.mode = 0 := by simpa using e
  rw [if_neg e] at hK
  refine cond_intro (fun e => ?_) fun e => ?_
  · have e : x.mode = 1 := by simpa using e
    rw [if_pos e] at hK
    exact num_v _ r.val _ (chan_v c sm tb _ r.chan _ (look_words_lift _ _ (join_v _ _ (by simp) (by rw [join_four]; simp only [List.length_append, List.length_cons, List.length_nil]; omega) _ (by rw [join_four]; simpa using hK))))
  have e : ¬ x.mode = 1 := by simpa using e
  rw [if_neg e] at hK
  refine cond_intro (fun e => ?_) fun e => ?_
  · have e : x.mode = 2 := by simpa using e
    rw [if_pos e] at hK
    exact chan_v c sm tb _ r.chan _ (words3 _ _ _ _ (by simp only [List.length_cons, List.length_nil]; omega) (by simpa using hK))
  have e : ¬ x.mode = 2 := by simpa using e
  rw [if_neg e] at hK
  refine cond_intro (fun e => ?_) fun e => ?_
  · have e : x.mode = 3 := by simpa using e
    rw [if_pos e] at hK
    exact num_v _ (alts_rg r) _ (words2 _ _ _ (by simp only [List.length_cons, List.length_nil]; omega) (by simpa using hK))
  have e : ¬ x.mode = 3 := by simpa using e
  rw [if_neg e] at hK
  refine cond_intro (fun e => ?_) fun e => ?_
  · have e : x.mode = 4 := by simpa using e
    rw [if_pos e] at hK
    exact num_v _ r.until_ _ (words3 _ _ _ _ (by simp only [List.length_cons, List.length_nil]; omega) (by simpa using hK))
  have e : ¬ x.mode = 4 := by simpa using e
  rw [if_neg e] at hK
  refine cond_intro (fun e => ?_) fun e => ?_
  · have e : x.mode = 5 := by simpa using e
    rw [if_pos e] at hK; exact hK
  have e : ¬ x.mode = 5 := by simpa using e
  rw [if_neg e] at hK
  refine cond_intro (fun e => ?_) fun e => ?_
  · have e : x.mode = 6 := by simpa using e
    rw [if_pos e] at hK
    rw [hat e (by decide)]
    exact lstmt_v _ (stmtF_rg rc _) _ (words3 _ _ _ _ (by simp only [List.length_cons, List.length_nil]; omega) (by simpa using hK))
  have e : ¬ x.mode = 6 := by simpa using e
  rw [if_neg e] at hK; exact hK
theorem rdoes_v (c : GCode) (sm : Sm c) (tb : Tab c) (rc : RgC c) (x : GProc) (r : RgP x) (K : List UInt8 → Prop) (hK : K (doesF c x)) : V_R40_does c x K := by
  have c1 := (chanF_ok x.chan c.chans tb.chans).1
  have s1 := stmtS_len (stmtF_rg rc x.at_)
  have v1 := itoa_len20 r.val
  have v2 := itoa_len20 r.until_
  have v3 := itoa_len20 (alts_rg r)
  unfold doesF at hK
  refine R40_does_lift _ _ _ ?_
  refine cond_intro (fun e => ?_) fun e => ?_
  · have e : x.mode = 0 := by simpa using e
    rw [if_pos e] at hK
    exact rstmts_v c rc _ _ (le_and (by simp only [List.length_cons, List.length_nil]; omega) (hK))
  have e : ¬ x.mode = 0 := by simpa using e
  rw [if_neg e] at hK
  refine cond_intro (fun e => ?_) fun e => ?_
  · have e : x.mode = 1 := by simpa using e
    rw [if_pos e] at hK
    exact rnumz_v _ r.val _ (le_and (by simp only [List.length_cons, List.length_nil]; omega) (le_and (by simp only [List.length_append, List.length_cons, List.length_nil]; omega) (rchan_v c sm tb _ r.chan _ (le_and (by simp only [List.length_append, List.length_cons, List.length_nil]; omega) (by simpa using hK)))))
  have e : ¬ x.mode = 1 := by simpa using e
  rw [if_neg e] at hK
  refine cond_intro (fun e => ?_) fun e => ?_
  · have e : x.mode = 2 := by simpa using e
    rw [if_pos e] at hK
    exact rchan_v c sm tb _ r.chan _ (le_and (by simp only [List.length_cons, List.length_nil]; omega) (hK))
  have e : ¬ x.mode = 2 := by simpa using e
  rw [if_neg e] at hK
  refine cond_intro (fun e => ?_) fun e => ?_
  · have e : x.mode = 3 := by simpa using e
    rw [if_pos e] at hK
    exact rnumz_v _ (alts_rg r) _ (le_and (by simp only [List.length_cons, List.length_nil]; omega) (hK))
  have e : ¬ x.mode = 3 := by simpa using e
  rw [if_neg e] at hK
  refine cond_intro (fun e => ?_) fun e => ?_
  · have e : x.mode = 4 := by simpa using e
    rw [if_pos e] at hK
    exact rnumz_v _ r.until_ _ (le_and (by simp only [List.length_cons, List.length_nil]; omega) (hK))
  have e : ¬ x.mode = 4 := by simpa using e
  rw [if_neg e] at hK
  refine cond_intro (fun e => ?_) fun e => ?_
  · have e : x.mode = 5 := by simpa using e
    rw [if_pos e] at hK; exact hK
  have e : ¬ x.mode = 5 := by simpa using e
  rw [if_neg e] at hK
  refine cond_intro (fun e => ?_) fun e => ?_
  · have e : x.mode = 6 := by simpa using e
    rw [if_pos e] at hK
    exact rstmts_v c rc _ _ (le_and (by simp only [List.length_cons, List.length_nil]; omega) (hK))
  have e : ¬ x.mode = 6 := by simpa using e
  rw [if_neg e] at hK; exact hK

/-! ## a process's line -/
def nameF (c : GCode) (x : GProc) : List UInt8 := if 0 ≤ x.def_ ∧ x.def_ < c.defs.length then (match c.defs[x.def_.toNat]? with | some d => d.name | none => []) else [63]
def namesF (p : GPlan) (x : GProc) : List (List UInt8) := if 0 ≤ x.def_ ∧ x.def_ < p.routines.length then (match p.routines[x.def_.toNat]? with | some r => r.vars | none => []) else []
def vnF (p : GPlan) (x : GProc) (k : Nat) : List UInt8 := if (namesF p x).length = x.vars.length then (namesF p x).getD k [] else [118] ++ Lib.itoa k
def varF (p : GPlan) (x : GProc) (k : Nat) : List UInt8 := [32] ++ (vnF p x k ++ ([61] ++ Lib.itoa (x.vars.getD k 0)))
def varsF (p : GPlan) (x : GProc) (k : Nat) : List UInt8 := ((List.range k).map (varF p x)).flatten
def headF (c : GCode) (x : GProc) : List UInt8 := nameF c x ++ ([58, 32] ++ doesF c x)
def procF (p : GPlan) (c : GCode) (x : GProc) : List UInt8 := headF c x ++ varsF p x x.vars.length
theorem varsF_succ (p : GPlan) (x : GProc) (k : Nat) : varsF p x (k + 1) = varsF p x k ++ varF p x k := by simp [varsF, List.range_succ]
/-- the names in a plan are not great -/
def PlanOk (p : GPlan) : Prop := ∀ r ∈ p.routines, ∀ v ∈ r.vars, v.length ≤ 1100000
theorem namesF_len {p : GPlan} (hp : PlanOk p) (x : GProc) : ∀ v ∈ namesF p x, v.length ≤ 1100000 := by
  unfold namesF
  split
  · split
    · rename_i r hr; exact hp r (List.mem_of_getElem? hr)
    · simp
  · simp
theorem nameF_ok {c : GCode} (tb : Tab c) (x : GProc) : (nameF c x).length ≤ 16 ∧ no10 (nameF c x) := by
  unfold nameF
  split
  · split
    · rename_i d hd
      obtain ⟨h1, h2⟩ := tb.dn d (List.mem_of_getElem? hd)
      exact ⟨h2, h1⟩
    · simp [no10]
  · exact ⟨by simp, by unfold no10; decide⟩
theorem k64 {k : Nat} (h : k ≤ 100000) : I64 (k : Int) := ⟨by omega, by omega⟩
theorem var_at {x : GProc} (r : RgP x) (k : Nat) : I64 (x.vars.getD k 0) := by
  by_cases h : k < x.vars.length
  · rw [getD_lt h]; exact r.vars _ (List.getElem_mem h)
  · rw [getD_ge (by omega)]; exact ⟨by decide, by decide⟩
theorem getD_len {l : List (List UInt8)} {n : Nat} (h : ∀ v ∈ l, v.length ≤ n) (k : Nat) : (l.getD k []).length ≤ n := by
  by_cases hk : k < l.length
  · rw [getD_lt hk]; exact h _ (List.getElem_mem hk)
  · rw [getD_ge (by omega)]; simp
theorem vnF_len {p : GPlan} (hp : PlanOk p) (x : GProc) {k : Nat} (hk : k ≤ 40) : (vnF p x k).length ≤ 1100000 := by
  have := itoa_len20 (k64 (k := k) (by omega))
  unfold vnF
  split
  · exact getD_len (namesF_len hp x) k
  · simp only [List.length_append, List.length_singleton]; omega
theorem varF_len {p : GPlan} (hp : PlanOk p) {x : GProc} (r : RgP x) {k : Nat} (hk : k ≤ 40) : (varF p x k).length ≤ 1100022 := by
  have h1 := vnF_len hp x hk
  have h2 := itoa_len20 (var_at r k)
  unfold varF
  simp only [List.length_append, List.length_singleton]; omega
theorem varsF_len {p : GPlan} (hp : PlanOk p) {x : GProc} (r : RgP x) : ∀ {k : Nat}, k ≤ 40 → (varsF p x k).length ≤ 1100022 * k
  | 0, _ => by simp [varsF]
  | k + 1, hk => by
    have h1 := varsF_len hp r (k := k) (by omega)
    have h2 := varF_len hp r (k := k) (by omega)
    rw [varsF_succ, List.length_append]; omega
theorem headF_len {c : GCode} (tb : Tab c) (rc : RgC c) {x : GProc} (r : RgP x) : (headF c x).length ≤ 78 := by
  have h1 := (nameF_ok tb x).1
  have h2 := (doesF_ok tb rc r).1
  unfold headF
  simp only [List.length_append, List.length_cons, List.length_nil]; omega
theorem procF_len {p : GPlan} (hp : PlanOk p) {c : GCode} (tb : Tab c) (rc : RgC c) {x : GProc} (r : RgP x) : (procF p c x).length ≤ 44001000 := by
  have h1 := headF_len tb rc r
  have h2 := varsF_len hp r (k := x.vars.length) r.nv
  have h3 := r.nv
  unfold procF
  rw [List.length_append]; omega
theorem getD_some {α : Type} {l : List α} {k : Nat} {x d : α} (h : l[k]? = some x) : l.getD k d = x := by rw [List.getD_eq_getElem?_getD, h]; rfl
theorem proc_v (p : GPlan) (hp : PlanOk p) (c : GCode) (sm : Sm c) (tb : Tab c) (rc : RgC c) (x : GProc) (r : RgP x) (K : List UInt8 → Prop) (hK : K (procF p c x)) : V_look_Proc p c x K := by
  have hd := sm.defs
  have hn := (nameF_ok tb x).1
  have h2 := (doesF_ok tb rc r).1
  have hnv := r.nv
  refine look_Proc_lift _ _ _ _ ⟨fun o => o = nameF c x, ⟨fun b => b = decide (0 ≤ x.def_ ∧ x.def_ < c.defs.length), cond_intro (fun e => ?_) (fun e => ?_), ?_⟩, ?_⟩
  · have e : 0 ≤ x.def_ := by simpa using e
    simp [e]
  · have e : ¬ 0 ≤ x.def_ := by simpa using e
    simp [e]
  · rintro _ rfl
    refine cond_intro (fun e => ?_) (fun e => ?_)
    · have e := of_decide_eq_true e
      refine ⟨e, fun d hd => ?_⟩
      unfold nameF; rw [if_pos e, hd]
    · have e := of_decide_eq_false e
      unfold nameF; rw [if_neg e]
  rintro _ rfl
  refine ⟨fun o => o = namesF p x, ⟨fun b => b = decide (0 ≤ x.def_ ∧ x.def_ < p.routines.length), cond_intro (fun e => ?_) (fun e => ?_), ?_⟩, ?_⟩
  · have e : 0 ≤ x.def_ := by simpa using e
    simp [e]
  · have e : ¬ 0 ≤ x.def_ := by simpa using e
    simp [e]
  · rintro _ rfl
    refine cond_intro (fun e => ?_) (fun e => ?_)
    · have e := of_decide_eq_true e
      refine ⟨e, fun d hd => ?_⟩
      unfold namesF; rw [if_pos e, hd]
    · have e := of_decide_eq_false e
      unfold namesF; rw [if_neg e]
  rintro _ rfl
  refine (le_and (by simp only [List.length_cons, List.length_nil]; omega) (does_v c sm tb rc x r _ (words2 _ _ _ (by simp only [List.length_append, List.length_cons, List.length_nil]; omega) ?_)))
  refine ⟨fun o i n => At x.vars.length (fun k => o = headF c x ++ varsF p x k) i n, ⟨_, At.start (by simp [varsF, headF])⟩, ?_⟩
  rintro o _ _ ⟨k, rfl, hk, rfl, rfl⟩
  have hv := varsF_len hp r (k := k) (by omega)
  have hh := headF_len tb rc r
  refine At.cond hk (fun hlt => at_elem hlt (itoaz_v _ (k64 (by omega)) _ (le_and ?_ (⟨fun v => v = vnF p x k, cond_intro (fun e => ?_) (fun e => ?_), ?_⟩)))) fun hk => ?_
  · have := itoa_len20 (k64 (k := k) (by omega))
    simp only [List.length_cons, List.length_nil]; omega
  · have e : (namesF p x).length = x.vars.length := by simp at e; omega
    refine ⟨⟨by omega, by omega⟩, fun s hs => ?_⟩
    have hs : (namesF p x)[k]? = some s := hs
    unfold vnF; rw [if_pos e, getD_some hs]
  · have e : ¬ (namesF p x).length = x.vars.length := by simp at e; omega
    unfold vnF; rw [if_neg e]
  · rintro _ rfl
    have hvn := vnF_len hp x (k := k) (by omega)
    have hx := r.vars _ (List.getElem_mem hlt)
    have hx2 := itoa_len20 hx
    refine (le_and (by simp only [List.length_cons, List.length_nil]; omega) (itoaz_v _ hx _ (le_and (by simp only [List.length_append, List.length_cons, List.length_nil]; omega) (words2 _ _ _ ?_ ?_))))
    · simp only [List.length_append, List.length_cons, List.length_nil]; omega
    · refine At.next (by omega) hlt ?_
      rw [varsF_succ]
      unfold varF
      rw [getD_lt hlt]
      simp
  · subst hk; exact hK
theorem rproc_v (p : GPlan) (hp : PlanOk p) (c : GCode) (sm : Sm c) (tb : Tab c) (rc : RgC c) (x : GProc) (r : RgP x) (K : List UInt8 → Prop) (hK : K (procF p c x)) : V_R40_Proc p c x K := by
  have hd := sm.defs
  have hn := (nameF_ok tb x).1
  have h2 := (doesF_ok tb rc r).1
  have hnv := r.nv
  refine R40_Proc_lift _ _ _ _ ⟨fun o => o = nameF c x, ⟨fun b => b = decide (0 ≤ x.def_ ∧ x.def_ < c.defs.length), cond_intro (fun e => ?_) (fun e => ?_), ?_⟩, ?_⟩
  · have e : 0 ≤ x.def_ := by simpa using e
    simp [e]
  · have e : ¬ 0 ≤ x.def_ := by simpa using e
    simp [e]
  · rintro _ rfl
    refine cond_intro (fun e => ?_) (fun e => ?_)
    · have e := of_decide_eq_true e
      refine ⟨e, fun d hd => ?_⟩
      unfold nameF; rw [if_pos e, hd]
    · have e := of_decide_eq_false e
      unfold nameF; rw [if_neg e]
  rintro _ rfl
  refine (le_and (by simp only [List.length_cons, List.length_nil]; omega) (rdoes_v c sm tb rc x r _ (le_and (by simp only [List.length_append, List.length_cons, List.length_nil]; omega) (?_))))
  refine ⟨fun b => b = decide ((0 ≤ x.def_ ∧ x.def_ < p.routines.length) ∧ (namesF p x).length = x.vars.length), cond_intro (fun e => cond_intro (fun e2 => ?_) fun e2 => ?_) (fun e => ?_), ?_⟩
  · have e : 0 ≤ x.def_ := by simpa using e
    have e2 : x.def_ < p.routines.length := by simpa using e2
    refine ⟨⟨e, e2⟩, fun q hq => ?_⟩
    have : namesF p x = q.vars := by unfold namesF; rw [if_pos ⟨e, e2⟩, hq]
    rw [this]
    by_cases h3 : q.vars.length = x.vars.length
    · simp [h3, e, e2]
    · have : ¬ (q.vars.length : Int) = x.vars.length := by omega
      simp [h3, this]
  · have e2 : ¬ x.def_ < p.routines.length := by simpa using e2
    simp [e2]
  · have e : ¬ 0 ≤ x.def_ := by simpa using e
    simp [e]
  rintro _ rfl
  refine ⟨fun o i n => At x.vars.length (fun k => o = headF c x ++ varsF p x k) i n, ⟨_, At.start (by simp [varsF, headF])⟩, ?_⟩
  rintro o _ _ ⟨k, rfl, hk, rfl, rfl⟩
  have hv := varsF_len hp r (k := k) (by omega)
  have hh := headF_len tb rc r
  refine At.cond hk (fun hlt => ⟨fun o => o = headF c x ++ varsF p x k ++ ([32] ++ vnF p x k), cond_intro (fun e => ?_) (fun e => ?_), ?_⟩) fun hk => ?_
  · obtain ⟨e1, e2⟩ := of_decide_eq_true e
    refine (le_and (by simp only [List.length_append, List.length_cons, List.length_nil]; omega) (⟨e1, fun q hq => ?_⟩))
    have hq2 : namesF p x = q.vars := by unfold namesF; rw [if_pos e1, hq]
    rw [hq2] at e2
    refine ⟨⟨by omega, by omega⟩, fun s hs => ?_⟩
    have hs : q.vars[k]? = some s := hs
    have hvn := vnF_len hp x (k := k) (by omega)
    have hvs : vnF p x k = s := by unfold vnF; rw [hq2, if_pos e2, getD_some hs]
    rw [hvs] at hvn
    refine (le_and (by simp only [List.length_append, List.length_cons, List.length_nil]; omega) (?_))
    rw [hvs]; simp
  · have e := of_decide_eq_false e
    have hne : ¬ (namesF p x).length = x.vars.length := by
      intro h3
      refine e ⟨?_, h3⟩
      by_cases h4 : 0 ≤ x.def_ ∧ x.def_ < p.routines.length
      · exact h4
      · unfold namesF at h3; rw [if_neg h4] at h3; simp at h3; omega
    have hi := itoa_len20 (k64 (k := k) (by omega))
    refine (le_and (by simp only [List.length_append, List.length_cons, List.length_nil]; omega) (rnumz_v _ (k64 (by omega)) _ (le_and (by simp only [List.length_append, List.length_cons, List.length_nil]; omega) (?_))))
    unfold vnF; rw [if_neg hne]; simp
  · rintro _ rfl
    have hvn := vnF_len hp x (k := k) (by omega)
    have hx := r.vars _ (List.getElem_mem hlt)
    have hx2 := itoa_len20 hx
    refine (le_and (by simp only [List.length_append, List.length_cons, List.length_nil]; omega) (at_elem hlt (rnumz_v _ hx _ (le_and (by simp only [List.length_append, List.length_cons, List.length_nil]; omega) (?_)))))
    refine At.next (by omega) hlt ?_
    rw [varsF_succ]
    unfold varF
    rw [getD_lt hlt]
    simp
  · subst hk; exact hK

/-! ## a state's lines -/
def whyW : List (List UInt8) := [[100, 105, 118], [115, 116, 97, 99, 107], [102, 117, 101, 108], [105, 110, 100, 101, 120], [112, 114, 111, 99, 115], [97, 115, 115, 101, 114, 116], [100, 114, 97, 119]]
def whyF (f : Int) : List UInt8 := if 1 ≤ f ∧ f ≤ 7 then whyW.getD (f - 1).toNat [] else [63]
def haltF (s : GState) : List UInt8 :=
  if s.halt = 0 then [114, 117, 110, 110, 105, 110, 103] else if s.halt = 1 then [100, 111, 110, 101] else if s.halt = 2 then [115, 116, 117, 99, 107]
  else if s.halt = 3 then [102, 97, 117, 108, 116, 32] ++ (whyF s.fault ++ ([32, 105, 110, 32] ++ Lib.itoa s.who)) else [63]
structure RgS (s : GState) : Prop where
  now : I64 s.now
  who : I64 s.who
  fault : I64 s.fault
  out : ∀ v ∈ s.out, I64 v
  procs : ∀ x ∈ s.procs, RgP x
  np : s.procs.length ≤ 20
  no : s.out.length ≤ 100
theorem whyW_ok : ∀ i, (whyW.getD i []).length ≤ 6 ∧ no10 (whyW.getD i []) := by
  intro i
  by_cases h : i < 7
  · exact (show ∀ i, i < 7 → (whyW.getD i []).length ≤ 6 ∧ no10 (whyW.getD i []) by unfold no10; decide) i h
  · rw [getD_ge (by simp [whyW]; omega)]; simp [no10]
theorem whyF_ok (f : Int) : (whyF f).length ≤ 6 ∧ no10 (whyF f) := by
  unfold whyF
  split
  · exact whyW_ok _
  · exact ⟨by simp, by unfold no10; decide⟩
theorem haltF_ok {s : GState} (r : RgS s) : (haltF s).length ≤ 40 ∧ no10 (haltF s) := by
  obtain ⟨h1, h2⟩ := whyF_ok s.fault
  have h3 := itoa_len20 r.who
  unfold haltF
  repeat' split
  all_goals refine ⟨by simp only [List.length_append, List.length_cons, List.length_nil]; omega, ?_⟩
  all_goals first
    | exact no10_app (by unfold no10; decide) (no10_app h2 (no10_app (by unfold no10; decide) (itoa_no _)))
    | (unfold no10; decide)
theorem faults_at : ∀ i : Nat, 1 ≤ i → i ≤ 7 → ([[63], [100, 105, 118], [115, 116, 97, 99, 107], [102, 117, 101, 108], [105, 110, 100, 101, 120], [112, 114, 111, 99, 115], [97, 115, 115, 101, 114, 116], [100, 114, 97, 119]] : List (List UInt8)).getD i [] = whyW.getD (i - 1) [] := by
  intro i h1 h2
  obtain ⟨j, rfl⟩ : ∃ j, i = j + 1 := ⟨i - 1, by omega⟩
  exact (show ∀ j : Nat, j < 7 → ([[63], [100, 105, 118], [115, 116, 97, 99, 107], [102, 117, 101, 108], [105, 110, 100, 101, 120], [112, 114, 111, 99, 115], [97, 115, 115, 101, 114, 116], [100, 114, 97, 119]] : List (List UInt8)).getD (j + 1) [] = whyW.getD (j + 1 - 1) [] by decide) j (by omega)
theorem halt_v (s : GState) (r : RgS s) (K : List UInt8 → Prop) (hK : K (haltF s)) : V_look_halt s K := by
  have h1 := (whyF_ok s.fault).1
  have h3 := itoa_len20 r.who
  unfold haltF at hK
  refine look_halt_lift _ _ ?_
  refine cond_intro (fun e => ?_) fun e => ?_
  · rw [if_pos (by simpa using e)] at hK; exact hK
  rw [if_neg (by simpa using e)] at hK
  refine cond_intro (fun e => ?_) fun e => ?_
  · rw [if_pos (by simpa using e)] at hK; exact hK
  rw [if_neg (by simpa using e)] at hK
  refine cond_intro (fun e => ?_) fun e => ?_
  · rw [if_pos (by simpa using e)] at hK; exact hK
  rw [if_neg (by simpa using e)] at hK
  refine cond_intro (fun e => ?_) fun e => ?_
  rotate_left
  · rw [if_neg (by simpa using e)] at hK; exact hK
  rw [if_pos (by simpa using e)] at hK
  refine ⟨fun o => o = whyF s.fault, ⟨fun b => b = decide (0 ≤ s.fault ∧ s.fault ≤ 7), cond_intro (fun e => ?_) (fun e => ?_), ?_⟩, ?_⟩
  · have e : 0 ≤ s.fault := by simpa using e
    simp [e]
  · have e : ¬ 0 ≤ s.fault := by simpa using e
    simp [e]
  · rintro _ rfl
    refine cond_intro (fun e => look_faults_lift _ ?_) (fun e => ?_)
    · have e := of_decide_eq_true e
      refine ⟨⟨by omega, by omega⟩, ?_⟩
      dsimp only
      unfold whyF
      by_cases h0 : 1 ≤ s.fault
      · rw [if_pos ⟨h0, e.2⟩, show (s.fault - 1).toNat = s.fault.toNat - 1 by omega]
        exact faults_at _ (by omega) (by omega)
      · rw [if_neg (by omega), show s.fault.toNat = 0 by omega]; rfl
    · have e := of_decide_eq_false e
      unfold whyF; rw [if_neg (by omega)]
  rintro _ rfl
  exact num_v _ r.who _ (words4 _ _ _ _ _ (by simp only [List.length_cons, List.length_nil]; omega) (by simpa using hK))
theorem rhalt_v (s : GState) (r : RgS s) (K : List UInt8 → Prop) (hK : K (haltF s)) : V_R40_halt s K := by
  have h1 := (whyF_ok s.fault).1
  have h3 := itoa_len20 r.who
  have hf := r.fault
  unfold haltF at hK
  refine R40_halt_lift _ _ ?_
  refine cond_intro (fun e => ?_) fun e => ?_
  · rw [if_pos (by simpa using e)] at hK; exact hK
  rw [if_neg (by simpa using e)] at hK
  refine cond_intro (fun e => ?_) fun e => ?_
  · rw [if_pos (by simpa using e)] at hK; exact hK
  rw [if_neg (by simpa using e)] at hK
  refine cond_intro (fun e => ?_) fun e => ?_
  · rw [if_pos (by simpa using e)] at hK; exact hK
  rw [if_neg (by simpa using e)] at hK
  refine cond_intro (fun e => ?_) fun e => ?_
  rotate_left
  · rw [if_neg (by simpa using e)] at hK; exact hK
  rw [if_pos (by simpa using e)] at hK
  refine ⟨fun o => o = whyF s.fault, ⟨fun b => b = decide (1 ≤ s.fault ∧ s.fault ≤ 7), cond_intro (fun e => ?_) (fun e => ?_), ?_⟩, ?_⟩
  · have e : 1 ≤ s.fault := by simpa using e
    simp [e]
  · have e : ¬ 1 ≤ s.fault := by simpa using e
    simp [e]
  · rintro _ rfl
    refine cond_intro (fun e => ?_) (fun e => ?_)
    · have e := of_decide_eq_true e
      rw [wrap_in (n := s.fault - 1) (by omega) (by omega)]
      refine ⟨⟨by omega, by simp only [List.length_cons, List.length_nil]; omega⟩, fun x hx => ?_⟩
      have hx : whyW[(s.fault - 1).toNat]? = some x := hx
      unfold whyF; rw [if_pos e, getD_some hx]
    · have e := of_decide_eq_false e
      unfold whyF; rw [if_neg e]
  rintro _ rfl
  refine (le_and (by simp only [List.length_cons, List.length_nil]; omega) (le_and (by simp only [List.length_append, List.length_cons, List.length_nil]; omega) (rnumz_v _ r.who _ (le_and (by simp only [List.length_append, List.length_cons, List.length_nil]; omega) (?_)))))
  simpa using hK

def lineF (p : GPlan) (c : GCode) (s : GState) (k : Nat) : List UInt8 := [35] ++ (Lib.itoa k ++ ([32] ++ (match s.procs[k]? with | some x => procF p c x | none => [])))
def linesF (p : GPlan) (c : GCode) (s : GState) (k : Nat) : List (List UInt8) := (List.range k).map (lineF p c s)
def firstF (s : GState) : List UInt8 := [116, 105, 109, 101, 32] ++ (Lib.itoa s.now ++ ([32] ++ haltF s))
def outF (s : GState) (k : Nat) : List UInt8 := [111, 117, 116] ++ ((s.out.take k).map fun v => [32] ++ Lib.itoa v).flatten
def stateF (p : GPlan) (c : GCode) (s : GState) : List UInt8 := ((firstF s :: linesF p c s s.procs.length).map (· ++ [10])).flatten ++ (outF s s.out.length ++ [10])
theorem linesF_succ (p : GPlan) (c : GCode) (s : GState) (k : Nat) : linesF p c s (k + 1) = linesF p c s k ++ [lineF p c s k] := by simp [linesF, List.range_succ]
theorem lineF_len {p : GPlan} (hp : PlanOk p) {c : GCode} (tb : Tab c) (rc : RgC c) {s : GState} (r : RgS s) {k : Nat} (hk : k ≤ 20) : (lineF p c s k).length ≤ 44001030 := by
  have h1 := itoa_len20 (k64 (k := k) (by omega))
  unfold lineF
  split
  · rename_i x hx
    have := procF_len hp tb rc (r.procs x (List.mem_of_getElem? hx))
    simp only [List.length_append, List.length_singleton]; omega
  · simp only [List.length_append, List.length_singleton, List.length_nil]; omega
theorem flat_len {α : Type} {f : α → List UInt8} {n : Nat} : ∀ {l : List α}, (∀ x ∈ l, (f x).length ≤ n) → (l.map f).flatten.length ≤ n * l.length
  | [], _ => by simp
  | x :: l, h => by
    have h1 := h x (by simp)
    have h2 := flat_len (l := l) fun y hy => h y (by simp [hy])
    simp only [List.map_cons, List.flatten_cons, List.length_append, List.length_cons, Nat.mul_succ]; omega
theorem firstF_len {s : GState} (r : RgS s) : (firstF s).length ≤ 70 := by
  have h1 := (haltF_ok r).1
  have h2 := itoa_len20 r.now
  unfold firstF
  simp only [List.length_append, List.length_cons, List.length_nil]; omega
theorem linesF_len {p : GPlan} (hp : PlanOk p) {c : GCode} (tb : Tab c) (rc : RgC c) {s : GState} (r : RgS s) {k : Nat} (hk : k ≤ 20) : ((linesF p c s k).map (· ++ [10])).flatten.length ≤ 44001031 * k := by
  unfold linesF
  rw [List.map_map]
  have := flat_len (f := (fun x => x ++ [10]) ∘ lineF p c s) (n := 44001031) (l := List.range k) fun i hi => by
    have := lineF_len hp tb rc r (k := i) (by have := List.mem_range.1 hi; omega)
    simp only [Function.comp_apply, List.length_append, List.length_singleton]; omega
  simpa using this
theorem outF_len {s : GState} (r : RgS s) {k : Nat} (hk : k ≤ s.out.length) : (outF s k).length ≤ 3 + 21 * k := by
  have := flat_len (f := fun v => [32] ++ Lib.itoa v) (n := 21) (l := s.out.take k) fun v hv => by
    have := itoa_len20 (r.out v (List.mem_of_mem_take hv))
    simp only [List.length_append, List.length_singleton]; omega
  rw [List.length_take, Nat.min_eq_left hk] at this
  unfold outF
  simp only [List.length_append, List.length_cons, List.length_nil] at this ⊢; omega
theorem outF_succ {s : GState} {k : Nat} (h : k < s.out.length) : outF s (k + 1) = outF s k ++ ([32] ++ Lib.itoa s.out[k]) := by
  unfold outF
  rw [take_snoc h, List.map_append, List.flatten_append, ← List.append_assoc]
  congr 1
  simp
theorem join_lines : ∀ (x : List UInt8) (l : List (List UInt8)) (o : List UInt8), Lib.join (x :: l ++ [o, []]) [10] = ((x :: l).map (· ++ [10])).flatten ++ (o ++ [10])
  | x, [], o => by simp [Lib.join_cons, Lib.joinTail]
  | x, y :: l, o => by
    have ih := join_lines y l o
    rw [List.cons_append, Lib.join_cons] at ih
    simp only [List.cons_append, Lib.join_cons, List.map_cons, List.flatten_cons] at ih ⊢
    have : Lib.joinTail [10] (y :: (l ++ [o, []])) = [10] ++ (y ++ Lib.joinTail [10] (l ++ [o, []])) := by simp [Lib.joinTail]
    rw [this, ih]; simp
theorem state_v (p : GPlan) (hp : PlanOk p) (c : GCode) (sm : Sm c) (tb : Tab c) (rc : RgC c) (s : GState) (r : RgS s) (K : List UInt8 → Prop) (hK : K (stateF p c s)) : V_look_State p c s K := by
  have np := r.np
  have no := r.no
  have hh := (haltF_ok r).1
  have hn := itoa_len20 r.now
  have hf := firstF_len r
  refine look_State_lift _ _ _ _ ⟨fun l => l = [firstF s], num_v _ r.now _ (halt_v s r _ (words3 _ _ _ _ (by simp only [List.length_cons, List.length_nil]; omega) (by simp [firstF]))), ?_⟩
  rintro _ rfl
  refine ⟨fun l i n => At s.procs.length (fun k => l = firstF s :: linesF p c s k) i n, ⟨_, At.start (by simp [linesF])⟩, ?_⟩
  rintro l _ _ ⟨k, rfl, hk, rfl, rfl⟩
  refine At.cond hk (fun hlt => ⟨fun l => l = firstF s :: linesF p c s (k + 1), at_elem hlt (itoaz_v _ (k64 (by omega)) _ (le_and ?_ (proc_v p hp c sm tb rc _ (r.procs _ (List.getElem_mem hlt)) _ (words2 _ _ _ ?_ ⟨?_, ?_⟩)))), ?_⟩) fun hk => ?_
  · have := itoa_len20 (k64 (k := k) (by omega))
    simp only [List.length_cons, List.length_nil]; omega
  · have := itoa_len20 (k64 (k := k) (by omega))
    have := procF_len hp tb rc (r.procs _ (List.getElem_mem hlt))
    simp only [List.length_append, List.length_cons, List.length_nil]; omega
  · simp [linesF]; omega
  · rw [linesF_succ]
    unfold lineF
    rw [List.getElem?_eq_getElem hlt]
    simp
  · rintro _ rfl
    exact At.next (by omega) hlt rfl
  subst hk
  refine ⟨fun o i n => At s.out.length (fun k => o = outF s k) i n, ⟨_, At.start (by simp [outF])⟩, ?_⟩
  rintro o _ _ ⟨j, rfl, hj, rfl, rfl⟩
  have ho := outF_len r hj
  refine At.cond hj (fun hlt => at_elem hlt (num_v _ (r.out _ (List.getElem_mem hlt)) _ (words2 _ _ _ ?_ ?_))) fun hj => ?_
  · have := itoa_len20 (r.out _ (List.getElem_mem hlt))
    omega
  · exact At.next (by omega) hlt (by rw [outF_succ hlt])
  · subst hj
    have hl := linesF_len hp tb rc r np
    have hk2 : (Lib.join (firstF s :: linesF p c s s.procs.length ++ [outF s s.out.length, []]) [10]) = stateF p c s := join_lines _ _ _
    refine ⟨by simp [linesF]; omega, join_v _ _ (by simp [linesF]; omega) ?_ _ ?_⟩
    · rw [hk2]
      unfold stateF
      simp only [List.map_cons, List.flatten_cons, List.length_append, List.length_singleton]; omega
    · rw [hk2]; exact hK
theorem rstate_v (p : GPlan) (hp : PlanOk p) (c : GCode) (sm : Sm c) (tb : Tab c) (rc : RgC c) (s : GState) (r : RgS s) (K : List UInt8 → Prop) (hK : K (stateF p c s)) : V_R40_State p c s K := by
  have np := r.np
  have no := r.no
  have hh := (haltF_ok r).1
  have hn := itoa_len20 r.now
  have hf := firstF_len r
  refine R40_State_lift _ _ _ _ ⟨fun o => o = firstF s ++ [10], rnumz_v _ r.now _ (le_and ?_ (le_and ?_ (rhalt_v s r _ (le_and ?_ (le_and ?_ (by simp [firstF])))))), ?_⟩
  · simp only [List.length_cons, List.length_nil]; omega
  · simp only [List.length_append, List.length_cons, List.length_nil]; omega
  · simp only [List.length_append, List.length_cons, List.length_nil]; omega
  · simp only [List.length_append, List.length_cons, List.length_nil]; omega
  rintro _ rfl
  refine ⟨fun o i n => At s.procs.length (fun k => o = ((firstF s :: linesF p c s k).map (· ++ [10])).flatten) i n, ⟨_, At.start (by simp [linesF])⟩, ?_⟩
  rintro o _ _ ⟨k, rfl, hk, rfl, rfl⟩
  have hl := linesF_len hp tb rc r (k := k) (by omega)
  have hlen : (((firstF s :: linesF p c s k).map (· ++ [10])).flatten).length ≤ 44001031 * k + 71 := by
    simp only [List.map_cons, List.flatten_cons, List.length_append, List.length_singleton]; omega
  generalize hX : ((firstF s :: linesF p c s k).map (· ++ [10])).flatten = X at hlen
  refine At.cond hk (fun hlt => ⟨fun o => o = ((firstF s :: linesF p c s (k + 1)).map (· ++ [10])).flatten, ?_, ?_⟩) fun hk => ?_
  · have h1 := itoa_len20 (k64 (k := k) (by omega))
    have h2 := procF_len hp tb rc (r.procs _ (List.getElem_mem hlt))
    refine (le_and ?_ (at_elem hlt (rnumz_v _ (k64 (by omega)) _ (le_and ?_ (le_and ?_ (rproc_v p hp c sm tb rc _ (r.procs _ (List.getElem_mem hlt)) _ (le_and ?_ (le_and ?_ (?_)))))))))
    · simp only [List.length_singleton]; omega
    · simp only [List.length_append, List.length_cons, List.length_nil]; omega
    · simp only [List.length_append, List.length_cons, List.length_nil]; omega
    · simp only [List.length_append, List.length_cons, List.length_nil]; omega
    · simp only [List.length_append, List.length_cons, List.length_nil]; omega
    · rw [linesF_succ, ← List.cons_append, List.map_append, List.flatten_append, hX]
      unfold lineF
      rw [List.getElem?_eq_getElem hlt]
      simp
  · rintro _ rfl
    exact At.next (by omega) hlt rfl
  subst hk
  refine (le_and (by simp only [List.length_cons, List.length_nil]; omega) (⟨fun o i n => At s.out.length (fun k => o = X ++ outF s k) i n, ⟨_, At.start (by simp [outF])⟩, ?_⟩))
  rintro o _ _ ⟨j, rfl, hj, rfl, rfl⟩
  have ho := outF_len r hj
  refine At.cond hj (fun hlt => ?_) fun hj => ?_
  · have h1 := itoa_len20 (r.out _ (List.getElem_mem hlt))
    refine (le_and (by simp only [List.length_append, List.length_singleton]; omega) (at_elem hlt (rnumz_v _ (r.out _ (List.getElem_mem hlt)) _ (le_and (by simp only [List.length_append, List.length_singleton]; omega) (At.next (by omega) hlt ?_)))))
    rw [outF_succ hlt]; simp
  · subst hj
    refine (le_and (by simp only [List.length_append, List.length_singleton]; omega) (?_))
    unfold stateF at hK
    rw [hX] at hK
    simpa using hK
end Go.Proofs.YtpigkempbnmioaaDoor
