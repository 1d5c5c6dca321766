/- The view of a state: rows whose elements have rows. -/
import Derived.Test.YtpigkempbnmioaaDoorLtG
import Derived.Test.YtpigkempbnmioaaDoorLoop
import Derived.Test.YtpigkempbnmioaaDoorWview
namespace Go.Proofs.YtpigkempbnmioaaDoor
open Go.Vc Go.Lv Go.Ty

/-! ## rows by their cells -/
theorem rw_base {w : World} {e size n c : Nat} {p : Addr} {xs : List Value} (h : Rw w 0 e size (some p) n c xs) : ∃ g, p = ⟨g, 0, none⟩ := by
  rcases h.2 with ⟨hv, _⟩ | ⟨g, cap, cur, hv, _⟩
  · cases hv
  · cases hv; exact ⟨g, rfl⟩
theorem row_cell {w : World} {e size n c i off : Nat} {p : Addr} {ys cs zs : List Value} {v : Value} (h : Rw w 0 e size (some p) n c (ys ++ cs ++ zs)) (hy : ys.length = i * size) (hv : cs[off]? = some v) : w.cell? ((p.add (i * size)).add off) = some v := by
  obtain ⟨g, rfl⟩ := rw_base h
  have hs : CellsAt w ⟨g, 0, none⟩ (ys ++ cs ++ zs) := h.sl
  obtain ⟨hl, rfl⟩ := List.getElem?_eq_some_iff.1 hv
  have h3 : (ys ++ cs ++ zs)[ys.length + off]? = cs[off]? := by
    rw [List.append_assoc, List.getElem?_append_right (by omega), List.getElem?_append_left (by omega)]
    congr 1; omega
  have := hs (ys.length + off) (by simp; omega)
  rw [add_mk, add_mk, ← hy, Nat.zero_add]
  rw [add_mk, Nat.zero_add] at this
  rw [this, ← List.getElem?_eq_getElem, h3, List.getElem?_eq_getElem hl]
theorem row_cset {w : World} {e size n c i off : Nat} {p : Addr} {ys cs zs : List Value} (h : Rw w 0 e size (some p) n c (ys ++ cs ++ zs)) (hy : ys.length = i * size) (ho : off < cs.length) (v : Value) :
    Writable w ((p.add (i * size)).add off) 1 ∧ ∀ w', w' = w.setCell ((p.add (i * size)).add off) v → Rw w' 0 e size (some p) n c (ys ++ cs.set off v ++ zs) ∧ w.grownBy w' (Vc.blk (some p)) := by
  obtain ⟨g, rfl⟩ := rw_base h
  have hl := h.len
  simp only [List.length_append] at hl
  obtain ⟨h1, h2⟩ := h.store (j := ys.length + off) (vs := [v]) (by simp; omega)
  have e1 : ((⟨g, 0, none⟩ : Addr).add (i * size)).add off = (⟨g, 0, none⟩ : Addr).add (ys.length + off) := by rw [add_mk, add_mk, add_mk, ← hy]; simp
  have e2 : over (ys ++ cs ++ zs) (ys.length + off) [v] = ys ++ cs.set off v ++ zs := by
    rw [List.append_assoc, over_right, over_left _ _ _ _ (by simp; omega), List.append_assoc]; rfl
  rw [e1]
  refine ⟨h1, fun w' hw => ?_⟩
  have := h2 w' (by rw [hw]; exact (setCells_one _ _ _).symm)
  rw [e2] at this
  exact this
theorem El.split {α : Type} {c : Cod α} {m : List Nat} {w : World} {l : List α} {xs : List Value} (h : El c m w l xs) {i : Nat} {x : α} (hx : l[i]? = some x) :
    ∃ ys cs zs, xs = ys ++ cs ++ zs ∧ ys.length = i * c.size ∧ El c m w (l.take i) ys ∧ c.rep m w x cs ∧ El c m w (l.drop (i + 1)) zs := by
  obtain ⟨cs, ys, zs, hxs, hy, hrep⟩ := h.get hx
  have hl := c.len hrep
  have h1 := h.take i
  have h2 := h.drop (i + 1)
  have e1 : xs.take (i * c.size) = ys := by rw [hxs, List.append_assoc, ← hy]; simp
  have e2 : xs.drop ((i + 1) * c.size) = zs := by
    rw [hxs, show (i + 1) * c.size = (ys ++ cs).length by simp [hy, hl, Nat.succ_mul]]
    simp
  rw [e1] at h1
  rw [e2] at h2
  exact ⟨ys, cs, zs, hxs, hy, h1, hrep, h2⟩
theorem El.join {α : Type} {c : Cod α} {m : List Nat} {w : World} {a b : List α} {x : α} {ys cs zs : List Value} (h1 : El c m w a ys) (hx : c.rep m w x cs) (h2 : El c m w b zs) : El c m w (a ++ x :: b) (ys ++ cs ++ zs) := by
  rw [List.append_assoc]
  exact h1.app (El.cons hx h2)
theorem own_ro {α : Type} {c : Cod α} {m : List Nat} {w w' : World} {e n cap : Nat} {a : Option Addr} {xs : List Value} {l : List α} (hm : ∀ b ∈ m, b < w.heap.size) (hr : Rw w' 0 e c.size a n cap xs) (he : El c ((Vc.blk a).toList ++ m) w' l xs) (hn : ∀ b, Vc.blk a = some b → w.heap.size ≤ b) : SlR c m w' a l := by
  have hel : El c m w' l xs := he.st (Step.drop w' fun k hk => List.mem_append.2 (.inr hk))
  rcases row_rd hr he with h | ⟨p, ys, rfl, _, h1, h2⟩
  · exact .inl h
  · refine .inr ⟨p, xs, rfl, fun h => ?_, hr.sl, hel⟩
    have h3 := hn p.block rfl
    have h4 := hm _ h
    omega
theorem mid_len {α : Type} (f : α → α) {l : List α} {k : Nat} (hk : k < l.length) : ((l.take k).map f).length = k := by simp; omega
theorem mid_get {α : Type} (f : α → α) {l : List α} {k : Nat} (hk : k < l.length) : ((l.take k).map f ++ l.drop k)[k]? = some l[k] := by
  rw [List.getElem?_append_right (by rw [mid_len f hk]; omega), mid_len f hk, Nat.sub_self, List.getElem?_drop, Nat.add_zero, List.getElem?_eq_getElem hk]
theorem mid_take {α : Type} (f : α → α) {l : List α} {k : Nat} (hk : k < l.length) : ((l.take k).map f ++ l.drop k).take k = (l.take k).map f := List.take_left' (mid_len f hk)
theorem mid_drop {α : Type} (f : α → α) {l : List α} {k : Nat} (hk : k < l.length) : ((l.take k).map f ++ l.drop k).drop (k + 1) = l.drop (k + 1) := by
  rw [List.drop_append, mid_len f hk, List.drop_of_length_le (by rw [mid_len f hk]; omega), List.nil_append, List.drop_drop]
  congr 1; omega
/-! ## plain -/
def stmtF (c : GCode) (a : Int) : Int := if 0 ≤ a ∧ a < c.ins.length then (match c.ins[a.toNat]? with | some x => if x.op = 1 then x.a else -1 | none => -1) else -1
def altF (c : GCode) (a : GAlt) : GAlt := ⟨a.kind, a.chan, a.val, a.slot, stmtF c a.goto⟩
def viewP (c : GCode) (p : GProc) : GProc := ⟨p.def_, if p.mode == 5 then -1 else stmtF c p.at_, p.vars, p.fuel, p.mode, p.chan, p.val, p.slot, p.until_, p.since, p.alts.map (altF c)⟩
def viewF (c : GCode) (s : GState) : GState := ⟨s.now, s.since, s.halt, s.fault, s.who, s.procs.map (viewP c), s.out⟩
theorem cstmt_v (c : GCode) (a : Int) (K : Int → Prop) (h : K (stmtF c a)) : V_code_Stmt c a K := by
  refine code_Stmt_lift _ _ _ ⟨fun b => (b = true ∧ stmtF c a = -1) ∨ (b = false ∧ 0 ≤ a ∧ a < c.ins.length ∧ ∀ x, c.ins[a.toNat]? = some x → stmtF c a = x.a), cond_intro (fun hc => .inl ⟨rfl, ?_⟩) (fun hc => cond_intro (fun hd => .inl ⟨rfl, ?_⟩) fun hd => ?_), ?_⟩
  · unfold stmtF; rw [if_neg (by simp at hc; omega)]
  · unfold stmtF; rw [if_neg (by simp at hd; omega)]
  · have hb : 0 ≤ a ∧ a < c.ins.length := by simp at hc hd; omega
    refine ⟨hb, fun x hx => ?_⟩
    have e : stmtF c a = if x.op = 1 then x.a else -1 := by unfold stmtF; rw [if_pos hb, hx]
    by_cases ho : x.op = 1
    · rw [if_pos ho] at e
      refine .inr ⟨by simp [ho], hb.1, hb.2, fun y hy => ?_⟩
      rw [hx] at hy; cases hy; exact e
    · rw [if_neg ho] at e
      exact .inl ⟨by simp [ho], e⟩
  · rintro b (⟨rfl, e⟩ | ⟨rfl, h1, h2, e⟩)
    · rw [e] at h; exact h
    · exact ⟨⟨h1, h2⟩, fun x hx => by rw [e x hx] at h; exact h⟩
theorem rstmt_v (c : GCode) (a : Int) (K : Int → Prop) (h : K (stmtF c a)) : V_R20_Stmt c a K := by
  refine R20_Stmt_lift _ _ _ ⟨fun b => (b = false ∧ stmtF c a = -1) ∨ (b = true ∧ 0 ≤ a ∧ a < c.ins.length ∧ ∀ x, c.ins[a.toNat]? = some x → stmtF c a = x.a), cond_intro (fun hc => cond_intro (fun hd => ?_) fun hd => .inl ⟨rfl, ?_⟩) (fun hc => .inl ⟨rfl, ?_⟩), ?_⟩
  · have hb : 0 ≤ a ∧ a < c.ins.length := by simp at hc hd; omega
    refine ⟨hb, fun x hx => ?_⟩
    have e : stmtF c a = if x.op = 1 then x.a else -1 := by unfold stmtF; rw [if_pos hb, hx]
    by_cases ho : x.op = 1
    · rw [if_pos ho] at e
      refine .inr ⟨by simp [ho], hb.1, hb.2, fun y hy => ?_⟩
      rw [hx] at hy; cases hy; exact e
    · rw [if_neg ho] at e
      exact .inl ⟨by simp [ho], e⟩
  · unfold stmtF; rw [if_neg (by simp at hd; omega)]
  · unfold stmtF; rw [if_neg (by simp at hc; omega)]
  · rintro b (⟨rfl, e⟩ | ⟨rfl, h1, h2, e⟩)
    · rw [e] at h; exact h
    · exact ⟨⟨h1, h2⟩, fun x hx => by rw [e x hx] at h; exact h⟩
theorem clone_ints (l : List Int) (hl : l.length < 1000000) (K : List Int → Prop) (h : K l) : V_slices_Clone_Slint_int l K := by
  refine slices_Clone_Slint_int_lift _ _ fun z hz => cond_intro (fun hc => ?_) fun _ => ⟨by omega, h⟩
  rw [hz hc] at h; exact h
theorem clone_alts (l : List GAlt) (hl : l.length < 1000000) (K : List GAlt → Prop) (h : K l) : V_slices_Clone_Slapi_Alt_api_Alt l K := by
  refine slices_Clone_Slapi_Alt_api_Alt_lift _ _ fun z hz => cond_intro (fun hc => ?_) fun _ => ⟨by omega, h⟩
  rw [hz hc] at h; exact h
theorem clone_procs (l : List GProc) (hl : l.length < 1000000) (K : List GProc → Prop) (h : K l) : V_slices_Clone_Slapi_Proc_api_Proc l K := by
  refine slices_Clone_Slapi_Proc_api_Proc_lift _ _ fun z hz => cond_intro (fun hc => ?_) fun _ => ⟨by omega, h⟩
  rw [hz hc] at h; exact h
/-! ## what stays -/
structure Fx (M : List Nat) (u : World) (c : GCode) (ccs : List Value) (b : Nat) (out : List Int) (aO : Option Addr) : Prop where
  out : SlR (cInt .i64) M u aO out
  el : ElAt M u ⟨b, 0, none⟩ ccs
  code : cGCode.rep M u c ccs
theorem Fx.st {M M' : List Nat} {u u' : World} {c : GCode} {ccs : List Value} {b : Nat} {out : List Int} {aO : Option Addr} (h : Fx M u c ccs b out aO) (s : Step M u M' u') : Fx M' u' c ccs b out aO := ⟨h.out.st s, h.el.st s, cGCode.st h.code s⟩
structure Bx (M : List Nat) (u : World) (D R : List GProc) (ys zs : List Value) (vars : List Int) (va : Option Addr) (alts : List GAlt) (xA : List Value) : Prop where
  d : El cGProc M u D ys
  r : El cGProc M u R zs
  v : SlR (cInt .i64) M u va vars
  a : El cGAlt M u alts xA
theorem Bx.st {M M' : List Nat} {u u' : World} {D R : List GProc} {ys zs : List Value} {vars : List Int} {va : Option Addr} {alts : List GAlt} {xA : List Value} (h : Bx M u D R ys zs vars va alts xA) (s : Step M u M' u') : Bx M' u' D R ys zs vars va alts xA := ⟨h.d.st s, h.r.st s, h.v.st s, h.a.st s⟩
abbrev PP (aP : Option Addr) (n cP : Nat) (xs : List Value) (b2 b1 : Nat) (zs ss : List Value) : List Pc := [.row 44 11 aP n cP xs, .box b2 zs, .box b1 ss]
abbrev PA (aA : Option Addr) (k cA : Nat) (xA : List Value) (l : List Pc) : List Pc := .row 148 5 aA k cA xA :: l
set_option maxHeartbeats 4000000 in
theorem view_v (c : GCode) (s : GState) (hp : s.procs.length ≤ 20) (hv : ∀ p ∈ s.procs, p.vars.length ≤ 40 ∧ p.alts.length ≤ 40) (ho : s.out.length ≤ 100) (K : GState → Prop) (h : K (viewF c s)) : V_view_Of c s K := by
  intro m w hm ccs hc scs hs
  have hc' := hc
  obtain ⟨aI, cI, aD, cD, aC, cC, rfl, hI, hD, hC⟩ := GCode_out hc
  obtain ⟨aP0, cP0, aO0, cO0, rfl, ⟨hlP, hslP⟩, ⟨hlO, hslO⟩⟩ := GState_out hs
  refine view_Of_ok _ _ _ _ _ _ _ _ _ _ _ _ _ _ _ _ _ _ _ _ _ _ _ _ ?_
  intro b w1 hb hw1 b1 w2 hb1 hw2 b2 w3 hb2 hw3
  have o := Mem.start hm.lt
  have st0 := o.xB hb hw1
  have o := o.box hb hw1
  have hel := o.freezeBox 0 rfl (by simp)
  have st1 := o.xX 0
  have o := o.erase 0
  have st2 := o.xB hb1 hw2
  have o := o.box hb1 hw2
  have st3 := o.xB hb2 hw3
  have o := o.box hb2 hw3
  have sA := st0.trans (st1.trans (st2.trans st3))
  have fO := SlR.st hslO sA
  have fP := SlR.st hslP sA
  have fc := cGCode.st hc' sA
  have fel := ElAt.st hel (st2.trans st3)
  refine ⟨_, _, _, (o.at 1 rfl).cell rfl, ?_⟩
  refine call_then (clone_ints s.out (by omega) (· = s.out) rfl _ w3 (o.mo hm (by simp) (.head _)) _ _ hlO fO) ?_
  rintro _ w4 ⟨_, rfl, ⟨aO, cO, xsO, rfl, hrO, helO, hnO⟩, k4⟩
  have sO := own_ro (c := cInt .i64) o.mlt hrO helO hnO
  have hcO := hrO.cap
  have st4 := o.xE k4
  have o := o.ext k4
  refine ⟨_, _, _, rfl, o.wr 1 rfl rfl, fun w5 hw5 => ?_⟩
  have st5 := o.xS 1 hw5 rfl
  have o := o.set 1 hw5 rfl
  refine ⟨_, _, _, (o.at 1 rfl).cell rfl, ?_⟩
  refine call_then (clone_procs s.procs (by omega) (· = s.procs) rfl _ w5 (o.mo hm (by simp) (.head _)) _ _ hlP (fP.st (st4.trans st5))) ?_
  rintro _ w6 ⟨_, rfl, ⟨aP, cP, xsP, rfl, hrP, helP, hnP⟩, k6⟩
  have st6 := Mem.addsS (ps := PP aP s.procs.length cP xsP b2 b1 [] [] |>.drop 1) (m0 := m) k6 (.row 44 11 aP s.procs.length cP xsP) hnP
  have o := o.adds k6 (.row 44 11 aP s.procs.length cP xsP) hnP hrP
  refine ⟨_, _, _, rfl, o.wr 2 rfl rfl, fun w7 hw7 => ?_⟩
  have st7 := o.xS 2 hw7 rfl
  have o := o.set 2 hw7 rfl
  obtain ⟨cc, hcc⟩ : ∃ cc : List Value, cc = [.slice aI c.ins.length cI, .slice aD c.defs.length cD, .slice aC c.chans.length cC, .int .i64 c.main, .int .i64 c.stmts] := ⟨_, rfl⟩
  obtain ⟨zs, hzs⟩ : ∃ zs : List Value, zs = [.int .i64 0, .int .i64 0, .int .i64 0, .int .i64 0, .int .i64 0, .slice none 0 0, .slice none 0 0] := ⟨_, rfl⟩
  obtain ⟨ss, hss⟩ : ∃ ss : List Value, ss = [.int .i64 s.now, .int .i64 s.since, .int .i64 s.halt, .int .i64 s.fault, .int .i64 s.who, .slice aP s.procs.length cP, .slice aO s.out.length cO] := ⟨_, rfl⟩
  have o : Mem w.heap.size [] m [([], w.heap.size, w)] [] w7 (PP aP s.procs.length cP xsP b2 b1 zs ss) := by rw [hzs, hss]; exact o
  have e5 : ss[5]? = some (.slice aP s.procs.length cP) := by rw [hss]; rfl
  have hel7 : El cGProc (ms (PP aP s.procs.length cP xsP b2 b1 zs ss) m) w7 s.procs xsP := El.st helP st7
  have fx7 : Fx (ms (PP aP s.procs.length cP xsP b2 b1 zs ss) m) w7 c cc b s.out aO := by
    rw [hcc]
    exact ⟨SlR.st sO (st5.trans (Step.trans st6 st7)), ElAt.st fel (st4.trans (st5.trans (Step.trans st6 st7))), cGCode.st fc (st4.trans (st5.trans (Step.trans st6 st7)))⟩
  clear st0 st1 st2 st3 st4 st5 st6 st7 sA fO fP fc fel hel sO helP hrP hnP hrO helO hnO
  refine ⟨_, _, _, (o.at 2 rfl).cell e5, fun x u => ∃ k : Nat, x = k ∧ k ≤ s.procs.length ∧ ∃ xs, Mem w.heap.size [] m [([], w.heap.size, w)] [] u (PP aP s.procs.length cP xs b2 b1 zs ss) ∧ El cGProc (ms (PP aP s.procs.length cP xs b2 b1 zs ss) m) u ((s.procs.take k).map (viewP c) ++ s.procs.drop k) xs ∧ Fx (ms (PP aP s.procs.length cP xs b2 b1 zs ss) m) u c cc b s.out aO, fun x _ => s.procs.length - x.toNat, ⟨0, rfl, Nat.zero_le _, xsP, o, by simpa using hel7, fx7⟩, ?_⟩
  clear o hel7 fx7
  rintro _ _ u ⟨k, rfl, hk, xs, o, he, fx⟩
  refine At.cond hk (fun hk => ?_) fun hk => ?_
  · simp only [Int.toNat_natCast]
    obtain ⟨hbv, hba⟩ := hv _ (List.getElem_mem hk)
    have hget := mid_get (viewP c) hk
    have htk := mid_take (viewP c) hk
    have hdk := mid_drop (viewP c) hk
    obtain ⟨ys, cs, zs', rfl, hy, hD', hX, hR⟩ := El.split he hget
    rw [htk] at hD'
    rw [hdk] at hR
    generalize hxk : s.procs[k] = x at *
    obtain ⟨va, vc, aa, ac, rfl, ⟨hva, fva⟩, ⟨haa, faa⟩⟩ := GProc_out hX
    have hrow := o.rowAt 0 rfl
    obtain ⟨p, rfl⟩ : ∃ p, aP = some p := by
      obtain ⟨p, e, _⟩ := hrow.sl.some_of (by simp)
      exact ⟨p, e⟩
    refine ⟨_, _, _, (o.at 2 rfl).cell e5, ⟨by omega, by omega⟩, ptrOr_some rfl ?_⟩
    refine ⟨_, _, _, row_cell hrow hy (off := 2) rfl, ?_⟩
    refine call_then (clone_ints x.vars (by omega) (· = x.vars) rfl _ u (o.mo hm (by simp) (.head _)) _ _ hva fva) ?_
    rintro _ w9 ⟨_, rfl, ⟨va', vc', xv, rfl, hrv, helv, hnv⟩, k9⟩
    have fv := own_ro (c := cInt .i64) o.mlt hrv helv hnv
    have s9 := o.xE k9
    have o := o.ext k9
    have hvl := hrv.cap
    refine ⟨_, _, _, rfl, ?_⟩
    obtain ⟨wr, hst⟩ := row_cset (o.rowAt 0 rfl) hy (off := 2) (Nat.le_of_ble_eq_true rfl) (.slice va' x.vars.length vc')
    refine ⟨wr, fun w10 hw10 => ?_⟩
    obtain ⟨hr10, hg10⟩ := hst _ hw10
    have s10 := o.xA 0 rfl hr10 hg10 (.inl rfl)
    have o := o.app 0 rfl hr10 hg10 (.inl rfl)
    refine ⟨_, _, _, row_cell (o.rowAt 0 rfl) hy (off := 10) rfl, ?_⟩
    refine call_then (clone_alts x.alts (by omega) (· = x.alts) rfl _ w10 (o.mo hm (by simp) (.head _)) _ _ haa (SlR.st faa (s9.trans s10))) ?_
    rintro _ w11 ⟨_, rfl, ⟨aA, cA, xA, rfl, hrA, helA, hnA⟩, k11⟩
    have s11 := Mem.addsS (ps := PP (some p) s.procs.length cP [] b2 b1 [] []) (m0 := m) k11 (.row 148 5 aA x.alts.length cA xA) hnA
    have o := o.adds k11 (.row 148 5 aA x.alts.length cA xA) hnA hrA
    have hal := hrA.cap
    refine ⟨_, _, _, rfl, ?_⟩
    obtain ⟨wr, hst⟩ := row_cset (o.rowAt 1 rfl) hy (off := 10) (Nat.le_of_ble_eq_true rfl) (.slice aA x.alts.length cA)
    refine ⟨wr, fun w12 hw12 => ?_⟩
    obtain ⟨hr12, hg12⟩ := hst _ hw12
    have s12 := o.xA 1 rfl hr12 hg12 (.inl rfl)
    have o := o.app 1 rfl hr12 hg12 (.inl rfl)
    have fx := Fx.st fx (s9.trans (s10.trans (Step.trans s11 s12)))
    refine ⟨_, row_cell (o.rowAt 1 rfl) hy (off := 1) rfl, ?_⟩
    refine call_then (view_Of_1_lift _ _ _ (cstmt_v c x.at_ (· = stmtF c x.at_) rfl) _ w12 (o.mo hm (by simp) (.head _)) _ _ fx.el fx.code) ?_
    rintro _ w13 ⟨_, rfl, rfl, k13⟩
    have s13 := o.xE k13
    have o := o.ext k13
    refine ⟨_, rfl, ?_⟩
    obtain ⟨wr, hst⟩ := row_cset (o.rowAt 1 rfl) hy (off := 1) (Nat.le_of_ble_eq_true rfl) (.int .i64 (stmtF c x.at_))
    refine ⟨wr, fun w14 hw14 => ?_⟩
    obtain ⟨hr14, hg14⟩ := hst _ hw14
    have s14 := o.xA 1 rfl hr14 hg14 (.inl rfl)
    have o := o.app 1 rfl hr14 hg14 (.inl rfl)
    obtain ⟨cf, hcf⟩ : ∃ cf : Int → List Value, cf = fun at_ => [.int .i64 x.def_, .int .i64 at_, .slice va' x.vars.length vc', .int .i64 x.fuel, .int .i64 x.mode, .int .i64 x.chan, .int .i64 x.val, .int .i64 x.slot, .int .i64 x.until_, .int .i64 x.since, .slice aA x.alts.length cA] := ⟨_, rfl⟩
    have o : Mem w.heap.size [] m [([], w.heap.size, w)] [] w14 (PA aA x.alts.length cA xA (PP (some p) s.procs.length cP (ys ++ cf (stmtF c x.at_) ++ zs') b2 b1 zs ss)) := by rw [hcf]; exact o
    have bx : Bx (ms (PA aA x.alts.length cA xA (PP (some p) s.procs.length cP (ys ++ cf (stmtF c x.at_) ++ zs') b2 b1 zs ss)) m) w14 ((s.procs.take k).map (viewP c)) (s.procs.drop (k + 1)) ys zs' x.vars va' x.alts xA :=
      ⟨El.st hD' (s9.trans (s10.trans (Step.trans s11 (s12.trans (s13.trans s14))))), El.st hR (s9.trans (s10.trans (Step.trans s11 (s12.trans (s13.trans s14))))), SlR.st fv (s10.trans (Step.trans s11 (s12.trans (s13.trans s14)))), El.st helA (s12.trans (s13.trans s14))⟩
    have fx : Fx (ms (PA aA x.alts.length cA xA (PP (some p) s.procs.length cP (ys ++ cf (stmtF c x.at_) ++ zs') b2 b1 zs ss)) m) w14 c cc b s.out aO := fx.st (s13.trans s14)
    clear s9 s10 s11 s12 s13 s14 hr10 hg10 hr12 hg12 hr14 hg14 hst wr hrA helA hnA hrv helv hnv fv fva faa hX he hD' hR hrow
    refine ⟨fun u => Mem w.heap.size [] m [([], w.heap.size, w)] [] u (PA aA x.alts.length cA xA (PP (some p) s.procs.length cP (ys ++ cf (viewP c x).at_ ++ zs') b2 b1 zs ss)) ∧ Bx (ms (PA aA x.alts.length cA xA (PP (some p) s.procs.length cP (ys ++ cf (viewP c x).at_ ++ zs') b2 b1 zs ss)) m) u ((s.procs.take k).map (viewP c)) (s.procs.drop (k + 1)) ys zs' x.vars va' x.alts xA ∧ Fx (ms (PA aA x.alts.length cA xA (PP (some p) s.procs.length cP (ys ++ cf (viewP c x).at_ ++ zs') b2 b1 zs ss)) m) u c cc b s.out aO, ?_, ?_⟩
    · refine ⟨_, row_cell (o.rowAt 1 rfl) hy (off := 4) (by rw [hcf]; rfl), cond_intro (fun h5 => ?_) fun h5 => ?_⟩
      · obtain ⟨wr, hst⟩ := row_cset (o.rowAt 1 rfl) hy (off := 1) (by rw [hcf]; exact Nat.le_of_ble_eq_true rfl) (.int .i64 (-1))
        refine ⟨wr, fun w15 hw15 => ?_⟩
        obtain ⟨hr15, hg15⟩ := hst _ hw15
        have s15 := o.xA 1 rfl hr15 hg15 (.inl rfl)
        have o := o.app 1 rfl hr15 hg15 (.inl rfl)
        have e : (cf (stmtF c x.at_)).set 1 (.int .i64 (-1)) = cf (viewP c x).at_ := by
          have : (viewP c x).at_ = -1 := if_pos h5
          rw [this, hcf]; rfl
        rw [e] at o s15
        exact ⟨o, bx.st s15, fx.st s15⟩
      · have e : stmtF c x.at_ = (viewP c x).at_ := (if_neg (by rw [h5]; decide)).symm
        rw [← e]
        exact ⟨o, bx, fx⟩
    · clear o bx fx
      rintro _ w16 ⟨o, bx, fx⟩
      generalize hat : (viewP c x).at_ = at' at *
      refine ⟨_, _, _, row_cell (o.rowAt 1 rfl) hy (off := 10) (by rw [hcf]; rfl), fun z u => ∃ j : Nat, z = j ∧ j ≤ x.alts.length ∧ ∃ xA, Mem w.heap.size [] m [([], w.heap.size, w)] [] u (PA aA x.alts.length cA xA (PP (some p) s.procs.length cP (ys ++ cf at' ++ zs') b2 b1 zs ss)) ∧ Bx (ms (PA aA x.alts.length cA xA (PP (some p) s.procs.length cP (ys ++ cf at' ++ zs') b2 b1 zs ss)) m) u ((s.procs.take k).map (viewP c)) (s.procs.drop (k + 1)) ys zs' x.vars va' ((x.alts.take j).map (altF c) ++ x.alts.drop j) xA ∧ Fx (ms (PA aA x.alts.length cA xA (PP (some p) s.procs.length cP (ys ++ cf at' ++ zs') b2 b1 zs ss)) m) u c cc b s.out aO, fun z _ => x.alts.length - z.toNat, ⟨0, rfl, Nat.zero_le _, xA, o, by simpa using bx, fx⟩, ?_⟩
      clear o bx fx
      rintro _ _ u1 ⟨j, rfl, hj, xA, o, bx, fx⟩
      refine At.cond hj (fun hj => ?_) fun hj => ?_
      · simp only [Int.toNat_natCast]
        have hget := mid_get (altF c) hj
        have htk := mid_take (altF c) hj
        have hdk := mid_drop (altF c) hj
        refine ⟨fun u2 => ∃ xA, Mem w.heap.size [] m [([], w.heap.size, w)] [] u2 (PA aA x.alts.length cA xA (PP (some p) s.procs.length cP (ys ++ cf at' ++ zs') b2 b1 zs ss)) ∧ Bx (ms (PA aA x.alts.length cA xA (PP (some p) s.procs.length cP (ys ++ cf at' ++ zs') b2 b1 zs ss)) m) u2 ((s.procs.take k).map (viewP c)) (s.procs.drop (k + 1)) ys zs' x.vars va' ((x.alts.take (j + 1)).map (altF c) ++ x.alts.drop (j + 1)) xA ∧ Fx (ms (PA aA x.alts.length cA xA (PP (some p) s.procs.length cP (ys ++ cf at' ++ zs') b2 b1 zs ss)) m) u2 c cc b s.out aO, ?_, ?_⟩
        · intro w18 hw18
          have s18 := o.xE (keep_drew hw18)
          have o := o.ext (keep_drew hw18)
          have bx := bx.st s18
          have fx := fx.st s18
          have hsp := bx.a
          obtain ⟨yA, ca, zA, rfl, hyA, hDA, hXA, hRA⟩ := El.split hsp hget
          rw [htk] at hDA
          rw [hdk] at hRA
          obtain rfl := GAlt_out hXA
          obtain ⟨q, rfl⟩ : ∃ q, aA = some q := by
            obtain ⟨q, e, _⟩ := (o.rowAt 0 rfl).sl.some_of (by simp)
            exact ⟨q, e⟩
          refine ⟨fun v => Keep [] w18 v, Keep.refl _ _, _, _, _, fun v hu => row_cell ((o.ext hu).rowAt 1 rfl) hy (off := 10) (by rw [hcf]; rfl), _, _, _, fun v hu => row_cell ((o.ext hu).rowAt 1 rfl) hy (off := 10) (by rw [hcf]; rfl), ⟨by omega, by omega⟩, ptrOr_some rfl ?_⟩
          refine ⟨_, fun v hu => row_cell ((o.ext hu).rowAt 0 rfl) hyA (off := 4) rfl, ?_⟩
          refine call_then (view_Of_1_lift _ _ _ (cstmt_v c x.alts[j].goto (· = stmtF c x.alts[j].goto) rfl) _ w18 (o.mo hm (by simp) (.head _)) _ _ fx.el fx.code) ?_
          rintro _ w19 ⟨_, rfl, rfl, k19⟩
          have s19 := o.xE k19
          have o := o.ext k19
          refine ⟨_, rfl, k19, ⟨by omega, by omega⟩, ptrOr_some rfl ?_⟩
          obtain ⟨wr, hst⟩ := row_cset (o.rowAt 0 rfl) hyA (off := 4) (Nat.le_of_ble_eq_true rfl) (.int .i64 (stmtF c x.alts[j].goto))
          refine ⟨wr, fun w20 hw20 => ?_⟩
          obtain ⟨hr20, hg20⟩ := hst _ hw20
          have s20 := o.xA 0 rfl hr20 hg20 (.inl rfl)
          have o := o.app 0 rfl hr20 hg20 (.inl rfl)
          have sb := s19.trans s20
          have hjn := El.join (El.st hDA sb) (GAlt_in (altF c x.alts[j])) (El.st hRA sb)
          rw [show (x.alts.take j).map (altF c) ++ altF c x.alts[j] :: x.alts.drop (j + 1) = (x.alts.take (j + 1)).map (altF c) ++ x.alts.drop (j + 1) from by rw [map_snoc _ hj]; simp] at hjn
          exact ⟨_, o, ⟨El.st bx.d sb, El.st bx.r sb, SlR.st bx.v sb, hjn⟩, Fx.st fx sb⟩
        · rintro _ w21 ⟨xA, o, bx, fx⟩
          refine ⟨⟨j + 1, by rw [wrap_in (by omega) (by omega)]; omega, by omega, xA, o, bx, fx⟩, ?_⟩
          rw [wrap_in (by omega) (by omega)]; omega
      · subst hj
        rw [List.take_length, List.drop_length, List.append_nil] at bx
        have sx := o.xX 0
        have bx := bx.st sx
        have fx := fx.st sx
        have fa := o.freeze (c := cGAlt) (l := x.alts.map (altF c)) 0 rfl (fun b hb => by simp at hb) bx.a
        have o := o.erase 0
        have hrep : cGProc.rep (ms (PP (some p) s.procs.length cP (ys ++ cf at' ++ zs') b2 b1 zs ss) m) u1 (viewP c x) (cf at') := by
          rw [hcf, ← hat]
          have hl : (x.alts.map (altF c)).length = x.alts.length := List.length_map ..
          have := GProc_in (viewP c x) (a2 := va') (c2 := vc') (a10 := aA) (c10 := cA) ⟨hvl, bx.v⟩ ⟨by show (x.alts.map (altF c)).length ≤ cA; omega, fa⟩
          rw [show (viewP c x).alts.length = x.alts.length from hl] at this
          exact this
        have hjn := El.join bx.d hrep bx.r
        rw [show (s.procs.take k).map (viewP c) ++ viewP c x :: s.procs.drop (k + 1) = (s.procs.take (k + 1)).map (viewP c) ++ s.procs.drop (k + 1) from by rw [map_snoc _ hk, hxk]; simp] at hjn
        refine ⟨⟨k + 1, by rw [wrap_in (by omega) (by omega)]; omega, by omega, _, o, hjn, fx⟩, ?_⟩
        rw [wrap_in (by omega) (by omega)]; omega
  · subst hk
    rw [List.take_length, List.drop_length, List.append_nil] at he
    refine ⟨_, _, _, _, _, _, _, _, _, _, _, by have := (o.at 2 rfl).whole; rw [hss] at this; exact this, ?_⟩
    refine ⟨by rw [hzs] at o; exact o.wr 1 rfl rfl, fun w22 hw22 => ?_⟩
    rw [hzs] at o
    have s22 := o.xSs 1 hw22 rfl
    have o := o.sets 1 hw22 rfl
    refine ⟨_, _, _, _, _, _, _, _, _, _, _, (o.at 1 rfl).whole, ?_⟩
    have sx := o.xX 0
    have fa := o.freeze (c := cGProc) (l := s.procs.map (viewP c)) 0 rfl (fun b hb => by simp at hb) (El.st he (Step.trans s22 sx))
    have hcap := (o.rowAt 0 rfl).cap
    have se := Step.trans (Step.trans s22 sx) (Mem.endS (ps := [.box b2 [], .box b1 []]) (m0 := m))
    have hlm : (s.procs.map (viewP c)).length = s.procs.length := List.length_map ..
    have hr := GState_in (viewF c s) (a5 := aP) (c5 := cP) (a6 := aO) (c6 := cO) (m := m) (w := w22) ⟨by show (s.procs.map (viewP c)).length ≤ cP; omega, SlR.st fa (Mem.endS (ps := [.box b2 [], .box b1 []]) (m0 := m))⟩ ⟨hcO, SlR.st fx.out se⟩
    rw [show (viewF c s).procs.length = s.procs.length from hlm] at hr
    exact ⟨_, h, ⟨_, rfl, hr⟩, o.done⟩
end Go.Proofs.YtpigkempbnmioaaDoor
