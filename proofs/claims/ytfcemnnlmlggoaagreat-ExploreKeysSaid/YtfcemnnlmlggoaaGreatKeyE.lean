/- Layer 42: explore.Key's second loop: each process is brought to what counts of it. -/
import Derived.Test.YtfcemnnlmlggoaaGreatKeyD
namespace Go.Proofs.YtfcemnnlmlggoaaGreat
open Go.Vc Go.Lv Go.Ty Go.Iv Go.Ky

/-- processes in a row; the alternatives of one of them lie in a row that is written -/
def cX : Cod (GProc ⊕ (GProc × Value)) where
  size := 11
  pos := by decide
  rep := fun m w x cs => match x with
    | .inl p => cGProc.rep m w p cs
    | .inr q => q.2.oneCell' = true ∧ ∃ cs0, cGProc.rep m w q.1 cs0 ∧ cs = cs0.set 10 q.2
  len := by
    intro m w x cs h
    cases x with
    | inl p => exact cGProc.len h
    | inr q => obtain ⟨_, cs0, h1, rfl⟩ := h; rw [List.length_set]; exact cGProc.len h1
  one := by
    intro m w x cs h u hu
    cases x with
    | inl p => exact cGProc.one h u hu
    | inr q =>
      obtain ⟨h0, cs0, h1, rfl⟩ := h
      rcases List.mem_or_eq_of_mem_set hu with h2 | rfl
      · exact cGProc.one h1 u h2
      · exact h0
  st := by
    intro m w x cs m' w' h s
    cases x with
    | inl p => exact cGProc.st h s
    | inr q => obtain ⟨h0, cs0, h1, e⟩ := h; exact ⟨h0, cs0, cGProc.st h1 s, e⟩
theorem all2_map {α β γ : Type} {R : β → γ → Prop} {f : α → β} : ∀ {l : List α} {cs : List γ}, All2 R (l.map f) cs ↔ All2 (fun a c => R (f a) c) l cs
  | [], [] => Iff.rfl
  | [], _ :: _ => Iff.rfl
  | _ :: _, [] => Iff.rfl
  | _ :: l, _ :: cs => and_congr Iff.rfl (all2_map (l := l) (cs := cs))
theorem el_inl {m : List Nat} {w : World} {l : List GProc} {xs : List Value} : El cX m w (l.map .inl) xs ↔ El cGProc m w l xs :=
  ⟨fun ⟨css, e, h⟩ => ⟨css, e, (all2_map (R := cX.rep m w) (f := (Sum.inl : GProc → GProc ⊕ (GProc × Value)))).1 h⟩, fun ⟨css, e, h⟩ => ⟨css, e, (all2_map (R := cX.rep m w) (f := (Sum.inl : GProc → GProc ⊕ (GProc × Value)))).2 h⟩⟩
theorem all2_set {α β : Type} {R : α → β → Prop} {a b : α} (hab : ∀ c, R a c → R b c) : ∀ {l : List α} {cs : List β} {i : Nat}, All2 R l cs → l[i]? = some a → All2 R (l.set i b) cs
  | [], _, _, _, h => by simp at h
  | _ :: _, [], _, h, _ => h.elim
  | x :: l, c :: cs, 0, ⟨h1, h2⟩, e => by simp at e; subst e; exact ⟨hab _ h1, h2⟩
  | x :: l, c :: cs, i + 1, ⟨h1, h2⟩, e => ⟨h1, all2_set hab h2 (by simpa using e)⟩
theorem el_upd {α : Type} {c : Cod α} {m : List Nat} {w : World} {l : List α} {xs : List Value} (h : El c m w l xs) {i : Nat} {a b : α} (ha : l[i]? = some a) (hab : ∀ cs, c.rep m w a cs → c.rep m w b cs) : El c m w (l.set i b) xs := by
  obtain ⟨css, e, h⟩ := h; exact ⟨css, e, all2_set hab h ha⟩
/-- the first ones as they become, the others as they are -/
def upto {α : Type} (f : α → α) (k : Nat) (l : List α) : List α := (l.take k).map f ++ l.drop k
theorem upto_len {α : Type} (f : α → α) (k : Nat) (l : List α) : (upto f k l).length = l.length := by simp [upto]; omega
theorem upto_zero {α : Type} (f : α → α) (l : List α) : upto f 0 l = l := by simp [upto]
theorem upto_all {α : Type} (f : α → α) (l : List α) : upto f l.length l = l.map f := by simp [upto]
theorem upto_at {α : Type} (f : α → α) {k : Nat} {l : List α} (h : k < l.length) : (upto f k l)[k]? = some l[k] := by
  unfold upto
  rw [List.getElem?_append_right (by simp; omega), List.length_map, List.length_take, Nat.min_eq_left (by omega), Nat.sub_self, List.getElem?_drop, Nat.add_zero, List.getElem?_eq_getElem h]
theorem upto_step {α : Type} (f : α → α) {k : Nat} {l : List α} (h : k < l.length) : (upto f k l).set k (f l[k]) = upto f (k + 1) l := by
  unfold upto
  rw [List.set_append_right _ _ (by simp; omega), List.length_map, List.length_take, Nat.min_eq_left (by omega), Nat.sub_self, take_snoc h, List.map_append, List.append_assoc, List.drop_eq_getElem_cons h]
  rfl
theorem set_same {α : Type} {l : List α} {k : Nat} {x : α} (h : l[k]? = some x) : l.set k x = l := by
  apply List.ext_getElem?
  intro i
  rw [List.getElem?_set]
  split
  · rename_i e; subst e
    rw [h]; split
    · rfl
    · have := (List.getElem?_eq_some_iff.1 h).1; omega
  · rfl
theorem set_at {α : Type} {l : List α} {k : Nat} {x y : α} (h : l[k]? = some x) : (l.set k y)[k]? = some y := by
  have := (List.getElem?_eq_some_iff.1 h).1
  simp [this]
theorem wr_j (n : Int) : J64 (wr n) := by
  have h1 : (-9223372036854775808 : Int) ≤ wr n ∧ wr n ≤ 9223372036854775807 := by
    unfold wr; rw [IntKind.wrap_i64]; omega
  exact h1
theorem rkL_j (L : List Int) (hl : L.length < 2147483648) (n : Int) : J64 (rkL L n) := by
  unfold rkL
  have := List.length_filter_le (fun x => decide (x < n)) L
  exact ⟨by omega, by omega⟩
section
variable {s : GState} {L : List Int}
def ySince (L : List Int) (x : GProc) : GProc := { x with since := if qd x then rkL L x.since else x.since }
def yUntil (s : GState) (L : List Int) (x : GProc) : GProc := { ySince L x with until_ := if x.mode = 4 then wr (x.until_ - s.now) else x.until_ }
theorem yAlts (s : GState) (L : List Int) (x : GProc) : procP (rkL L) s.now x = { yUntil s L x with alts := x.alts.map (altP s.now) } := rfl
end
set_option maxRecDepth 20000 in
set_option maxHeartbeats 4000000 in
theorem rest_v (s : GState) (r : RgS s) (sm : Sm s) (L : List Int) (hs : L.Pairwise (· < ·)) (hL : L.length < 2147483648) (K : List UInt8 → Prop) (hK : K (stateF (plainP (rkL L) s))) : Rest_explore_Key s L s.procs K := by
  have hsp := sm.procs
  intro m w w0 hm A cA xs0 b2 aS cS xsS b aO cO elP elS ⟨leO, fO⟩ o
  have leS := (o.rowAt 2 rfl).cap
  have st1 := o.xX 2
  have fS := o.freeze (c := cInt .i64) (l := L) 2 rfl (fun b hb => by simp at hb) (elS.st st1)
  have o := o.erase 2
  have elB := o.freezeBox 1 rfl (by simp)
  have st2 := o.xX 1
  have o := o.erase 1
  have elP := elP.st (st1.trans st2)
  have fS := fS.st st2
  have fO := fO.st (st1.trans st2)
  clear st1 st2 elS
  let pc := fun xs : List Value => [Pc.row 38 11 A s.procs.length cA xs, .box b [.int .i64 s.now, .int .i64 s.since, .int .i64 s.halt, .int .i64 s.fault, .int .i64 s.who, .slice A s.procs.length cA, .slice aO s.out.length cO]]
  let F := procP (rkL L) s.now
  change Mem _ _ _ _ _ _ (pc xs0) at o
  change El _ (ms (pc xs0) m) _ _ _ at elP
  change SlR _ (ms (pc xs0) m) _ _ _ at fS
  change SlR _ (ms (pc xs0) m) _ _ _ at fO
  change ElAt (ms (pc xs0) m) _ _ _ at elB
  refine ⟨fun i u => ∃ (k : Nat) (xs : List Value), i = k ∧ k ≤ s.procs.length ∧ El cGProc (ms (pc xs) m) u (upto F k s.procs) xs ∧ Mem w.heap.size [] m [([], w.heap.size, w)] [] u (pc xs) ∧ Step (ms (pc xs0) m) w0 (ms (pc xs) m) u, fun i _ => (s.procs.length - i).toNat, ⟨0, xs0, rfl, Nat.zero_le _, by rw [upto_zero]; exact elP, o, Step.refl _ _⟩, ?_⟩
  clear o elP
  rintro _ _ u ⟨k, xs, rfl, hk, el, o, stk⟩
  simp only [Int.toNat_natCast]
  refine At.cond hk (fun hk => ?_) fun hk => ?_
  · refine ⟨_, _, _, (o.at 1 rfl).cell rfl, ⟨by omega, by omega⟩, ?_⟩
    obtain ⟨p, x, cs, hp, he, hc, hr⟩ := row_elem (o.rowAt 0 rfl) el (i := (k : Int)) ⟨by omega, by rw [upto_len]; omega⟩
    rw [Int.toNat_natCast] at he hc
    have hc := hc.2
    have hx : x = s.procs[k] := Option.some.inj (he.symm.trans (upto_at F hk))
    have hxm := sm.each _ (List.getElem_mem hk)
    rw [← hx] at hxm
    refine ptrOr_some hp ?_
    refine ⟨fun u' => ∃ xs', El cGProc (ms (pc xs') m) u' ((upto F k s.procs).set k (ySince L x)) xs' ∧ Mem w.heap.size [] m [([], w.heap.size, w)] [] u' (pc xs') ∧ Step (ms (pc xs0) m) w0 (ms (pc xs') m) u', ?_, ?_⟩
    · obtain ⟨aV, cV, aL, cL, rfl, ⟨leV, fV⟩, ⟨leL, fL⟩⟩ := GProc_out hr
      refine ⟨_, _, _, _, _, _, _, _, _, _, _, _, _, _, _, hc, ?_⟩
      refine call_then (queued_v x (fun b => b = qd x) rfl _ u (o.mo hm (by simp) (.head _)) _ (GProc_in x ⟨leV, fV⟩ ⟨leL, fL⟩)) ?_
      rintro _ u1 ⟨_, rfl, rfl, keep⟩
      have st1 := o.xE keep
      have o := o.ext keep
      refine ⟨_, rfl, cond_intro (fun hq => ?_) fun hq => ?_⟩
      · refine ⟨_, (cells_kept0 hc keep) 9 (Nat.le_of_ble_eq_true rfl), ?_⟩
        refine call_then (rank1_v L hs hL x.since (fun r => r = rkL L x.since) rfl _ u1 (o.mo hm (by simp) (.head _)) b2 _ (elB.st (stk.trans st1)) ⟨aS, cS, rfl, leS, fS.st (stk.trans st1)⟩) ?_
        rintro _ u2 ⟨_, rfl, rfl, keep2⟩
        have st2 := o.xE keep2
        have o := o.ext keep2
        refine ⟨_, rfl, ?_⟩
        have hcc := cells_kept0 (cells_kept0 hc keep) keep2
        have hw := row_putp (i := k) (o.rowAt 0 rfl) (el.st (st1.trans st2)) hp he hcc rfl 9 (.int .i64 (rkL L x.since)) (by decide)
        refine ⟨hw.1, fun u3 hu3 => ?_⟩
        obtain ⟨xs', hr', hg, hel⟩ := hw.2 _ hu3
        have hy : ySince L x = { x with since := rkL L x.since } := by unfold ySince; rw [if_pos hq]
        have el' := hel (ySince L x) (by rw [hy]; exact GProc_in { x with since := rkL L x.since } ⟨leV, fV.st (st1.trans st2)⟩ ⟨leL, fL.st (st1.trans st2)⟩)
        have st3 := o.xA 0 rfl hr' hg (.inl rfl)
        exact ⟨xs', el'.st st3, o.app 0 rfl hr' hg (.inl rfl), stk.trans (st1.trans (st2.trans st3))⟩
      · have hy : ySince L x = x := by unfold ySince; rw [hq]; rfl
        rw [hy, set_same he]
        exact ⟨xs, el.st st1, o, stk.trans st1⟩
    clear hr hc o el stk
    rintro _ u1 ⟨xs1, el1, o, stk⟩
    have hl1 : ((upto F k s.procs).set k (ySince L x))[k]? = some (ySince L x) := set_at he
    obtain ⟨p2, x2, cs2, hp2, he2, hc2, hr2⟩ := row_elem (o.rowAt 0 rfl) el1 (i := (k : Int)) ⟨by omega, by rw [List.length_set, upto_len]; omega⟩
    rw [Int.toNat_natCast] at he2 hc2
    have hc2 := hc2.2
    obtain rfl : x2 = ySince L x := Option.some.inj (he2.symm.trans hl1)
    obtain rfl : p2 = p := Option.some.inj (hp2.symm.trans hp)
    refine ⟨fun u' => ∃ xs', El cGProc (ms (pc xs') m) u' ((upto F k s.procs).set k (yUntil s L x)) xs' ∧ Mem w.heap.size [] m [([], w.heap.size, w)] [] u' (pc xs') ∧ Step (ms (pc xs0) m) w0 (ms (pc xs') m) u', ?_, ?_⟩
    · obtain ⟨aV, cV, aL, cL, rfl, ⟨leV, fV⟩, ⟨leL, fL⟩⟩ := GProc_out hr2
      refine ⟨_, hc2 4 (Nat.le_of_ble_eq_true rfl), cond_intro (fun hq => ?_) fun hq => ?_⟩
      · intro u2 hu2
        have st1 := o.xE (keep_drew hu2)
        have o := o.ext (keep_drew hu2)
        have hcc := cells_kept0 hc2 (keep_drew hu2)
        refine ⟨_, hcc 8 (Nat.le_of_ble_eq_true rfl), _, (o.at 1 rfl).cell rfl, ?_⟩
        have hw := row_putp (i := k) (o.rowAt 0 rfl) (el1.st st1) hp he2 hcc rfl 8 (.int .i64 (wr (x.until_ - s.now))) (by decide)
        refine ⟨hw.1, fun u3 hu3 => ?_⟩
        obtain ⟨xs', hr', hg, hel⟩ := hw.2 _ hu3
        have hq : x.mode = 4 := eq_of_beq hq
        have hy : yUntil s L x = { ySince L x with until_ := wr (x.until_ - s.now) } := by unfold yUntil; rw [if_pos hq]
        have el' := hel (yUntil s L x) (by rw [hy]; exact GProc_in { ySince L x with until_ := wr (x.until_ - s.now) } ⟨leV, fV.st st1⟩ ⟨leL, fL.st st1⟩)
        have st3 := o.xA 0 rfl hr' hg (.inl rfl)
        rw [List.set_set] at el'
        exact ⟨xs', el'.st st3, o.app 0 rfl hr' hg (.inl rfl), stk.trans (st1.trans st3)⟩
      · have hq : ¬ x.mode = 4 := fun e => by rw [show (ySince L x).mode = 4 from e] at hq; exact absurd hq (by decide)
        have hy : yUntil s L x = ySince L x := by unfold yUntil; rw [if_neg hq]; rfl
        rw [hy]
        exact ⟨xs1, el1, o, stk⟩
    clear hr2 hc2 o el1 stk
    rintro _ u2 ⟨xs2, el2, o, stk⟩
    have hl2 : ((upto F k s.procs).set k (yUntil s L x))[k]? = some (yUntil s L x) := set_at he
    obtain ⟨p3, x3, cs3, hp3, he3, hc3, hr3⟩ := row_elem (o.rowAt 0 rfl) el2 (i := (k : Int)) ⟨by omega, by rw [List.length_set, upto_len]; omega⟩
    rw [Int.toNat_natCast] at he3 hc3
    have hc3 := hc3.2
    obtain rfl : x3 = yUntil s L x := Option.some.inj (he3.symm.trans hl2)
    obtain rfl : p3 = p2 := Option.some.inj (hp3.symm.trans hp)
    obtain ⟨aV, cV, aL, cL, rfl, ⟨leV, fV⟩, ⟨leL, fL⟩⟩ := GProc_out hr3
    refine ⟨_, _, _, hc3 10 (Nat.le_of_ble_eq_true rfl), ?_⟩
    refine call_then (clonea_v x.alts (by omega) (fun l => l = x.alts) rfl _ u2 (o.mo hm (by simp) (.head _)) aL cL leL fL) ?_
    rintro _ u3 ⟨_, rfl, ⟨aA, cA', xsA, rfl, rwA, elA, frA⟩, keep⟩
    have st1 := o.xE keep
    have st1' := Mem.addsS (ps := pc xs2) (m0 := m) keep (.row 57 5 aA x.alts.length cA' xsA) frA
    have o := o.adds keep (.row 57 5 aA x.alts.length cA' xsA) frA rwA
    refine ⟨_, _, _, rfl, ?_⟩
    have hcc := cells_kept0 hc3 keep
    have hw := row_putp (c := cX) (i := k) (o.rowAt 1 rfl) (el_inl.2 (el2.st st1')) hp (by rw [List.getElem?_map, hl2]; rfl) hcc rfl 10 (.slice aA x.alts.length cA') (by decide)
    refine ⟨hw.1, fun u4 hu4 => ?_⟩
    obtain ⟨xs', hr', hg, hel⟩ := hw.2 _ hu4
    have elX := hel (.inr (yUntil s L x, .slice aA x.alts.length cA')) ⟨rfl, _, GProc_in (yUntil s L x) ⟨leV, fV.st st1'⟩ ⟨leL, fL.st st1'⟩, rfl⟩
    have st4 := o.xA 1 rfl hr' hg (.inl rfl)
    have o := o.app 1 rfl hr' hg (.inl rfl)
    have elX := elX.st st4
    have elA : El cGAlt _ u4 x.alts xsA := elA.st st4
    have stk := stk.trans (st1'.trans st4)
    generalize hLX : (((upto F k s.procs).set k (yUntil s L x)).map Sum.inl).set k (Sum.inr (yUntil s L x, Value.slice aA x.alts.length cA')) = LX at elX
    have hlX : LX.length = s.procs.length := by rw [← hLX, List.length_set, List.length_map, List.length_set, upto_len]
    have hXk : LX[k]? = some (.inr (yUntil s L x, .slice aA x.alts.length cA')) := by
      rw [← hLX]; exact set_at (x := .inl (yUntil s L x)) (by rw [List.getElem?_map, hl2]; rfl)
    clear hel hw hcc hc3 hr3 el2 hr' hg st4 st1' st1 keep rwA frA hu4 fV leV fL leL
    -- the slice of alternatives in its cell
    have cell : ∀ {u' : World} {qs : List Pc}, Mem w.heap.size [] m [([], w.heap.size, w)] [] u' (.row 57 5 aA x.alts.length cA' (qs.map (fun _ => Value.bool true)) :: []) → True := fun _ => trivial
    clear cell
    let pd := fun xsA' : List Value => Pc.row 57 5 aA x.alts.length cA' xsA' :: pc xs'
    change Mem _ _ _ _ _ _ (pd xsA) at o
    change El _ (ms (pd xsA) m) _ _ _ at elX
    change El _ (ms (pd xsA) m) _ _ _ at elA
    have look : ∀ {u' : World} {xsA' : List Value}, Mem w.heap.size [] m [([], w.heap.size, w)] [] u' (pd xsA') → El cX (ms (pd xsA') m) u' LX xs' → u'.cell? ((p3.add (k * 11)).add 10) = some (.slice aA x.alts.length cA') := by
      intro u' xsA' o' el'
      obtain ⟨p5, x5, cs5, hp5, he5, hc5, hr5⟩ := row_elem (o'.rowAt 1 rfl) el' (i := (k : Int)) ⟨by omega, by omega⟩
      rw [Int.toNat_natCast] at he5 hc5
      obtain rfl : x5 = _ := Option.some.inj (he5.symm.trans hXk)
      obtain rfl : p5 = p3 := Option.some.inj (hp5.symm.trans hp)
      obtain ⟨_, cs0, hr0, rfl⟩ := hr5
      obtain ⟨aV, cV, aL, cL, rfl, _, _⟩ := GProc_out hr0
      exact hc5.2 10 (Nat.le_of_ble_eq_true rfl)
    refine ⟨_, _, _, look o elX, ?_⟩
    refine ⟨fun j u' => ∃ (q : Nat) (xsA' : List Value), j = q ∧ q ≤ x.alts.length ∧ El cGAlt (ms (pd xsA') m) u' (upto (altP s.now) q x.alts) xsA' ∧ El cX (ms (pd xsA') m) u' LX xs' ∧ Mem w.heap.size [] m [([], w.heap.size, w)] [] u' (pd xsA') ∧ Step (ms (pc xs0) m) w0 (ms (pd xsA') m) u', fun j _ => (x.alts.length - j).toNat, ⟨0, xsA, rfl, Nat.zero_le _, by rw [upto_zero]; exact elA, elX, o, stk⟩, ?_⟩
    clear o elX elA stk
    rintro _ _ u5 ⟨q, xsB, rfl, hq, elA, elX, o, stk⟩
    simp only [Int.toNat_natCast]
    refine At.cond hq (fun hq => ?_) fun hq => ?_
    · refine ⟨fun u' => ∃ xsB', El cGAlt (ms (pd xsB') m) u' (upto (altP s.now) (q + 1) x.alts) xsB' ∧ El cX (ms (pd xsB') m) u' LX xs' ∧ Mem w.heap.size [] m [([], w.heap.size, w)] [] u' (pd xsB') ∧ Step (ms (pc xs0) m) w0 (ms (pd xsB') m) u', ?_, ?_⟩
      · refine ⟨_, _, _, look o elX, ⟨by omega, by omega⟩, ?_⟩
        obtain ⟨p6, x6, cs6, hp6, he6, hc6, hr6⟩ := row_elem (o.rowAt 0 rfl) elA (i := (q : Int)) ⟨by omega, by rw [upto_len]; omega⟩
        rw [Int.toNat_natCast] at he6 hc6
        have hc6 := hc6.2
        have hx6 : x6 = x.alts[q] := Option.some.inj (he6.symm.trans (upto_at _ hq))
        obtain rfl := GAlt_out hr6
        refine ptrOr_some hp6 ⟨_, CellsAt.head hc6, cond_intro (fun hd => ?_) fun hd => ?_⟩
        · intro u6 hu6
          have st1 := o.xE (keep_drew hu6)
          have o := o.ext (keep_drew hu6)
          have hcc := cells_kept0 hc6 (keep_drew hu6)
          refine ⟨_, _, _, look o (elX.st st1), ⟨by omega, by omega⟩, ptrOr_some hp6 ?_⟩
          refine ⟨_, hcc 2 (Nat.le_of_ble_eq_true rfl), _, (o.at 2 rfl).cell rfl, ⟨by omega, by omega⟩, ptrOr_some hp6 ?_⟩
          have hw := row_putp (i := q) (o.rowAt 0 rfl) (elA.st st1) hp6 he6 hcc rfl 2 (.int .i64 (wr (x6.val - s.now))) (by decide)
          refine ⟨hw.1, fun u7 hu7 => ?_⟩
          obtain ⟨xsB', hr', hg, hel⟩ := hw.2 _ hu7
          have el' := hel { x6 with val := wr (x6.val - s.now) } (GAlt_in { x6 with val := wr (x6.val - s.now) })
          have st3 := o.xA 0 rfl hr' hg (.inl rfl)
          have hd : x6.kind = 3 := eq_of_beq hd
          rw [show ({ x6 with val := wr (x6.val - s.now) } : GAlt) = altP s.now x.alts[q] by rw [← hx6]; unfold altP; rw [if_pos hd], upto_step _ hq] at el'
          exact ⟨xsB', el'.st st3, elX.st (st1.trans st3), o.app 0 rfl hr' hg (.inl rfl), stk.trans (st1.trans st3)⟩
        · have hd : ¬ x6.kind = 3 := fun e => by rw [e] at hd; exact absurd hd (by decide)
          have : upto (altP s.now) (q + 1) x.alts = upto (altP s.now) q x.alts := by
            rw [← upto_step _ hq, ← hx6]
            exact set_same (by rw [he6]; unfold altP; rw [if_neg hd])
          rw [this]
          exact ⟨xsB, elA, elX, o, stk⟩
      · rintro _ u6 ⟨xsB', elA', elX', o', stk'⟩
        exact ⟨⟨q + 1, xsB', by rw [wrap_in (by omega) (by omega)]; omega, by omega, elA', elX', o', stk'⟩, by rw [wrap_in (by omega) (by omega)]; omega⟩
    · rw [hq, upto_all] at elA
      have leA := (o.rowAt 0 rfl).cap
      have st1 := o.xX 0
      have fA := o.freeze (c := cGAlt) (l := x.alts.map (altP s.now)) 0 rfl (fun b hb => by simp at hb) (elA.st st1)
      have o := o.erase 0
      have elX := elX.st st1
      change El cX (ms (pc xs') m) u5 LX xs' at elX
      change Mem _ _ _ _ _ _ (pc xs') at o
      change SlR _ (ms (pc xs') m) _ _ _ at fA
      have elY := el_upd elX hXk (b := .inl (F x)) (fun cs h => by
        obtain ⟨_, cs0, hr0, rfl⟩ := h
        obtain ⟨aV, cV, aL, cL, rfl, hV, _⟩ := GProc_out hr0
        have := GProc_in (m := ms (pc xs') m) (w := u5) (F x) (a2 := aV) (c2 := cV) (a10 := aA) (c10 := cA') hV ⟨by show (x.alts.map _).length ≤ _; rw [List.length_map]; exact leA, fA⟩
        rw [show (F x).alts.length = x.alts.length from List.length_map _] at this
        exact this)
      rw [← hLX, List.set_set, show (Sum.inl (F x) : GProc ⊕ (GProc × Value)) = Sum.inl (F x) from rfl, ← List.map_set, List.set_set] at elY
      have elY := el_inl.1 elY
      rw [hx, upto_step F hk] at elY
      exact ⟨⟨k + 1, xs', by rw [wrap_in (by omega) (by omega)]; omega, by omega, elY, o, stk.trans st1⟩, by rw [wrap_in (by omega) (by omega)]; omega⟩
  · rw [hk, upto_all] at el
    refine ⟨_, (o.at 1 rfl).cell rfl, ?_⟩
    refine call_then (rank1_v L hs hL s.since (fun r => r = rkL L s.since) rfl _ u (o.mo hm (by simp) (.head _)) b2 _ (elB.st stk) ⟨aS, cS, rfl, leS, fS.st stk⟩) ?_
    rintro _ u2 ⟨_, rfl, rfl, keep2⟩
    have st2 := o.xE keep2
    have o := o.ext keep2
    refine ⟨_, rfl, o.wr 1 rfl rfl, fun u3 hu3 => ?_⟩
    have st3 := o.xS 1 hu3 rfl
    have o := o.set 1 hu3 rfl
    refine ⟨o.wr 1 rfl rfl, fun u4 hu4 => ?_⟩
    have st4 := o.xS 1 hu4 rfl
    have o := o.set 1 hu4 rfl
    refine ⟨_, _, _, _, _, _, _, _, _, _, _, (o.at 1 rfl).whole, ?_⟩
    have leP := (o.rowAt 0 rfl).cap
    have st5 := o.xX 0
    have fP := o.freeze (c := cGProc) (l := s.procs.map F) 0 rfl (fun b hb => by simp at hb) (el.st (st2.trans (st3.trans (st4.trans st5))))
    have o := o.erase 0
    have rep := GState_in (plainP (rkL L) s) (a5 := A) (c5 := cA) (a6 := aO) (c6 := cO) ⟨by show (s.procs.map _).length ≤ _; rw [List.length_map]; exact leP, fP⟩ ⟨leO, fO.st (stk.trans (st2.trans (st3.trans (st4.trans st5))))⟩
    rw [show (plainP (rkL L) s).procs.length = s.procs.length from List.length_map _] at rep
    have rg : RgS (plainP (rkL L) s) := ⟨⟨by show (-9223372036854775808 : Int) ≤ 0; decide, by show (0 : Int) ≤ 9223372036854775807; decide⟩, rkL_j L hL _, r.halt, r.fault, r.who, fun p hp => by
      obtain ⟨x, hx, rfl⟩ := List.mem_map.1 hp
      have rx := r.procs x hx
      refine ⟨rx.df, rx.at_, rx.vars, rx.fuel, rx.mode, rx.chan, rx.val, rx.slot, ?_, ?_, fun a ha => ?_⟩
      · show J64 (if x.mode = 4 then _ else _)
        split
        · exact wr_j _
        · exact rx.unt
      · show J64 (if qd x then _ else _)
        split
        · exact rkL_j L hL _
        · exact rx.since
      · obtain ⟨y, hy, rfl⟩ := List.mem_map.1 ha
        have ry := rx.alts y hy
        unfold altP
        split
        · exact ⟨ry.kind, ry.chan, wr_j _, ry.slot, ry.goto⟩
        · exact ry, r.out⟩
    have smp : Sm (plainP (rkL L) s) := ⟨by show (s.procs.map _).length ≤ 20; rw [List.length_map]; exact hsp, sm.out, fun p hp => by
      obtain ⟨x, hx, rfl⟩ := List.mem_map.1 hp
      have := sm.each x hx
      exact ⟨this.1, by show (x.alts.map _).length ≤ 40; rw [List.length_map]; exact this.2⟩⟩
    refine call_then (put_k _ rg smp K hK _ u4 (o.mo hm (by simp) (.head _)) _ rep) ?_
    rintro _ u5 ⟨r0, hr0, rfl, keep5⟩
    exact ⟨_, rfl, r0, hr0, rfl, o.done.trans keep5⟩
end Go.Proofs.YtfcemnnlmlggoaaGreat
