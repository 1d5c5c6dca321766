/- LookChans. -/
import Derived.Test.YtpigkempbnmioaaDoorLookB
import Derived.Test.YtpigkempbnmioaaDoorLookL
import Derived.Test.YtpigkempbnmioaaDoorLookH
namespace Go.Proofs.YtpigkempbnmioaaDoor
open Go.Vc Go.Lv Go.Ty

/-- what is given: nothing is longer than a length can tell -/
structure Fit (c : GCode) : Prop where
  dn : ∀ d ∈ c.defs, d.name.length ≤ 9223372036854775807
  cn : ∀ d ∈ c.chans, d.name.length ≤ 9223372036854775807
def SmS (s : GState) : Prop := s.procs.length ≤ 20 ∧ s.out.length ≤ 100 ∧ ∀ p ∈ s.procs, p.vars.length ≤ 40 ∧ p.alts.length ≤ 40
theorem large_v (p : GPlan) (c : GCode) (s : GState) (fp : ∀ r ∈ p.routines, r.vars.length ≤ 9223372036854775807) (ft : Fit c) (K : Bool → Prop) (h1 : ∀ b, (b = false → Sm c ∧ SmS s ∧ p.routines.length ≤ 40) → K b) : V_L40_large p c s K := by
  have ht : K true := h1 _ nofun
  refine L40_large_lift _ _ _ _ ⟨fun b => b = false → c.ins.length ≤ 150 ∧ c.defs.length ≤ 40 ∧ c.chans.length ≤ 80 ∧ s.procs.length ≤ 20 ∧ s.out.length ≤ 100 ∧ p.routines.length ≤ 40, ?_, ?_⟩
  · refine cond_intro (fun _ => nofun) fun a1 => cond_intro (fun _ => nofun) fun a2 => cond_intro (fun _ => nofun) fun a3 => cond_intro (fun _ => nofun) fun a4 => cond_intro (fun _ => nofun) fun a5 a6 => ?_
    simp at a1 a2 a3 a4 a5 a6
    omega
  intro b hb
  refine cond_intro (fun _ => ht) fun hc => ?_
  obtain ⟨b1, b2, b3, b4, b5, b6⟩ := hb hc
  refine ⟨fun i n => At s.procs.length (fun k => ∀ p ∈ s.procs.take k, p.vars.length ≤ 40 ∧ p.alts.length ≤ 40) i n, ⟨_, At.start (by simp)⟩, ?_⟩
  rintro _ _ ⟨k, rfl, hk, rfl, hI⟩
  refine At.cond hk (fun hk => ⟨fun b => b = false → s.procs[k].vars.length ≤ 40 ∧ s.procs[k].alts.length ≤ 40, at_elem hk (cond_intro (fun hc => nofun) fun hc => at_elem hk fun hd => ?_), ?_⟩) fun hk => ?_
  · simp at hc hd; omega
  · rintro b hb
    refine cond_intro (fun _ => ht) fun hc => At.next (by omega) hk ?_
    intro p hp
    rw [take_snoc hk, List.mem_append, List.mem_singleton] at hp
    rcases hp with hp | rfl
    · exact hI p hp
    · exact hb hc
  rw [hk, List.take_length] at hI
  refine ⟨fun _ i n => At p.routines.length (fun _ => True) i n, ⟨_, At.start trivial⟩, ?_⟩
  rintro t _ _ ⟨k, rfl, hk, rfl, -⟩
  refine At.cond hk (fun hlt => ?_) fun _ => ?_
  · have hm := fp _ (List.getElem_mem hlt)
    refine ⟨fun _ i n => At p.routines[k].vars.length (fun _ => True) i n, ⟨_, At.start trivial⟩, ?_⟩
    rintro t' _ _ ⟨j, rfl, hj, rfl, -⟩
    refine ⟨fun b => b = true → j < p.routines[k].vars.length, at_elem hlt (cond_intro (fun h3 => fun _ => by simp at h3; omega) fun h3 => nofun), ?_⟩
    rintro b e1
    exact cond_intro (fun hb => at_elem hlt (at_elem (e1 hb) (At.next' (by omega) (e1 hb) trivial))) fun hb => At.next (by omega) hlt trivial
  refine ⟨fun _ i n => At c.defs.length (fun _ => True) i n, ⟨_, At.start trivial⟩, ?_⟩
  rintro t1 _ _ ⟨j, rfl, hj, rfl, -⟩
  refine ⟨fun b => b = true → j < c.defs.length, cond_intro (fun h3 => fun _ => by simp at h3; omega) fun h3 => nofun, ?_⟩
  rintro b e1
  refine cond_intro (fun hb => at_elem (e1 hb) (At.next (by omega) (e1 hb) trivial)) fun hb => ?_
  refine ⟨fun _ i n => At c.chans.length (fun _ => True) i n, ⟨_, At.start trivial⟩, ?_⟩
  rintro t2 _ _ ⟨i, rfl, hi, rfl, -⟩
  refine ⟨fun b => b = true → i < c.chans.length, cond_intro (fun h3 => fun _ => by simp at h3; omega) fun h3 => nofun, ?_⟩
  rintro b f1
  exact cond_intro (fun hb => at_elem (f1 hb) (At.next (by omega) (f1 hb) trivial)) fun hb => h1 _ fun _ => ⟨⟨b1, b2, b3, ft.dn, ft.cn⟩, ⟨b4, b5, hI⟩, b6⟩
/-- a channel's name by its number -/
def chanF (n : Int) : List GChan → List UInt8
  | [] => [63]
  | x :: l => if x.base ≤ n ∧ n - x.base < max x.size 1 then (if x.size = 0 then x.name else ((x.name ++ [91]) ++ itoaS (n - x.base)) ++ [93]) else chanF n l
theorem chanF_cons (n : Int) (x : GChan) (l : List GChan) : chanF n (x :: l) = if x.base ≤ n ∧ n - x.base < max x.size 1 then (if x.size = 0 then x.name else ((x.name ++ [91]) ++ itoaS (n - x.base)) ++ [93]) else chanF n l := rfl
theorem drop_cons' {α : Type} {l : List α} {k : Nat} (h : k < l.length) : l.drop k = l[k] :: l.drop (k + 1) := List.drop_eq_getElem_cons h
theorem itoa_len : ∀ i, i < 100 → (Lib.decDigits i).length ≤ 3 := by decide +kernel
theorem itoaS_len {n : Int} (h0 : 0 ≤ n) (h1 : n < 100) : (itoaS n).length ≤ 3 := itoa_len _ (by omega)
theorem maxi64 : IntKind.i64.max = 9223372036854775807 := by decide
theorem name_ok (s t : List UInt8) (hs : s.length ≤ 100000) (ht : t.length ≤ 3) (A : Prop) (h : A) : ((s.length + [91].length : Nat) : Int) ≤ IntKind.i64.max ∧ (((s ++ [91]).length + t.length : Nat) : Int) ≤ IntKind.i64.max ∧ ((((s ++ [91]) ++ t).length + ([93] : List UInt8).length : Nat) : Int) ≤ IntKind.i64.max ∧ A := by
  rw [maxi64]
  simp only [List.length_append, List.length_cons, List.length_nil]
  exact ⟨by omega, by omega, by omega, h⟩
theorem chan_v (c : GCode) (sm : Sm c) (tb : Tab c) (n : Int) (hn : -9223372036854775808 ≤ n ∧ n ≤ 9223372036854775807) (K : List UInt8 → Prop) (h : K (chanF n c.chans)) : V_look_Chan c n K := by
  have s3 := sm.chans
  refine look_Chan_lift _ _ _ ⟨At c.chans.length fun k => chanF n (c.chans.drop k) = chanF n c.chans, ⟨_, At.start rfl⟩, ?_⟩
  rintro _ _ ⟨k, rfl, hk, rfl, hI⟩
  refine At.cond hk (fun hlt => at_elem hlt ?_) fun hk => ?_
  · obtain ⟨t1, t2, t3, t4, _, hnm⟩ := tb.chans _ (List.getElem_mem hlt)
    rw [drop_cons' hlt] at hI
    generalize c.chans[k] = x at *
    rw [chanF_cons] at hI
    have hmx : (if 1 > x.size then 1 else x.size) = max x.size 1 := by split <;> omega
    rw [hmx]
    refine ⟨fun b => b = decide (x.base ≤ n ∧ n - x.base < max x.size 1), cond_intro (fun h1 => ?_) fun h1 => ?_, ?_⟩
    · have h1 : x.base ≤ n := by simpa using h1
      rw [wrap_in (by omega) (by omega)]
      simp [h1]
    · have h1 : ¬ x.base ≤ n := by simpa using h1
      simp [h1]
    · rintro _ rfl
      refine cond_intro (fun hb => ?_) fun hb => ?_
      · have hb := of_decide_eq_true hb
        rw [if_pos hb] at hI
        refine cond_intro (fun hz => ?_) fun hz => ?_
        · have hz : x.size = 0 := by simpa using hz
          rw [if_pos hz] at hI
          rw [hI]; exact h
        · have hz : x.size ≠ 0 := by simpa using hz
          rw [if_neg hz] at hI
          rw [wrap_in (n := n - x.base) (by omega) (by omega)]
          have ok := name_ok x.name (itoaS (n - x.base)) (by omega) (itoaS_len (by omega) (by omega)) (K (((x.name ++ [91]) ++ itoaS (n - x.base)) ++ [93])) (by rw [hI]; exact h)
          exact ⟨ok.1, itoa_v _ (by omega) (by omega) _ ok.2⟩
      · have hb := of_decide_eq_false hb
        rw [if_neg hb] at hI
        exact At.next (by omega) hlt hI
  · subst hk
    rw [List.drop_length] at hI
    rw [show chanF n [] = [63] from rfl] at hI
    rw [hI]; exact h
theorem rnum_v (n : Int) (h0 : 0 ≤ n) (h1 : n < 100) (K : List UInt8 → Prop) (h : K (itoaS n)) : V_R40_num n K := R40_num_lift _ _ (itoa_v n h0 h1 _ h)
theorem rchan_v (c : GCode) (sm : Sm c) (tb : Tab c) (n : Int) (hn : -9223372036854775808 ≤ n ∧ n ≤ 9223372036854775807) (K : List UInt8 → Prop) (h : K (chanF n c.chans)) : V_R40_Chan c n K := by
  have s3 := sm.chans
  refine R40_Chan_lift _ _ _ ⟨At c.chans.length fun k => chanF n (c.chans.drop k) = chanF n c.chans, ⟨_, At.start rfl⟩, ?_⟩
  rintro _ _ ⟨k, rfl, hk, rfl, hI⟩
  refine At.cond hk (fun hlt => at_elem hlt ?_) fun hk => ?_
  · obtain ⟨t1, t2, t3, t4, _, hnm⟩ := tb.chans _ (List.getElem_mem hlt)
    rw [drop_cons' hlt] at hI
    generalize c.chans[k] = x at *
    rw [chanF_cons] at hI
    refine ⟨fun b => b = decide (x.size = 0 ∧ n = x.base), cond_intro (fun h1 => ?_) fun h1 => ?_, ?_⟩
    · have h1 : x.size = 0 := by simpa using h1
      by_cases e : n = x.base <;> simp [h1, e]
    · have h1 : ¬ x.size = 0 := by simpa using h1
      simp [h1]
    · rintro _ rfl
      refine cond_intro (fun hb => ?_) fun hb => ?_
      · obtain ⟨hb1, hb2⟩ := of_decide_eq_true hb
        rw [if_pos (by omega), if_pos hb1] at hI
        rw [hI]; exact h
      · have hb := of_decide_eq_false hb
        refine ⟨At x.size.toNat fun j => ∀ i : Nat, i < j → n ≠ x.base + i, ⟨_, At.start (fun i hi => absurd hi (by omega))⟩, ?_⟩
        rintro _ _ ⟨j, rfl, hj, rfl, hno⟩
        refine ⟨fun b => b = decide ((j : Int) < x.size), cond_intro (fun h1 => ?_) fun h1 => ?_, ?_⟩
        · have h1 : (j : Int) < x.size := by simpa using h1
          rw [decide_eq_true h1, decide_eq_true (by omega)]
        · exact h1.symm
        · rintro _ rfl
          refine cond_intro (fun h1 => ?_) fun h1 => ?_
          · have h1 := of_decide_eq_true h1
            rw [wrap_in (n := x.base + j) (by omega) (by omega)]
            refine cond_intro (fun h2 => ?_) fun h2 => ?_
            · have h2 : n = x.base + j := by simpa using h2
              rw [if_pos (by omega), if_neg (by omega)] at hI
              have ej : n - x.base = (j : Int) := by omega
              rw [ej] at hI
              have ok := name_ok x.name (itoaS j) (by omega) (itoaS_len (by omega) (by omega)) (K (((x.name ++ [91]) ++ itoaS j) ++ [93])) (by rw [hI]; exact h)
              exact ⟨ok.1, rnum_v _ (by omega) (by omega) _ ok.2⟩
            · have h2 : n ≠ x.base + j := by simpa using h2
              refine At.next (by omega) (by omega) fun i hi => ?_
              by_cases e : i = j
              · rw [e]; exact h2
              · exact hno i (by omega)
          · have h1 := of_decide_eq_false h1
            rw [if_neg (by
              rintro ⟨g1, g2⟩
              by_cases hz : x.size = 0
              · exact hb ⟨hz, by omega⟩
              · exact hno (n - x.base).toNat (by omega) (by omega))] at hI
            exact At.next (by omega) hlt hI
  · subst hk
    rw [List.drop_length] at hI
    rw [show chanF n [] = [63] from rfl] at hI
    rw [hI]; exact h
end Go.Proofs.YtpigkempbnmioaaDoor
