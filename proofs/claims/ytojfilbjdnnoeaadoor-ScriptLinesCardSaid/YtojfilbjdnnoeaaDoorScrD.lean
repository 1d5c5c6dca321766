/- Script: the command of a line. -/
import Derived.Test.YtojfilbjdnnoeaaDoorScrC
namespace Go.Proofs.YtojfilbjdnnoeaaDoor
open Go.Vc Go.Lv Go.Ty Go.Proofs Go.Sc

def z (k : Int) : GCommand := ⟨k, 0, ⟨0, 0⟩⟩
def wStep : List UInt8 := [115, 116, 101, 112]
def wBack : List UInt8 := [98, 97, 99, 107]
def wOn : List UInt8 := [111, 110]
def wRe : List UInt8 := [114, 101]
def wTo : List UInt8 := [116, 111]
def wBreak : List UInt8 := [98, 114, 101, 97, 107]
def wUnbreak : List UInt8 := [117, 110, 98, 114, 101, 97, 107]
def wClear : List UInt8 := [99, 108, 101, 97, 114]
def wStmt : List UInt8 := [115, 116, 109, 116]
def wChan : List UInt8 := [99, 104, 97, 110]
def wProc : List UInt8 := [112, 114, 111, 99]
def nF : Value := .func (.func 26) #[] #[]
def tF : Value := .func (.func 27) #[] #[]
def bF : Value := .func (.func 29) #[] #[]
def FL : List Gscript_form := [⟨wStep, 1, 0, nF⟩, ⟨wBack, 2, 0, nF⟩, ⟨wOn, 3, 0, nF⟩, ⟨wRe, 4, 0, nF⟩, ⟨wTo, 5, 1, tF⟩, ⟨wBreak, 6, 2, bF⟩, ⟨wUnbreak, 7, 2, bF⟩, ⟨wClear, 8, 0, nF⟩]
def WL : List (List UInt8) := [wStep, wBack, wOn, wRe, wTo, wBreak, wUnbreak, wClear]
def FM : List (List UInt8 × Gscript_form) := FL.map fun f => (f.word, f)
def kindF (x : List UInt8) : Int := if x = wStep then 1 else if x = wBack then 2 else if x = wOn then 3 else if x = wRe then 4 else if x = wTo then 5 else if x = wBreak then 6 else if x = wUnbreak then 7 else if x = wClear then 8 else 0
def bkF (x : List UInt8) : Int := if x = wStmt then 1 else if x = wChan then 2 else if x = wProc then 3 else 0
theorem forms_v (K : List Gscript_form → Prop) (h : K FL) : V_script_forms K := script_forms_lift _ h
theorem kinds_v (K : List (List UInt8) → Prop) (h : K [[], wStmt, wChan, wProc]) : V_script_kinds K := script_kinds_lift _ h
theorem word_cases (x : List UInt8) : (x ∉ WL ∧ kindF x = 0 ∧ getG FM x = none) ∨ x = wStep ∨ x = wBack ∨ x = wOn ∨ x = wRe ∨ x = wTo ∨ x = wBreak ∨ x = wUnbreak ∨ x = wClear := by
  by_cases h1 : x = wStep
  · exact .inr (.inl h1)
  by_cases h2 : x = wBack
  · exact .inr (.inr (.inl h2))
  by_cases h3 : x = wOn
  · exact .inr (.inr (.inr (.inl h3)))
  by_cases h4 : x = wRe
  · exact .inr (.inr (.inr (.inr (.inl h4))))
  by_cases h5 : x = wTo
  · exact .inr (.inr (.inr (.inr (.inr (.inl h5)))))
  by_cases h6 : x = wBreak
  · exact .inr (.inr (.inr (.inr (.inr (.inr (.inl h6))))))
  by_cases h7 : x = wUnbreak
  · exact .inr (.inr (.inr (.inr (.inr (.inr (.inr (.inl h7)))))))
  by_cases h8 : x = wClear
  · exact .inr (.inr (.inr (.inr (.inr (.inr (.inr (.inr h8)))))))
  refine .inl ⟨by simp [WL, h1, h2, h3, h4, h5, h6, h7, h8], by unfold kindF; rw [if_neg h1, if_neg h2, if_neg h3, if_neg h4, if_neg h5, if_neg h6, if_neg h7, if_neg h8], ?_⟩
  unfold getG FM FL
  simp [Ne.symm h1, Ne.symm h2, Ne.symm h3, Ne.symm h4, Ne.symm h5, Ne.symm h6, Ne.symm h7, Ne.symm h8]
/-- what a line's words are, as a command, and the error's number -/
def bad : GCommand × Int := (z 0, 1)
def readTo (k : Int) : List (List UInt8) → GCommand × Int
  | [t] => match numF t with
    | some n => (⟨k, n, ⟨0, 0⟩⟩, 0)
    | none => bad
  | _ => bad
def readBk (k : Int) : List (List UInt8) → GCommand × Int
  | [b, t] => if bkF b = 0 then bad else match numF t with
    | some n => (⟨k, 0, ⟨bkF b, n⟩⟩, 0)
    | none => bad
  | _ => bad
theorem readTo_one (k : Int) (t : List UInt8) : readTo k [t] = match numF t with
    | some n => (⟨k, n, ⟨0, 0⟩⟩, 0)
    | none => bad := rfl
theorem readBk_two (k : Int) (b t : List UInt8) : readBk k [b, t] = if bkF b = 0 then bad else match numF t with
    | some n => (⟨k, 0, ⟨bkF b, n⟩⟩, 0)
    | none => bad := rfl
def readNo (k : Int) : List (List UInt8) → GCommand × Int
  | [] => (z k, 0)
  | _ => bad
def readK (k : Int) (l : List (List UInt8)) : GCommand × Int :=
  if k = 0 then (z 0, 18) else if k = 5 then readTo k l else if k = 6 ∨ k = 7 then readBk k l else readNo k l
def readL : List (List UInt8) → GCommand × Int
  | [] => (z 0, 18)
  | x :: l => readK (kindF x) l
theorem ws_len : ∀ (l : List UInt8) (st : Option (List UInt8)), ∀ x ∈ ws st l, x.length ≤ (st.getD []).length + l.length
  | [], none, x, h => by simp [ws] at h
  | [], some c, x, h => by simp [ws] at h; subst h; simp
  | b :: l, st, x, h => by
    by_cases hb : isW b = true
    · have : ws st (b :: l) = st.toList ++ ws none l := by cases st <;> simp [ws, hb]
      rw [this] at h
      rcases List.mem_append.1 h with h | h
      · cases st with
        | none => simp at h
        | some c => simp at h; subst h; simp
      · have := ws_len l none x h
        simp at this ⊢; omega
    · have : ws st (b :: l) = ws (some (st.getD [] ++ [b])) l := by cases st <;> simp [ws, hb]
      rw [this] at h
      have := ws_len l _ x h
      simp at this ⊢; omega
theorem ws_ne : ∀ (l : List UInt8) (st : Option (List UInt8)), (∀ c, st = some c → c ≠ []) → ∀ x ∈ ws st l, x ≠ []
  | [], none, _, x, h => by simp [ws] at h
  | [], some c, hc, x, h => by simp [ws] at h; subst h; exact hc _ rfl
  | b :: l, st, hc, x, h => by
    by_cases hb : isW b = true
    · have : ws st (b :: l) = st.toList ++ ws none l := by cases st <;> simp [ws, hb]
      rw [this] at h
      rcases List.mem_append.1 h with h | h
      · cases st with
        | none => simp at h
        | some c => simp at h; subst h; exact hc _ rfl
      · exact ws_ne l none (by simp) x h
    · have : ws st (b :: l) = ws (some (st.getD [] ++ [b])) l := by cases st <;> simp [ws, hb]
      rw [this] at h
      exact ws_ne l _ (by simp) x h
theorem index_s (l : List (List UInt8)) (hl : l.length < 1000) (v : List UInt8) (K : Int → Prop) (h1 : ∀ i : Nat, ∀ h : i < l.length, l[i] = v → (∀ j, j < i → ∀ h : j < l.length, l[j] ≠ v) → K i) (h2 : v ∉ l → K (-1)) : V_slices_Index_Slstring_string l v K := by
  refine slices_Index_Slstring_string_lift _ _ _ ⟨fun i n => At l.length (fun k => ∀ j, j < k → ∀ h : j < l.length, l[j] ≠ v) i n, ⟨_, At.start (fun j hj => by omega)⟩, ?_⟩
  rintro _ _ ⟨k, rfl, hk, rfl, hne⟩
  refine At.cond hk (fun hlt => at_elem hlt (cond_intro (fun hc => ?_) fun hc => ?_)) fun he => ?_
  · exact h1 k hlt (by simpa using (eq_of_beq hc).symm) hne
  · refine At.next (by omega) hlt fun j hj hjl => ?_
    by_cases hjk : j = k
    · subst hjk; intro h; rw [h] at hc; simp at hc
    · exact hne j (by omega) hjl
  · refine h2 fun hv => ?_
    obtain ⟨j, hj, hjv⟩ := List.mem_iff_getElem.1 hv
    exact hne j (by omega) hj hjv
/-- the place of a word among the words of breakpoints -/
theorem bk_v (v : List UInt8) (K : Int → Prop) (h1 : bkF v = 0 → ∀ i, ¬ i > 0 → K i) (h2 : 0 < bkF v → K (bkF v)) : V_slices_Index_Slstring_string [[], wStmt, wChan, wProc] v K := by
  refine index_s _ (by decide) v K (fun i hi he _ => ?_) fun hn => ?_
  · match i, hi, he with
    | 0, _, he =>
      have he : ([] : List UInt8) = v := he
      subst he; exact h1 (by decide) _ (by decide)
    | 1, _, he =>
      have he : wStmt = v := he
      subst he; exact h2 (by decide)
    | 2, _, he =>
      have he : wChan = v := he
      subst he; exact h2 (by decide)
    | 3, _, he =>
      have he : wProc = v := he
      subst he; exact h2 (by decide)
  · refine h1 ?_ _ (by decide)
    simp only [List.mem_cons, not_or] at hn
    unfold bkF
    rw [if_neg hn.2.1, if_neg hn.2.2.1, if_neg hn.2.2.2.1]
theorem break_v (k : Int) (l : List (List UInt8)) (hl : ∀ x ∈ l, x.length < 1000000) (hll : l.length = 2) (K : Bool → GCommand → Prop) (h : ∀ r : Bool, ∀ x : GCommand, (r = true → readBk k l = (x, 0)) → (r = false → readBk k l = bad) → K r x) : V_script_breakpoint (z k) l K := by
  obtain ⟨b, t, rfl⟩ : ∃ b t, l = [b, t] := by
    match l, hll with
    | [b, t], _ => exact ⟨b, t, rfl⟩
  refine script_breakpoint_lift _ _ _ ⟨fun kd n bk bn => kd = k ∧ n = 0 ∧ bn = 0 ∧ ((bkF b = 0 ∧ ¬ bk > 0) ∨ (bk = bkF b ∧ 0 < bkF b)), ?_, ?_⟩
  · refine ⟨⟨by omega, by simp⟩, fun x hx => ?_⟩
    obtain rfl : x = b := by simpa using hx.symm
    exact kinds_v _ (bk_v _ _ (fun h0 i hi => ⟨rfl, rfl, rfl, .inl ⟨h0, hi⟩⟩) fun h0 => ⟨rfl, rfl, rfl, .inr ⟨rfl, h0⟩⟩)
  · rintro _ _ bk _ ⟨rfl, rfl, rfl, hbk⟩
    refine cond_intro (fun hc => ⟨⟨by omega, by simp⟩, fun x hx => ?_⟩) fun hc => ?_
    · obtain rfl : x = t := by simpa using hx.symm
      have hc' : bk > 0 := by simpa using hc
      rcases hbk with ⟨_, hb⟩ | ⟨rfl, hb⟩
      · exact absurd hc' hb
      · refine number3_v _ (hl _ (by simp)) _ _ (fun v hv => h _ _ (fun _ => ?_) (by simp)) fun hn v => h _ _ (by simp) fun _ => ?_
        · rw [readBk_two, if_neg (by omega), hv]
        · rw [readBk_two, if_neg (by omega), hn]
    · refine h _ _ (by simp) fun _ => ?_
      have hc' : ¬ bk > 0 := by simpa using hc
      rcases hbk with ⟨h0, _⟩ | ⟨rfl, hb⟩
      · rw [readBk_two, if_pos h0]
      · exact absurd hb hc'
theorem to_v (l : List (List UInt8)) (hl : ∀ x ∈ l, x.length < 1000000) (hll : l.length = 1) (K : Bool → GCommand → Prop) (h : ∀ r : Bool, ∀ x : GCommand, (r = true → readTo 5 l = (x, 0)) → (r = false → readTo 5 l = bad) → K r x) : V_script_forms_2 (z 5) l K := by
  obtain ⟨t, rfl⟩ : ∃ t, l = [t] := by
    match l, hll with
    | [t], _ => exact ⟨t, rfl⟩
  refine script_forms_2_lift _ _ _ ⟨⟨by omega, by simp⟩, fun x hx => ?_⟩
  obtain rfl : x = t := by simpa using hx.symm
  refine number1_v _ (hl _ (by simp)) _ _ (fun v hv => h _ _ (fun _ => ?_) (by simp)) fun hn v => h _ _ (by simp) fun _ => ?_
  · rw [readTo_one, hv]; rfl
  · rw [readTo_one, hn]
theorem FM_none : ∀ k, ∀ h : k < FL.length, getG ((FL.take k).map fun f => (f.word, f)) FL[k].word = none := fun k h => by
  have h8 : k < 8 := h
  match k, h8 with
  | 0, _ => rfl
  | 1, _ => rfl
  | 2, _ => rfl
  | 3, _ => rfl
  | 4, _ => rfl
  | 5, _ => rfl
  | 6, _ => rfl
  | 7, _ => rfl
theorem fin_v (b : Bool) (x r : GCommand) (R : GCommand × Int) (K : GCommand → Int → Prop) (h : K R.1 R.2) (h1 : b = false → R = (x, 0)) (h2 : b = true → R = bad) (he : r = x) : cond b (K (z 0) 1) (K r 0) := by
  subst he
  cases b with
  | true => rw [h2 rfl] at h; exact h
  | false => rw [h1 rfl] at h; exact h
theorem read_v (s : List UInt8) (hs : s.length < 1000000) (K : GCommand → Int → Prop) (h : K (readL (ws none s)).1 (readL (ws none s)).2) : V_script_Read s K := by
  refine script_Read_lift _ _ (words_v s hs _ ?_)
  have hlen : ∀ x ∈ ws none s, x.length < 1000000 := fun x hx => by have := ws_len s none x hx; simp at this; omega
  generalize ws none s = L at h hlen
  cases L with
  | nil => exact cond_t rfl h
  | cons x l =>
    refine cond_f (by rw [Bool.eq_false_iff]; simp; omega) (forms_v _ ?_)
    refine ⟨fun i mp n => At FL.length (fun k => mp = (FL.take k).map fun f => (f.word, f)) i n, ⟨_, At.start rfl⟩, ?_⟩
    rintro _ _ _ ⟨k, rfl, hk, rfl, rfl⟩
    refine At.cond hk (fun hlt => at_elem hlt ⟨FM_none k hlt, At.next (by decide) hlt (by rw [map_snoc _ hlt])⟩) fun he => ?_
    subst he
    rw [List.take_length]
    change _ ∧ _
    refine ⟨⟨by omega, by simp only [List.length_cons]; omega⟩, fun x3 hx3 x4 ok h4 hok => ?_⟩
    obtain rfl : x3 = x := by simpa using hx3.symm
    have hl : ∀ y ∈ l, y.length < 1000000 := fun y hy => hlen y (List.mem_cons_of_mem _ hy)
    have h : K (readK (kindF x3) l).1 (readK (kindF x3) l).2 := h
    change x4 = (getG FM x3).getD _ at h4
    change ok = (getG FM x3).isSome at hok
    -- the forms without arguments, and those with
    have noF : ∀ (c : Int) (wd : List UInt8), x4 = ⟨wd, c, 0, nF⟩ → ok = true → readK (kindF x3) l = readNo c l → (x4.into).oneCell' = true ∧ cond (!ok) (K (z 0) 18) (∃ (J : Bool → Int → Int → Int → Int → Prop),
        (cond (((x3 :: l).length : Int) != (IntKind.i64.wrap (x4.args + 1))) (J true x4.kind 0 0 0) (((0 : Int) ≤ 1 ∧ 1 ≤ ((x3 :: l).length : Int)) ∧ V_dyn_script_breakpoint x4.into (⟨x4.kind, 0, (⟨0, 0⟩ : GBreak)⟩ : GCommand) ((x3 :: l).drop 1) (fun x6 r => J (!x6) r.kind r.n r.break_.kind r.break_.n))) ∧
        ∀ (x5 : Bool) (Kind : Int) (N : Int) (BreakKind : Int) (BreakN : Int), J x5 Kind N BreakKind BreakN → cond (x5) (K (z 0) 1) (K (⟨Kind, N, (⟨BreakKind, BreakN⟩ : GBreak)⟩ : GCommand) 0)) := by
      intro c wd e1 e2 e3
      subst e1; subst e2
      rw [e3] at h
      refine ⟨rfl, ⟨fun b kd n bk bn => cond b (K (z 0) 1) (K ⟨kd, n, ⟨bk, bn⟩⟩ 0), ?_, fun _ _ _ _ _ h => h⟩⟩
      have hw : IntKind.i64.wrap ((0 : Int) + 1) = 1 := by decide
      show cond (((x3 :: l).length : Int) != (IntKind.i64.wrap ((0 : Int) + 1))) _ _
      rw [hw]
      cases l with
      | nil => exact cond_f (by simp) ⟨⟨by decide, by simp⟩, dyn_none _ _ _ (show cond false _ _ from h)⟩
      | cons y l => exact cond_t (by simp; omega) h
    rcases word_cases x3 with ⟨_, h0, hg⟩ | rfl | rfl | rfl | rfl | rfl | rfl | rfl | rfl
    · rw [hg] at h4 hok
      subst h4; subst hok
      rw [h0] at h
      exact ⟨rfl, h⟩
    · exact noF 1 _ h4 hok rfl
    · exact noF 2 _ h4 hok rfl
    · exact noF 3 _ h4 hok rfl
    · exact noF 4 _ h4 hok rfl
    · clear noF
      replace h4 : x4 = ⟨wTo, 5, 1, tF⟩ := h4
      replace hok : ok = true := hok
      subst h4; subst hok
      replace h : K (readTo 5 l).1 (readTo 5 l).2 := h
      refine ⟨rfl, ⟨fun b kd n bk bn => cond b (K (z 0) 1) (K ⟨kd, n, ⟨bk, bn⟩⟩ 0), ?_, fun _ _ _ _ _ h => h⟩⟩
      have hw : IntKind.i64.wrap ((1 : Int) + 1) = 2 := by decide
      show cond (((wTo :: l).length : Int) != (IntKind.i64.wrap ((1 : Int) + 1))) _ _
      rw [hw]
      refine cond_intro (fun hc => ?_) fun hc => ?_
      · have : readTo 5 l = bad := by
          match l with
          | [] => rfl
          | [t] => simp at hc
          | _ :: _ :: _ => rfl
        rw [this] at h; exact h
      · have hll : l.length = 1 := by simp at hc; omega
        exact ⟨⟨by decide, by simp only [List.length_cons]; omega⟩, dyn_to _ _ _ (to_v _ hl hll _ fun r x h1 h2 => fin_v _ x _ _ K h (fun hr => h1 (by simpa using hr)) (fun hr => h2 (by simpa using hr)) rfl)⟩
    · clear noF
      replace h4 : x4 = ⟨wBreak, 6, 2, bF⟩ := h4
      replace hok : ok = true := hok
      subst h4; subst hok
      replace h : K (readBk 6 l).1 (readBk 6 l).2 := h
      refine ⟨rfl, ⟨fun b kd n bk bn => cond b (K (z 0) 1) (K ⟨kd, n, ⟨bk, bn⟩⟩ 0), ?_, fun _ _ _ _ _ h => h⟩⟩
      have hw : IntKind.i64.wrap ((2 : Int) + 1) = 3 := by decide
      show cond (((wBreak :: l).length : Int) != (IntKind.i64.wrap ((2 : Int) + 1))) _ _
      rw [hw]
      refine cond_intro (fun hc => ?_) fun hc => ?_
      · have : readBk 6 l = bad := by
          match l with
          | [] => rfl
          | [_] => rfl
          | [_, _] => simp at hc
          | _ :: _ :: _ :: _ => rfl
        rw [this] at h; exact h
      · have hll : l.length = 2 := by simp at hc; omega
        exact ⟨⟨by decide, by simp only [List.length_cons]; omega⟩, dyn_break _ _ _ (break_v 6 _ hl hll _ fun r x h1 h2 => fin_v _ x _ _ K h (fun hr => h1 (by simpa using hr)) (fun hr => h2 (by simpa using hr)) rfl)⟩
    · clear noF
      replace h4 : x4 = ⟨wUnbreak, 7, 2, bF⟩ := h4
      replace hok : ok = true := hok
      subst h4; subst hok
      replace h : K (readBk 7 l).1 (readBk 7 l).2 := h
      refine ⟨rfl, ⟨fun b kd n bk bn => cond b (K (z 0) 1) (K ⟨kd, n, ⟨bk, bn⟩⟩ 0), ?_, fun _ _ _ _ _ h => h⟩⟩
      have hw : IntKind.i64.wrap ((2 : Int) + 1) = 3 := by decide
      show cond (((wUnbreak :: l).length : Int) != (IntKind.i64.wrap ((2 : Int) + 1))) _ _
      rw [hw]
      refine cond_intro (fun hc => ?_) fun hc => ?_
      · have : readBk 7 l = bad := by
          match l with
          | [] => rfl
          | [_] => rfl
          | [_, _] => simp at hc
          | _ :: _ :: _ :: _ => rfl
        rw [this] at h; exact h
      · have hll : l.length = 2 := by simp at hc; omega
        exact ⟨⟨by decide, by simp only [List.length_cons]; omega⟩, dyn_break _ _ _ (break_v 7 _ hl hll _ fun r x h1 h2 => fin_v _ x _ _ K h (fun hr => h1 (by simpa using hr)) (fun hr => h2 (by simpa using hr)) rfl)⟩
    · exact noF 8 _ h4 hok rfl
end Go.Proofs.YtojfilbjdnnoeaaDoor
