/- The laws InsGets and InsBack, in plain values. -/
import Derived.Test.YtknpbkajonmaoaaDoorInsG
namespace Go.Proofs.YtknpbkajonmaoaaDoor
open Go.Vc Go.Lv Go.Ty Go.Iv

/-! ## the program's reading -/
def rdI (s : List UInt8) (e : Int) : Int × List UInt8 × Int := if e = 0 then match dec 0 0 s with | .ok (u, t) => (zagN u, t, 0) | .error er => (0, s, er) else (0, s, e)
theorem rdI_v (s : List UInt8) (e : Int) (hs : s.length < 1099511627776) (K : Int → Gwire_Reader → Prop) (h : K (rdI s e).1 ⟨(rdI s e).2.1, (rdI s e).2.2⟩) : V_wire_Reader_Int ⟨s, e⟩ K := by
  unfold rdI at h
  by_cases he : e = 0
  · subst he
    rw [if_pos rfl] at h
    refine int_v s hs K (fun u t hd => ?_) fun er hd => ?_
    · rw [hd] at h; exact h
    · rw [hd] at h; exact h
  · rw [if_neg he] at h
    exact inte_v s e he K h
theorem rdI_len {s : List UInt8} {e : Int} : (rdI s e).2.1.length ≤ s.length := by
  unfold rdI
  split
  · split
    · rename_i hd; exact Nat.le_of_lt (dec_len _ _ _ _ _ hd)
    · exact Nat.le_refl _
  · exact Nat.le_refl _
def stA (op : Int) (t : List UInt8) : Int × List UInt8 × Int := if 0 < nz op then rdI t 0 else (0, t, 0)
def stB (op : Int) (t : List UInt8) : Int × List UInt8 × Int := if 1 < nz op then rdI (stA op t).2.1 (stA op t).2.2 else (0, (stA op t).2.1, (stA op t).2.2)
def insX (op : Int) (t : List UInt8) : GIns := ⟨op, (stA op t).1, (stB op t).1⟩
def endE (op : Int) (t : List UInt8) : Int := if rightB (insX op t) then (stB op t).2.2 else if (stB op t).2.2 = 0 then 3 else (stB op t).2.2
theorem stB_len {op : Int} {t : List UInt8} : (stB op t).2.1.length ≤ t.length := by
  have h1 : (stA op t).2.1.length ≤ t.length := by
    unfold stA; split
    · exact rdI_len
    · exact Nat.le_refl _
  unfold stB; split
  · exact Nat.le_trans rdI_len h1
  · exact h1
theorem round16 (c : UInt8) (t : List UInt8) : (∀ x t', one16 (c :: t) = .ok (x, t') → insX c.toNat t = x ∧ (stB c.toNat t).2.1 = t' ∧ endE c.toNat t = 0) ∧ (∀ er, one16 (c :: t) = .error er → endE c.toNat t = er) := by
  simp only [one16]
  by_cases h0 : 0 < nz (c.toNat : Int)
  · rw [if_pos h0]
    cases hd : dec 0 0 t with
    | error er =>
      have hne := dec_err _ _ _ _ hd
      have ha : stA c.toNat t = (0, t, er) := by unfold stA rdI; rw [if_pos h0, if_pos rfl, hd]
      have hb : stB c.toNat t = (0, t, er) := by unfold stB rdI; rw [ha]; simp [hne]
      refine ⟨fun x t' h => (by cases h), fun er' h => ?_⟩
      cases h
      unfold endE; rw [hb]; simp [hne]
    | ok v =>
      obtain ⟨a, s1⟩ := v
      have ha : stA c.toNat t = (zagN a, s1, 0) := by unfold stA rdI; rw [if_pos h0, if_pos rfl, hd]
      simp only
      by_cases h1 : 1 < nz (c.toNat : Int)
      · rw [if_pos h1]
        cases hd2 : dec 0 0 s1 with
        | error er =>
          have hne := dec_err _ _ _ _ hd2
          have hb : stB c.toNat t = (0, s1, er) := by unfold stB rdI; rw [ha, if_pos h1, if_pos rfl, hd2]
          refine ⟨fun x t' h => (by cases h), fun er' h => ?_⟩
          cases h
          unfold endE; rw [hb]; simp [hne]
        | ok w =>
          obtain ⟨b, s2⟩ := w
          have hb : stB c.toNat t = (zagN b, s2, 0) := by unfold stB rdI; rw [ha, if_pos h1, if_pos rfl, hd2]
          have hx : insX c.toNat t = ⟨(c.toNat : Int), zagN a, zagN b⟩ := by unfold insX; rw [ha, hb]
          unfold endE
          rw [hx, hb]
          simp only
          cases rightB ⟨(c.toNat : Int), zagN a, zagN b⟩ with
          | true => exact ⟨fun x t' h => (by cases h; exact ⟨rfl, rfl, rfl⟩), fun er h => (by cases h)⟩
          | false => exact ⟨fun x t' h => (by cases h), fun er h => (by cases h; rfl)⟩
      · rw [if_neg h1]
        have hb : stB c.toNat t = (0, s1, 0) := by unfold stB; rw [ha, if_neg h1]
        have hx : insX c.toNat t = ⟨(c.toNat : Int), zagN a, 0⟩ := by unfold insX; rw [ha, hb]
        unfold endE
        rw [hx, hb]
        simp only
        cases rightB ⟨(c.toNat : Int), zagN a, 0⟩ with
        | true => exact ⟨fun x t' h => (by cases h; exact ⟨rfl, rfl, rfl⟩), fun er h => (by cases h)⟩
        | false => exact ⟨fun x t' h => (by cases h), fun er h => (by cases h; rfl)⟩
  · have h1 : ¬ 1 < nz (c.toNat : Int) := by omega
    rw [if_neg h0]
    have ha : stA c.toNat t = (0, t, 0) := by unfold stA; rw [if_neg h0]
    have hb : stB c.toNat t = (0, t, 0) := by unfold stB; rw [ha, if_neg h1]
    have hx : insX c.toNat t = ⟨(c.toNat : Int), 0, 0⟩ := by unfold insX; rw [ha, hb]
    unfold endE
    rw [hx, hb]
    simp only
    cases rightB ⟨(c.toNat : Int), 0, 0⟩ with
    | true => exact ⟨fun x t' h => (by cases h; exact ⟨rfl, rfl, rfl⟩), fun er h => (by cases h)⟩
    | false => exact ⟨fun x t' h => (by cases h), fun er h => (by cases h; rfl)⟩
theorem right_isOp {x : GIns} (h : isOp x.op = false) : rightB x = false := by
  unfold rightB badB; rw [h]; rfl
theorem all_step (n : Nat) (l : List GIns) (c : UInt8) (t : List UInt8) : all16 (n + 1) l (c :: t) = match one16 (c :: t) with
    | .error e => .error e
    | .ok (x, t) => all16 n (l ++ [x]) t := by
  simp only [all16]
  rw [if_neg (by simp)]
  cases one16 (c :: t) with
  | error e => rfl
  | ok v => rfl
theorem iget_v (s : List UInt8) (hs : s.length ≤ 1000000) (K : List GIns → Int → Prop) (h1 : ∀ l, get16 s = .ok l → K l 0) (h2 : ∀ e, get16 s = .error e → e ≠ 0 → K [] e) : V_ins_Get s K := by
  refine ins_Get_lift _ _ (wire_Open_lift _ _ ?_)
  refine ⟨fun out s1 e n => (e = 0 ∧ n = s1.length + 1 ∧ out.length + s1.length ≤ s.length ∧ get16 s = all16 (s1.length + 1) out s1) ∨ (e ≠ 0 ∧ n = 0 ∧ get16 s = .error e), ⟨s.length + 1, .inl ⟨rfl, rfl, by simp, rfl⟩⟩, ?_⟩
  intro out s1 e n hI
  refine ⟨fun b => b = (decide (0 < s1.length) && (e == 0)), left_v _ _ _ (cond_intro (fun hc => err_v _ _ _ ?_) fun hc => ?_), ?_⟩
  · rw [show decide (0 < s1.length) = true by simp at hc ⊢; omega]; rfl
  · rw [show decide (0 < s1.length) = false by simp at hc ⊢; omega]; rfl
  · rintro _ rfl
    rcases hI with ⟨rfl, rfl, hlen, hg⟩ | ⟨he, rfl, hg⟩
    · cases s1 with
      | nil =>
        refine cond_f rfl (err_v _ _ _ (cond_f rfl (h1 out ?_)))
        rw [hg]; simp [all16]
      | cons c t =>
        refine cond_t (by simp) (raw_v c t _ ⟨⟨by omega, by simp⟩, find_v _ _ ?_⟩)
        have hcl := c.toNat_lt
        have hop : IntKind.i64.wrap (((([c] : List UInt8).getD 0 0).toNat : Nat) : Int) = (c.toNat : Int) := by
          show IntKind.i64.wrap (c.toNat : Int) = _
          rw [wrap_in (by omega) (by omega)]
        rw [hop]
        rw [List.length_cons] at hlen
        rw [List.length_cons, all_step] at hg
        obtain ⟨r1, r2⟩ := round16 c t
        generalize hop2 : (c.toNat : Int) = op at *
        have hl1 := stB_len (op := op) (t := t)
        have hl0 : (stA op t).2.1.length ≤ t.length := by
          unfold stA; split
          · exact rdI_len
          · exact Nat.le_refl _
        refine ⟨fun o a b s e => o = op ∧ a = (stA op t).1 ∧ b = 0 ∧ s = (stA op t).2.1 ∧ e = (stA op t).2.2, cond_intro (fun hc => ?_) fun hc => ?_, ?_⟩
        · have hc : 0 < nz op := of_decide_eq_true hc
          refine rdI_v _ _ (by omega) _ ?_
          unfold stA; rw [if_pos hc]; exact ⟨rfl, rfl, rfl, rfl, rfl⟩
        · have hc : ¬ 0 < nz op := of_decide_eq_false hc
          unfold stA; rw [if_neg hc]; exact ⟨rfl, rfl, rfl, rfl, rfl⟩
        · rintro _ _ _ _ _ ⟨rfl, rfl, rfl, rfl, rfl⟩
          rename_i op
          refine ⟨fun o a b s e => o = op ∧ a = (stA op t).1 ∧ b = (stB op t).1 ∧ s = (stB op t).2.1 ∧ e = (stB op t).2.2, cond_intro (fun hc => ?_) fun hc => ?_, ?_⟩
          · have hc : 1 < nz op := of_decide_eq_true hc
            refine rdI_v _ _ (by omega) _ ?_
            unfold stB; rw [if_pos hc]; exact ⟨rfl, rfl, rfl, rfl, rfl⟩
          · have hc : ¬ 1 < nz op := of_decide_eq_false hc
            unfold stB; rw [if_neg hc]; exact ⟨rfl, rfl, rfl, rfl, rfl⟩
          · rintro _ _ _ _ _ ⟨rfl, rfl, rfl, rfl, rfl⟩
            rename_i op
            refine ⟨fun s e => s = (stB op t).2.1 ∧ e = endE op t, ⟨fun b => b = !rightB (insX op t), cond_intro (fun hc => ?_) fun hc => right_v _ _ rfl, ?_⟩, ?_⟩
            · rw [right_isOp (x := insX op t) (show isOp op = false by simpa using hc)]; rfl
            · rintro _ rfl
              refine cond_intro (fun hc => fail_v _ _ _ (by decide) _ ⟨rfl, ?_⟩) fun hc => ⟨rfl, ?_⟩
              · unfold endE; rw [if_neg (c := rightB (insX op t) = true) (by simpa using hc)]
              · unfold endE; rw [if_pos (c := rightB (insX op t) = true) (by simpa using hc)]
            · rintro _ _ ⟨rfl, rfl⟩
              have hol : out.length + 1 + (stB op t).2.1.length ≤ s.length := by omega
              refine ⟨by rw [List.length_singleton]; omega, ?_⟩
              cases ho : one16 (c :: t) with
              | error er =>
                rw [ho] at hg
                have := r2 er ho
                refine ⟨0, by omega, .inr ⟨?_, rfl, ?_⟩⟩
                · rw [this]; exact one_err ho
                · rw [this]; exact hg
              | ok v =>
                obtain ⟨x, t'⟩ := v
                rw [ho] at hg
                obtain ⟨g1, g2, g3⟩ := r1 x t' ho
                have := one_len ho
                rw [List.length_cons] at this
                refine ⟨t'.length + 1, by rw [List.length_cons]; omega, .inl ⟨g3, by rw [g2], ?_, ?_⟩⟩
                · rw [List.length_append, List.length_singleton]; omega
                · have hx : (⟨op, (stA op t).1, (stB op t).1⟩ : GIns) = x := g1
                  rw [hx, g2, hg]
                  exact all_fuel _ _ _ _ (by omega) (by omega)
    · refine cond_f (by simp [he]) (err_v _ _ _ (cond_t (by simpa using he) (h2 e hg he)))
/-! ## the document's reading -/
theorem drop_suffix {s x y : List UInt8} {i : Nat} (h : s.drop i = x ++ y) (hi : i ≤ s.length) : s.drop (s.length - y.length) = y ∧ s.length - y.length = i + x.length := by
  have hl := congrArg List.length h
  rw [List.length_drop, List.length_append] at hl
  have e : s.length - y.length = i + x.length := by omega
  refine ⟨?_, e⟩
  rw [e, ← List.drop_drop, h, List.drop_left]
theorem rget16_v (s : List UInt8) (hs : s.length ≤ 1000000) (K : GR16_Got → Prop) (h1 : ∀ l, get16 s = .ok l → K ⟨l, 0⟩) (h2 : ∀ e, get16 s = .error e → e ≠ 0 → K ⟨[], e⟩) : V_R16_Get s K := by
  refine R16_Get_lift _ _ ?_
  refine ⟨fun atx L E E1 n => E = 0 ∧ E1 = 0 ∧ ∃ p : Nat, atx = p ∧ p ≤ s.length ∧ n = s.length - p ∧ L.length + (s.length - p) ≤ s.length ∧ get16 s = all16 (s.length - p + 1) L (s.drop p), ⟨_, rfl, rfl, 0, rfl, by omega, rfl, by simp, rfl⟩, ?_⟩
  rintro _ L _ _ _ ⟨rfl, rfl, p, rfl, hp, rfl, hL, hg⟩
  refine cond_intro (fun hc => ?_) fun hc => ?_
  · have hc : p < s.length := by have := of_decide_eq_true hc; omega
    rw [Int.toNat_natCast, show s.getD p 0 = s[p] by simp [List.getD, hc]]
    rw [List.drop_eq_getElem_cons hc, show s.length - p = (s.length - (p + 1)) + 1 by omega, all_step] at hg
    have hcl := s[p].toNat_lt
    rw [wrap_in (n := (s[p].toNat : Int)) (by omega) (by omega)]
    generalize s[p] = c at hg hcl ⊢
    have hnz := nz_cases (c.toNat : Int)
    refine ⟨⟨by omega, by omega⟩, rnums_v _ _ ?_⟩
    rw [wrap_in (n := (p : Int) + 1) (by omega) (by omega)]
    refine ⟨fun q k x0 x1 E n => E = 0 ∧ ∃ q' j : Nat, q = q' ∧ k = j ∧ n = 2 - j ∧ q' ≤ s.length ∧ p < q' ∧ (j : Int) ≤ nz c.toNat ∧
      ((j = 0 ∧ q' = p + 1 ∧ x0 = 0 ∧ x1 = 0) ∨ (j = 1 ∧ ∃ a s1, dec 0 0 (s.drop (p + 1)) = .ok (a, s1) ∧ s.drop q' = s1 ∧ x0 = zagN a ∧ x1 = 0) ∨
       (j = 2 ∧ ∃ a s1 b s2, dec 0 0 (s.drop (p + 1)) = .ok (a, s1) ∧ dec 0 0 s1 = .ok (b, s2) ∧ s.drop q' = s2 ∧ x0 = zagN a ∧ x1 = zagN b)), ⟨_, rfl, p + 1, 0, by omega, rfl, rfl, by omega, by omega, by omega, .inl ⟨rfl, rfl, rfl, rfl⟩⟩, ?_⟩
    rintro _ _ x0 x1 _ _ ⟨rfl, q, j, rfl, rfl, rfl, hq, hpq, hj, hst⟩
    refine cond_intro (fun hd => ?_) fun hd => ?_
    · have hd : (j : Int) < nz c.toNat := of_decide_eq_true hd
      have hj2 : j < 2 := by omega
      refine rget_v s q hq (by omega) _ (fun u t hdec => ?_) fun er hdec => ?_
      · obtain ⟨b1, b2⟩ := dec_back0 hdec
        obtain ⟨d1, d2⟩ := drop_suffix b1 hq
        have := numF_pos u
        have hle : s.length - t.length ≤ s.length := Nat.sub_le _ _
        refine cond_f rfl (rzag_v u b2 _ ⟨⟨by omega, by omega⟩, 2 - (j + 1), by omega, rfl, s.length - t.length, j + 1, rfl, ?_, rfl, hle, by omega, by omega, ?_⟩)
        · rw [wrap_in (by omega) (by omega)]; omega
        · rw [Int.toNat_natCast]
          rcases hst with ⟨rfl, rfl, rfl, rfl⟩ | ⟨rfl, a, s1, g1, g2, rfl, rfl⟩ | ⟨rfl, _⟩
          · exact .inr (.inl ⟨rfl, u, t, hdec, d1, rfl, rfl⟩)
          · rw [g2] at hdec
            exact .inr (.inr ⟨rfl, a, s1, u, t, g1, hdec, d1, rfl, rfl⟩)
          · omega
      · have hne := dec_err _ _ _ _ hdec
        refine cond_t (by simpa using hne) (h2 er ?_ hne)
        rw [hg]
        rcases hst with ⟨rfl, rfl, rfl, rfl⟩ | ⟨rfl, a, s1, g1, g2, rfl, rfl⟩ | ⟨rfl, _⟩
        · simp only [one16]; rw [if_pos (by omega), hdec]
        · rw [g2] at hdec
          simp only [one16]; rw [if_pos (by omega), g1]
          simp only
          rw [if_pos (by omega), hdec]
        · omega
    · have hd : ¬ (j : Int) < nz c.toNat := of_decide_eq_false hd
      have hjn : (j : Int) = nz c.toNat := by omega
      have hone : one16 (c :: s.drop (p + 1)) = if rightB ⟨(c.toNat : Int), x0, x1⟩ then .ok (⟨(c.toNat : Int), x0, x1⟩, s.drop q) else .error 3 := by
        simp only [one16]
        rcases hst with ⟨rfl, rfl, rfl, rfl⟩ | ⟨rfl, a, s1, g1, g2, rfl, rfl⟩ | ⟨rfl, a, s1, b, s2, g1, g2, g3, rfl, rfl⟩
        · rw [if_neg (by omega)]
        · rw [if_pos (by omega), g1]
          simp only
          rw [if_neg (by omega), g2]
        · rw [if_pos (by omega), g1]
          simp only
          rw [if_pos (by omega), g2]
          simp only
          rw [g3]
      rw [hone] at hg
      refine ⟨fun o a b => o = (c.toNat : Int) ∧ a = x0 ∧ b = x1, ⟨⟨by omega, by omega⟩, ⟨by omega, by omega⟩, rfl, rfl, rfl⟩, ?_⟩
      rintro _ _ _ ⟨rfl, rfl, rfl⟩
      refine rright_v _ _ (cond_intro (fun hr => ?_) fun hr => ?_)
      · rw [if_neg (by simpa using hr)] at hg
        exact h2 3 hg (by decide)
      · rw [if_pos (by simpa using hr)] at hg
        refine ⟨by rw [List.length_singleton]; omega, s.length - q, by omega, rfl, rfl, q, rfl, hq, rfl, ?_, ?_⟩
        · rw [List.length_append, List.length_singleton]; omega
        · rw [hg]
          exact all_fuel _ _ _ _ (by rw [List.length_drop]; omega) (by rw [List.length_drop]; omega)
  · have hc : p = s.length := by have := of_decide_eq_false hc; omega
    refine h1 L ?_
    rw [hg, hc, List.drop_length]; simp [all16]
theorem same16_v (l : List GIns) (hl : l.length < 1000000000) (K : Bool → Prop) (h : K true) : V_R16_Same l l K := by
  refine R16_Same_lift _ _ _ (cond_f (by simp) ⟨fun i n => At l.length (fun _ => True) i n, ⟨_, At.start trivial⟩, ?_⟩)
  rintro _ _ ⟨k, rfl, hk, rfl, _⟩
  refine At.cond hk (fun hk => at_elem hk (at_elem hk (cond_f (by simp) (At.next (by omega) hk trivial)))) fun _ => h
theorem all_length : ∀ (n : Nat) (l m : List GIns) (s : List UInt8), all16 n l s = .ok m → m.length ≤ l.length + s.length
  | 0, _, _, _, h => by simp [all16] at h
  | n + 1, l, m, s, h => by
    simp only [all16] at h
    split at h
    · cases h; omega
    · split at h
      · cases h
      · rename_i x t ho
        have h1 := one_len ho
        have := all_length n _ m t h
        rw [List.length_append, List.length_singleton] at this
        omega
theorem InsGets_v (s : List UInt8) (K : Bool → Prop) (h : K true) : V_L16_InsGets s K := by
  refine L16_InsGets_lift _ _ (cond_intro (fun _ => live_v _ h) fun hc => ?_)
  have hs : s.length ≤ 600 := by simp at hc; omega
  cases hg : get16 s with
  | error e =>
    have key : ∀ e', get16 s = .error e' → e' = e := fun e' h' => by rw [hg] at h'; cases h'; rfl
    refine iget_v s (by omega) _ (fun l hl => (by rw [hg] at hl; cases hl)) fun e1 he1 hne => ?_
    rw [key e1 he1] at hne ⊢
    refine rget16_v s (by omega) _ (fun l hl => (by rw [hg] at hl; cases hl)) fun e2 he2 _ => ?_
    rw [key e2 he2]
    refine ⟨fun b => b = false, same16_v _ (by simp) _ (cond_f rfl (by simp)), ?_⟩
    rintro _ rfl
    exact cond_f rfl (cond_t (by simpa using hne) (live_v _ h))
  | ok l =>
    have hll := all_length _ _ _ _ hg
    rw [List.length_nil] at hll
    obtain ⟨k, hk, hsk, hkj⟩ := all_back _ _ _ _ hg
    rw [List.nil_append] at hk
    subst hk
    refine iget_v s (by omega) _ (fun l' hl => ?_) fun e1 he1 _ => (by rw [hg] at he1; cases he1)
    rw [hg] at hl; cases hl
    refine rget16_v s (by omega) _ (fun l' hl => ?_) fun e1 he1 _ => (by rw [hg] at he1; cases he1)
    rw [hg] at hl; cases hl
    refine ⟨fun b => b = false, same16_v _ (by omega) _ (cond_f rfl rfl), ?_⟩
    rintro _ rfl
    refine cond_f rfl (cond_f rfl (iput_v _ (by omega) hkj _ (cond_t ?_ (live_v _ h))))
    rw [← hsk]; simp
theorem InsBack_v (l : List GIns) (hj : ∀ x ∈ l, JIns x) (K : Bool → Prop) (h : K true) : V_L16_InsBack l K := by
  refine L16_InsBack_lift _ _ (cond_intro (fun _ => live_v _ h) fun hc => ?_)
  have hl : l.length ≤ 200 := by simp at hc; omega
  refine ⟨fun r i n => At l.length (fun k => r = (l.take k).filter rightB) i n, ⟨_, At.start rfl⟩, ?_⟩
  rintro _ _ _ ⟨k, rfl, hk, rfl, rfl⟩
  have hfl : ((l.take k).filter rightB).length ≤ 200 := Nat.le_trans (List.length_filter_le _ _) (by rw [List.length_take]; omega)
  refine At.cond hk (fun hk => ⟨fun r => r = (l.take (k + 1)).filter rightB, at_elem hk (rright_v _ _ (cond_intro (fun hr => at_elem hk ⟨by rw [List.length_singleton]; omega, ?_⟩) fun hr => ?_)), ?_⟩) fun hk => ?_
  · rw [filter_snoc _ hk, if_pos hr]
  · rw [filter_snoc _ hk, if_neg (by rw [hr]; decide), List.append_nil]
  · rintro _ rfl
    exact At.next (by omega) hk rfl
  · rw [hk, List.take_length] at hfl ⊢
    have hb := flat_len' hj
    refine iput_v l (by omega) hj _ (iget_v _ (by omega) _ (fun m hm => ?_) fun e he _ => ?_)
    · rw [get_put l hj] at hm; cases hm
      exact same16_v _ (by omega) _ (cond_t rfl (cond_t rfl (live_v _ h)))
    · rw [get_put l hj] at he; cases he
end Go.Proofs.YtknpbkajonmaoaaDoor
