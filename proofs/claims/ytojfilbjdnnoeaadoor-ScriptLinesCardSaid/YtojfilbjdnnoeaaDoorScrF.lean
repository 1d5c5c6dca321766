/- Script: the program's Line and All, the reference's All, and the laws. -/
import Derived.Test.YtojfilbjdnnoeaaDoorScrE
namespace Go.Proofs.YtojfilbjdnnoeaaDoor
open Go.Vc Go.Lv Go.Ty Go.Proofs Go.Sc Go.Sp

theorem j0 : J64s 0 := ⟨by decide, by decide⟩
theorem eqc (a b : GCommand) : (((a.kind == b.kind) && true) && (((a.n == b.n) && true) && (((a.break_.kind == b.break_.kind) && ((a.break_.n == b.break_.n) && true)) && true))) = decide (a = b) := by
  obtain ⟨k, n, ⟨p, q⟩⟩ := a
  obtain ⟨k', n', ⟨p', q'⟩⟩ := b
  rw [Bool.eq_iff_iff]
  simp
theorem find_v (x : GCommand) (K : Int → Prop) (h1 : ∀ i : Nat, ∀ h : i < FL.length, FL[i].kind = x.kind → K i) (h2 : (∀ i : Nat, ∀ h : i < FL.length, FL[i].kind ≠ x.kind) → K (-1)) : V_slices_IndexFunc_Slscript_form_script_form_script_Line_1 FL x K := by
  refine slices_IndexFunc_Slscript_form_script_form_script_Line_1_lift _ _ _ ⟨fun i n => At FL.length (fun k => ∀ j, j < k → ∀ h : j < FL.length, FL[j].kind ≠ x.kind) i n, ⟨_, At.start (fun j hj => by omega)⟩, ?_⟩
  rintro _ _ ⟨k, rfl, hk, rfl, hne⟩
  refine At.cond hk (fun hlt => at_elem hlt (script_Line_1_lift _ _ _ (cond_intro (fun hc => ?_) fun hc => ?_))) fun he => ?_
  · exact h1 k hlt (eq_of_beq hc)
  · refine At.next (by decide) hlt fun j hj hjl => ?_
    by_cases hjk : j = k
    · subst hjk; intro h; rw [h] at hc; simp at hc
    · exact hne j (by omega) hjl
  · subst he; exact h2 fun i h => hne i h h
theorem FL_kind (i : Nat) (h : i < FL.length) : FL[i].kind = (i : Int) + 1 ∧ FL[i].word = kdW ((i : Int) + 1) ∧ FL[i].args = if i = 4 then 1 else if i = 5 ∨ i = 6 then 2 else 0 := by
  have h8 : i < 8 := h
  match i, h8 with
  | 0, _ => exact ⟨rfl, rfl, rfl⟩
  | 1, _ => exact ⟨rfl, rfl, rfl⟩
  | 2, _ => exact ⟨rfl, rfl, rfl⟩
  | 3, _ => exact ⟨rfl, rfl, rfl⟩
  | 4, _ => exact ⟨rfl, rfl, rfl⟩
  | 5, _ => exact ⟨rfl, rfl, rfl⟩
  | 6, _ => exact ⟨rfl, rfl, rfl⟩
  | 7, _ => exact ⟨rfl, rfl, rfl⟩
/-- what is written is read as R: it is the command's line just if R is the command -/
def Out (x : GCommand) (out : List (List UInt8)) : Prop := ∃ R : GCommand, lineF R = some (Lib.join out [32]) ∧ Jc R ∧ out.length ≤ 3 ∧ (R ≠ x → lineF x = none)
theorem line_v (x : GCommand) (hx : Jc x) (K : List UInt8 → Bool → Prop) (h : K ((lineF x).getD []) (lineF x).isSome) : V_script_Line x K := by
  refine script_Line_lift _ _ (forms_v _ (find_v x _ (fun i hi hk => ?_) fun hno => ?_))
  · obtain ⟨f1, f2, f3⟩ := FL_kind i hi
    rw [f1] at hk
    refine cond_f (by rw [decide_eq_false]; omega) (forms_v _ (at_elem hi ⟨fun out => Out x out, ?_, ?_⟩))
    · rw [f2, f3]
      have hi8 : i < 8 := hi
      by_cases h4 : i = 4
      · subst h4
        refine cond_t rfl (itoa_sv _ hx.1 _ ⟨by simp, ?_⟩)
        refine ⟨⟨5, x.n, ⟨0, 0⟩⟩, ?_, ⟨hx.1, j0⟩, by simp, fun hne => ?_⟩
        · rw [show lineF ⟨5, x.n, ⟨0, 0⟩⟩ = some (wTo ++ 32 :: Lib.itoa x.n) from rfl]
          show some _ = some (Lib.join [wTo, Lib.itoa x.n] [32])
          simp [Lib.join, List.intercalate]
        unfold lineF
        have hk5 : x.kind = 5 := hk.symm
        rw [if_neg (by omega), if_pos hk5, if_neg]
        intro hb
        refine hne ?_
        obtain ⟨k, n, b⟩ := x
        cases hk5; cases hb; rfl
      · rw [if_neg h4]
        by_cases h56 : i = 5 ∨ i = 6
        · rw [if_pos h56]
          refine cond_f rfl (cond_t rfl ⟨fun q => q = decide (x.break_.kind < 1 ∨ x.break_.kind > 3), cond_intro (fun hc => ?_) (fun hc => ?_), ?_⟩)
          · show true = _
            have := of_decide_eq_true hc
            rw [decide_eq_true (.inl this)]
          · show _ = _
            have := of_decide_eq_false hc
            rw [Bool.eq_iff_iff]; simp; omega
          · rintro _ rfl
            have hk67 : x.kind = 6 ∨ x.kind = 7 := by omega
            refine cond_intro (fun hc => ?_) fun hc => ?_
            · have hc := of_decide_eq_true hc
              have : lineF x = none := by
                unfold lineF
                rw [if_neg (by omega), if_neg (by omega), if_pos hk67, if_neg (by omega)]
              rw [this] at h; exact h
            · have hc := of_decide_eq_false hc
              refine kinds_v _ ⟨⟨by omega, by simp only [List.length_cons, List.length_nil]; omega⟩, fun x6 hx6 => itoa_sv _ hx.2 _ ⟨by simp, ?_⟩⟩
              have h6 : x6 = kw x.break_.kind := by
                obtain e | e | e : x.break_.kind = 1 ∨ x.break_.kind = 2 ∨ x.break_.kind = 3 := by omega
                all_goals (rw [e] at hx6 ⊢; cases hx6; rfl)
              subst h6
              refine ⟨⟨x.kind, 0, x.break_⟩, ?_, ⟨j0, hx.2⟩, by simp, fun hne => ?_⟩
              · unfold lineF
                dsimp only
                rw [if_neg (by omega), if_neg (by omega), if_pos hk67, if_pos ⟨by omega, rfl⟩, hk]
                simp [Lib.join, List.intercalate]
              · unfold lineF
                rw [if_neg (by omega), if_neg (by omega), if_pos hk67, if_neg]
                rintro ⟨_, hn⟩
                refine hne ?_
                obtain ⟨k, n, b⟩ := x
                cases hn; rfl
        · rw [if_neg h56]
          have hk' : x.kind = 1 ∨ x.kind = 2 ∨ x.kind = 3 ∨ x.kind = 4 ∨ x.kind = 8 := by omega
          refine cond_f rfl (cond_f rfl ⟨z x.kind, ?_, ⟨j0, j0⟩, by simp, fun hne => ?_⟩)
          · unfold lineF z
            dsimp only
            rw [if_pos hk', if_pos ⟨rfl, rfl⟩, hk]
            simp [Lib.join_one]
          · unfold lineF
            rw [if_pos hk', if_neg]
            rintro ⟨hb, hn⟩
            refine hne ?_
            obtain ⟨k, n, b⟩ := x
            cases hb; cases hn; rfl
    · rintro out ⟨R, hR, jR, hlen, hne⟩
      obtain ⟨r1, _, r3⟩ := read_line R jR hR
      refine join_v out [32] (by omega) (by omega) _ (read_v _ (by omega) _ ?_)
      rw [r1]
      refine ⟨fun q => q = !decide (R = x), cond_f rfl (by show _ = _; rw [eqc]), ?_⟩
      rintro _ rfl
      by_cases he : R = x
      · subst he
        rw [hR] at h
        rw [decide_eq_true rfl]; exact h
      · rw [hne he] at h
        rw [decide_eq_false he]; exact h
  · refine cond_t (by decide) ?_
    have : lineF x = none := by
      have e : ∀ j : Nat, j < 8 → x.kind ≠ (j : Int) + 1 := fun j hj hx => hno j hj ((FL_kind j hj).1.trans hx.symm)
      have e0 := e 0 (by decide)
      have e1 := e 1 (by decide)
      have e2 := e 2 (by decide)
      have e3 := e 3 (by decide)
      have e4 := e 4 (by decide)
      have e5 := e 5 (by decide)
      have e6 := e 6 (by decide)
      have e7 := e 7 (by decide)
      unfold lineF
      rw [if_neg (by omega), if_neg (by omega), if_neg (by omega)]
    rw [this] at h; exact h
theorem live_v (K : Bool → Prop) (h : K true) : V_L44_live K := by
  have hr : readL (ws none [98, 114, 101, 97, 107, 32, 99, 104, 97, 110, 32, 50]) = (⟨6, 0, ⟨2, 2⟩⟩, 0) := by decide +kernel
  refine L44_live_lift _ (read_v _ (by decide) _ ?_)
  rw [hr]
  refine line_v _ ⟨by constructor <;> decide, by constructor <;> decide⟩ _ ?_
  have hl : lineF ⟨6, 0, ⟨2, 2⟩⟩ = some [98, 114, 101, 97, 107, 32, 99, 104, 97, 110, 32, 50] := by
    have : Lib.itoa 2 = [50] := by
      unfold Lib.itoa
      rw [if_neg (by decide), show (2 : Int).toNat = 2 from rfl, Lib.decDigits_one (by decide)]; rfl
    unfold lineF
    dsimp only
    rw [this]; rfl
  rw [hl]
  exact h
theorem ScriptLines_v (x : GCommand) (hx : Jc x) (K : Bool → Prop) (h : K true) : V_L44_ScriptLines x K := by
  refine L44_ScriptLines_lift _ _ (line_v x hx _ (rline_v x hx _ ?_))
  cases hl : lineF x with
  | none => exact cond_f rfl (cond_t rfl (live_v _ h))
  | some s =>
    obtain ⟨r1, r2, r3⟩ := read_line x hx hl
    refine cond_f ?_ (cond_f rfl (read_v _ (by show s.length < _; omega) _ ?_))
    · show ((!(s == s)) || (!(true == (!(s == []))))) = false
      rw [show (s == []) = false by simpa using r2]; simp
    · show cond _ _ _
      change K true at h
      have r1' : readL (ws none ((some s).getD [])) = (x, 0) := r1
      rw [r1', eqc, decide_eq_true rfl]
      exact live_v _ h
theorem ScriptReads_v (s : List UInt8) (K : Bool → Prop) (h : K true) : V_L44_ScriptReads s K := by
  refine L44_ScriptReads_lift _ _ (cond_intro (fun _ => live_v _ h) fun hc => ?_)
  have hs : s.length < 1000000 := by simp at hc; omega
  refine read_v _ hs _ (rread_v _ hs _ ?_)
  refine cond_t (by rw [eqc]; exact decide_eq_true rfl) (cond_t (by simp) (live_v _ h))

/-! ## all lines -/
def skipL : List (List UInt8) → Bool
  | [] => true
  | x :: _ => x.getD 0 0 == 35
def allF : Int → List (List UInt8) → List GCommand → List GCommand × Int × Int
  | n, [], out => (out, n - 1, 0)
  | n, x :: r, out => if skipL (ws none x) then allF (n + 1) r out else if (readL (ws none x)).2 ≠ 0 then ([], n, (readL (ws none x)).2) else allF (n + 1) r (out ++ [(readL (ws none x)).1])
theorem lensum_mem : ∀ (l : List (List UInt8)) (x : List UInt8), x ∈ l → (x.length : Int) + 1 ≤ lensum l
  | y :: l, x, h => by
    have hn := lensum_nn l
    rcases List.mem_cons.1 h with rfl | h
    · rw [lensum]; omega
    · have := lensum_mem l x h
      rw [lensum]; omega
theorem lns_mem {s x : List UInt8} (h : x ∈ lns s) : x.length ≤ s.length := by
  have h1 := lensum_mem _ _ h
  rw [lensum_lns] at h1
  omega
theorem lns_le (s : List UInt8) : (lns s).length ≤ s.length + 1 := by
  have := List.count_le_length (a := (10 : UInt8)) (l := s)
  rw [lns_len]; omega
theorem enumF_nil {k : Int} {l : List (List UInt8)} (h : enumF k l = []) : l = [] := by
  cases l with
  | nil => rfl
  | cons a l => simp [enumF] at h
theorem enumF_length : ∀ (l : List (List UInt8)) (k : Int), (enumF k l).length = l.length
  | [], k => rfl
  | x :: l, k => by simp [enumF, enumF_length l (k + 1)]
theorem skip_v (l : List (List UInt8)) (hne : ∀ x ∈ l, x ≠ []) (J : Bool → Prop) (h : J (skipL l)) : cond ((l.length : Int) == 0) (J true) (((0 : Int) ≤ 0 ∧ 0 < (l.length : Int)) ∧ ∀ x5, l[0]? = some x5 → ((0 : Int) ≤ 0 ∧ 0 < (x5.length : Int)) ∧ J (((x5.getD 0 0).toNat : Int) == 35)) := by
  cases l with
  | nil => exact cond_t rfl h
  | cons x l =>
    refine cond_f (by rw [Bool.eq_false_iff]; simp; omega) ⟨⟨by omega, by simp only [List.length_cons]; omega⟩, fun x5 h5 => ?_⟩
    obtain rfl : x5 = x := by simpa using h5.symm
    have := List.length_pos_iff.2 (hne x5 (by simp))
    refine ⟨⟨by omega, by omega⟩, ?_⟩
    rw [show (((x5.getD 0 0).toNat : Int) == 35) = (x5.getD 0 0 == 35) from i_eq _ 35 (by decide)]; exact h
theorem pall_v (s : List UInt8) (hs : s.length ≤ 600) (K : List GCommand → Int → Int → Prop) (h : K (allF 1 (lns s) []).1 (allF 1 (lns s) []).2.1 (allF 1 (lns s) []).2.2) : V_script_All s K := by
  have hll := lns_le s
  refine script_All_lift _ _ (spot_Each_lift _ _ ⟨enumF 1 (lns s), each_it s (by omega), ?_⟩)
  refine ⟨fun pre v1 _ _ _ => ∃ (k : Nat) (post : List (List UInt8)), pre ++ enumF (k + 1) post = enumF 1 (lns s) ∧ pre.length = k ∧ allF (k + 1) post v1 = allF 1 (lns s) [] ∧ v1.length ≤ k ∧ (∀ x ∈ post, x ∈ lns s), ⟨0, lns s, by simp, rfl, by simp, by simp, fun _ h => h⟩, ?_, ?_⟩
  · rintro pre x x1 v1 _ _ _ hpre ⟨k, post, hp, hk, ha, hv, hm⟩
    obtain ⟨t, ht⟩ := hpre
    rw [← hp, List.append_assoc] at ht
    have ht' := List.append_cancel_left ht
    cases post with
    | nil => simp [enumF] at ht'
    | cons y r =>
      simp only [enumF, List.cons_append, List.cons.injEq, Prod.mk.injEq] at ht'
      obtain ⟨⟨rfl, rfl⟩, ht''⟩ := ht'
      have hx1 := lns_mem (hm x1 (by simp))
      have hkl : k + 1 ≤ (lns s).length := by
        have := congrArg List.length hp
        rw [List.length_append, enumF_length, enumF_length] at this
        simp at this; omega
      have nexts : ∀ v : List GCommand, v.length ≤ k + 1 → allF ((k : Int) + 1 + 1) r v = allF 1 (lns s) [] → ∃ (k' : Nat) (post : List (List UInt8)), (pre ++ [((k : Int) + 1, x1)]) ++ enumF (k' + 1) post = enumF 1 (lns s) ∧ (pre ++ [((k : Int) + 1, x1)]).length = k' ∧ allF (k' + 1) post v = allF 1 (lns s) [] ∧ v.length ≤ k' ∧ (∀ x ∈ post, x ∈ lns s) :=
        fun v hv hv2 => ⟨k + 1, r, by rw [← hp, List.append_assoc]; rfl, by simp; omega, hv2, hv, fun x hx => hm x (List.mem_cons_of_mem _ hx)⟩
      simp only [allF] at ha
      refine words_v x1 (by omega) _ ⟨fun q => q = skipL (ws none x1), skip_v _ (ws_ne x1 none (by simp)) (fun q => q = skipL (ws none x1)) rfl, ?_⟩
      rintro _ rfl
      refine cond_intro (fun hc => ?_) fun hc => ?_
      · rw [if_pos hc] at ha
        exact nexts v1 (by omega) ha
      · rw [if_neg (by rw [hc]; simp)] at ha
        refine read_v x1 (by omega) _ (cond_intro (fun he => ?_) fun he => ?_)
        · have he' : (readL (ws none x1)).2 ≠ 0 := by simpa using he
          rw [if_pos he'] at ha
          rw [← ha] at h; exact h
        · have he' : ¬ (readL (ws none x1)).2 ≠ 0 := by simpa using he
          rw [if_neg he'] at ha
          exact ⟨by simp only [List.length_cons, List.length_nil]; omega, nexts _ (by simp; omega) ha⟩
  · rintro v1 _ _ _ ⟨k, post, hp, hk, ha, hv, hm⟩
    have h0 : enumF ((k : Int) + 1) post = [] := List.append_right_eq_self.1 hp
    obtain rfl := enumF_nil h0
    rw [enumF_length] at hk
    simp only [allF] at ha
    rw [← ha] at h
    refine lines_v s (by omega) _ ?_
    have : ((s.count 10 : Nat) : Int) + 1 = (k : Int) + 1 - 1 := by rw [← hk, lns_len]; omega
    rw [this]; exact h
theorem rallc_v (s : List UInt8) (hs : s.length ≤ 600) (K : GR44_List → Prop) (h : K ⟨(allF 1 (lns s) []).1, (allF 1 (lns s) []).2.1, (allF 1 (lns s) []).2.2⟩) : V_R44_All s K := by
  have hll := lns_le s
  refine R44_All_lift _ _ (all_v s hs _ ?_)
  have hm : ∀ x ∈ lns s, x.length ≤ 600 := fun x hx => by have := lns_mem hx; omega
  generalize lns s = l at h hll hm
  refine ⟨fun i L A E _ _ _ n => At l.length (fun k => allF ((k : Int) + 1) (l.drop k) L = allF 1 l [] ∧ L.length ≤ k ∧ A = l.length ∧ E = 0) i n, ⟨_, At.start ⟨by simp, by simp, rfl, rfl⟩⟩, ?_⟩
  rintro _ L _ _ _ _ _ _ ⟨k, rfl, hk, rfl, ha, hL, rfl, rfl⟩
  refine At.cond hk (fun hlt => ?_) fun he => ?_
  · have hw1 : IntKind.i64.wrap ((k : Int) + 1) = (k : Int) + 1 := wrap_in (by omega) (by omega)
    refine ⟨fun L A E _ _ _ => allF ((k : Int) + 1 + 1) (l.drop (k + 1)) L = allF 1 l [] ∧ L.length ≤ k + 1 ∧ A = l.length ∧ E = 0, ?_, ?_⟩
    · have hx6 := hm l[k] (List.getElem_mem _)
      rw [List.drop_eq_getElem_cons hlt] at ha
      simp only [allF] at ha
      refine at_elem hlt (rwords_v _ (by omega) _ ⟨fun q => q = skipL (ws none l[k]), ?_, ?_⟩)
      · have hne := ws_ne l[k] none (by simp)
        generalize ws none l[k] = W at hne
        cases W with
        | nil => exact cond_t rfl rfl
        | cons x W =>
          refine cond_f (by rw [Bool.eq_false_iff]; simp; omega) ⟨⟨by omega, by simp only [List.length_cons]; omega⟩, fun x2 h2 => ?_⟩
          obtain rfl : x2 = x := by simpa using h2.symm
          have hx2 := hne x2 (by simp)
          cases x2 with
          | nil => exact absurd rfl hx2
          | cons b y =>
            refine ⟨⟨by omega, by simp only [List.length_cons]; omega⟩, ?_⟩
            show _ = (b == 35)
            rw [Bool.eq_iff_iff]; simp
      · rintro _ rfl
        refine cond_intro (fun hc => ?_) fun hc => at_elem hlt (rread_v _ (by omega) _ (cond_intro (fun he => ?_) fun he => ?_))
        · rw [if_pos hc] at ha
          exact ⟨ha, by omega, rfl, rfl⟩
        · have he' : (readL (ws none l[k])).2 ≠ 0 := by simpa using he
          rw [if_neg (by rw [hc]; simp), if_pos he'] at ha
          rw [← ha] at h
          rw [hw1]; exact h
        · have he' : ¬ (readL (ws none l[k])).2 ≠ 0 := by simpa using he
          rw [if_neg (by rw [hc]; simp), if_neg he'] at ha
          exact ⟨by simp only [List.length_cons, List.length_nil]; omega, ha, by simp; omega, rfl, rfl⟩
    · rintro L2 _ _ _ _ _ ⟨h1, h2, rfl, rfl⟩
      exact At.next (by omega) hlt ⟨by rw [show ((k + 1 : Nat) : Int) + 1 = (k : Int) + 1 + 1 by omega]; exact h1, h2, rfl, rfl⟩
  · subst he
    rw [List.drop_length] at ha
    simp only [allF] at ha
    rw [← ha] at h
    dsimp only at h
    rw [show (l.length : Int) + 1 - 1 = l.length by omega] at h
    exact h
theorem allF_len : ∀ (l : List (List UInt8)) (n : Int) (out : List GCommand), (allF n l out).1.length ≤ out.length + l.length
  | [], n, out => by simp [allF]
  | x :: r, n, out => by
    simp only [allF]
    split
    · have := allF_len r (n + 1) out
      simp only [List.length_cons]; omega
    · split
      · simp
      · have := allF_len r (n + 1) (out ++ [(readL (ws none x)).1])
        simp only [List.length_append, List.length_cons, List.length_nil] at this ⊢; omega
theorem ScriptAll_v (s : List UInt8) (K : Bool → Prop) (h : K true) : V_L44_ScriptAll s K := by
  refine L44_ScriptAll_lift _ _ (cond_intro (fun _ => live_v _ h) fun hc => ?_)
  have hs : s.length ≤ 600 := by simp at hc; omega
  refine pall_v s hs _ (rallc_v s hs _ ?_)
  have hl := allF_len (lns s) 1 []
  have hll := lns_le s
  generalize allF 1 (lns s) [] = R at hl
  obtain ⟨l, a, e⟩ := R
  dsimp only at hl ⊢
  have hlt : l.length < 4611686018427387904 := by simp at hl; omega
  refine ⟨fun b => b = false, cond_f (by simp) (cond_f (by simp) (by show _ = _; simp)), ?_⟩
  rintro _ rfl
  refine cond_f rfl ⟨fun i n => At l.length (fun _ => True) i n, ⟨_, At.start trivial⟩, ?_⟩
  rintro _ _ ⟨k, rfl, hk, rfl, _⟩
  refine At.cond hk (fun hlk => ⟨fun b => b = false, at_elem hlk (at_elem hlk ?_), ?_⟩) fun _ => live_v _ h
  · show _ = _
    rw [eqc, decide_eq_true rfl]; rfl
  · rintro _ rfl
    exact At.next hlt hlk trivial
theorem ScriptLines_spec (x : GCommand) (hx : Jc x) (cs : Array Value) (w : World) (hh : Go.Lv.held.T w) (hc : cGCommand.rep [] w x cs.toList) :
    Calls Tryd.prog 3 #[.agg cs] w (Ret fun v w' => v = .bool true ∧ Ext w w') := by
  refine call_then (ScriptLines_v x hx (· = true) rfl [] w (MOk.nil hh) cs.toList hc) ?_
  rintro _ _ ⟨_, rfl, rfl, k⟩
  exact ⟨rfl, k.ext⟩
theorem ScriptReads_spec (s : ByteArray) (w : World) (hh : Go.Lv.held.T w) :
    Calls Tryd.prog 4 #[.string s] w (Ret fun v w' => v = .bool true ∧ Ext w w') := by
  refine call_then (ScriptReads_v (sl s) (· = true) rfl [] w (MOk.nil hh)) ?_
  rintro _ _ ⟨_, rfl, rfl, k⟩
  exact ⟨rfl, k.ext⟩
theorem ScriptAll_spec (s : ByteArray) (w : World) (hh : Go.Lv.held.T w) :
    Calls Tryd.prog 5 #[.string s] w (Ret fun v w' => v = .bool true ∧ Ext w w') := by
  refine call_then (ScriptAll_v (sl s) (· = true) rfl [] w (MOk.nil hh)) ?_
  rintro _ _ ⟨_, rfl, rfl, k⟩
  exact ⟨rfl, k.ext⟩
end Go.Proofs.YtojfilbjdnnoeaaDoor
