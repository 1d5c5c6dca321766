/- Script: the library's contracts (FieldsFunc, Join), words and numbers as calls. -/
import Derived.Test.YtojfilbjdnnoeaaDoorScrB
import Derived.Test.YtojfilbjdnnoeaaDoorScrS
import Derived.Test.YtojfilbjdnnoeaaDoorWds
import Derived.Test.YtojfilbjdnnoeaaDoorNum
namespace Go.Proofs.YtojfilbjdnnoeaaDoor
open Go.Vc Go.Lv Go.Ty Go.Proofs Go.Sc

theorem extra156 : Builder.Extra Tryd.prog Tryd.lays156_ren where
  sizeBuilder := by kernel_rfl
  liesBuilder := by kernel_rfl
  t5 := Tryd.underlying5
  a5 := Tryd.isAgg5
  z5 := Tryd.sizeOf5
  v5 := Tryd.zeroValue5
  infoByte := by kernel_rfl
  cellsByte := by kernel_rfl
  sizeByte := by kernel_rfl
  neB5 := by decide
theorem el_strs {m : List Nat} {w : World} : ∀ {l : List (List UInt8)} {xs : List Value}, El cStr m w l xs → xs = l.map fun s => .string (mkS s)
  | [], _, ⟨css, rfl, h⟩ => by cases css with | nil => rfl | cons => exact h.elim
  | n :: l, _, ⟨css, rfl, h⟩ => by
    cases css with
    | nil => exact h.elim
    | cons cs css =>
      have h1 : cs = [.string (mkS n)] := h.1
      have := el_strs (l := l) ⟨css, rfl, h.2⟩
      rw [List.flatten_cons, this, h1]; rfl
theorem map_mk (l : List (List UInt8)) : (l.map mkS).map (·.data.toList) = l := by
  rw [List.map_map]
  exact List.map_id l
theorem below_keep {w w' : World} (h : RowKit.Below w.heap.size w w') : Keep [] w w' := Keep.ofExt h
theorem join_v (l : List (List UInt8)) (sep : List UInt8) (hn : l.length ≤ 140737488355328) (hl : (Lib.join l sep).length ≤ 140737488355328) (K : List UInt8 → Prop) (h : K (Lib.join l sep)) : V_strings_Join l sep K := by
  intro m w _ A C hle hs
  cases l with
  | nil =>
    have hc := Any.strings_Join_none Tryd.lays156 extra156 A C (mkS sep) w
    change Calls Tryd.prog 18 _ _ _ at hc
    refine hc.mono ?_
    rintro e w' ⟨rfl, rfl⟩
    exact ⟨[], h, rfl, Keep.refl _ _⟩
  | cons x l =>
    rcases hs with hs | ⟨p, xs, rfl, _, hat, hel⟩
    · cases hs
    have hxs := el_strs hel
    subst hxs
    have c0 := hat 0 (by simp)
    obtain ⟨bk, o, sp⟩ := p
    have hsp : sp = none := by simpa [Addr.add] using cell_spot c0
    subst hsp
    have hlt : bk < w.heap.size := by have := cell_lt c0; rwa [add_mk] at this
    have hc := Any.strings_Join Tryd.lays156 extra156 bk o C ((x :: l).map mkS) (mkS sep) w (fun j y hy => by
      rw [List.getElem?_map] at hy
      obtain ⟨z, hz, rfl⟩ := Option.map_eq_some_iff.1 hy
      obtain ⟨hj, rfl⟩ := List.getElem?_eq_some_iff.1 hz
      have := hat j (by rw [List.length_map]; exact hj)
      rw [add_mk, List.getElem_map] at this
      exact this) hlt (by rw [List.length_map]; exact hn) (by rw [List.length_map]; exact hle) (by rw [map_mk]; exact hl)
    rw [map_mk, List.length_map] at hc
    change Calls Tryd.prog 18 _ _ _ at hc
    refine hc.mono ?_
    rintro e w' ⟨rfl, hb⟩
    exact ⟨_, h, rfl, below_keep hb⟩

theorem pred1 (w : World) : PredAtRunes Tryd.prog 35 #[] pW w := fun W x hx _ => by
  have h := script_words_1_ok (x : Int) (fun v w' => v = .bool (pW x) ∧ w' = W) W (fun _ => ⟨by
    congr 1
    unfold pW
    have e : ∀ k : Nat, ((x : Int) == (k : Int)) = (x == k) := fun k => by rw [Bool.eq_iff_iff, beq_iff_eq, beq_iff_eq]; omega
    have e1 := e 32
    have e2 := e 9
    have e3 := e 13
    simp only [Int.cast_ofNat_Int] at e1 e2 e3
    rw [e1, e2, e3, Bool.or_assoc], rfl⟩)
  refine h.mono fun e w' hr => ?_
  cases e with
  | panicked c => exact hr.elim
  | outgrown => exact hr.elim
  | returned v => obtain ⟨rfl, rfl⟩ := hr; exact ⟨rfl, 0, rfl⟩
theorem rows_sl {w w' : World} {A e : Nat} {B : List ByteArray} {l : List (List UInt8)} {m : List Nat} (hl : B.map (·.data.toList) = l) (hm : ∀ b ∈ m, b < w.heap.size) (hA : w.heap.size ≤ A)
    (ho : w'.ownsRow w.heap.size e 1 (.slice (some ⟨A, 0, none⟩) B.length B.length) B.length (B.map Value.string)) : SlR cStr m w' (some ⟨A, 0, none⟩) l := by
  refine .inr ⟨⟨A, 0, none⟩, B.map Value.string, rfl, fun hb => (by have h2 : A < w.heap.size := hm _ hb; omega), fun j hj => ?_, ?_⟩
  · exact World.ownsRow.cells ho (g := A) rfl j _ (List.getElem?_eq_getElem hj)
  · subst hl
    clear ho
    induction B with
    | nil => exact El.nil _ _ _
    | cons s B ih => exact El.cons (cs := [.string s]) rfl ih
theorem fields_v (s : List UInt8) (hs : s.length < 1000000) (K : List (List UInt8) → Prop) (h : K (ws none s)) : V_strings_FieldsFunc_script_words_1 s K := by
  intro m w hm
  have hc := Any.strings_FieldsFunc_runes Tryd.lays229 35 #[] (enters_of Tryd.func35 (by kernel_rfl) rfl) pW (mkS s) w (by show s.length ≤ _; omega) (pred1 w) (by kernel_rfl) (by kernel_rfl)
  change Calls Tryd.prog 34 _ _ _ at hc
  refine hc.mono ?_
  rintro e w' ⟨A, rfl, hA, ho, hb⟩
  have hl : (Lib.goFieldsP pW (mkS s)).map (·.data.toList) = ws none s := fields_ws (mkS s)
  have hlen : (ws none s).length = (Lib.goFieldsP pW (mkS s)).length := by rw [← hl, List.length_map]
  rw [← hlen] at ho ⊢
  exact ⟨ws none s, h, ⟨_, _, rfl, Nat.le_refl _, rows_sl hl hm.lt hA (by rw [hlen] at ho; exact ho)⟩, Keep.ofExt hb⟩
theorem words_v (s : List UInt8) (hs : s.length < 1000000) (K : List (List UInt8) → Prop) (h : K (ws none s)) : V_script_words s K :=
  script_words_lift _ _ (fields_v s hs _ h)

theorem num_cases (s : List UInt8) (hs : s.length < 1000000) (F : Int → GCommand) (K : Bool → GCommand → Prop) (h1 : ∀ v, numF s = some v → K true (F v)) (h2 : numF s = none → ∀ v, K false (F v)) :
    V_strconv_Atoi s (fun r r1 => isIfc r1 = true ∧ cond (isNilI r1) (V_strconv_Itoa r (fun x => K (x == s) (F r))) (K false (F r))) := by
  refine atoi_sv s hs _ (fun v hv => ⟨rfl, ?_⟩) fun n t p hn hno => ⟨rfl, ?_⟩
  · show V_strconv_Itoa _ _
    refine itoa_sv v (atoi_js hv) _ ?_
    by_cases he : Lib.itoa v = s
    · have hj := atoi_js hv
      have := numF_itoa hj.1 hj.2
      rw [he] at this
      rw [he, beq_self_eq_true]
      exact h1 v this
    · rw [beq_false_of_ne he]
      refine h2 ?_ _
      cases hn : numF s with
      | none => rfl
      | some u =>
        obtain ⟨e1, b1, b2⟩ := itoa_numF hn
        have := Go.Tx.atoi_itoa b1 b2
        rw [e1, hv] at this
        cases this
        exact absurd e1 he
  · show K false _
    refine h2 ?_ _
    cases hn' : numF s with
    | none => rfl
    | some u =>
      obtain ⟨e1, b1, b2⟩ := itoa_numF hn'
      have := Go.Tx.atoi_itoa b1 b2
      rw [e1] at this
      exact absurd this (hno u)
theorem number1_v (s : List UInt8) (hs : s.length < 1000000) (x : GCommand) (K : Bool → GCommand → Prop) (h1 : ∀ v, numF s = some v → K true ⟨x.kind, v, x.break_⟩) (h2 : numF s = none → ∀ v, K false ⟨x.kind, v, x.break_⟩) : V_script_number_f1 s x K :=
  script_number_f1_lift _ _ _ (num_cases s hs (fun v => ⟨x.kind, v, x.break_⟩) K h1 h2)
theorem number3_v (s : List UInt8) (hs : s.length < 1000000) (x : GCommand) (K : Bool → GCommand → Prop) (h1 : ∀ v, numF s = some v → K true ⟨x.kind, x.n, ⟨x.break_.kind, v⟩⟩) (h2 : numF s = none → ∀ v, K false ⟨x.kind, x.n, ⟨x.break_.kind, v⟩⟩) : V_script_number_f3 s x K :=
  script_number_f3_lift _ _ _ (num_cases s hs (fun v => ⟨x.kind, x.n, ⟨x.break_.kind, v⟩⟩) K h1 h2)

theorem isWI (b : UInt8) : (((b.toNat : Int) == 32) || (((b.toNat : Int) == 9) || ((b.toNat : Int) == 13))) = isW b := by
  rw [isW_n]
  unfold pW
  have e : ∀ k : Nat, ((b.toNat : Int) == (k : Int)) = (b.toNat == k) := fun k => by rw [Bool.eq_iff_iff, beq_iff_eq, beq_iff_eq]; omega
  have e1 := e 32
  have e2 := e 9
  have e3 := e 13
  simp only [Int.cast_ofNat_Int] at e1 e2 e3
  rw [e1, e2, e3, Bool.or_assoc]
theorem rwords_v (s : List UInt8) (hs : s.length < 1000000) (K : List (List UInt8) → Prop) (h : K (ws none s)) : V_R44_Words s K := by
  refine R44_Words_lift _ _ ⟨fun out openx i n => ∃ (j : Nat) (cl : List (List UInt8)) (cur : Option (List UInt8)), i = j ∧ j ≤ s.length ∧ n = s.length - j ∧ out = cl ++ cur.toList ∧ openx = cur.isSome ∧ ws none s = cl ++ ws cur (s.drop j) ∧ out.length ≤ j ∧ (∀ c, cur = some c → c.length ≤ j),
    ⟨_, 0, [], none, rfl, by omega, rfl, rfl, rfl, by simp, by simp, by simp⟩, ?_⟩
  rintro _ _ _ _ ⟨j, cl, cur, rfl, hj, rfl, rfl, rfl, hw, hol, hcl⟩
  refine cond_intro (fun hc => ?_) fun hc => ?_
  · have hlt : j < s.length := by simpa using hc
    have hd : s.drop j = s.getD j 0 :: s.drop (j + 1) := by rw [List.drop_eq_getElem_cons hlt]; simp [List.getD, hlt]
    have hb : (0 : Int) ≤ (j : Int) ∧ (j : Int) < (s.length : Int) := ⟨by omega, by omega⟩
    have hw1 : IntKind.i64.wrap ((j : Int) + 1) = (j + 1 : Nat) := by rw [wrap_in (by omega) (by omega)]; rfl
    refine ⟨fun out openx => ∃ (cl : List (List UInt8)) (cur : Option (List UInt8)), out = cl ++ cur.toList ∧ openx = cur.isSome ∧ ws none s = cl ++ ws cur (s.drop (j + 1)) ∧ out.length ≤ j + 1 ∧ (∀ c, cur = some c → c.length ≤ j + 1), ⟨hb, fun _ _ => hb, fun _ => hb, fun _ _ => hb, ?_⟩, ?_⟩
    · rw [Int.toNat_natCast, isWI]
      refine cond_intro (fun hW => ?_) fun hW => ?_
      · refine ⟨cl ++ cur.toList, none, by simp, rfl, ?_, by omega, by simp⟩
        rw [hw, hd]
        generalize s.getD j 0 = b at hW
        cases cur <;> simp [ws, hW]
      · refine ⟨fun out2 => ∃ c, out2 = cl ++ [c] ∧ c = cur.getD [], ?_, ?_⟩
        · cases cur with
          | none =>
            refine cond_t rfl ⟨?_, [], by simp, rfl⟩
            simp only [Option.toList_none, List.append_nil] at hol ⊢
            simp only [List.length_cons, List.length_nil]; omega
          | some c => exact cond_f rfl ⟨c, rfl, rfl⟩
        · rintro _ ⟨c, rfl, hce⟩
          have hcj : c.length ≤ j := by
            cases cur with
            | none => subst hce; simp
            | some c' => subst hce; exact hcl _ rfl
          have hclj : cl.length ≤ j := by have := hol; simp only [List.length_append] at this; omega
          have e1 : IntKind.i64.wrap (((cl ++ [c]).length : Int) - 1) = (cl.length : Int) := by
            rw [wrap_in (by simp only [List.length_append, List.length_cons, List.length_nil]; omega) (by simp only [List.length_append, List.length_cons, List.length_nil]; omega)]; simp
          have hbb : (0 : Int) ≤ (cl.length : Int) ∧ (cl.length : Int) < ((cl ++ [c]).length : Int) := ⟨by omega, by simp only [List.length_append, List.length_cons, List.length_nil]; omega⟩
          rw [e1, hw1, Int.toNat_natCast, Int.toNat_natCast]
          have hpc : ((s.take (j + 1)).drop j) = [s.getD j 0] := by
            rw [List.take_add_one, List.getElem?_eq_getElem hlt, List.drop_append_of_le_length (by simp; omega), List.drop_of_length_le (by simp; omega)]
            simp [List.getD, hlt]
          rw [hpc]
          refine ⟨hbb, fun x hx => ?_⟩
          obtain rfl : x = c := by simpa using hx.symm
          refine ⟨⟨⟨by omega, by omega⟩, by omega, by omega⟩, ?_, hbb, fun x1 _ => ?_⟩
          · have : IntKind.i64.max = 9223372036854775807 := rfl
            rw [this]
            simp only [List.length_cons, List.length_nil]; omega
          · refine ⟨cl, some (x ++ [s.getD j 0]), ?_, rfl, ?_, ?_, ?_⟩
            · simp
            · rw [hw, hd]
              have : ws cur (s.getD j 0 :: s.drop (j + 1)) = ws (some (cur.getD [] ++ [s.getD j 0])) (s.drop (j + 1)) := by
                generalize s.getD j 0 = b at hW
                cases cur <;> simp [ws, hW]
              rw [this, ← hce]
            · simp; omega
            · intro c' hc'; cases hc'; simp; omega
    · rintro _ _ ⟨cl', cur', rfl, rfl, h1, h2, h3⟩
      exact ⟨s.length - (j + 1), by omega, j + 1, cl', cur', hw1, by omega, rfl, rfl, rfl, h1, h2, h3⟩
  · have : j = s.length := by simp at hc; omega
    subst this
    rw [List.drop_length] at hw
    have : ws cur [] = cur.toList := by cases cur <;> rfl
    rw [this] at hw
    rw [← hw]; exact h
theorem wrap8 (b : UInt8) (h : isDg b = true) : IntKind.u64.wrap (IntKind.u8.wrap ((b.toNat : Int) - 48)) = ((b.toNat - 48 : Nat) : Int) := by
  have := isDg_iff.1 h
  have e : IntKind.u8.wrap ((b.toNat : Int) - 48) = ((b.toNat - 48 : Nat) : Int) := by
    simp [IntKind.wrap, IntKind.signed, IntKind.bits]; omega
  rw [e]
  simp [IntKind.wrap, IntKind.signed, IntKind.bits]; omega
theorem wrap_u64 {n : Int} (h0 : 0 ≤ n) (h : n < 18446744073709551616) : IntKind.u64.wrap n = n := by
  simp [IntKind.wrap, IntKind.signed, IntKind.bits]; omega
theorem wrap_neg {n : Nat} (h : n ≤ 9223372036854775808) : IntKind.i64.wrap (IntKind.u64.wrap ((0 : Int) - n)) = -(n : Int) := by
  simp [IntKind.wrap, IntKind.signed, IntKind.bits]; omega
theorem i_eq (b : UInt8) (k : Nat) (hk : k < 256) : ((b.toNat : Int) == (k : Int)) = (b == UInt8.ofNat k) := by
  rw [nat_eq hk, Bool.eq_iff_iff, beq_iff_eq, beq_iff_eq]; omega
theorem rnum_v (s : List UInt8) (hs : s.length < 1000000) (K : Int → Bool → Prop) (h1 : ∀ v, numF s = some v → K v true) (h2 : numF s = none → ∀ v, K v false) : V_R44_Num s K := by
  have hneg : ((decide ((s.length : Int) > 0)) && (((s.getD 0 0).toNat : Int) == 45)) = negB s := by
    unfold negB
    congr 1
    · rw [Bool.eq_iff_iff]; simp
    · exact i_eq _ 45 (by decide)
  refine R44_Num_lift _ _ ⟨fun h => ⟨by omega, by simpa using h⟩, ?_⟩
  rw [hneg]
  refine ⟨fun t => t = tailT s, ?_, ?_⟩
  · unfold tailT
    cases hn : negB s with
    | true =>
      refine ⟨⟨by omega, ?_⟩, rfl⟩
      unfold negB at hn
      simp at hn; omega
    | false => exact rfl
  rintro _ rfl
  have hbad : (((((tailT s).length : Int) == 0) || ((decide (((tailT s).length : Int) > 19)) || (((((tailT s).getD 0 0).toNat : Int) == 48) && ((decide (((tailT s).length : Int) > 1)) || negB s))))) = bad (negB s) (tailT s) := by
    unfold bad
    congr 1
    · rw [Bool.eq_iff_iff]; simp
    congr 1
    · rw [Bool.eq_iff_iff]; simp; omega
    congr 1
    · exact i_eq _ 48 (by decide)
    congr 1
    rw [Bool.eq_iff_iff]; simp; omega
  refine ⟨fun _ h => (by cases h), fun h _ => ?_, ?_⟩
  · have : ¬ (tailT s).length = 0 := by simpa using h
    exact ⟨by omega, by omega⟩
  rw [hbad]
  have htl : (tailT s).length < 1000000 := by
    unfold tailT
    split
    · rw [List.length_drop]; omega
    · omega
  cases hb : bad (negB s) (tailT s) with
  | true => exact h2 (by unfold numF; rw [hb]; rfl) _
  | false =>
    have hle : (tailT s).length ≤ 19 := by
      unfold bad at hb
      simp only [Bool.or_eq_false_iff, decide_eq_false_iff_not] at hb
      omega
    have hnum : numF s = if (tailT s).all isDg then (if negB s then (if dgs (tailT s) ≤ 9223372036854775808 then some (-(dgs (tailT s) : Int)) else none) else (if dgs (tailT s) < 9223372036854775808 then some (dgs (tailT s) : Int) else none)) else none := by
      unfold numF; rw [hb]; rfl
    generalize tailT s = t at hle hnum
    refine ⟨fun n i n1 => At t.length (fun k => n = dgs (t.take k) ∧ ∀ b ∈ t.take k, isDg b = true) i n1, ⟨_, At.start ⟨rfl, by simp⟩⟩, ?_⟩
    rintro n _ _ ⟨k, rfl, hk, rfl, rfl, hd⟩
    refine At.cond hk (fun hlt => ?_) fun he => ?_
    · have hb : (0 : Int) ≤ (k : Int) ∧ (k : Int) < (t.length : Int) := ⟨by omega, by omega⟩
      refine ⟨hb, fun _ => hb, ?_⟩
      rw [Int.toNat_natCast]
      have hg : t.getD k 0 = t[k] := by simp [List.getD, hlt]
      have hdg : ((decide (((t.getD k 0).toNat : Int) < 48)) || (decide (((t.getD k 0).toNat : Int) > 57))) = !isDg (t.getD k 0) := by
        unfold isDg
        rw [Bool.eq_iff_iff]; simp; omega
      rw [hdg]
      cases hx : isDg (t.getD k 0) with
      | false =>
        refine h2 ?_ _
        rw [hnum, if_neg]
        intro ha
        have := List.all_eq_true.1 ha (t.getD k 0) (by rw [hg]; exact List.getElem_mem _)
        rw [hx] at this; cases this
      | true =>
        refine ⟨hb, ?_⟩
        have hts : t.take (k + 1) = t.take k ++ [t.getD k 0] := by rw [take_snoc hlt, hg]
        have hl := dgs_lt k (t.take k) (by simp; omega) hd
        have hp : 10 ^ k ≤ 10 ^ 18 := Nat.pow_le_pow_right (by decide) (by omega)
        have hxx := isDg_iff.1 hx
        refine At.next (by omega) hlt ⟨?_, ?_⟩
        · rw [hts, dgs_snoc, wrap8 _ hx, wrap_u64 (n := (dgs (t.take k) : Int) * 10) (by omega) (by omega), wrap_u64 (by omega) (by omega)]
          omega
        · rw [hts]
          intro b hb
          rcases List.mem_append.1 hb with hb | hb
          · exact hd b hb
          · rw [List.mem_singleton.1 hb]; exact hx
    · subst he
      rw [List.take_length] at hd ⊢
      rw [if_pos (List.all_eq_true.2 hd)] at hnum
      have hl := dgs_lt t.length t rfl hd
      have hp : 10 ^ t.length ≤ 10 ^ 19 := Nat.pow_le_pow_right (by decide) hle
      cases hn : negB s with
      | true =>
        rw [hn] at hnum
        simp only [if_true] at hnum
        show K _ _
        by_cases hc : dgs t ≤ 9223372036854775808
        · rw [if_pos hc] at hnum
          rw [decide_eq_true (by omega), wrap_neg hc]
          exact h1 _ hnum
        · rw [if_neg hc] at hnum
          rw [decide_eq_false (by omega)]
          exact h2 hnum _
      | false =>
        rw [hn] at hnum
        simp only [Bool.false_eq_true, if_false] at hnum
        show K _ _
        by_cases hc : dgs t < 9223372036854775808
        · rw [if_pos hc] at hnum
          rw [decide_eq_true (by omega), wrap_in (by omega) (by omega)]
          exact h1 _ hnum
        · rw [if_neg hc] at hnum
          rw [decide_eq_false (by omega)]
          exact h2 hnum _
end Go.Proofs.YtojfilbjdnnoeaaDoor
