/- Instructions' lines. -/
import Derived.Test.YtknpbkajonmaoaaDoorInsI
import Derived.Test.YtknpbkajonmaoaaDoorTxt
namespace Go.Proofs.YtknpbkajonmaoaaDoor
open Go.Vc Go.Lv Go.Ty Go.Iv Go.Tx

/-- contracts of the library, by name -/
def ItoaV : Prop := ∀ n, J64 n → ∀ K : List UInt8 → Prop, K (Lib.itoa n) → V_strconv_Itoa n K
def SplitV : Prop := ∀ s : List UInt8, s.length < 1000000 → ∀ K : List (List UInt8) → Prop, K (sp 32 s) → V_strings_Split s [32] K
def AtoiV : Prop := ∀ s : List UInt8, s.length < 1000000 → ∀ K : Int → Value → Prop, (∀ n e, J64 n → (∀ v, Lib.atoiAll s = .ok v → n = v) → K n e) → V_strconv_Atoi s K

def wordOf (op : Int) : List UInt8 := (rowOf op).word
theorem word_ok {op : Int} (ho : 1 ≤ op ∧ op ≤ 25) : wordOf op ≠ [] ∧ 32 ∉ wordOf op ∧ (wordOf op).length ≤ 6 := by
  have := op_all (p := fun _ r => !r.word.isEmpty && !r.word.contains 32 && decide (r.word.length ≤ 6)) (by decide) ho
  simp at this
  unfold wordOf
  exact ⟨this.1.1, this.1.2, this.2⟩
theorem word_inj {a b : Int} (ha : 1 ≤ a ∧ a ≤ 25) (hb : 1 ≤ b ∧ b ≤ 25) (h : wordOf a = wordOf b) : a = b := by
  have key : ∀ i j : Fin 26, 1 ≤ i.val → 1 ≤ j.val → (rowsL.getD i.val ⟨[], 0, 0, 0⟩).word = (rowsL.getD j.val ⟨[], 0, 0, 0⟩).word → i.val = j.val := by decide +kernel
  unfold wordOf rowOf at h
  rw [if_pos ha, if_pos hb] at h
  have := key ⟨a.toNat, by omega⟩ ⟨b.toNat, by omega⟩ (by show 1 ≤ a.toNat; omega) (by show 1 ≤ b.toNat; omega) h
  simp only at this
  omega
theorem right_zero {x : GIns} (hr : rightB x = true) : (nz x.op < 1 → x.a = 0) ∧ (nz x.op < 2 → x.b = 0) := by
  have hbad : badB x = false := by unfold rightB at hr; cases hb : badB x <;> simp_all
  unfold badB at hbad
  simp only [Bool.or_eq_false_iff, Bool.and_eq_false_iff, decide_eq_false_iff_not, bne_eq_false_iff_eq] at hbad
  exact ⟨fun h => hbad.2.1.resolve_left (by omega), fun h => hbad.2.2.resolve_left (by omega)⟩
/-- an instruction's line -/
def tailF (x : GIns) : List UInt8 := (if 0 < nz x.op then 32 :: Lib.itoa x.a else []) ++ (if 1 < nz x.op then 32 :: Lib.itoa x.b else [])
def lineF (x : GIns) : List UInt8 := if rightB x then wordOf x.op ++ tailF x else []
def numsF (x : GIns) : List (List UInt8) := (if 0 < nz x.op then [Lib.itoa x.a] else []) ++ (if 1 < nz x.op then [Lib.itoa x.b] else [])
theorem sp_line {x : GIns} (hr : rightB x = true) : sp 32 (lineF x) = wordOf x.op :: numsF x := by
  have hw := word_ok (right_op hr)
  have ia := itoa_no (c := 32) (by decide) x.a
  have ib := itoa_no (c := 32) (by decide) x.b
  unfold lineF tailF numsF
  rw [if_pos hr]
  rcases nz_cases x.op with e | e | e
  · rw [e]; simp [sp_no hw.2.1]
  · rw [e]
    simp only [show (0 : Int) < 1 from by decide, if_true, show ¬ (1 : Int) < 1 from by decide, if_false, List.append_nil]
    rw [sp_app _ hw.2.1, sp_no ia]
  · rw [e]
    simp only [show (0 : Int) < 2 from by decide, if_true, show (1 : Int) < 2 from by decide]
    rw [List.cons_append, sp_app _ hw.2.1, sp_app _ ia, sp_no ib]; rfl
theorem line_len {x : GIns} (hx : JIns x) : (lineF x).length ≤ 48 := by
  unfold lineF
  split
  · rename_i hr
    have hw := word_ok (right_op hr)
    have h1 := itoa_len hx.1.1 hx.1.2
    have h2 := itoa_len hx.2.1 hx.2.2
    unfold tailF
    rw [List.length_append, List.length_append]
    split <;> split <;> simp <;> omega
  · simp
theorem line_v (hI : ItoaV) (x : GIns) (hx : JIns x) (K : List UInt8 → Prop) (h : K (lineF x)) : V_ins_Line x K := by
  refine ins_Line_lift _ _ (right_v _ _ (cond_intro (fun hc => ?_) fun hc => find_v _ _ (nums_v _ _ ?_)))
  · unfold lineF at h; rw [if_neg (by simpa using hc)] at h; exact h
  · have hr : rightB x = true := by simpa using hc
    have hw := word_ok (right_op hr)
    unfold lineF at h
    rw [if_pos hr] at h
    generalize hL : [x.a, x.b].take (nz x.op).toNat = L
    have hLj : ∀ y ∈ L, J64 y := fun y hy => by
      have := List.mem_of_mem_take (hL ▸ hy)
      simp at this
      rcases this with rfl | rfl
      · exact hx.1
      · exact hx.2
    have hLl : L.length ≤ 2 := by rw [← hL, List.length_take]; simp; omega
    have hLb : tailF x = L.flatMap fun y => [32] ++ Lib.itoa y := by
      unfold tailF
      rcases nz_cases x.op with e | e | e <;> (rw [← hL, e]; simp)
    rw [hLb] at h
    refine ⟨fun s i n => At L.length (fun j => s = wordOf x.op ++ (L.take j).flatMap (fun y => [32] ++ Lib.itoa y) ∧ s.length ≤ 6 + 21 * j) i n, ⟨_, At.start ⟨by simp [wordOf], hw.2.2⟩⟩, ?_⟩
    rintro s _ _ ⟨j, rfl, hj, rfl, hs, hsl⟩
    refine At.cond hj (fun hj => at_elem hj (hI _ (hLj _ (List.getElem_mem hj)) _ ?_)) fun hj => ?_
    · have hy := hLj _ (List.getElem_mem hj)
      have hl := itoa_len hy.1 hy.2
      refine ⟨?_, ?_, At.next (by omega) hj ⟨?_, ?_⟩⟩
      · show _ ≤ (9223372036854775807 : Int)
        rw [List.length_singleton]; omega
      · show _ ≤ (9223372036854775807 : Int)
        rw [List.length_append, List.length_singleton]; omega
      · rw [hs, take_snoc hj, List.flatMap_append]; simp
      · rw [List.length_append, List.length_append, List.length_singleton]; omega
    · rw [hj, List.take_length] at hs
      rw [hs]; exact h
theorem words_at {op : Int} (ho : 1 ≤ op ∧ op ≤ 25) : ((rowsL.drop 1).map (·.word))[(op - 1).toNat]? = some (wordOf op) := by
  have key : ∀ k : Fin 26, 1 ≤ k.val → ((rowsL.drop 1).map (·.word))[k.val - 1]? = some (rowsL.getD k.val ⟨[], 0, 0, 0⟩).word := by decide +kernel
  have := key ⟨op.toNat, by omega⟩ (by show 1 ≤ op.toNat; omega)
  unfold wordOf rowOf
  rw [if_pos ho]
  rw [show (op - 1).toNat = op.toNat - 1 by omega]; exact this
theorem rline_v (hI : ItoaV) (x : GIns) (hx : JIns x) (K : List UInt8 → Prop) (h : K (lineF x)) : V_R16_Line x K := by
  have h1 := itoa_len hx.1.1 hx.1.2
  have h2 := itoa_len hx.2.1 hx.2.2
  refine R16_Line_lift _ _ (rright_v _ _ (cond_intro (fun hc => ?_) fun hc => ?_))
  · unfold lineF at h; rw [if_neg (by simpa using hc)] at h; exact h
  · have hr : rightB x = true := by simpa using hc
    have ho := right_op hr
    have hw := word_ok ho
    unfold lineF tailF at h
    rw [if_pos hr] at h
    rw [wrap_in (n := x.op - 1) (by omega) (by omega)]
    refine ⟨fun s => s = wordOf x.op, R16_Words_lift _ ⟨⟨by omega, ?_⟩, fun y hy => ?_⟩, ?_⟩
    · show x.op - 1 < (25 : Int); omega
    · change ((rowsL.drop 1).map (·.word))[(x.op - 1).toNat]? = some y at hy
      rw [words_at ho] at hy
      exact (Option.some.inj hy).symm
    · rintro _ rfl
      refine ⟨fun s => s = wordOf x.op ++ (if 0 < nz x.op then 32 :: Lib.itoa x.a else []), rnums_v _ _ (cond_intro (fun hd => ⟨?_, hI _ hx.1 _ ⟨?_, ?_⟩⟩) fun hd => ?_), ?_⟩
      · show _ ≤ (9223372036854775807 : Int)
        rw [List.length_singleton]; omega
      · show _ ≤ (9223372036854775807 : Int)
        rw [List.length_append, List.length_singleton]; omega
      · rw [if_pos (of_decide_eq_true hd)]; simp
      · rw [if_neg (of_decide_eq_false hd), List.append_nil]
      · rintro _ rfl
        have hl : (wordOf x.op ++ (if 0 < nz x.op then 32 :: Lib.itoa x.a else [])).length ≤ 27 := by
          rw [List.length_append]; split <;> simp <;> omega
        rw [← List.append_assoc] at h
        refine rnums_v _ _ (cond_intro (fun hd => ⟨?_, hI _ hx.2 _ ⟨?_, ?_⟩⟩) fun hd => ?_)
        · show _ ≤ (9223372036854775807 : Int)
          rw [List.length_singleton]; omega
        · show _ ≤ (9223372036854775807 : Int)
          rw [List.length_append, List.length_singleton]; omega
        · rw [if_pos (of_decide_eq_true hd)] at h
          rw [List.append_assoc]; exact h
        · rw [if_neg (of_decide_eq_false hd), List.append_nil] at h; exact h
theorem rows_get {k : Nat} {r : Gins_row} (h : rowsL[k]? = some r) (hk : 1 ≤ k) : r = rowOf (k : Int) ∧ k ≤ 25 := by
  have hl : rowsL.length = 26 := by decide
  have hlt := (List.getElem?_eq_some_iff.1 h).1
  refine ⟨?_, by omega⟩
  unfold rowOf
  rw [if_pos (by omega), Int.toNat_natCast]
  simp [List.getD, h]
theorem read_v (hI : ItoaV) (hS : SplitV) (hA : AtoiV) (s : List UInt8) (hs : s.length < 1000000) (K : GIns → Bool → Prop) (h1 : ∀ x, JIns x → rightB x = true → lineF x = s → K x true) (h2 : (∀ x, JIns x → rightB x = true → lineF x ≠ s) → K ⟨0, 0, 0⟩ false) : V_ins_Read s K := by
  refine ins_Read_lift _ _ (hS s hs _ ⟨consts_v, ?_⟩)
  have hwl : ∀ t ∈ sp 32 s, t.length < 1000000 := by
    have key : ∀ (l : List UInt8), ∀ t ∈ sp 32 l, t.length ≤ l.length := by
      intro l
      induction l with
      | nil => intro t ht; simp [sp] at ht; simp [ht]
      | cons b l ih =>
        intro t ht
        simp only [sp] at ht
        rw [List.length_cons]
        split at ht
        · rcases List.mem_cons.1 ht with rfl | ht
          · simp
          · have := ih t ht; omega
        · cases hsp : sp 32 l with
          | nil => exact absurd hsp (sp_ne _ _)
          | cons y ys =>
            rw [hsp] at ht ih
            rcases List.mem_cons.1 ht with rfl | ht
            · have := ih y (by simp); rw [List.length_cons]; omega
            · have := ih t (by simp [ht]); omega
    intro t ht
    have := key s t ht
    omega
  have hwl1 : 1 ≤ (sp 32 s).length := List.length_pos_iff.2 (sp_ne _ _)
  have hsl : ∀ x, rightB x = true → lineF x = s → sp 32 s = wordOf x.op :: numsF x := fun x hr he => by rw [← he]; exact sp_line hr
  generalize hW : sp 32 s = words at hwl hwl1 hsl
  refine ⟨fun i o a b n => o = 0 ∧ a = 0 ∧ b = 0 ∧ ∃ k : Nat, i = k ∧ k ≤ 26 ∧ n = 26 - k ∧ ∀ x, JIns x → rightB x = true → lineF x = s → (k : Int) ≤ x.op, ⟨26, rfl, rfl, rfl, 0, rfl, by omega, rfl, fun x _ hr _ => by have := right_op hr; omega⟩, ?_⟩
  rintro _ _ _ _ _ ⟨rfl, rfl, rfl, k, rfl, hk, rfl, hno⟩
  refine cond_intro (fun hc => ?_) fun hc => ?_
  · have hc : k < 26 := by have := of_decide_eq_true hc; omega
    refine ⟨fun o a b => o = 0 ∧ a = 0 ∧ b = 0 ∧ ∀ x, JIns x → rightB x = true → lineF x = s → (k : Int) + 1 ≤ x.op, ⟨⟨by omega, by omega⟩, fun r hr => ?_⟩, ?_⟩
    · change rowsL[((k : Nat) : Int).toNat]? = some r at hr
      rw [Int.toNat_natCast] at hr
      refine ⟨fun c => (c = true → ∀ x, JIns x → rightB x = true → lineF x = s → x.op ≠ (k : Int)) ∧ (c = false → 1 ≤ k ∧ r = rowOf (k : Int) ∧ words[0]? = some r.word ∧ (words.length : Int) = nz k + 1), ?_, ?_⟩
      · refine cond_intro (fun he => ⟨fun _ x hj hx hl hop => ?_, fun h => (by cases h)⟩) fun he => ⟨⟨by omega, by omega⟩, fun x3 hx3 => ?_⟩
        · have ho := right_op hx
          have := (rows_get hr (by omega)).1
          have hw := word_ok ho
          rw [hop] at hw
          exact hw.1 (by unfold wordOf; rw [← this]; simpa using he)
        · have hk1 : 1 ≤ k := by
            rcases Nat.eq_zero_or_pos k with h0 | h0
            · subst h0
              have : r.word = [] := by
                have e0 : rowsL[0]? = some (⟨[], 0, 0, 0⟩ : Gins_row) := rfl
                rw [e0] at hr; cases hr; rfl
              rw [this] at he; cases he
            · exact h0
          obtain ⟨hre, hk25⟩ := rows_get hr hk1
          have hnzk : r.nums = nz k := by rw [hre]; rfl
          have hnc := nz_cases (k : Int)
          rw [hnzk, wrap_in (n := nz k + 1) (by omega) (by omega)]
          refine cond_intro (fun hq => ⟨fun _ x hj hx hl hop => ?_, fun h => (by cases h)⟩) fun hq => ⟨fun hq2 x hj hx hl hop => ?_, fun hq2 => ⟨hk1, hre, ?_, ?_⟩⟩
          · have hw := hsl x hx hl
            rw [hw] at hx3
            have : wordOf x.op = x3 := by simpa using hx3
            rw [hop] at this
            have e : r.word = x3 := by rw [hre]; exact this
            rw [e] at hq; simp at hq
          · have hw := hsl x hx hl
            have : (words.length : Int) = nz k + 1 := by
              rw [hw, List.length_cons, ← hop]
              unfold numsF
              rcases nz_cases x.op with e | e | e <;> (rw [e]; simp)
            rw [this] at hq2; simp at hq2
          · rw [hx3]; congr 1; exact (by simpa using hq : r.word = x3).symm
          · simpa using hq2
      · rintro c ⟨hc1, hc2⟩
        refine cond_intro (fun hcc => ⟨rfl, rfl, rfl, fun x hj hx hl => ?_⟩) fun hcc => ⟨⟨by omega, by omega⟩, ?_⟩
        · have := hno x hj hx hl
          have := hc1 hcc x hj hx hl
          omega
        · obtain ⟨hk1, hre, hw0, hwlen⟩ := hc2 hcc
          have hnc := nz_cases (k : Int)
          have hk25 := (rows_get hr hk1).2
          have htl : ((words.drop 1).length : Int) = nz k := by rw [List.length_drop]; omega
          generalize hT : words.drop 1 = tl at htl
          have hz : J64 0 := ⟨by decide, by decide⟩
          refine ⟨fun i x0 x1 n => At tl.length (fun j => J64 x0 ∧ J64 x1 ∧ (∀ t v, 0 < j → tl[0]? = some t → Lib.atoiAll t = .ok v → x0 = v) ∧ (j = 0 → x0 = 0) ∧ (∀ t v, 1 < j → tl[1]? = some t → Lib.atoiAll t = .ok v → x1 = v) ∧ (j ≤ 1 → x1 = 0)) i n,
            ⟨_, At.start ⟨hz, hz, fun _ _ h => (by omega), fun _ => rfl, fun _ _ h => (by omega), fun _ => rfl⟩⟩, ?_⟩
          rintro _ x0 x1 _ ⟨j, rfl, hj, rfl, p1, p2, p3, p4, p5, p6⟩
          refine At.cond hj (fun hj => at_elem hj (hA _ (hwl _ (List.mem_of_mem_drop (i := 1) (by rw [hT]; exact List.getElem_mem hj))) _ fun n e hn hv => ⟨⟨by omega, by omega⟩, At.next (by omega) hj ?_⟩)) fun hj => ?_
          · rw [Int.toNat_natCast]
            have hj01 : j = 0 ∨ j = 1 := by omega
            rcases hj01 with rfl | rfl
            · refine ⟨by simpa using hn, by simpa using p2, fun t v _ ht hv2 => ?_, fun h => (by omega), fun _ _ h => (by omega), fun _ => by simpa using p6 (by omega)⟩
              rw [List.getElem?_eq_getElem hj] at ht
              cases ht
              simpa using hv v hv2
            · refine ⟨by simpa using p1, by simpa using hn, fun t v _ ht hv2 => by simpa using p3 t v (by omega) ht hv2, fun h => (by omega), fun t v _ ht hv2 => ?_, fun h => (by omega)⟩
              rw [List.getElem?_eq_getElem hj] at ht
              cases ht
              simpa using hv v hv2
          · refine ⟨⟨by omega, by omega⟩, ⟨by omega, by omega⟩, line_v hI _ ⟨p1, p2⟩ _ (cond_intro (fun hq => ?_) fun hq => ?_)⟩
            · have hq : lineF ⟨(k : Int), x0, x1⟩ = s := by simpa using hq
              cases hrr : rightB ⟨(k : Int), x0, x1⟩ with
              | true => exact h1 _ ⟨p1, p2⟩ hrr hq
              | false =>
                exfalso
                have hse : s = [] := by rw [← hq]; unfold lineF; rw [if_neg (by rw [hrr]; decide)]
                rw [hse] at hW
                have : words = [[]] := hW.symm
                rw [this] at hw0
                have hw := (word_ok (op := (k : Int)) ⟨by omega, by omega⟩).1
                apply hw
                unfold wordOf
                rw [← hre]
                simpa using hw0.symm
            · refine ⟨rfl, rfl, rfl, fun x hj2 hx hl => ?_⟩
              have h0 := hno x hj2 hx hl
              rcases Int.lt_or_eq_of_le h0 with h3 | h3
              · omega
              · exfalso
                have hw := hsl x hx hl
                have htl2 : tl = numsF x := by rw [← hT, hw]; rfl
                have hz := right_zero hx
                have ea := atoi_itoa hj2.1.1 hj2.1.2
                have eb := atoi_itoa hj2.2.1 hj2.2.2
                have hjl : (j : Int) = nz k := by rw [hj]; exact htl
                have hx0 : x0 = x.a := by
                  by_cases hz0 : nz x.op < 1
                  · rw [hz.1 hz0]; exact p4 (by rw [← h3] at hz0; omega)
                  · refine p3 (Lib.itoa x.a) x.a (by rw [← h3] at hz0; omega) ?_ ea
                    rw [htl2]; unfold numsF
                    rw [if_pos (by omega)]; rfl
                have hx1 : x1 = x.b := by
                  by_cases hz0 : nz x.op < 2
                  · rw [hz.2 hz0]; exact p6 (by rw [← h3] at hz0; omega)
                  · refine p5 (Lib.itoa x.b) x.b (by rw [← h3] at hz0; omega) ?_ eb
                    rw [htl2]; unfold numsF
                    rw [if_pos (by omega), if_pos (by omega)]; rfl
                have hxe : (⟨(k : Int), x0, x1⟩ : GIns) = x := by rw [hx0, hx1, h3]
                rw [hxe, hl] at hq
                simp at hq
    · rintro _ _ _ ⟨rfl, rfl, rfl, hno2⟩
      refine ⟨26 - (k + 1), by omega, rfl, rfl, rfl, k + 1, ?_, by omega, rfl, fun x hj hx hl => ?_⟩
      · rw [wrap_in (by omega) (by omega)]; omega
      · have := hno2 x hj hx hl; omega
  · have hc : k = 26 := by have := of_decide_eq_false hc; omega
    refine h2 fun x hj hx hl => ?_
    have h3 := hno x hj hx hl
    have := right_op hx
    omega
theorem line_inj {x y : GIns} (hx : JIns x) (hy : JIns y) (hrx : rightB x = true) (hry : rightB y = true) (h : lineF x = lineF y) : x = y := by
  have hsp := congrArg (sp 32) h
  rw [sp_line hrx, sp_line hry] at hsp
  have hw := (List.cons.inj hsp).1
  have ht := (List.cons.inj hsp).2
  have hop := word_inj (right_op hrx) (right_op hry) hw
  have hzx := right_zero hrx
  have hzy := right_zero hry
  have inj : ∀ {m n : Int}, J64 m → J64 n → Lib.itoa m = Lib.itoa n → m = n := fun hm hn he => by
    have h1 := atoi_itoa hm.1 hm.2
    rw [he, atoi_itoa hn.1 hn.2] at h1
    cases h1; rfl
  unfold numsF at ht
  rw [← hop] at ht hzy
  obtain ⟨o, a, b⟩ := x
  obtain ⟨o', a', b'⟩ := y
  simp only at hop ht hzx hzy hx hy
  subst hop
  rcases nz_cases o with e | e | e
  · rw [hzx.1 (by omega), hzx.2 (by omega), hzy.1 (by omega), hzy.2 (by omega)]
  · rw [e] at ht
    simp at ht
    have e1 : a = a' := inj hx.1 hy.1 ht
    rw [e1, hzx.2 (by omega), hzy.2 (by omega)]
  · rw [e] at ht
    simp at ht
    have e1 : a = a' := inj hx.1 hy.1 ht.1
    have e2 : b = b' := inj hx.2 hy.2 ht.2
    rw [e1, e2]
theorem InsLines_v (hI : ItoaV) (hS : SplitV) (hA : AtoiV) (x : GIns) (hx : JIns x) (s : List UInt8) (K : Bool → Prop) (h : K true) : V_L16_InsLines x s K := by
  refine L16_InsLines_lift _ _ _ (cond_intro (fun _ => live_v _ h) fun hc => ?_)
  have hs : s.length ≤ 100 := by simp at hc; omega
  have hll := line_len hx
  have fin : ∀ (J : Bool → Prop), (∀ b, J b → b = false) → True := fun _ _ => trivial
  have last : V_ins_Read s (fun r2 r3 => cond (!r3) (cond (((r2.op == 0) && ((r2.a == 0) && ((r2.b == 0) && true)))) (V_L16_live (fun x4 => K x4)) (K false)) (V_R16_Right r2 (fun x5 => cond (x5) (V_R16_Line r2 (fun x6 => cond (x6 == s) (V_L16_live (fun x7 => K x7)) (K false))) (K false)))) := by
    refine read_v hI hS hA s (by omega) _ (fun y hj hr hl => ?_) fun _ => ?_
    · refine cond_f rfl (rright_v _ _ ?_)
      rw [hr]
      refine cond_t rfl (rline_v hI _ hj _ (cond_t ?_ (live_v _ h)))
      rw [hl]; simp
    · exact cond_t rfl (cond_t rfl (live_v _ h))
  refine line_v hI x hx _ (read_v hI hS hA _ (by omega) _ (fun y hj hr hl => ?_) fun hno => ?_)
  · have hrx : rightB x = true := by
      cases hrx : rightB x with
      | true => rfl
      | false =>
        exfalso
        have h1 := sp_line hr
        rw [hl] at h1
        unfold lineF at h1
        rw [if_neg (by rw [hrx]; decide)] at h1
        have hw := (word_ok (right_op hr)).1
        have h2 : ([] : List UInt8) = wordOf y.op := (List.cons.inj h1).1
        exact hw h2.symm
    have hyx := line_inj hj hx hr hrx hl
    subst hyx
    refine ⟨fun b => b = false, rline_v hI _ hx _ (cond_f (by simp) (rright_v _ _ ?_)), ?_⟩
    · rw [hrx]
      exact cond_f rfl (cond_t rfl (cond_f (by simp) (cond_f rfl rfl)))
    · rintro _ rfl
      exact cond_f rfl last
  · have hrx : rightB x = false := by
      cases hrx : rightB x with
      | false => rfl
      | true => exact absurd rfl (hno x hx hrx)
    refine ⟨fun b => b = false, rline_v hI _ hx _ (cond_f (by simp) (rright_v _ _ ?_)), ?_⟩
    · rw [hrx]
      exact cond_f rfl (cond_f rfl (cond_t rfl rfl))
    · rintro _ rfl
      exact cond_f rfl last
end Go.Proofs.YtknpbkajonmaoaaDoor
