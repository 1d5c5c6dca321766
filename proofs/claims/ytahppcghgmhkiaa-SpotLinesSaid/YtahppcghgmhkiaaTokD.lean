/- Contracts of package token: blanks, signs, numbers, Next. -/
import Derived.Test.YtahppcghgmhkiaaTokB
import Derived.Test.YtahppcghgmhkiaaTokC
import Derived.Test.YtahppcghgmhkiaaMemB
namespace Go.Proofs.Ytahppcghgmhkiaa
open Go.Vc Go.Tk

theorem indexByteString_spec (s : List UInt8) (c : Nat) (w : World) (K : Value → World → Prop) (hk : K (.int .i64 (Lib.indexByte s c.toUInt8)) w) : ExtOk Try.prog 86 #[.string (mkS s), .int .u8 (c : Int)] K w := by
  refine ⟨_, w, ?_, hk⟩
  rw [run_callFunc_extern Try.func86 (by kernel_rfl) (by kernel_rfl) (by kernel_rfl) (e := Extern.BytealgIndexByte.indexByte) (by kernel_rfl), Lib.run_indexByteString]
  rfl
theorem IndexByte_spec (s : List UInt8) (c : Nat) (w : World) : Calls Try.prog 71 #[.string (mkS s), .int .u8 (c : Int)] w (Ret fun v w' => v = .int .i64 (Lib.indexByte s c.toUInt8) ∧ w = w') := by
  refine strings_IndexByte_ok _ _ _ _ (call_then (internal_stringslite_IndexByte_ok s c (fun v w' => v = .int .i64 (Lib.indexByte s c.toUInt8) ∧ w = w') w (indexByteString_spec s c w _ ⟨_, rfl, rfl, rfl⟩)) ?_)
  rintro _ _ ⟨rfl, rfl⟩
  exact ⟨_, rfl, rfl, rfl⟩
theorem HasPrefix_spec (s p : List UInt8) (w : World) : Calls Try.prog 72 #[.string (mkS s), .string (mkS p)] w (Ret fun v w' => v = .bool (hasPre p s) ∧ w = w') := by
  refine strings_HasPrefix_ok _ _ _ _ (call_then (internal_stringslite_HasPrefix_ok s p (fun v w' => v = .bool (hasPre p s) ∧ w = w') w ⟨fun h => ?_, fun _ => ⟨?_, rfl⟩⟩) ?_)
  · simp at h; omega
  · rw [Int.toNat_natCast, hasPre_dec]
  · rintro _ _ ⟨rfl, rfl⟩
    exact ⟨_, rfl, rfl, rfl⟩

theorem drop_cons (s : List UInt8) (k : Nat) (h : k < s.length) : s.drop k = s.getD k 0 :: s.drop (k + 1) := by
  rw [List.drop_eq_getElem_cons h]; simp [List.getD, h]

theorem isBl_of (c : UInt8) : isBl c = (((c.toNat : Int) == 9) || ((c.toNat : Int) == 10) || ((c.toNat : Int) == 13) || ((c.toNat : Int) == 32)) := by
  have : ∀ n : Fin 256, isBl n.val.toUInt8 = (((n.val.toUInt8.toNat : Int) == 9) || ((n.val.toUInt8.toNat : Int) == 10) || ((n.val.toUInt8.toNat : Int) == 13) || ((n.val.toUInt8.toNat : Int) == 32)) := by decide +kernel
  have h := this ⟨c.toNat, c.toNat_lt⟩
  have e : c.toNat.toUInt8 = c := by simp
  simpa only [e] using h
theorem hash_of (c : UInt8) (h : ((c.toNat : Int) == 35) = true) : c = 35 := by
  have h1 : c.toNat = 35 := by simp at h; omega
  have e : c.toNat.toUInt8 = c := by simp
  rw [← e, h1]; rfl
theorem hash_not (c : UInt8) (h : ((c.toNat : Int) == 35) = false) : c ≠ 35 := by
  rintro rfl; simp at h

theorem blank_spec (s : List UInt8) (hs : s.length < 2 ^ 40) (w : World) : Calls Try.prog 49 #[.string (mkS s)] w (Ret fun v w' => v = .int .i64 (blankN false s : Nat) ∧ w = w') := by
  refine token_blank_ok _ _ _ ?_
  refine ⟨fun n w' => w = w' ∧ ∃ k : Nat, n = k ∧ k ≤ s.length ∧ blankN false s = k + blankN false (s.drop k), fun n _ => s.length - n.toNat, ⟨rfl, 0, rfl, Nat.zero_le _, by simp⟩, ?_⟩
  rintro _ _ _ ⟨rfl, k, rfl, hk, hb⟩
  refine cond_intro (fun hx => ?_) fun hx => ?_
  · have hlt : k < s.length := by simpa using hx
    have hd := drop_cons s k hlt
    have hkk : ((k : Int)).toNat = k := by omega
    rw [hkk]
    generalize hc : s.getD k 0 = c at hd ⊢
    refine ⟨by omega, fun n w' => w = w' ∧ ∃ j : Nat, n = j ∧ k ≤ j ∧ j < s.length ∧ blankN false s = j + 1 + blankN false (s.drop (j + 1)), ?_, ?_⟩
    · refine cond_intro (fun h35 => ?_) fun h35 => ?_
      · refine ⟨by omega, call_then (IndexByte_spec (s.drop k) 10 w) ?_⟩
        rintro _ _ ⟨rfl, rfl⟩
        have hc35 := hash_of c h35
        subst hc35
        rw [hd] at hb ⊢
        refine ⟨_, rfl, ?_⟩
        have e10 : (10 : Nat).toUInt8 = 10 := rfl
        rw [e10]
        have hl : (s.drop k).length = s.length - k := by simp
        rcases blank_hash (s.drop (k + 1)) with ⟨h1, h2⟩ | ⟨e, h1, h2, h3⟩
        · refine cond_t (by simpa using h1) ⟨?_, rfl⟩
          rw [hb, h2, ← hd, hl]; congr 1; omega
        · refine cond_f (by rw [h1]; simp) ?_
          rw [← hd, hl] at h2
          rw [h1, wrap_in (by omega) (by omega)]
          refine ⟨rfl, k + e, by omega, by omega, by omega, ?_⟩
          rw [hb, h3, ← hd, List.drop_drop]
          rw [show k + (e + 1) = k + e + 1 by omega]; omega
      · refine ⟨fun x w' => w = w' ∧ x = isBl c, ?_, ?_⟩
        · have hbl := isBl_of c
          refine cond_intro (fun h9 => ?_) fun h9 => ?_
          · exact ⟨rfl, by rw [hbl, h9]; simp⟩
          · refine cond_intro (fun h10 => ?_) fun h10 => ?_
            · exact ⟨rfl, by rw [hbl, h9, h10]; simp⟩
            · refine cond_intro (fun h13 => ?_) fun h13 => ?_
              · exact ⟨rfl, by rw [hbl, h9, h10, h13]; simp⟩
              · exact ⟨rfl, by rw [hbl, h9, h10, h13]; simp⟩
        · rintro _ x _ ⟨rfl, rfl⟩
          refine cond_intro (fun hx => ?_) fun hx => ?_
          · refine ⟨rfl, k, rfl, Nat.le_refl _, hlt, ?_⟩
            rw [hb, hd, blank_space c _ hx]; omega
          · refine ⟨?_, rfl⟩
            rw [hb, hd, blank_other c _ hx (hash_not c h35)]; simp
    · rintro _ _ _ ⟨rfl, j, rfl, hkj, hj, hbj⟩
      rw [wrap_in (by omega) (by omega)]
      exact ⟨⟨rfl, j + 1, by omega, by omega, hbj⟩, by dsimp only; omega⟩
  · have hge : ¬ k < s.length := by simpa using hx
    refine ⟨?_, rfl⟩
    rw [hb, List.drop_of_length_le (by omega)]; simp [blankN]

theorem sign_spec (s : List UInt8) (hs : s ≠ []) (w : World) : Calls Try.prog 55 #[.string (mkS s)] w (Ret fun v w' => v = .string (mkS (signOf s)) ∧ Ext w w') := by
  refine token_sign_ok _ _ _ ?_
  intro b w1 hb hw1
  have hbox : Box w1 b (signs2.map fun s => .string (mkS s)) := Box.new hb hw1
  have he : Ext w w1 := .alloc hw1
  refine ⟨fun x w' => w1 = w' ∧ ∃ k : Nat, x = k ∧ k ≤ 6 ∧ ∀ i (h : i < signs2.length), i < k → hasPre signs2[i] s = false, fun x _ => 6 - x.toNat, ⟨rfl, 0, rfl, by omega, fun _ _ h => absurd h (Nat.not_lt_zero _)⟩, ?_⟩
  rintro _ _ _ ⟨rfl, k, rfl, hk, hall⟩
  refine cond_intro (fun hx => ?_) fun hx => ?_
  · have hlt : k < 6 := by simp at hx; omega
    have hlt' : k < signs2.length := hlt
    refine ⟨by omega, signs2[k], ?_, call_then (HasPrefix_spec s _ w1) ?_⟩
    · rw [add_mk]; exact hbox.cell (by simp [hlt'])
    · rintro _ _ ⟨rfl, rfl⟩
      refine ⟨_, rfl, cond_intro (fun hp => ?_) fun hp => ?_⟩
      · refine ⟨?_, he⟩
        unfold signOf
        rw [find_at (hasPre · s) signs2 k hlt' hall hp]
      · rw [wrap_in (by omega) (by omega)]
        refine ⟨⟨rfl, k + 1, by omega, by omega, fun i h hi => ?_⟩, by dsimp only; omega⟩
        rcases Nat.lt_or_ge i k with h' | h'
        · exact hall i h h'
        · obtain rfl : i = k := by omega
          exact hp
  · have h6 : k = 6 := by simp at hx; omega
    subst h6
    have hn : signs2.find? (hasPre · s) = none := find_none_of _ _ fun i hi => hall i hi hi
    cases s with
    | nil => exact absurd rfl hs
    | cons c l =>
      have e0 : ((c :: l).getD 0 0) = c := rfl
      rw [e0]
      refine ⟨⟨by omega, by simp⟩, call_then (IndexByte_spec _ c.toNat w1) ?_⟩
      rintro _ _ ⟨rfl, rfl⟩
      refine ⟨_, rfl, ?_⟩
      have ec : c.toNat.toUInt8 = c := by simp
      rw [ec]
      have hm := indexByte_mem signs1 c
      have hsig : signOf (c :: l) = if signs1.contains c then [c] else [] := by unfold signOf; rw [hn]
      change cond (decide (Lib.indexByte signs1 c ≥ 0)) _ _
      refine cond_intro (fun h => ?_) fun h => ?_
      · refine ⟨⟨by omega, by simp; omega⟩, ?_, he⟩
        rw [hsig, if_pos (hm.1 (by simpa using h))]; rfl
      · refine ⟨?_, he⟩
        rw [hsig, if_neg (fun hh => by have := hm.2 hh; simp at h; omega)]

def byteV (c : UInt8) : Value := .int .u8 (c.toNat : Int)
theorem freeze_cell (w : World) (a p : Addr) (n : Nat) : (w.freeze a n).cell? p = w.cell? p := by
  unfold World.freeze
  split
  · rfl
  · simp only [World.cell?, Array.getElem?_modify]
    by_cases h : a.block = p.block
    · simp only [h, if_true]
      cases w.heap[p.block]? with
      | none => rfl
      | some o => cases o <;> rfl
    · simp [h]
theorem freeze_ext (w w1 : World) (a : Addr) (n : Nat) (h : Ext w w1) (ha : w.heap.size ≤ a.block) : Ext w (w1.freeze a n) := by
  unfold World.freeze
  split
  · exact h
  · refine ⟨h.os, h.tape, h.output, by simpa using h.size, fun k hk => ?_⟩
    simp only [Array.getElem?_modify]
    rw [if_neg (by omega)]
    exact Go.RowKit.Below.block h k hk
def byteCells (s : List UInt8) (k : Nat) : Array Value := (mkS s).data.map (fun b : UInt8 => Value.int .u8 (b.toNat : Int)) ++ Array.replicate k (Value.int .u8 0)
theorem bytes_spec (T E : TypeId) (P : Program) (h1 : P.underlying 9 = some .string) (h2 : P.underlying T = some (.slice E)) (h3 : P.underlying E = some (.int .u8)) (s : List UInt8) (w : World) (K : Value → World → Prop)
    (hk : ∀ p c w', CellsAt w' p (s.map byteV) → Ext w w' → K (.slice (some p) s.length c) w') : SemOk P (convert 9 T (.string (mkS s))) K w := by
  obtain ⟨cap, hcap⟩ : ∃ cap, cap = (Question.appendCap (mkS s).size 0 E).cut (w.tape w.drawn (.appendCap (mkS s).size 0 E)) := ⟨_, rfl⟩
  have hrun : (convert 9 T (.string (mkS s))).run P w = .ok (.slice (some ⟨w.heap.size, 0, none⟩) s.length cap)
      ((w.drew.alloc (.cells (byteCells s (cap - (mkS s).size)) E)).freeze ⟨w.heap.size, (byteCells s (cap - (mkS s).size)).size, none⟩ 1) := by
    simp only [convert, underlying, Sem.run_bind, run_program, Result.andThen_ok, h1, h2, h3, Sem.run_pure, Conv.stringToBytes, run_choose, Question.forced, Bool.false_eq_true, if_false, newRow, run_newObj, markStringish, run_shape]
    simp only [World.shape?, Array.getElem?_push_size, Result.andThen_ok, run_freeze, ← hcap]
    rfl
  refine ⟨_, _, hrun, hk _ _ _ ?_ ?_⟩
  · intro i hi
    rw [freeze_cell, add_mk]
    have hb : Box (w.drew.alloc (.cells (byteCells s (cap - (mkS s).size)) E)) w.heap.size _ := Box.new (w := w.drew) rfl rfl
    refine hb.cell ?_
    simp only [Nat.zero_add, byteCells, Array.toList_append, Array.toList_map]
    rw [List.getElem?_append_left (by simpa [mkS] using hi)]
    simp only [List.length_map] at hi
    simp [mkS, byteV, hi]
  · exact freeze_ext w _ _ _ ((Ext.drew rfl).trans (.alloc rfl)) (Nat.le_refl _)
theorem str_ty : Try.prog.underlying 9 = some .string := by kernel_rfl
theorem bytes_ty : Try.prog.underlying 55 = some (.slice 5) := by kernel_rfl
theorem byte_ty : Try.prog.underlying 5 = some (.int .u8) := by kernel_rfl

theorem number_spec (d r : List UInt8) (hd : d ≠ []) (hdig : ∀ c ∈ d, digC c = true) (hl : d.length < 2 ^ 40) (w : World) :
    Calls Try.prog 54 #[.string (mkS d), .string (mkS r)] w (Ret fun v w' => v = .tuple #[.int .i64 (numRes d r).1, .int .i64 (numRes d r).2] ∧ Ext w w') := by
  refine token_number_ok _ _ _ _ ?_
  have hpos : 0 < d.length := by cases d with | nil => exact absurd rfl hd | cons _ _ => simp
  refine ⟨by omega, fun _ => ?_⟩
  have e48 : ((((d.getD 0 0).toNat : Int) == 48) && decide ((d.length : Int) > 1)) = (d.getD 0 0 == 48 && decide (d.length > 1)) := by
    have : (((d.getD 0 0).toNat : Int) == 48) = (d.getD 0 0 == 48) := by
      rw [Bool.eq_iff_iff]; simp [← UInt8.toNat_inj]
      omega
    rw [this]; congr 1
    rw [Bool.eq_iff_iff]; simp; omega
  rw [e48]
  unfold numRes
  refine cond_intro (fun h => ?_) fun h => ?_
  · exact ⟨by rw [if_pos h], Ext.refl _⟩
  · have hn : ¬ (d.getD 0 0 == 48 && decide (d.length > 1)) = true := by rw [h]; simp
    simp only [if_neg hn]
    refine cond_intro (fun h18 => ?_) fun h18 => ?_
    · have : d.length > 18 := by simp at h18; omega
      exact ⟨by rw [if_pos this], Ext.refl _⟩
    · have h18' : ¬ d.length > 18 := by simp at h18; omega
      simp only [if_neg h18']
      refine ⟨fun x w' => w = w' ∧ x = headLet r, ?_, ?_⟩
      · cases r with
        | nil => exact ⟨rfl, rfl⟩
        | cons x r =>
          refine ⟨⟨by omega, by simp⟩, call_then (letter_spec _ (UInt8.toNat_lt _) w) ?_⟩
          rintro _ _ ⟨rfl, rfl⟩
          exact ⟨_, rfl, rfl, rfl⟩
      · rintro _ x _ ⟨rfl, rfl⟩
        refine cond_intro (fun hx => ?_) fun hx => ?_
        · exact ⟨by rw [if_pos hx], Ext.refl _⟩
        · have hn2 : ¬ headLet r = true := by rw [hx]; simp
          simp only [if_neg hn2]
          refine bytes_spec _ _ _ str_ty bytes_ty byte_ty d w _ fun p c w1 hc he => ?_
          refine ⟨_, _, _, rfl, fun n x w' => w1 = w' ∧ ∃ k : Nat, x = k ∧ k ≤ d.length ∧ n = (numVal (d.take k) : Nat), fun _ x _ => d.length - x.toNat, ⟨rfl, 0, rfl, Nat.zero_le _, rfl⟩, ?_⟩
          rintro _ _ _ _ ⟨rfl, k, rfl, hk, rfl⟩
          refine cond_intro (fun hx => ?_) fun hx => ?_
          · have hlt : k < d.length := by simpa using hx
            have hcell := hc k (by simpa using hlt)
            simp only [List.getElem_map, byteV] at hcell
            refine ⟨by omega, (d[k].toNat : Int), by simpa using hcell, ?_⟩
            have hdk := hdig d[k] (List.getElem_mem hlt)
            simp [digC, digN] at hdk
            have hbd : numVal (d.take k) < 10 ^ k := by
              have := numVal_bd (d.take k) (fun c hc => hdig c (List.mem_of_mem_take hc))
              rwa [List.length_take, Nat.min_eq_left (by omega)] at this
            have hbd2 : 10 ^ k ≤ 10 ^ 17 := Nat.pow_le_pow_right (by omega) (by omega)
            have e1 : IntKind.u8.wrap ((d[k].toNat : Int) - 48) = (d[k].toNat : Int) - 48 := by rw [IntKind.wrap_u8]; omega
            rw [e1, wrap_in (n := (d[k].toNat : Int) - 48) (by omega) (by omega), wrap_in (n := 10 * _) (by omega) (by omega), wrap_in (by omega) (by omega), wrap_in (n := (k : Int) + 1) (by omega) (by omega)]
            refine ⟨⟨rfl, k + 1, by omega, by omega, ?_⟩, by dsimp only; omega⟩
            rw [List.take_succ_eq_append_getElem hlt, numVal_snoc]; omega
          · have hge : ¬ k < d.length := by simpa using hx
            exact ⟨by rw [List.take_of_length_le (by omega)], he⟩
end Go.Proofs.Ytahppcghgmhkiaa
