/- The words of a line, by bytes: what strings.FieldsFunc comes to at blanks. -/
import Derived.Lib.FieldsP
import Derived.Lib.SpaceUEq
import Derived.Lib.MapLaws
import Derived.Lib.TrimUEq
namespace Go.Sc
open Go Go.Lib

def isW (b : UInt8) : Bool := b == 32 || b == 9 || b == 13
def pW (x : Nat) : Bool := x == 32 || x == 9 || x == 13
/-- a line's words: the one that is open, and what is left -/
def ws : Option (List UInt8) → List UInt8 → List (List UInt8)
  | none, [] => []
  | some c, [] => [c]
  | st, b :: l => if isW b then st.toList ++ ws none l else ws (some (st.getD [] ++ [b])) l
theorem ws_skip : ∀ (k : Nat) (st : Option (List UInt8)) (l : List UInt8), 0 < k → k ≤ l.length → (∀ b ∈ l.take k, isW b = false) → ws st l = ws (some (st.getD [] ++ l.take k)) (l.drop k)
  | k + 1, st, [], _, h, _ => by simp at h
  | 1, st, b :: l, _, _, hb => by
    have := hb b (by simp)
    cases st <;> simp [ws, this]
  | k + 2, st, b :: l, _, h, hb => by
    have h1 := hb b (by simp)
    have ih := ws_skip (k + 1) (some (st.getD [] ++ [b])) l (by omega) (by simpa using h) (fun c hc => hb c (by rw [List.take_succ_cons]; exact List.mem_cons_of_mem _ hc))
    have e : ws st (b :: l) = ws (some (st.getD [] ++ [b])) l := by cases st <;> simp [ws, h1]
    rw [e, ih]
    simp
theorem nat_eq {b : UInt8} {n : Nat} (hn : n < 256) : (b == UInt8.ofNat n) = (b.toNat == n) := by
  rw [Bool.eq_iff_iff, beq_iff_eq, beq_iff_eq, ← UInt8.toNat_inj]
  simp [UInt8.toNat_ofNat']
  omega
theorem isW_n (b : UInt8) : isW b = pW b.toNat := by
  unfold isW pW
  rw [show (32 : UInt8) = UInt8.ofNat 32 from rfl, show (9 : UInt8) = UInt8.ofNat 9 from rfl, show (13 : UInt8) = UInt8.ofNat 13 from rfl, nat_eq (by decide), nat_eq (by decide), nat_eq (by decide)]
theorem pW_big {x : Nat} (h : 14 ≤ x) (h' : x ≠ 32) : pW x = false := by
  unfold pW; simp; omega
theorem isW_big {b : UInt8} (h : 128 ≤ b.toNat) : isW b = false := by rw [isW_n]; exact pW_big (by omega) (by omega)
theorem big_of (n b0 b1 b2 b3 : Nat) : (b0 < 128 ∧ decodeN n b0 b1 b2 b3 = (b0, 1)) ∨ (128 ≤ b0 ∧ 128 ≤ (decodeN n b0 b1 b2 b3).1) := by
  by_cases h : b0 < 128
  · exact .inl ⟨h, decodeN_ascii _ _ _ _ _ h⟩
  · right
    rcases decodeN_cases n b0 b1 b2 b3 with ⟨c, e⟩ | ⟨c, _, _, h1, e⟩ | ⟨c, _, _, _, h1, e⟩ | ⟨h1, e⟩ | e
    · omega
    · rw [e]; exact ⟨by omega, h1⟩
    · rw [e]; exact ⟨by omega, by simp only; omega⟩
    · exact ⟨by omega, by omega⟩
    · rw [e]; exact ⟨by omega, by decide⟩
/-- a rune's bytes are blanks just if it is one -/
theorem dec (l : List UInt8) (hne : l ≠ []) : (decodeL l).2 ≤ l.length ∧ (pW (decodeL l).1 = true → (decodeL l).2 = 1 ∧ isW (l.getD 0 0) = true) ∧ (pW (decodeL l).1 = false → ∀ b ∈ l.take (decodeL l).2, isW b = false) := by
  refine ⟨decodeL_le l hne, ?_⟩
  have hc := decodeN_conts l.length (l.getD 0 0).toNat (l.getD 1 0).toNat (l.getD 2 0).toNat (l.getD 3 0).toNat
  have hb := big_of l.length (l.getD 0 0).toNat (l.getD 1 0).toNat (l.getD 2 0).toNat (l.getD 3 0).toNat
  rw [← decodeL_N] at hc hb
  obtain ⟨c2, c3, c4, c5⟩ := hc
  rcases hb with ⟨h0, e⟩ | ⟨h0, h1⟩
  · rw [e]
    refine ⟨fun h => ⟨rfl, by rw [isW_n]; exact h⟩, fun h b hb => ?_⟩
    cases l with
    | nil => exact absurd rfl hne
    | cons a l =>
      simp at hb
      subst hb
      rw [isW_n]; exact h
  · refine ⟨fun h => ?_, fun _ b hb => ?_⟩
    · rw [pW_big (by omega) (by omega)] at h; cases h
    · obtain ⟨j, hj, rfl⟩ := List.mem_iff_getElem.1 hb
      rw [List.length_take] at hj
      have hg : (l.take (decodeL l).2)[j] = l.getD j 0 := by
        rw [List.getElem_take, List.getD, List.getElem?_eq_getElem (by omega)]; rfl
      rw [hg]
      apply isW_big
      match j, hj with
      | 0, _ => exact h0
      | 1, hj => have := (c2 (by omega)).1; omega
      | 2, hj => have := (c3 (by omega)).1; omega
      | 3, hj => have := (c4 (by omega)).1; omega
      | j + 4, hj => omega
def ex (s : ByteArray) (x : Nat × Nat) : List UInt8 := (s.extract x.1 x.2).data.toList
theorem ex_eq (s : ByteArray) (a b : Nat) : ex s (a, b) = (s.data.toList.drop a).take (b - a) := by
  unfold ex
  simp [ByteArray.data_extract, Array.toList_extract, List.extract]
theorem take_part {α : Type} (l : List α) (a pos k : Nat) (h : a ≤ pos) : (l.drop a).take (pos - a) ++ (l.drop pos).take k = (l.drop a).take (pos + k - a) := by
  have h1 : l.drop pos = (l.drop a).drop (pos - a) := by rw [List.drop_drop]; congr 1; omega
  rw [h1, show pos + k - a = (pos - a) + k by omega, List.take_add]
theorem spans_ws (s : ByteArray) : ∀ (f pos : Nat) (st : Option Nat) (acc : List (Nat × Nat)), s.size ≤ pos + f → pos ≤ s.size → (∀ a, st = some a → a ≤ pos) →
    (closeSpans s (spansFromP pW s f pos st acc)).map (ex s) = acc.map (ex s) ++ ws (st.map fun a => (s.data.toList.drop a).take (pos - a)) (s.data.toList.drop pos)
  | 0, pos, st, acc, h, hp, hst => by
    obtain rfl : pos = s.size := by omega
    have hd : s.data.toList.drop s.size = [] := List.drop_eq_nil_of_le (by rw [Array.length_toList]; exact Nat.le_refl _)
    rw [hd]
    cases st with
    | none => simp [spansFromP, closeSpans, ws]
    | some a => simp [spansFromP, closeSpans, ws, ex_eq]
  | f + 1, pos, st, acc, h, hp, hst => by
    by_cases hlt : pos < s.size
    · have hlen : s.data.toList.length = s.size := by rw [Array.length_toList]; rfl
      have hne : s.data.toList.drop pos ≠ [] := by
        intro h0
        have := congrArg List.length h0
        rw [List.length_drop, hlen] at this
        simp at this
        omega
      obtain ⟨d1, d2, d3⟩ := dec _ hne
      rw [decodeL_drop] at d1 d2 d3
      have hw := width_pos s pos
      rw [List.length_drop, hlen] at d1
      unfold spansFromP
      rw [if_pos hlt]
      generalize Utf8.decode s pos = r at d1 d2 d3 hw
      obtain ⟨r, k⟩ := r
      dsimp only at d1 d2 d3 hw ⊢
      have hdd : (s.data.toList.drop pos).drop k = s.data.toList.drop (pos + k) := by rw [List.drop_drop]
      cases hr : pW r with
      | true =>
        obtain ⟨rfl, hb⟩ := d2 hr
        rw [if_pos rfl]
        have hcons : s.data.toList.drop pos = (s.data.toList.drop pos).headD 0 :: s.data.toList.drop (pos + 1) := by
          rw [← hdd]
          cases hx : s.data.toList.drop pos with
          | nil => exact absurd hx hne
          | cons a l => rfl
        have hb' : isW ((s.data.toList.drop pos).headD 0) = true := by
          cases hx : s.data.toList.drop pos with
          | nil => exact absurd hx hne
          | cons a l => rw [hx] at hb; exact hb
        have hws : ∀ o, ws o (s.data.toList.drop pos) = o.toList ++ ws none (s.data.toList.drop (pos + 1)) := by
          intro o
          rw [hcons]
          generalize (s.data.toList.drop pos).headD 0 = b at hb'
          cases o <;> simp [ws, hb']
        rw [hws]
        cases st with
        | none =>
          simp only
          rw [spans_ws s f (pos + 1) none acc (by omega) (by omega) (fun a h => by cases h)]
          simp
        | some a =>
          simp only
          rw [spans_ws s f (pos + 1) none _ (by omega) (by omega) (fun a h => by cases h)]
          simp [ex_eq]
      | false =>
        rw [if_neg (by simp)]
        have hsk := ws_skip k (st.map fun a => (s.data.toList.drop a).take (pos - a)) (s.data.toList.drop pos) (by omega) (by rw [List.length_drop, hlen]; omega) (d3 hr)
        rw [hsk, hdd]
        cases st with
        | none =>
          simp only
          rw [spans_ws s f (pos + k) (some pos) acc (by omega) (by omega) (fun a h => by cases h; omega)]
          simp
        | some a =>
          have ha := hst a rfl
          simp only
          rw [spans_ws s f (pos + k) (some a) acc (by omega) (by omega) (fun a' h => by cases h; omega)]
          simp only [Option.map_some, Option.getD_some]
          rw [take_part _ _ _ _ ha]
    · rw [spansFromP_end _ _ _ _ _ _ hlt]
      obtain rfl : pos = s.size := by omega
      have hd : s.data.toList.drop s.size = [] := List.drop_eq_nil_of_le (by rw [Array.length_toList]; exact Nat.le_refl _)
      rw [hd]
      cases st with
      | none => simp [closeSpans, ws]
      | some a => simp [closeSpans, ws, ex_eq]
theorem fields_ws (s : ByteArray) : (goFieldsP pW s).map (·.data.toList) = ws none s.data.toList := by
  have := spans_ws s s.size 0 none [] (by omega) (by omega) (fun a h => by cases h)
  unfold goFieldsP spansOfP
  rw [List.map_map]
  rw [List.map_nil, List.nil_append, Option.map_none, List.drop_zero] at this
  exact this
end Go.Sc
