/- Lines and places, in plain Lean. -/
import Derived.Test.YtojfilbjdnnoeaaDoorLv
namespace Go.Sp
open Go.Vc

def lns : List UInt8 → List (List UInt8)
  | [] => [[]]
  | c :: l => if c = 10 then [] :: lns l else match lns l with
    | x :: r => (c :: x) :: r
    | [] => [[c]]
theorem lns_ne (s : List UInt8) : ∃ x r, lns s = x :: r := by
  cases s with
  | nil => exact ⟨_, _, rfl⟩
  | cons c l =>
    unfold lns
    split
    · exact ⟨_, _, rfl⟩
    · split <;> exact ⟨_, _, rfl⟩
theorem lns_other {c : UInt8} (hc : c ≠ 10) {l x : List UInt8} {r : List (List UInt8)} (h : lns l = x :: r) : lns (c :: l) = (c :: x) :: r := by
  rw [lns, if_neg hc, h]
theorem lns_nl (l : List UInt8) : lns (10 :: l) = [] :: lns l := by rw [lns, if_pos rfl]
def isNl (c : UInt8) : Bool := c == 10
def bef (s : List UInt8) : List UInt8 := s.takeWhile fun c => !isNl c
def aft (s : List UInt8) : List UInt8 := s.drop ((bef s).length + 1)
theorem lns_cut : ∀ (s : List UInt8), lns s = if (10 : UInt8) ∈ s then bef s :: lns (aft s) else [s]
  | [] => by simp [lns]
  | c :: l => by
    have ih := lns_cut l
    by_cases hc : c = 10
    · subst hc
      rw [lns_nl, if_pos (by simp)]
      simp [bef, aft, isNl]
    · have hb : bef (c :: l) = c :: bef l := by simp [bef, isNl, hc]
      have ha : aft (c :: l) = aft l := by unfold aft; rw [hb]; simp
      by_cases hm : (10 : UInt8) ∈ l
      · rw [if_pos hm] at ih
        rw [lns_other hc ih, if_pos (by simp [hm]), hb, ha]
      · rw [if_neg hm] at ih
        rw [lns_other hc ih, if_neg (by simp [hm]; exact fun h => hc h.symm)]
def enumF : Int → List (List UInt8) → List (Int × List UInt8)
  | _, [] => []
  | k, x :: l => (k, x) :: enumF (k + 1) l

/-- line and column behind a text -/
def ofStep (p : Int × Int) (c : UInt8) : Int × Int := if c = 10 then (p.1 + 1, 1) else (p.1, p.2 + 1)
def ofF (p : List UInt8) : Int × Int := p.foldl ofStep (1, 1)
theorem ofF_snoc (p : List UInt8) (c : UInt8) : ofF (p ++ [c]) = ofStep (ofF p) c := by simp [ofF]
theorem of_pos : ∀ (p : List UInt8), 1 ≤ (ofF p).1 ∧ 1 ≤ (ofF p).2 ∧ (ofF p).1 ≤ p.length + 1 ∧ (ofF p).2 ≤ p.length + 1 := by
  intro p
  suffices ∀ (q : List UInt8), 1 ≤ (ofF q.reverse).1 ∧ 1 ≤ (ofF q.reverse).2 ∧ (ofF q.reverse).1 ≤ q.length + 1 ∧ (ofF q.reverse).2 ≤ q.length + 1 by
    have := this p.reverse
    simpa using this
  intro q
  induction q with
  | nil => simp [ofF]
  | cons c q ih =>
    rw [List.reverse_cons, ofF_snoc]
    unfold ofStep
    simp only [List.length_cons]
    split <;> simp <;> omega
def lastI (p : List UInt8) : Int := (p.length : Int) - (ofF p).2
theorem of_count : ∀ (p : List UInt8), (ofF p).1 = (p.count 10 : Nat) + 1 := by
  intro p
  suffices ∀ (q : List UInt8), (ofF q.reverse).1 = (q.count 10 : Nat) + 1 by
    have := this p.reverse
    simpa using this
  intro q
  induction q with
  | nil => simp [ofF]
  | cons c q ih =>
    rw [List.reverse_cons, ofF_snoc]
    unfold ofStep
    by_cases hc : c = 10
    · rw [if_pos hc, hc]; simp [ih]
    · rw [if_neg hc, List.count_cons_of_ne hc]; exact ih
/-- the last line break ahead of a place: where it is, and that there is none behind -/
theorem lastI_get : ∀ (p : List UInt8) (k : Nat), k ≤ p.length → (∀ j, k ≤ j → j < p.length → p.getD j 0 ≠ 10) → (k = 0 ∨ p.getD (k - 1) 0 = 10) → (ofF p).2 = (p.length : Int) - k + 1 := by
  intro p
  suffices ∀ (q : List UInt8) (k : Nat), k ≤ q.length → (∀ j, k ≤ j → j < q.length → q.reverse.getD j 0 ≠ 10) → (k = 0 ∨ q.reverse.getD (k - 1) 0 = 10) → (ofF q.reverse).2 = (q.length : Int) - k + 1 by
    intro k h1 h2 h3
    have := this p.reverse k (by simpa using h1) (by simpa using h2) (by simpa using h3)
    simpa using this
  intro q
  induction q with
  | nil => intro k hk _ _; simp at hk; subst hk; simp [ofF]
  | cons c q ih =>
    intro k hk h1 h2
    rw [List.reverse_cons, ofF_snoc]
    unfold ofStep
    simp only [List.length_cons] at hk h1 ⊢
    have hlast : (q.reverse ++ [c]).getD q.length 0 = c := by simp [List.getD]
    have hpre : ∀ j, j < q.length → (q.reverse ++ [c]).getD j 0 = q.reverse.getD j 0 := fun j hj => by simp [List.getD, List.getElem?_append_left, hj]
    by_cases hkq : k = q.length + 1
    · subst hkq
      rcases h2 with h | h
      · omega
      · rw [List.reverse_cons, Nat.add_sub_cancel, hlast] at h
        rw [if_pos h]; simp
    · have hc : c ≠ 10 := by
        have := h1 q.length (by omega) (by omega)
        rw [List.reverse_cons, hlast] at this
        exact this
      rw [if_neg hc]
      have := ih k (by omega) (fun j hj hj2 => by have := h1 j hj (by omega); rw [List.reverse_cons, hpre j hj2] at this; exact this) (by
        rcases h2 with h | h
        · exact .inl h
        · rcases Nat.eq_zero_or_pos k with h0 | h0
          · exact .inl h0
          · right; rw [List.reverse_cons, hpre _ (by omega)] at h; exact h)
      simp only
      omega
/-- the same from the front -/
def place : List UInt8 → Nat → Int × Int
  | _, 0 => (1, 1)
  | [], _ => (1, 1)
  | c :: l, i + 1 => if c = 10 then ((place l i).1 + 1, (place l i).2) else if (place l i).1 = 1 then (1, (place l i).2 + 1) else place l i
theorem fold_gen : ∀ (p : List UInt8) (a b : Int), p.foldl ofStep (a, b) = if (ofF p).1 = 1 then (a, b + ((ofF p).2 - 1)) else (a + ((ofF p).1 - 1), (ofF p).2) := by
  intro p
  suffices ∀ (q : List UInt8) (a b : Int), q.reverse.foldl ofStep (a, b) = if (ofF q.reverse).1 = 1 then (a, b + ((ofF q.reverse).2 - 1)) else (a + ((ofF q.reverse).1 - 1), (ofF q.reverse).2) by
    intro a b
    have := this p.reverse a b
    simpa using this
  intro q
  induction q with
  | nil => intro a b; simp [ofF]
  | cons c q ih =>
    intro a b
    rw [List.reverse_cons, ofF_snoc, List.foldl_append, ih]
    have hp := of_pos q.reverse
    generalize (ofF q.reverse) = z at hp ⊢
    obtain ⟨z1, z2⟩ := z
    simp only [List.foldl_cons, List.foldl_nil] at hp ⊢
    by_cases hc : c = 10
    · have e1 : ∀ z, ofStep z c = (z.1 + 1, 1) := fun z => by unfold ofStep; rw [if_pos hc]
      rw [e1, e1]
      have : ¬ (z1 + 1 = 1) := by omega
      show _ = if z1 + 1 = 1 then _ else _
      rw [if_neg this]
      by_cases h1 : z1 = 1
      · rw [if_pos h1, h1]; simp
      · rw [if_neg h1]; simp; omega
    · have e1 : ∀ z, ofStep z c = (z.1, z.2 + 1) := fun z => by unfold ofStep; rw [if_neg hc]
      rw [e1, e1]
      show _ = if z1 = 1 then _ else _
      by_cases h1 : z1 = 1
      · rw [if_pos h1, if_pos h1]; simp; omega
      · rw [if_neg h1, if_neg h1]
theorem place_of : ∀ (s : List UInt8) (i : Nat), i ≤ s.length → place s i = ofF (s.take i)
  | _, 0, _ => by simp [place, ofF]
  | [], i + 1, h => by simp at h
  | c :: l, i + 1, h => by
    have ih := place_of l i (by simpa using h)
    rw [place, ih, List.take_succ_cons]
    have hp := of_pos (l.take i)
    show _ = (l.take i).foldl ofStep (ofStep (1, 1) c)
    generalize hq : l.take i = q at hp ⊢
    by_cases hc : c = 10
    · rw [show ofStep (1, 1) c = (2, 1) by unfold ofStep; rw [if_pos hc]; rfl, fold_gen, if_pos hc]
      by_cases h1 : (ofF q).1 = 1
      · rw [if_pos h1, h1]; simp; omega
      · rw [if_neg h1]; simp; omega
    · rw [show ofStep (1, 1) c = (1, 2) by unfold ofStep; rw [if_neg hc]; rfl, fold_gen, if_neg hc]
      by_cases h1 : (ofF q).1 = 1
      · rw [if_pos h1, if_pos h1]; simp; omega
      · rw [if_neg h1, if_neg h1]; apply Prod.ext <;> simp; omega
def atL : List (List UInt8) → Int → Int → Int → Option Int
  | [], _, _, _ => none
  | x :: r, line, col, off => if line = 1 then (if 1 ≤ col ∧ col ≤ x.length + 1 then some (off + col - 1) else none) else atL r (line - 1) col (off + (x.length + 1))
theorem atL_shift : ∀ (l : List (List UInt8)) (line col off d : Int), atL l line col (off + d) = (atL l line col off).map (· + d)
  | [], _, _, _, _ => rfl
  | x :: r, line, col, off, d => by
    simp only [atL]
    split
    · split
      · simp; omega
      · rfl
    · rw [show off + d + ((x.length : Int) + 1) = off + ((x.length : Int) + 1) + d by omega, atL_shift]
theorem place_pos : ∀ (s : List UInt8) (i : Nat), 1 ≤ (place s i).1 ∧ 1 ≤ (place s i).2
  | _, 0 => by simp [place]
  | [], _ + 1 => by simp [place]
  | c :: l, i + 1 => by
    have := place_pos l i
    simp only [place]
    split
    · simp; omega
    · split
      · simp; omega
      · exact this
theorem at_place : ∀ (s : List UInt8) (i : Nat), i ≤ s.length → atL (lns s) (place s i).1 (place s i).2 0 = some (i : Int)
  | s, 0, _ => by
    obtain ⟨x, r, h⟩ := lns_ne s
    have : place s 0 = (1, 1) := by cases s <;> rfl
    rw [this, h, atL, if_pos rfl, if_pos (by constructor <;> omega)]; rfl
  | [], i + 1, h => by simp at h
  | c :: l, i + 1, h => by
    have ih := at_place l i (by simpa using h)
    have hp := place_pos l i
    by_cases hc : c = 10
    · subst hc
      rw [lns_nl]
      simp only [place, if_true, atL]
      rw [if_neg (by omega)]
      have := atL_shift (lns l) (place l i).1 (place l i).2 0 1
      simp only [List.length_nil] at *
      rw [show (place l i).1 + 1 - 1 = (place l i).1 by omega, show (0 : Int) + (((0 : Nat) : Int) + 1) = 0 + 1 by omega, this, ih]
      simp
    · obtain ⟨x, r, hx⟩ := lns_ne l
      rw [lns_other hc hx]
      rw [hx] at ih
      simp only [place, if_neg hc]
      by_cases h1 : (place l i).1 = 1
      · simp only [if_pos h1, atL, if_true]
        rw [atL, if_pos h1] at ih
        split at ih
        · rename_i hcol
          rw [if_pos (by simp only [List.length_cons]; omega)]
          have := Option.some.inj ih
          congr 1; omega
        · cases ih
      · simp only [if_neg h1]
        rw [atL, if_neg h1] at ih ⊢
        have := atL_shift r ((place l i).1 - 1) (place l i).2 (0 + ((x.length : Int) + 1)) 1
        simp only [List.length_cons]
        rw [show (0 : Int) + (((x.length + 1 : Nat) : Int) + 1) = 0 + ((x.length : Int) + 1) + 1 by omega, this, ih]
        simp
theorem place_at : ∀ (s : List UInt8) (line col a : Int), 1 ≤ line → atL (lns s) line col 0 = some a → ∃ i : Nat, a = i ∧ i ≤ s.length ∧ place s i = (line, col)
  | [], line, col, a, hl, h => by
    simp only [lns, atL] at h
    split at h
    · split at h
      · rename_i h1 h2
        simp at h2
        exact ⟨0, by have := Option.some.inj h; omega, by simp, by simp only [place]; rw [h1, show col = 1 by omega]⟩
      · cases h
    · cases h
  | c :: l, line, col, a, hl, h => by
    by_cases hc : c = 10
    · subst hc
      rw [lns_nl, atL] at h
      split at h
      · rename_i h1
        split at h
        · rename_i h2
          simp at h2
          exact ⟨0, by have := Option.some.inj h; omega, by simp, by simp only [place]; rw [h1, show col = 1 by omega]⟩
        · cases h
      · rename_i h1
        have := atL_shift (lns l) (line - 1) col 0 1
        simp only [List.length_nil] at h
        rw [show (0 : Int) + (((0 : Nat) : Int) + 1) = 0 + 1 by omega, this] at h
        obtain ⟨b, hb, rfl⟩ := Option.map_eq_some_iff.1 h
        obtain ⟨i, rfl, hi, hp⟩ := place_at l (line - 1) col b (by omega) hb
        exact ⟨i + 1, by omega, by simpa using hi, by simp only [place, if_true, hp]; simp⟩
    · obtain ⟨x, r, hx⟩ := lns_ne l
      rw [lns_other hc hx, atL] at h
      split at h
      · rename_i h1
        split at h
        · rename_i h2
          have ha := Option.some.inj h
          simp only [List.length_cons] at h2
          by_cases hcol : col = 1
          · exact ⟨0, by omega, by simp, by simp only [place]; rw [h1, hcol]⟩
          · obtain ⟨i, hi0, hi, hp⟩ := place_at l 1 (col - 1) (0 + (col - 1) - 1) (by omega) (by rw [hx, atL, if_pos rfl, if_pos (by omega)])
            exact ⟨i + 1, by omega, by simpa using hi, by simp only [place, if_neg hc, hp, if_true]; rw [h1]; simp⟩
        · cases h
      · rename_i h1
        have := atL_shift r (line - 1) col (0 + ((x.length : Int) + 1)) 1
        simp only [List.length_cons] at h
        rw [show (0 : Int) + (((x.length + 1 : Nat) : Int) + 1) = 0 + ((x.length : Int) + 1) + 1 by omega, this] at h
        obtain ⟨b, hb, rfl⟩ := Option.map_eq_some_iff.1 h
        obtain ⟨i, rfl, hi, hp⟩ := place_at l line col b hl (by rw [hx, atL, if_neg h1]; exact hb)
        refine ⟨i + 1, by omega, by simpa using hi, ?_⟩
        simp only [place, if_neg hc, hp]
        rw [if_neg h1]
theorem atL_low : ∀ (l : List (List UInt8)) (line col off : Int), line < 1 → atL l line col off = none
  | [], _, _, _, _ => rfl
  | x :: r, line, col, off, h => by
    rw [atL, if_neg (by omega)]
    exact atL_low r _ _ _ (by omega)
end Go.Sp
