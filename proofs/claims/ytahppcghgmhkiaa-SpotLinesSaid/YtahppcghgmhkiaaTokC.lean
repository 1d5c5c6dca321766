/- Plain functions: signs, numbers, the next token, all tokens. -/
import Derived.Test.YtahppcghgmhkiaaTokA
import Derived.Lib.Bytealg
namespace Go.Tk
open Go.Vc

theorem blank_cons (r : Bool) (c : UInt8) (l : List UInt8) : blankN r (c :: l) = if c == 10 then blankN false l + 1 else if c == 35 then blankN true l + 1 else if !r && c != 9 && c != 13 && c != 32 then 0 else blankN r l + 1 := rfl

theorem blank_true : ∀ (l : List UInt8), (Lib.indexByte l 10 = -1 ∧ blankN true l = l.length) ∨ (∃ e : Nat, Lib.indexByte l 10 = e ∧ e < l.length ∧ blankN true l = e + 1 + blankN false (l.drop (e + 1)))
  | [] => .inl ⟨rfl, rfl⟩
  | c :: l => by
    by_cases h : c = 10
    · subst h
      right
      refine ⟨0, by simp [Lib.indexByte], by simp, ?_⟩
      simp [blankN]; omega
    · have hb : (c == 10) = false := by simpa using h
      have hbl : blankN true (c :: l) = blankN true l + 1 := by
        rw [blank_cons]
        simp only [hb, Bool.false_eq_true, if_false, Bool.not_true, Bool.false_and]
        split <;> rfl
      rcases blank_true l with ⟨h1, h2⟩ | ⟨e, h1, h2, h3⟩
      · left; exact ⟨by simp [Lib.indexByte, hb, h1], by rw [hbl, h2]; simp⟩
      · right
        refine ⟨e + 1, ?_, by simp; omega, ?_⟩
        · have : ((e : Int) == -1) = false := by rw [beq_eq_false_iff_ne]; omega
          simp [Lib.indexByte, hb, h1, this]
        · rw [hbl, h3]; simp; omega

/-- at a remark -/
theorem blank_hash (l : List UInt8) : (Lib.indexByte (35 :: l) 10 < 0 ∧ blankN false (35 :: l) = (35 :: l).length) ∨ (∃ e : Nat, Lib.indexByte (35 :: l) 10 = e ∧ e < (35 :: l).length ∧ blankN false (35 :: l) = e + 1 + blankN false ((35 :: l).drop (e + 1))) := by
  have hb : blankN false (35 :: l) = blankN true l + 1 := by simp [blankN]
  have hi : Lib.indexByte (35 :: l) 10 = if Lib.indexByte l 10 == -1 then -1 else Lib.indexByte l 10 + 1 := by simp [Lib.indexByte]
  rcases blank_true l with ⟨h1, h2⟩ | ⟨e, h1, h2, h3⟩
  · left; rw [hi, h1, hb, h2]; exact ⟨by simp, by simp⟩
  · right
    have : ((e : Int) == -1) = false := by rw [beq_eq_false_iff_ne]; omega
    refine ⟨e + 1, by rw [hi, h1, this]; simp, by simp; omega, ?_⟩
    rw [hb, h3]; simp; omega
theorem blank_space (c : UInt8) (l : List UInt8) (h : isBl c = true) : blankN false (c :: l) = blankN false l + 1 := by
  unfold isBl at h
  rw [blank_cons]
  simp only [Bool.or_eq_true, beq_iff_eq] at h
  rcases h with ((rfl | rfl) | rfl) | rfl <;> simp
theorem blank_other (c : UInt8) (l : List UInt8) (h : isBl c = false) (h2 : c ≠ 35) : blankN false (c :: l) = 0 := by
  unfold isBl at h
  rw [blank_cons]
  simp only [Bool.or_eq_false_iff, beq_eq_false_iff_ne] at h
  obtain ⟨⟨⟨h9, h10⟩, h13⟩, h32⟩ := h
  simp [h9, h10, h13, h32, h2]

/-! signs -/
def signs2 : List (List UInt8) := [[61, 61], [33, 61], [60, 61], [62, 61], [38, 38], [124, 124]]
def signs1 : List UInt8 := [123, 125, 40, 41, 91, 93, 59, 44, 58, 61, 33, 63, 43, 45, 42, 47, 37, 60, 62]
def hasPre (p l : List UInt8) : Bool := l.take p.length == p
def signOf (l : List UInt8) : List UInt8 :=
  match signs2.find? (hasPre · l) with
  | some t => t
  | none => match l with
    | c :: _ => if signs1.contains c then [c] else []
    | [] => []
theorem hasPre_dec (p l : List UInt8) : (decide ((l.length : Int) ≥ (p.length : Int)) && (l.take p.length == p)) = hasPre p l := by
  unfold hasPre
  by_cases h : l.take p.length = p
  · have : p.length ≤ l.length := by rw [← h]; simp; omega
    simp [h]; omega
  · have : (l.take p.length == p) = false := by simpa using h
    rw [this]; simp
theorem find_none_of {α : Type} (p : α → Bool) (l : List α) (h : ∀ i (hi : i < l.length), p l[i] = false) : l.find? p = none := by
  rw [List.find?_eq_none]
  intro x hx
  obtain ⟨i, hi, rfl⟩ := List.getElem_of_mem hx
  simp [h i hi]
theorem find_at {α : Type} (p : α → Bool) : ∀ (l : List α) (k : Nat) (hk : k < l.length), (∀ i (hi : i < l.length), i < k → p l[i] = false) → p l[k] = true → l.find? p = some l[k]
  | a :: l, 0, _, _, h2 => by simp at h2; simp [h2]
  | a :: l, k + 1, hk, h1, h2 => by
    have h0 := h1 0 (by simp) (by omega)
    simp at h0 h2
    rw [List.find?_cons, h0]
    exact find_at p l k (by simpa using hk) (fun i hi hik => by have := h1 (i + 1) (by simp; omega) (by omega); simpa using this) h2
theorem indexByte_mem : ∀ (l : List UInt8) (c : UInt8), (0 ≤ Lib.indexByte l c) ↔ l.contains c = true
  | [], c => by simp [Lib.indexByte]
  | b :: l, c => by
    have ih := indexByte_mem l c
    have hge := Lib.indexByte_ge l c
    unfold Lib.indexByte
    by_cases h : b = c
    · subst h; simp
    · have hb : (b == c) = false := by simpa using h
      have hb' : (c == b) = false := by simpa using fun e : c = b => h e.symm
      simp only [hb, Bool.false_eq_true, if_false, List.contains_cons, hb', Bool.false_or]
      rw [← ih]
      split
      · rename_i h1; simp at h1; omega
      · rename_i h1; simp at h1; omega

/-- all signs, the longer ones first -/
def signsAll : List (List UInt8) := signs2 ++ signs1.map fun c => [c]
theorem signOf_all (l : List UInt8) : signOf l = match signsAll.find? (hasPre · l) with | some t => t | none => [] := by
  unfold signOf signsAll
  rw [List.find?_append]
  cases h : signs2.find? (hasPre · l) with
  | some t => rfl
  | none =>
    simp only [Option.none_or]
    cases l with
    | nil =>
      have : (signs1.map fun c => [c]).find? (hasPre · []) = none := by decide
      rw [this]
    | cons c l =>
      have hp : ∀ d : UInt8, hasPre [d] (c :: l) = (c == d) := by intro d; unfold hasPre; rw [Bool.eq_iff_iff]; simp
      rw [List.find?_map]
      have he : ((hasPre · (c :: l)) ∘ fun d => [d]) = fun d => c == d := by funext d; exact hp d
      rw [he]
      cases hf : signs1.find? (fun d => c == d) with
      | none =>
        have : signs1.contains c = false := by
          rw [List.find?_eq_none] at hf
          cases hc : signs1.contains c with
          | false => rfl
          | true => exact absurd (by simp) (hf c (List.contains_iff_mem.1 hc))
        simp only [this, Bool.false_eq_true, if_false, Option.map_none]
      | some d =>
        have h1 := List.find?_some hf
        have h2 := List.mem_of_find?_eq_some hf
        simp at h1
        subst h1
        have : signs1.contains c = true := List.contains_iff_mem.2 h2
        simp only [this, if_true, Option.map_some]

/-! numbers -/
def numVal (d : List UInt8) : Nat := d.foldl (fun n c => 10 * n + (c.toNat - 48)) 0
theorem numVal_snoc (d : List UInt8) (c : UInt8) : numVal (d ++ [c]) = 10 * numVal d + (c.toNat - 48) := by simp [numVal]
theorem numVal_bd (d : List UInt8) (h : ∀ c ∈ d, digC c = true) : numVal d < 10 ^ d.length := by
  suffices ∀ (d : List UInt8) (n k : Nat), (∀ c ∈ d, digC c = true) → n < 10 ^ k → d.foldl (fun n c => 10 * n + (c.toNat - 48)) n < 10 ^ (k + d.length) by
    have := this d 0 0 h (by simp); simpa [numVal] using this
  intro d
  induction d with
  | nil => intro n k _ hn; simpa using hn
  | cons c d ih =>
    intro n k hd hn
    have hc := hd c (by simp)
    simp [digC, digN] at hc
    have := ih (10 * n + (c.toNat - 48)) (k + 1) (fun x hx => hd x (by simp [hx])) (by rw [Nat.pow_succ]; omega)
    rw [show k + 1 + d.length = k + (c :: d).length by simp; omega] at this
    exact this

def headLet (r : List UInt8) : Bool := match r with | x :: _ => letC x | [] => false
/-- what digits are, and what stands behind them: the number, and the error -/
def numRes (d r : List UInt8) : Int × Int :=
  if d.getD 0 0 == 48 && decide (d.length > 1) then (0, 3) else if d.length > 18 then (0, 5) else if headLet r then (0, 3) else ((numVal d : Nat), 0)

structure Tok where
  kind : Int
  text : List UInt8
  n : Int
  at_ : Int
def Tok.zero : Tok := ⟨0, [], 0, 0⟩
def tokC (t : Tok) : List Value := [.int .i64 t.kind, .string (mkS t.text), .int .i64 t.n, .int .i64 t.at_]

/-- the token at the beginning of what is left, of which the first byte is no blank -/
def tokAt (l : List UInt8) (p : Nat) : Tok × Nat × Int :=
  match l with
  | [] => (⟨0, [], 0, p⟩, p, 0)
  | c :: _ =>
    if letC c then
      if (l.takeWhile wordC).length > 16 then (Tok.zero, p, 5)
      else (⟨if decide (l.takeWhile wordC ∈ words) then 3 else 1, l.takeWhile wordC, 0, p⟩, p + (l.takeWhile wordC).length, 0)
    else if digC c then
      if (numRes (l.takeWhile digC) (l.drop (l.takeWhile digC).length)).2 = 0 then (⟨2, l.takeWhile digC, (numRes (l.takeWhile digC) (l.drop (l.takeWhile digC).length)).1, p⟩, p + (l.takeWhile digC).length, 0)
      else (Tok.zero, p, (numRes (l.takeWhile digC) (l.drop (l.takeWhile digC).length)).2)
    else if signOf l = [] then (Tok.zero, p, 10)
    else (⟨4, signOf l, 0, p⟩, p + (signOf l).length, 0)
theorem tokAt_cons (c : UInt8) (l : List UInt8) (p : Nat) : tokAt (c :: l) p =
    if letC c then
      if ((c :: l).takeWhile wordC).length > 16 then (Tok.zero, p, 5)
      else (⟨if decide ((c :: l).takeWhile wordC ∈ words) then 3 else 1, (c :: l).takeWhile wordC, 0, p⟩, p + ((c :: l).takeWhile wordC).length, 0)
    else if digC c then
      if (numRes ((c :: l).takeWhile digC) ((c :: l).drop ((c :: l).takeWhile digC).length)).2 = 0 then (⟨2, (c :: l).takeWhile digC, (numRes ((c :: l).takeWhile digC) ((c :: l).drop ((c :: l).takeWhile digC).length)).1, p⟩, p + ((c :: l).takeWhile digC).length, 0)
      else (Tok.zero, p, (numRes ((c :: l).takeWhile digC) ((c :: l).drop ((c :: l).takeWhile digC).length)).2)
    else if signOf (c :: l) = [] then (Tok.zero, p, 10)
    else (⟨4, signOf (c :: l), 0, p⟩, p + (signOf (c :: l)).length, 0) := rfl
/-- P8.1 -/
def nextS (s : List UInt8) (at_ : Int) : Tok × Nat × Int :=
  if at_ < 0 ∨ (s.length : Int) < at_ then (Tok.zero, 0, 1)
  else tokAt (s.drop (at_.toNat + blankN false (s.drop at_.toNat))) (at_.toNat + blankN false (s.drop at_.toNat))
end Go.Tk
