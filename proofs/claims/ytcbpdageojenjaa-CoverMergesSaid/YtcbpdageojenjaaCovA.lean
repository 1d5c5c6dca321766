/- Contracts of cover, in plain values. -/
import Derived.Test.YtcbpdageojenjaaLtC
namespace Go.Proofs.Ytcbpdageojenjaa
open Go.Vc Go.Lv Go.Ty

def timesF (l : List GHappen) (n : Int) : Nat := l.countP fun h => h.stmt == n
def stF (c : GCode) : Nat := (if 65536 < (if 0 > c.stmts then 0 else c.stmts) then 65536 else (if 0 > c.stmts then 0 else c.stmts)).toNat
theorem stF_eq (c : GCode) : ((stF c : Nat) : Int) = (if 65536 < (if 0 > c.stmts then 0 else c.stmts) then 65536 else (if 0 > c.stmts then 0 else c.stmts)) := by
  unfold stF; split <;> split <;> omega
theorem stF_le (c : GCode) : stF c ≤ 65536 := by
  unfold stF; split <;> split <;> omega
def countL (N : Nat) (l : List GHappen) : List Int := (List.range N).map fun i : Nat => ((timesF l (i : Int) : Nat) : Int)
theorem countL_len (N : Nat) (l : List GHappen) : (countL N l).length = N := by simp [countL]
theorem countL_get (N : Nat) (l : List GHappen) (i : Nat) (h : i < N) : (countL N l)[i]? = some (timesF l i : Int) := by simp [countL, h]
theorem times_snoc (l : List GHappen) (h : GHappen) (n : Int) : timesF (l ++ [h]) n = timesF l n + (if h.stmt == n then 1 else 0) := by simp [timesF, List.countP_append, List.countP_cons]
theorem times_le (l : List GHappen) (n : Int) : timesF l n ≤ l.length := List.countP_le_length
theorem count_snoc (N : Nat) (l : List GHappen) (h : GHappen) (hb : l.length < 1000000) : countL N (l ++ [h]) = if 0 ≤ h.stmt ∧ h.stmt < N then (countL N l).set h.stmt.toNat (IntKind.i64.wrap ((timesF l h.stmt : Int) + 1)) else countL N l := by
  have ht := times_le l h.stmt
  rw [wrap_in (by omega) (by omega)]
  apply List.ext_getElem?
  intro i
  by_cases hi : i < N
  · rw [countL_get _ _ _ hi, times_snoc]
    by_cases hs : 0 ≤ h.stmt ∧ h.stmt < (N : Int)
    · rw [if_pos hs, List.getElem?_set]
      by_cases he : h.stmt.toNat = i
      · subst he
        have hlt : h.stmt.toNat < (countL N l).length := by rw [countL_len]; exact hi
        rw [if_pos rfl, if_pos hlt, Int.toNat_of_nonneg hs.1]
        simp
      · rw [if_neg he, countL_get _ _ _ hi]
        have : ¬ h.stmt = (i : Int) := fun e => he (by rw [e]; rfl)
        simp [this]
    · rw [if_neg hs, countL_get _ _ _ hi]
      have : ¬ h.stmt = (i : Int) := fun e => hs (by omega)
      simp [this]
  · rw [List.getElem?_eq_none (by rw [countL_len]; omega)]
    split
    · rw [List.getElem?_eq_none (by rw [List.length_set, countL_len]; omega)]
    · rw [List.getElem?_eq_none (by rw [countL_len]; omega)]
theorem stmts_v (c : GCode) (K : Int → Prop) (h : K (stF c)) : V_cover_stmts c K := by
  refine cover_stmts_lift _ _ ?_
  unfold cover_stmts_vwp
  rw [← stF_eq]; exact h
theorem rstmts_v (c : GCode) (K : Int → Prop) (h : K (stF c)) : V_R43_Stmts c K := by
  refine R43_Stmts_lift _ _ (cond_intro (fun h0 => ?_) fun h0 => cond_intro (fun h1 => ?_) fun h1 => ?_)
  · rw [stF_eq, if_pos (show 0 > c.stmts by simpa using h0), if_neg (by omega)] at h; exact h
  · rw [stF_eq, if_neg (show ¬ 0 > c.stmts by simp at h0; omega), if_pos (by simp at h1; omega)] at h; exact h
  · rw [stF_eq, if_neg (show ¬ 0 > c.stmts by simp at h0; omega), if_neg (by simp at h1; omega)] at h; exact h
theorem take_snoc {α : Type} {l : List α} {k : Nat} {x : α} (h : l[k]? = some x) : l.take (k + 1) = l.take k ++ [x] := by
  rw [List.take_add_one, h]; rfl
theorem rtimes_v (l : List GHappen) (n : Int) (hl : l.length < 1000000) (K : Int → Prop) (h : K (timesF l n)) : V_R43_Times l n K := by
  refine R43_Times_lift _ _ _ ⟨fun k i m => ∃ a : Nat, i = a ∧ a ≤ l.length ∧ m = l.length - a ∧ k = timesF (l.take a) n, ⟨_, 0, rfl, by omega, rfl, by simp [timesF]⟩, ?_⟩
  rintro _ _ _ ⟨a, rfl, ha, rfl, rfl⟩
  refine cond_intro (fun hc => ?_) fun hc => ?_
  · have hlt : a < l.length := by simp at hc; omega
    have hx := List.getElem?_eq_getElem hlt
    refine ⟨fun k => k = (timesF (l.take (a + 1)) n : Int), ⟨by omega, fun x hx' => ?_⟩, ?_⟩
    · rw [Int.toNat_natCast, hx] at hx'
      cases hx'
      have ht := times_le (l.take a) n
      rw [List.length_take] at ht
      rw [take_snoc hx, times_snoc]
      refine cond_intro (fun hs => ?_) fun hs => ?_
      · rw [wrap_in (by omega) (by omega), hs]; simp
      · rw [hs]; simp
    · rintro _ rfl
      exact ⟨l.length - (a + 1), by omega, a + 1, by rw [wrap_in (by omega) (by omega)]; omega, by omega, rfl, rfl⟩
  · rw [List.take_of_length_le (by simp at hc; omega)]
    exact h
theorem count_v (c : GCode) (l : List GHappen) (hl : l.length < 1000000) (K : List Int → Prop) (h : K (countL (stF c) l)) : V_cover_Count c l K := by
  have hst := stF_le c
  refine cover_Count_lift _ _ _ (stmts_v c _ ⟨⟨by omega, by omega⟩, ?_⟩)
  rw [Int.toNat_natCast]
  refine ⟨fun x1 l1 n => ∃ a : Nat, x1 = a ∧ a ≤ l.length ∧ n = l.length - a ∧ l1 = countL (stF c) (l.take a), ⟨_, 0, rfl, by omega, rfl, ?_⟩, ?_⟩
  · apply List.ext_getElem
    · simp [countL]
    · intro i h1 h2
      simp [countL, timesF]
  rintro _ _ _ ⟨a, rfl, ha, rfl, rfl⟩
  refine cond_intro (fun hc => ?_) fun hc => ?_
  · have hlt : a < l.length := by simp at hc; omega
    have hx := List.getElem?_eq_getElem hlt
    have hsn := count_snoc (stF c) (l.take a) l[a] (by rw [List.length_take]; omega)
    rw [← take_snoc hx] at hsn
    refine ⟨fun l2 => l2 = countL (stF c) (l.take (a + 1)), ⟨by omega, fun x hx' => ?_⟩, ?_⟩
    · rw [Int.toNat_natCast, hx] at hx'
      cases hx'
      refine ⟨fun b => b = (decide (0 ≤ l[a].stmt) && decide (l[a].stmt < (stF c : Int))), cond_intro (fun hs => ?_) (fun hs => ?_), ?_⟩
      · rw [show decide (0 ≤ l[a].stmt) = true from hs, Bool.true_and]
      · rw [show decide (0 ≤ l[a].stmt) = false from hs, Bool.false_and]
      · rintro _ rfl
        refine cond_intro (fun hs => ?_) fun hs => ?_
        · have hs' : 0 ≤ l[a].stmt ∧ l[a].stmt < (stF c : Int) := by simpa using hs
          refine ⟨hs', fun x4 hx4 => ⟨hs', fun x5 _ => ?_⟩⟩
          rw [countL_get _ _ _ (by omega)] at hx4
          cases hx4
          rw [hsn, if_pos hs', Int.toNat_of_nonneg hs'.1]
        · have hs' : ¬ (0 ≤ l[a].stmt ∧ l[a].stmt < (stF c : Int)) := by
            intro h'; rw [decide_eq_true h'.1, decide_eq_true h'.2] at hs; cases hs
          rw [hsn, if_neg hs']
    · rintro _ rfl
      exact ⟨l.length - (a + 1), by omega, a + 1, by rw [wrap_in (by omega) (by omega)]; omega, by omega, rfl, rfl⟩
  · rw [List.take_of_length_le (by simp at hc; omega)]
    exact h
/-- the places of numbers of a kind -/
def whereF (p : Int → Bool) : List Int → Nat → List Int
  | [], _ => []
  | x :: l, k => if p x then (k : Int) :: whereF p l (k + 1) else whereF p l (k + 1)
theorem whereF_len (p : Int → Bool) : ∀ (l : List Int) (k : Nat), (whereF p l k).length ≤ l.length
  | [], k => by simp [whereF]
  | x :: l, k => by
    have := whereF_len p l (k + 1)
    unfold whereF
    split <;> simp <;> omega
theorem whereF_snoc (p : Int → Bool) (x : Int) : ∀ (l : List Int) (k : Nat), whereF p (l ++ [x]) k = whereF p l k ++ (if p x then [((k + l.length : Nat) : Int)] else [])
  | [], k => by simp [whereF]
  | y :: l, k => by
    simp only [List.cons_append, whereF, whereF_snoc p x l (k + 1), List.length_cons, show k + 1 + l.length = k + (l.length + 1) by omega]
    split <;> simp
theorem whereF_mem (p : Int → Bool) (y : Int) : ∀ (l : List Int) (k : Nat), y ∈ whereF p l k ↔ ∃ i : Nat, y = ((k + i : Nat) : Int) ∧ ∃ x, l[i]? = some x ∧ p x = true
  | [], k => by simp [whereF]
  | x :: l, k => by
    unfold whereF
    have key : (∃ i : Nat, y = ((k + i : Nat) : Int) ∧ ∃ z, (x :: l)[i]? = some z ∧ p z = true) ↔ ((y = (k : Int) ∧ p x = true) ∨ ∃ i : Nat, y = ((k + 1 + i : Nat) : Int) ∧ ∃ z, l[i]? = some z ∧ p z = true) := by
      constructor
      · rintro ⟨i, hy, z, hz, hp⟩
        cases i with
        | zero => simp at hz; subst hz; exact .inl ⟨by simpa using hy, hp⟩
        | succ i => exact .inr ⟨i, by rw [hy]; congr 1; omega, z, by simpa using hz, hp⟩
      · rintro (⟨hy, hp⟩ | ⟨i, hy, z, hz, hp⟩)
        · exact ⟨0, by simpa using hy, x, rfl, hp⟩
        · exact ⟨i + 1, by rw [hy]; congr 1; omega, z, by simpa using hz, hp⟩
    rw [key, ← whereF_mem p y l (k + 1)]
    split
    · rename_i hp; simp [hp]
    · rename_i hp; simp [hp]
theorem whereF_sorted (p : Int → Bool) : ∀ (l : List Int) (k : Nat), (whereF p l k).Pairwise (· < ·)
  | [], k => by simp [whereF]
  | x :: l, k => by
    unfold whereF
    split
    · refine List.pairwise_cons.2 ⟨fun y hy => ?_, whereF_sorted p l (k + 1)⟩
      obtain ⟨i, hy, _⟩ := (whereF_mem p y l (k + 1)).1 hy
      omega
    · exact whereF_sorted p l (k + 1)
theorem missedw_v (l : List Int) (hl : l.length < 1000000) (K : List Int → Prop) (h : K (whereF (· == 0) l 0)) : V_cover_where_cover_Missed_1 l K := by
  refine cover_where_cover_Missed_1_lift _ _ ⟨fun out x n => ∃ a : Nat, x = a ∧ a ≤ l.length ∧ n = l.length - a ∧ out = whereF (· == 0) (l.take a) 0, ⟨_, 0, rfl, by omega, rfl, by simp [whereF]⟩, ?_⟩
  rintro _ _ _ ⟨a, rfl, ha, rfl, rfl⟩
  refine cond_intro (fun hc => ?_) fun hc => ?_
  · have hlt : a < l.length := by simp at hc; omega
    have hx := List.getElem?_eq_getElem hlt
    have hll := whereF_len (· == 0) (l.take a) 0
    rw [List.length_take] at hll
    refine ⟨fun out1 => out1 = whereF (· == 0) (l.take (a + 1)) 0, ⟨by omega, fun x hx' => ?_⟩, ?_⟩
    · rw [Int.toNat_natCast, hx] at hx'
      cases hx'
      rw [take_snoc hx, whereF_snoc]
      have e0 : (0 + (l.take a).length : Nat) = a := by rw [List.length_take]; omega
      refine cover_Missed_1_lift _ _ (cond_intro (fun hs => ⟨by simp; omega, ?_⟩) fun hs => ?_)
      · rw [if_pos hs, e0]
      · rw [if_neg (by rw [hs]; simp), List.append_nil]
    · rintro _ rfl
      exact ⟨l.length - (a + 1), by omega, a + 1, by rw [wrap_in (by omega) (by omega)]; omega, by omega, rfl, rfl⟩
  · rw [List.take_of_length_le (by simp at hc; omega)]
    exact h
theorem hotw_v (l : List Int) (hl : l.length < 1000000) (K : List Int → Prop) (h : K (whereF (fun n => decide (n > 0)) l 0)) : V_cover_where_cover_Hot_1 l K := by
  refine cover_where_cover_Hot_1_lift _ _ ⟨fun out x n => ∃ a : Nat, x = a ∧ a ≤ l.length ∧ n = l.length - a ∧ out = whereF (fun n => decide (n > 0)) (l.take a) 0, ⟨_, 0, rfl, by omega, rfl, by simp [whereF]⟩, ?_⟩
  rintro _ _ _ ⟨a, rfl, ha, rfl, rfl⟩
  refine cond_intro (fun hc => ?_) fun hc => ?_
  · have hlt : a < l.length := by simp at hc; omega
    have hx := List.getElem?_eq_getElem hlt
    have hll := whereF_len (fun n => decide (n > 0)) (l.take a) 0
    rw [List.length_take] at hll
    refine ⟨fun out1 => out1 = whereF (fun n => decide (n > 0)) (l.take (a + 1)) 0, ⟨by omega, fun x hx' => ?_⟩, ?_⟩
    · rw [Int.toNat_natCast, hx] at hx'
      cases hx'
      rw [take_snoc hx, whereF_snoc]
      have e0 : (0 + (l.take a).length : Nat) = a := by rw [List.length_take]; omega
      refine cover_Hot_1_lift _ _ (cond_intro (fun hs => ⟨by rw [List.length_singleton]; omega, ?_⟩) fun hs => ?_)
      · rw [if_pos hs, e0]
      · rw [if_neg (by rw [hs]; simp), List.append_nil]
    · rintro _ rfl
      exact ⟨l.length - (a + 1), by omega, a + 1, by rw [wrap_in (by omega) (by omega)]; omega, by omega, rfl, rfl⟩
  · rw [List.take_of_length_le (by simp at hc; omega)]
    exact h
theorem same_v (a b : List Int) (ha : a.length < 1000000) (K : Bool → Prop) (h : K (decide (a = b))) : V_R03_Same a b K := by
  refine R03_Same_lift _ _ _ (cond_intro (fun hc => ?_) fun hc => ?_)
  · rw [decide_eq_false (fun e => by rw [e] at hc; simp at hc)] at h
    exact h
  · have hab : a.length = b.length := by simp at hc; omega
    refine ⟨fun i n => ∃ k : Nat, i = k ∧ k ≤ a.length ∧ n = a.length - k ∧ a.take k = b.take k, ⟨_, 0, rfl, by omega, rfl, by simp⟩, ?_⟩
    rintro _ _ ⟨k, rfl, hk, rfl, he⟩
    refine cond_intro (fun hd => ⟨by simp at hd; omega, fun x hx => ⟨by simp at hd; omega, fun y hy => ?_⟩⟩) fun hd => ?_
    · rw [Int.toNat_natCast] at hx hy
      have hlt := (List.getElem?_eq_some_iff.1 hx).1
      refine cond_intro (fun hq => ?_) fun hq => ?_
      · have hne : x ≠ y := by simpa using hq
        rw [decide_eq_false (fun e => hne (by rw [e, hy] at hx; exact (Option.some.inj hx).symm))] at h
        exact h
      · have heq : x = y := by simpa using hq
        subst heq
        exact ⟨a.length - (k + 1), by omega, k + 1, by rw [wrap_in (by omega) (by omega)]; omega, by omega, rfl, by rw [take_snoc hx, take_snoc hy, he]⟩
    · rw [List.take_of_length_le (by simp at hd; omega), List.take_of_length_le (by simp at hd; omega)] at he
      rw [decide_eq_true he] at h
      exact h
def missF (c : GCode) (l : List GHappen) : List Int := whereF (· == 0) (countL (stF c) l) 0
theorem missed_v (c : GCode) (l : List GHappen) (hl : l.length < 1000000) (K : List Int → Prop) (h : K (missF c l)) : V_cover_Missed c l K := by
  have := stF_le c
  exact cover_Missed_lift _ _ _ (count_v c l hl _ (missedw_v _ (by rw [countL_len]; omega) _ h))
def shareF (c : GCode) (l : List GHappen) : Int := if stF c = 0 then 100 else IntKind.i64.wrap ((IntKind.i64.wrap (100 * IntKind.i64.wrap ((stF c : Int) - ((missF c l).length : Int)))).tdiv (stF c))
theorem share_v (c : GCode) (l : List GHappen) (hl : l.length < 1000000) (K : Int → Prop) (h : K (shareF c l)) : V_cover_Share c l K := by
  refine cover_Share_lift _ _ _ (stmts_v c _ (cond_intro (fun hc => ?_) fun hc => missed_v c l hl _ ⟨?_, ?_⟩))
  · unfold shareF at h
    rw [if_pos (by simpa using hc)] at h
    exact h
  · simpa using hc
  · unfold shareF at h
    rw [if_neg (by simpa using hc)] at h
    exact h
theorem large_v (c : GCode) (l : List GHappen) (K : Bool → Prop) (h : ∀ b, (b = false → l.length ≤ 100 ∧ c.stmts ≤ 60) → K b) : V_L43_large c l K := by
  refine L43_large_lift _ _ _ (cond_intro (fun hc => h _ (by simp)) fun hc => h _ fun hd => ?_)
  simp at hc hd; omega
/-- lists, added up -/
def addW (out x : List Int) : List Int := (List.range (max out.length x.length)).map fun i => if i < x.length then IntKind.i64.wrap (out.getD i 0 + x.getD i 0) else out.getD i 0
theorem addW_len (out x : List Int) : (addW out x).length = max out.length x.length := by simp [addW]
theorem addW_get (out x : List Int) (k : Nat) : (addW out x).getD k 0 = if k < x.length then IntKind.i64.wrap (out.getD k 0 + x.getD k 0) else out.getD k 0 := by
  unfold addW
  by_cases hk : k < max out.length x.length
  · simp [List.getD_eq_getElem?_getD, hk]
  · have h1 : ¬ k < x.length := by omega
    have h2 : ¬ k < out.length := by omega
    simp [List.getD_eq_getElem?_getD, hk, h1, h2]
def mergeF (a : List (List Int)) : List Int := a.foldl addW []
theorem merge_len : ∀ (a : List (List Int)) (out : List Int) (b : Nat), (∀ x ∈ a, x.length ≤ b) → out.length ≤ b → (a.foldl addW out).length ≤ b
  | [], out, b, _, h => h
  | x :: a, out, b, ha, h => merge_len a _ b (fun y hy => ha y (by simp [hy])) (by rw [addW_len]; have := ha x (by simp); omega)
theorem list_getD_ext {a b : List Int} (hl : a.length = b.length) (h : ∀ i, i < a.length → a.getD i 0 = b.getD i 0) : a = b := by
  apply List.ext_getElem hl
  intro i h1 h2
  have := h i h1
  simpa [List.getD_eq_getElem?_getD, h1, h2] using this
theorem merge_v (a : List (List Int)) (ha : a.length < 1000000) (hx : ∀ x ∈ a, x.length ≤ 100000) (K : List Int → Prop) (h : K (mergeF a)) : V_cover_Merge a K := by
  refine cover_Merge_lift _ _ ⟨fun out x n => ∃ k : Nat, x = k ∧ k ≤ a.length ∧ n = a.length - k ∧ out = mergeF (a.take k), ⟨_, 0, rfl, by omega, rfl, by simp [mergeF]⟩, ?_⟩
  rintro _ _ _ ⟨k, rfl, hk, rfl, rfl⟩
  have hml : (mergeF (a.take k)).length ≤ 100000 := merge_len _ _ _ (fun x hm => hx x (List.mem_of_mem_take hm)) (by simp)
  generalize hm : mergeF (a.take k) = out at hml
  refine cond_intro (fun hc => ⟨by simp at hc; omega, fun x1 h1 => ?_⟩) fun hc => ?_
  · rw [Int.toNat_natCast] at h1
    have hlt := (List.getElem?_eq_some_iff.1 h1).1
    have hx1 := hx x1 (List.mem_of_getElem? h1)
    refine ⟨fun out1 n => ∃ j : Nat, out1 = out ++ List.replicate j 0 ∧ (j = 0 ∨ out.length + j ≤ x1.length) ∧ n = x1.length - (out.length + j), ⟨_, 0, by simp, .inl rfl, rfl⟩, ?_⟩
    rintro _ _ ⟨j, rfl, hj, rfl⟩
    refine cond_intro (fun hd => ⟨by simp; omega, ?_⟩) fun hd => ?_
    · simp at hd
      refine ⟨x1.length - (out.length + (j + 1)), by omega, j + 1, ?_, .inr (by omega), rfl⟩
      rw [List.append_assoc, List.replicate_succ']
    · simp at hd
      have hlen : (out ++ List.replicate j (0 : Int)).length = max out.length x1.length := by simp; omega
      have hget : ∀ i, (out ++ List.replicate j (0 : Int)).getD i 0 = out.getD i 0 := by
        intro i
        by_cases hi : i < out.length
        · rw [List.getD_eq_getElem?_getD, List.getElem?_append_left hi, ← List.getD_eq_getElem?_getD]
        · rw [List.getD_eq_getElem?_getD, List.getElem?_append_right (by omega), List.getElem?_replicate]
          split <;> simp [List.getD_eq_getElem?_getD, hi]
      generalize hol : out ++ List.replicate j (0 : Int) = out1 at hlen hget
      refine ⟨fun x2 l n => ∃ i : Nat, x2 = i ∧ i ≤ x1.length ∧ n = x1.length - i ∧ l.length = out1.length ∧ ∀ q, l.getD q 0 = if q < i then IntKind.i64.wrap (out1.getD q 0 + x1.getD q 0) else out1.getD q 0, ⟨_, 0, rfl, by omega, rfl, rfl, by simp⟩, ?_⟩
      rintro _ l _ ⟨i, rfl, hi, rfl, hll, hlq⟩
      refine cond_intro (fun he => ?_) fun he => ?_
      · have hil : i < x1.length := by simp at he; omega
        refine ⟨by omega, fun x3 h3 => ⟨by omega, fun x4 h4 => ⟨by omega, fun x5 _ => ?_⟩⟩⟩
        rw [Int.toNat_natCast] at h3 h4
        refine ⟨x1.length - (i + 1), by omega, i + 1, by rw [wrap_in (by omega) (by omega)]; omega, by omega, rfl, by rw [List.length_set, hll], fun q => ?_⟩
        have e3 : x1.getD i 0 = x3 := by rw [List.getD_eq_getElem?_getD, h3]; rfl
        have e4 : out1.getD i 0 = x4 := by
          have := hlq i
          rw [if_neg (by omega), List.getD_eq_getElem?_getD, h4] at this
          exact this.symm
        rw [Int.toNat_natCast, List.getD_eq_getElem?_getD, List.getElem?_set]
        by_cases hqi : i = q
        · subst hqi
          rw [if_pos rfl, if_pos (by omega), if_pos (by omega), e3, e4]; rfl
        · rw [if_neg hqi, ← List.getD_eq_getElem?_getD, hlq q]
          by_cases hq : q < i
          · rw [if_pos hq, if_pos (by omega)]
          · rw [if_neg hq, if_neg (by omega)]
      · have hii : i = x1.length := by simp at he; omega
        subst hii
        refine ⟨a.length - (k + 1), by omega, k + 1, by rw [wrap_in (by omega) (by omega)]; omega, by omega, rfl, ?_⟩
        have hmm : mergeF (a.take (k + 1)) = addW out x1 := by
          unfold mergeF at hm ⊢
          rw [take_snoc h1, List.foldl_append, hm]; rfl
        rw [hmm]
        refine list_getD_ext (by rw [addW_len, hll, hlen]) fun q _ => ?_
        rw [addW_get, hlq q, hget q]
  · rw [List.take_of_length_le (by simp at hc; omega)] at hm
    rw [← hm]; exact h
end Go.Proofs.Ytcbpdageojenjaa
