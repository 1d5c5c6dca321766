/- Lists in order, each once: plain. -/
import Derived.Lib.SlicesCompact
import Derived.Lib.RowBridge
namespace Go.St

/-- a total order -/
structure Ord {α : Type} (lt : α → α → Prop) : Prop where
  irr : ∀ a, ¬ lt a a
  tr : ∀ a b c, lt a b → lt b c → lt a c
  tot : ∀ a b, lt a b ∨ a = b ∨ lt b a
section
variable {α : Type} {lt : α → α → Prop} [DecidableEq α] [DecidableRel lt]
omit [DecidableEq α] [DecidableRel lt] in
theorem Ord.as (o : Ord lt) {a b : α} (h : lt a b) : ¬ lt b a := fun h' => o.irr a (o.tr _ _ _ h h')
omit [DecidableEq α] [DecidableRel lt] in
theorem Ord.ne (o : Ord lt) {a b : α} (h : lt a b) : a ≠ b := fun e => o.irr a (by rw [← e] at h; exact h)
/-- in order, each once -/
abbrev Asc (lt : α → α → Prop) (l : List α) : Prop := l.Pairwise lt
omit [DecidableEq α] [DecidableRel lt] in
theorem asc_ext (o : Ord lt) : ∀ {a b : List α}, Asc lt a → Asc lt b → (∀ x, x ∈ a ↔ x ∈ b) → a = b
  | [], [], _, _, _ => rfl
  | [], y :: b, _, _, h => absurd ((h y).2 (by simp)) (by simp)
  | x :: a, [], _, _, h => absurd ((h x).1 (by simp)) (by simp)
  | x :: a, y :: b, ha, hb, h => by
    obtain ⟨ha1, ha2⟩ := List.pairwise_cons.1 ha
    obtain ⟨hb1, hb2⟩ := List.pairwise_cons.1 hb
    have hxy : x = y := by
      rcases List.mem_cons.1 ((h x).1 (by simp)) with e | hx
      · exact e
      · rcases List.mem_cons.1 ((h y).2 (by simp)) with e | hy
        · exact e.symm
        · exact absurd (ha1 y hy) (o.as (hb1 x hx))
    subst hxy
    have := asc_ext o ha2 hb2 fun z => by
      constructor
      · intro hz
        rcases List.mem_cons.1 ((h z).1 (by simp [hz])) with e | hz'
        · exact absurd e.symm (o.ne (ha1 z hz))
        · exact hz'
      · intro hz
        rcases List.mem_cons.1 ((h z).2 (by simp [hz])) with e | hz'
        · exact absurd e.symm (o.ne (hb1 z hz))
        · exact hz'
    rw [this]
/-- one more -/
def addF (lt : α → α → Prop) [DecidableRel lt] (l : List α) (x : α) : List α := if x ∈ l then l else l.filter (fun y => decide (lt y x)) ++ x :: l.filter (fun y => decide (lt x y))
def delF (l : List α) (x : α) : List α := l.filter fun y => decide (y ≠ x)
theorem addF_mem (o : Ord lt) (l : List α) (x y : α) : y ∈ addF lt l x ↔ y = x ∨ y ∈ l := by
  unfold addF
  split
  · rename_i hx
    constructor
    · intro h; exact .inr h
    · rintro (rfl | h)
      · exact hx
      · exact h
  · rename_i hx
    simp only [List.mem_append, List.mem_filter, List.mem_cons, decide_eq_true_eq]
    constructor
    · rintro (⟨h, _⟩ | rfl | ⟨h, _⟩)
      · exact .inr h
      · exact .inl rfl
      · exact .inr h
    · rintro (rfl | h)
      · exact .inr (.inl rfl)
      · rcases o.tot y x with h' | rfl | h'
        · exact .inl ⟨h, h'⟩
        · exact .inr (.inl rfl)
        · exact .inr (.inr ⟨h, h'⟩)
theorem addF_asc (o : Ord lt) {l : List α} (h : Asc lt l) (x : α) : Asc lt (addF lt l x) := by
  unfold addF
  split
  · exact h
  · refine List.pairwise_append.2 ⟨h.filter _, List.pairwise_cons.2 ⟨fun y hy => by simp at hy; exact hy.2, h.filter _⟩, fun a ha b hb => ?_⟩
    simp at ha
    rcases List.mem_cons.1 hb with rfl | hb
    · exact ha.2
    · simp at hb; exact o.tr _ _ _ ha.2 hb.2
theorem delF_mem (l : List α) (x y : α) : y ∈ delF l x ↔ y ∈ l ∧ y ≠ x := by simp [delF]
omit [DecidableRel lt] in
theorem delF_asc {l : List α} (h : Asc lt l) (x : α) : Asc lt (delF l x) := h.filter _
/-- how many are below one -/
def fromF (lt : α → α → Prop) [DecidableRel lt] (l : List α) (x : α) : Nat := l.countP fun y => decide (lt y x)
omit [DecidableEq α] in
theorem fromF_le (l : List α) (x : α) : fromF lt l x ≤ l.length := List.countP_le_length
omit [DecidableEq α] in
/-- in a list in order those below stand ahead -/
theorem below_at (o : Ord lt) : ∀ {l : List α}, Asc lt l → ∀ (x : α) (j : Nat) (hj : j < l.length), lt l[j] x ↔ j < fromF lt l x
  | [], _, x, j, hj => by simp at hj
  | y :: l, h, x, j, hj => by
    obtain ⟨h1, h2⟩ := List.pairwise_cons.1 h
    unfold fromF
    rw [List.countP_cons]
    by_cases hy : lt y x
    · simp only [hy, decide_true, if_true]
      cases j with
      | zero => simp [hy]
      | succ j =>
        have := below_at o h2 x j (by simpa using hj)
        unfold fromF at this
        simp only [List.getElem_cons_succ]
        rw [this]; omega
    · have h0 : l.countP (fun z => decide (lt z x)) = 0 := by
        rw [List.countP_eq_zero]
        intro z hz
        simp only [decide_eq_true_eq]
        exact fun hzx => hy (o.tr _ _ _ (h1 z hz) hzx)
      simp only [hy, decide_false, h0]
      constructor
      · intro hlt
        exfalso
        cases j with
        | zero => exact hy hlt
        | succ j => exact hy (o.tr _ _ _ (h1 _ (List.getElem_mem _)) hlt)
      · intro h'; simp at h'
omit [DecidableEq α] in
theorem filter_take (o : Ord lt) : ∀ {l : List α}, Asc lt l → ∀ x, l.filter (fun y => decide (lt y x)) = l.take (fromF lt l x)
  | [], _, x => by simp [fromF]
  | y :: l, h, x => by
    obtain ⟨h1, h2⟩ := List.pairwise_cons.1 h
    unfold fromF
    rw [List.countP_cons, List.filter_cons]
    by_cases hy : lt y x
    · simp only [hy, decide_true, if_true]
      rw [filter_take o h2 x, List.take_succ_cons]; rfl
    · have h0 : ∀ z ∈ l, ¬ lt z x := fun z hz hzx => hy (o.tr _ _ _ (h1 z hz) hzx)
      have hc : l.countP (fun z => decide (lt z x)) = 0 := by rw [List.countP_eq_zero]; intro z hz; simpa using h0 z hz
      have hf : l.filter (fun z => decide (lt z x)) = [] := by rw [List.filter_eq_nil_iff]; intro z hz; simpa using h0 z hz
      simp [hy, hc, hf]
omit [DecidableEq α] in
theorem filter_drop (o : Ord lt) : ∀ {l : List α}, Asc lt l → ∀ x, x ∉ l → l.filter (fun y => decide (lt x y)) = l.drop (fromF lt l x)
  | [], _, x, _ => by simp [fromF]
  | y :: l, h, x, hx => by
    obtain ⟨h1, h2⟩ := List.pairwise_cons.1 h
    have hxl : x ∉ l := fun h' => hx (by simp [h'])
    have hxy : x ≠ y := fun e => hx (by simp [e])
    unfold fromF
    rw [List.countP_cons, List.filter_cons]
    by_cases hy : lt y x
    · have hn : ¬ lt x y := o.as hy
      simp only [hy, decide_true, if_true, hn, decide_false, Bool.false_eq_true, if_false]
      rw [filter_drop o h2 x hxl, List.drop_succ_cons]; rfl
    · have hxy' : lt x y := by
        rcases o.tot x y with h' | h' | h'
        · exact h'
        · exact absurd h' hxy
        · exact absurd h' hy
      have h0 : ∀ z ∈ l, ¬ lt z x := fun z hz hzx => hy (o.tr _ _ _ (h1 z hz) hzx)
      have hc : l.countP (fun z => decide (lt z x)) = 0 := by rw [List.countP_eq_zero]; intro z hz; simpa using h0 z hz
      have hf : l.filter (fun z => decide (lt x z)) = l := by
        rw [List.filter_eq_self]
        intro z hz
        simpa using o.tr _ _ _ hxy' (h1 z hz)
      simp [hy, hxy', hc, hf]
theorem add_at (o : Ord lt) {l : List α} (h : Asc lt l) {x : α} (hx : x ∉ l) : addF lt l x = l.take (fromF lt l x) ++ x :: l.drop (fromF lt l x) := by
  unfold addF
  rw [if_neg hx, filter_take o h x, filter_drop o h x hx]
omit [DecidableEq α] in
theorem at_from (o : Ord lt) {l : List α} (h : Asc lt l) (x : α) : x ∈ l ↔ l[fromF lt l x]? = some x := by
  constructor
  · intro hx
    obtain ⟨j, hj, rfl⟩ := List.getElem_of_mem hx
    have h1 : ¬ j < fromF lt l l[j] := fun h' => o.irr _ ((below_at o h l[j] j hj).2 h')
    have h2 : ¬ fromF lt l l[j] < j := fun h' => by
      have hk : fromF lt l l[j] < l.length := by omega
      have h3 := List.pairwise_iff_getElem.1 h _ _ hk hj h'
      have h4 := (below_at o h l[j] _ hk).1 h3
      omega
    have : fromF lt l l[j] = j := by omega
    rw [this]; exact List.getElem?_eq_getElem hj
  · intro hx; exact List.mem_of_getElem? hx
theorem del_at (o : Ord lt) {l : List α} (h : Asc lt l) {x : α} (hx : x ∈ l) : delF l x = l.take (fromF lt l x) ++ l.drop (fromF lt l x + 1) := by
  have hat := (at_from o h x).1 hx
  obtain ⟨hk, he⟩ := List.getElem?_eq_some_iff.1 hat
  generalize fromF lt l x = k at hk he
  refine asc_ext o (delF_asc h x) ?_ fun y => ?_
  · refine List.pairwise_append.2 ⟨h.sublist (List.take_sublist _ _), h.sublist (List.drop_sublist _ _), fun a ha b hb => ?_⟩
    obtain ⟨i, hi, rfl⟩ := List.getElem_of_mem ha
    obtain ⟨j, hj, rfl⟩ := List.getElem_of_mem hb
    rw [List.getElem_take, List.getElem_drop]
    have hi' : i < k := by rw [List.length_take] at hi; omega
    exact List.pairwise_iff_getElem.1 h _ _ _ _ (by omega)
  · rw [delF_mem]
    have hnd : l.Nodup := h.imp fun h' => o.ne h'
    constructor
    · rintro ⟨hy, hne⟩
      obtain ⟨j, hj, rfl⟩ := List.getElem_of_mem hy
      have hjk : j ≠ k := fun e => hne (by subst e; exact he)
      rcases Nat.lt_or_ge j k with h' | h'
      · exact List.mem_append.2 (.inl (List.mem_take_iff_getElem.2 ⟨j, by omega, rfl⟩))
      · exact List.mem_append.2 (.inr (List.mem_drop_iff_getElem.2 ⟨j - (k + 1), by omega, by congr 1; omega⟩))
    · intro hy
      rcases List.mem_append.1 hy with hy | hy
      · obtain ⟨j, hj, rfl⟩ := List.mem_take_iff_getElem.1 hy
        exact ⟨List.getElem_mem _, fun e => by
          rw [← he] at e
          have := (List.getElem_inj hnd).1 e
          omega⟩
      · obtain ⟨j, hj, rfl⟩ := List.mem_drop_iff_getElem.1 hy
        exact ⟨List.getElem_mem _, fun e => by
          rw [← he] at e
          have := (List.getElem_inj hnd).1 e
          omega⟩
/-- all of a list -/
def ofF (lt : α → α → Prop) [DecidableRel lt] (l : List α) : List α := l.foldl (addF lt) []
theorem fold_asc (o : Ord lt) : ∀ (l : List α) {s : List α}, Asc lt s → Asc lt (l.foldl (addF lt) s)
  | [], _, h => h
  | x :: l, _, h => fold_asc o l (addF_asc o h x)
theorem fold_mem (o : Ord lt) : ∀ (l s : List α) (y : α), y ∈ l.foldl (addF lt) s ↔ y ∈ l ∨ y ∈ s
  | [], s, y => by simp
  | x :: l, s, y => by
    rw [List.foldl_cons, fold_mem o l, addF_mem o]
    simp only [List.mem_cons]
    constructor
    · rintro (h | h | h)
      · exact .inl (.inr h)
      · exact .inl (.inl h)
      · exact .inr h
    · rintro ((h | h) | h)
      · exact .inr (.inl h)
      · exact .inl h
      · exact .inr (.inr h)
theorem ofF_asc (o : Ord lt) (l : List α) : Asc lt (ofF lt l) := fold_asc o l List.Pairwise.nil
theorem ofF_mem (o : Ord lt) (l : List α) (y : α) : y ∈ ofF lt l ↔ y ∈ l := by unfold ofF; rw [fold_mem o]; simp
theorem addF_len (l : List α) (o : Ord lt) (h : Asc lt l) (x : α) : (addF lt l x).length ≤ l.length + 1 := by
  by_cases hx : x ∈ l
  · unfold addF; rw [if_pos hx]; omega
  · rw [add_at o h hx]; simp; omega
theorem fold_len (o : Ord lt) : ∀ (l : List α) {s : List α}, Asc lt s → (l.foldl (addF lt) s).length ≤ s.length + l.length
  | [], _, _ => by simp
  | x :: l, s, h => by
    have h1 := fold_len o l (addF_asc o h x)
    have h2 := addF_len s o h x
    simp only [List.foldl_cons, List.length_cons]; omega
variable [Inhabited α]
omit [DecidableRel lt] in
theorem compact_asc (o : Ord lt) (d : Array α) (hd : ∀ i j (hi : i < d.size) (hj : j < d.size), i < j → ¬ lt d[j] d[i]) : ∀ m, m ≤ d.size → Asc lt (Lib.compactUpTo d m) ∧ (∀ x, x ∈ Lib.compactUpTo d m ↔ ∃ j, ∃ h : j < d.size, j < m ∧ d[j] = x)
  | 0, _ => ⟨by simp [Lib.compactUpTo], by simp [Lib.compactUpTo]⟩
  | m + 1, hm => by
    obtain ⟨h1, h2⟩ := compact_asc o d hd m (by omega)
    have hmd : m < d.size := by omega
    have em : d[m]! = d[m] := getElem!_pos d m hmd
    rw [Lib.compactUpTo_succ]
    by_cases hk : Lib.keeps d m = true
    · rw [if_pos hk, em]
      refine ⟨List.pairwise_append.2 ⟨h1, List.pairwise_singleton _ _, fun a ha b hb => ?_⟩, fun x => ?_⟩
      · rw [List.mem_singleton] at hb
        subst hb
        obtain ⟨j, hj, hjm, rfl⟩ := (h2 a).1 ha
        unfold Lib.keeps at hk
        simp only [decide_eq_true_eq] at hk
        have hne : d[m - 1] ≠ d[m] := by
          rcases hk with h0 | hne
          · omega
          · rw [em, getElem!_pos d (m - 1) (by omega)] at hne; exact fun e => hne e.symm
        have hle : ¬ lt d[m] d[m - 1] := hd (m - 1) m (by omega) hmd (by omega)
        have hlt : lt d[m - 1] d[m] := by
          rcases o.tot d[m - 1] d[m] with h | h | h
          · exact h
          · exact absurd h hne
          · exact absurd h hle
        by_cases hjm1 : j = m - 1
        · subst hjm1; exact hlt
        · have h3 := hd j (m - 1) hj (by omega) (by omega)
          rcases o.tot d[j] d[m - 1] with h | h | h
          · exact o.tr _ _ _ h hlt
          · rw [h]; exact hlt
          · exact absurd h h3
      · rw [List.mem_append, h2, List.mem_singleton]
        constructor
        · rintro (⟨j, hj, hjm, rfl⟩ | rfl)
          · exact ⟨j, hj, by omega, rfl⟩
          · exact ⟨m, hmd, by omega, rfl⟩
        · rintro ⟨j, hj, hjm, rfl⟩
          by_cases e : j = m
          · subst e; exact .inr rfl
          · exact .inl ⟨j, hj, by omega, rfl⟩
    · rw [if_neg hk, List.append_nil]
      refine ⟨h1, fun x => ?_⟩
      rw [h2]
      constructor
      · rintro ⟨j, hj, hjm, rfl⟩; exact ⟨j, hj, by omega, rfl⟩
      · rintro ⟨j, hj, hjm, rfl⟩
        by_cases e : j = m
        · subst e
          unfold Lib.keeps at hk
          simp only [decide_eq_true_eq, not_or, ne_eq, Decidable.not_not] at hk
          obtain ⟨h0, he⟩ := hk
          rw [em, getElem!_pos d (j - 1) (by omega)] at he
          exact ⟨j - 1, by omega, by omega, he.symm⟩
        · exact ⟨j, hj, by omega, rfl⟩
/-- sorted, and each once -/
theorem compact_of (o : Ord lt) (l s : List α) (hs : s.Pairwise fun a b => ¬ lt b a) (hm : ∀ x, x ∈ s ↔ x ∈ l) : Lib.compact s = ofF lt l := by
  have h := compact_asc o s.toArray (fun i j hi hj hij => by
    have := List.pairwise_iff_getElem.1 hs i j (by simpa using hi) (by simpa using hj) hij
    simpa using this) s.toArray.size (Nat.le_refl _)
  refine asc_ext o (by unfold Lib.compact; simpa using h.1) (ofF_asc o l) fun x => ?_
  have h2 : x ∈ Lib.compact s ↔ ∃ j, ∃ h : j < s.toArray.size, j < s.toArray.size ∧ s.toArray[j] = x := by
    unfold Lib.compact
    simpa using h.2 x
  rw [h2, ofF_mem o, ← hm]
  constructor
  · rintro ⟨j, hj, _, rfl⟩
    simp
  · intro hx
    obtain ⟨j, hj, rfl⟩ := List.getElem_of_mem hx
    exact ⟨j, by simpa using hj, by simpa using hj, by simp⟩
end
end Go.St
