/- Slices that are read while other things are written; append of any slice to a row of one's own. -/
import Derived.Test.YtfcemnnlmlggoaaGreatMemC
import Derived.Laws.OwnMore
namespace Go.Vc
open Go.RowKit (Below)

/-- the cells of a slice do not lie in block b -/
def Off (a : Option Addr) (xs : List Value) (b : Nat) : Prop := xs = [] ∨ blk a ≠ some b
theorem add_block (p : Addr) (i : Nat) : (p.add i).block = p.block := by unfold Addr.add; split <;> rfl
theorem SlAt.off {w : World} {a : Option Addr} {xs : List Value} (h : SlAt w a xs) {b : Nat} (hb : w.heap.size ≤ b) : Off a xs b := by
  cases a with
  | none => exact .inl h
  | some p =>
    cases xs with
    | nil => exact .inl rfl
    | cons x xs =>
      refine .inr fun e => ?_
      have := cell_lt (h 0 (by simp))
      rw [add_block] at this
      simp [blk] at e
      omega
theorem SlAt.keep {w w' : World} {a : Option Addr} {xs : List Value} (h : SlAt w a xs) (hk : ∀ k, blk a = some k → xs ≠ [] → w'.heap[k]? = w.heap[k]?) : SlAt w' a xs := by
  cases a with
  | none => exact h
  | some p =>
    intro i hi
    have h1 := h i hi
    unfold World.cell? at h1 ⊢
    rw [add_block] at h1 ⊢
    rw [hk p.block rfl (by intro e; subst e; simp at hi)]
    exact h1
theorem SlAt.set {w w' : World} {a : Option Addr} {xs : List Value} (h : SlAt w a xs) {b i : Nat} {v : Value} (hw : w' = w.setCell ⟨b, i, none⟩ v) (ho : Off a xs b) : SlAt w' a xs :=
  h.keep fun k hk hx => by
    subst hw
    rw [heap_setCell, if_neg]
    intro e
    rcases ho with h | h
    · exact hx h
    · exact h (by rw [hk, e])
theorem SlAt.sets {w w' : World} {a : Option Addr} {xs : List Value} (h : SlAt w a xs) {b i : Nat} {vs : List Value} (hw : w' = setCells w ⟨b, i, none⟩ vs) (ho : Off a xs b) : SlAt w' a xs :=
  h.keep fun k hk hx => by
    subst hw
    refine heap_sets (fun e => ?_) vs w 0
    rcases ho with h | h
    · exact hx h
    · exact h (by rw [hk, e])
theorem SlAt.lt {w : World} {a : Option Addr} {xs : List Value} (h : SlAt w a xs) {k : Nat} (hk : blk a = some k) (hx : xs ≠ []) : k < w.heap.size := by
  cases a with
  | none => cases hk
  | some p =>
    have := cell_lt (h 0 (List.length_pos_iff.2 hx))
    rw [add_block] at this
    simp [blk] at hk
    omega
theorem SlAt.grown {w w' : World} {a : Option Addr} {xs : List Value} (h : SlAt w a xs) {row : Option Nat} (hg : w.grownBy w' row) (ho : ∀ k, row = some k → Off a xs k) : SlAt w' a xs :=
  h.keep fun k hk hx => hg.block k (h.lt hk hx) fun e => by
    rcases ho k e.symm with h | h
    · exact hx h
    · exact h hk
theorem Rw.lit {w w' : World} {base e size n b : Nat} {cs : Array Value} (hb : b = w.heap.size) (hw : w' = w.alloc (.cells cs e)) (hbase : base ≤ b) (hn : n ≤ maxLen) (hs : cs.size = n * size) :
    Rw w' base e size (some ⟨b, 0, none⟩) n n cs.toList := by
  subst hb hw
  exact World.ownsRow_lit w cs n hbase hn hs
theorem append_none {P : Program} {w : World} {base t ty e size bytes : Nat} {a : Option Addr} {n c d : Nat} {xs : List Value} {K : Value → World → Prop}
    (hT : SlTy P t e size bytes) (h : Rw w base e size a n c xs) (hk : K (.slice a n c) w) : SemOk P (Builtin.append_ #[t, t] ty #[.slice a n c, .slice none 0 d]) K w := by
  obtain ⟨i, z, ht, hi, hz, hsz, hb, hzs, hpos⟩ := hT
  refine ⟨_, _, ?_, hk⟩
  rcases h.2 with ⟨hv, rfl⟩ | ⟨g, cap, cur, hv, _, _, hnc, _⟩
  · cases hv
    simp [Builtin.append_, run_underlying ht, sizeOf, typeInfo, hi, Builtin.lenOf, Builtin.firstCells]
  · cases hv
    simp [Builtin.append_, run_underlying ht, sizeOf, typeInfo, hi, Builtin.lenOf, Builtin.firstCells, hnc, storeCells]
/-- any slice appended to a row of one's own -/
theorem append_sl {P : Program} {w : World} {base t ty e size bytes : Nat} {a : Option Addr} {n c : Nat} {xs news : List Value} {src : Option Addr} {m mc : Nat} {K : Value → World → Prop}
    (hT : SlTy P t e size bytes) (h : Rw w base e size a n c xs) (hs : SlAt w src news) (hl : news.length = m * size) (h1 : ∀ u ∈ news, u.oneCell' = true) (hm : n + m < 2 ^ 32) (hby : bytes < 2 ^ 10) (hbase : base ≤ w.heap.size)
    (hk : ∀ a' c' w', Rw w' base e size a' (n + m) c' (xs ++ news) → w.grownBy w' (blk a) → (blk a' = blk a ∨ blk a' = some w.heap.size) → K (.slice a' (n + m) c') w') :
    SemOk P (Builtin.append_ #[t, t] ty #[.slice a n c, .slice src m mc]) K w := by
  cases src with
  | some p => exact append_at hT h hs hl h1 hm hby hbase hk
  | none =>
    have hpos : 0 < size := by obtain ⟨i, z, _, _, _, _, _, _, hpos⟩ := hT; exact hpos
    have hn : news = [] := hs
    subst hn
    have hm0 : m = 0 := by
      rcases Nat.eq_zero_or_pos m with h | h
      · exact h
      · have := Nat.mul_pos h hpos
        rw [List.length_nil] at hl
        omega
    subst hm0
    refine append_none hT h ?_
    have := hk a c w (by rw [List.append_nil]; exact h) ⟨rfl, rfl, rfl, Nat.le_refl _, fun _ _ _ => rfl⟩ (.inl rfl)
    exact this
/-- append to a slice without room, of which nothing is owned: a new row -/
theorem append_full {P : Program} {w : World} {t ty e size bytes : Nat} {a b : Option Addr} {n m c2 : Nat} {xs ys : List Value} {K : Value → World → Prop}
    (hT : SlTy P t e size bytes) (hx : SlAt w a xs) (hxl : xs.length = n * size) (hy : SlAt w b ys) (hyl : ys.length = m * size) (h1 : ∀ u ∈ xs, u.oneCell' = true) (h2 : ∀ u ∈ ys, u.oneCell' = true) (hm1 : 0 < m) (hm : n + m < 2 ^ 32) (hby : bytes < 2 ^ 10)
    (hk : ∀ a' c' w', Rw w' 0 e size a' (n + m) c' (xs ++ ys) → w.grownBy w' (blk none) → (blk a' = blk none ∨ blk a' = some w.heap.size) → K (.slice a' (n + m) c') w') :
    SemOk P (Builtin.append_ #[t, t] ty #[.slice a n n, .slice b m c2]) K w := by
  have hT' := hT
  obtain ⟨i, z, ht, hi, hz, hsz, hb, hzs, hpos⟩ := hT
  cases a with
  | none =>
    have hx : xs = [] := hx
    subst hx
    have hn : n = 0 := by
      rcases Nat.eq_zero_or_pos n with h | h
      · exact h
      · have := Nat.mul_pos h hpos
        simp at hxl; omega
    subst hn
    exact append_sl hT' (Rw.nil w 0 e size) hy hyl h2 (by omega) hby (Nat.zero_le _) hk
  | some p =>
    cases b with
    | none =>
      have hy : ys = [] := hy
      subst hy
      have := Nat.mul_pos hm1 hpos
      simp at hyl; omega
    | some q =>
      have hx : CellsAt w p xs := hx
      have hy : CellsAt w q ys := hy
      have h48 : (n + m) * bytes ≤ 140737488355328 := by
        have : (n + m) * bytes ≤ 2 ^ 32 * 2 ^ 10 := Nat.mul_le_mul (by omega) (by omega)
        omega
      have hr := run_append_grow (P := P) w t ty e i z ht hi hz p n n xs (by rw [hsz]; exact hxl) (fun j v hv => by obtain ⟨h', e'⟩ := List.getElem?_eq_some_iff.1 hv; rw [← e']; exact hx j h') q m c2 ys (by rw [hsz]; exact hyl)
        (fun j v hv => by obtain ⟨h', e'⟩ := List.getElem?_eq_some_iff.1 hv; rw [← e']; exact hy j h') (by omega) (by omega) (growslice_fits (by omega) (by rw [hb]; exact h48))
      have hge := grownCap_ge w (n + m) n e
      have hcm : grownCap w (n + m) n e ≤ maxLen := grownCap_le_maxLen w (n + m) n e (by unfold maxLen; omega)
      have hlen : (xs ++ ys).length = (n + m) * size := by rw [List.length_append, hxl, hyl, Nat.add_mul]
      refine ⟨_, _, hr, hk _ _ _ ⟨hlen, .inr ⟨w.heap.size, _, _, rfl, Nat.zero_le _, heap_alloc_new w.drew _, hge, hcm, ?_, ?_⟩⟩ ⟨rfl, rfl, rfl, by simp, fun k hk _ => by
        show (w.heap.push _)[k]? = w.heap[k]?
        rw [Array.getElem?_push_lt hk]
        exact (Array.getElem?_eq_getElem hk).symm⟩ (.inr rfl)⟩
      · simp only [Array.size_append, List.size_toArray, size_zeroCells, hzs, hxl, hyl, ← Nat.add_mul]
        congr 1
        omega
      · simp only [Array.toList_append, List.append_assoc]
        rw [← List.append_assoc, ← hlen]
        exact List.take_left
end Go.Vc
