/- Slices: rows that a call appends to; slices that are read. -/
import Derived.Test.YtfcemnnlmlggoaaGreatMem
namespace Go.Vc
open Go.RowKit (Below)

/-- a slice's cells -/
def SlAt (w : World) (a : Option Addr) (xs : List Value) : Prop :=
  match a with
  | some p => CellsAt w p xs
  | none => xs = []
theorem SlAt.ext {w w' : World} {a : Option Addr} {xs : List Value} (h : SlAt w a xs) (e : Ext w w') : SlAt w' a xs := by
  cases a with
  | none => exact h
  | some p => exact e.cells h
theorem SlAt.some_of {w : World} {a : Option Addr} {xs : List Value} (h : SlAt w a xs) (hx : xs ≠ []) : ∃ p, a = some p ∧ CellsAt w p xs := by
  cases a with
  | none => exact absurd h hx
  | some p => exact ⟨p, rfl, h⟩
theorem add_add (p : Addr) (i j : Nat) (hi : 0 < i ∨ p.spot = none) : (p.add i).add j = p.add (i + j) := by
  obtain ⟨b, o, sp⟩ := p
  unfold Addr.add
  by_cases h1 : i = 0
  · subst h1
    simp
  · by_cases h2 : j = 0
    · subst h2; simp
    · simp [h1, h2]; omega
theorem cell_spot {w : World} {p : Addr} {v : Value} (h : w.cell? p = some v) : p.spot = none := by
  unfold World.cell? at h
  split at h
  · split at h
    · cases h
    · rename_i hs; simpa using hs
  · cases h
/-- a piece of cells -/
theorem CellsAt.piece {w : World} {p : Addr} {xs ys zs : List Value} (h : CellsAt w p (xs ++ ys ++ zs)) (hy : ys ≠ []) : CellsAt w (p.add xs.length) ys := by
  intro i hi
  have h0 : p.spot = none ∨ 0 < xs.length := by
    cases xs with
    | cons _ _ => right; simp
    | nil =>
      left
      have := h 0 (by simp; cases ys with | nil => exact absurd rfl hy | cons _ _ => simp; omega)
      simpa [Addr.add] using cell_spot this
  rw [add_add _ _ _ (h0.symm)]
  have := h (xs.length + i) (by simp; omega)
  rw [this]
  simp [List.getElem_append_left, hi]

def Rw (w : World) (base e size : Nat) (a : Option Addr) (n c : Nat) (xs : List Value) : Prop := w.ownsRow base e size (.slice a n c) n xs
def blk (a : Option Addr) : Option Nat := a.map (·.block)
theorem ownBlock_eq (a : Option Addr) (n c : Nat) : (Value.slice a n c).ownBlock = blk a := by cases a <;> rfl

theorem Rw.nil (w : World) (base e size : Nat) : Rw w base e size none 0 0 [] := World.ownsRow_nil w base e size
theorem Rw.len {w : World} {base e size : Nat} {a : Option Addr} {n c : Nat} {xs : List Value} (h : Rw w base e size a n c xs) : xs.length = n * size := h.1
theorem Rw.lt {w : World} {base e size : Nat} {a : Option Addr} {n c : Nat} {xs : List Value} (h : Rw w base e size a n c xs) : ∀ k, blk a = some k → base ≤ k ∧ k < w.heap.size := by
  intro k hk; exact World.ownsRow.lt h k (by rw [ownBlock_eq]; exact hk)
theorem Rw.kept {w w' : World} {base e size : Nat} {a : Option Addr} {n c : Nat} {xs : List Value} (h : Rw w base e size a n c xs) (hb : ∀ k, blk a = some k → w'.heap[k]? = w.heap[k]?) : Rw w' base e size a n c xs := by
  refine ⟨h.1, ?_⟩
  rcases h.2 with hn | ⟨g, cap, cur, hv, hg, hh, r⟩
  · exact .inl hn
  · refine .inr ⟨g, cap, cur, hv, hg, ?_, r⟩
    cases hv
    rw [hb g rfl]; exact hh
theorem Rw.ext {w w' : World} {base e size : Nat} {a : Option Addr} {n c : Nat} {xs : List Value} (h : Rw w base e size a n c xs) (he : Ext w w') : Rw w' base e size a n c xs :=
  h.kept fun k hk => Below.block he k (h.lt k hk).2
theorem Rw.set {w w' : World} {base e size : Nat} {a : Option Addr} {n c : Nat} {xs : List Value} {b i : Nat} {v : Value} (h : Rw w base e size a n c xs) (hw : w' = w.setCell ⟨b, i, none⟩ v) (hne : blk a ≠ some b) : Rw w' base e size a n c xs :=
  h.kept fun k hk => by subst hw; rw [heap_setCell, if_neg (fun e => hne (by rw [hk, e]))]
theorem heap_sets {b i : Nat} {k : Nat} (hne : b ≠ k) : ∀ (vs : List Value) (w : World) (j : Nat), (setCellsFrom w ⟨b, i, none⟩ j vs).heap[k]? = w.heap[k]? := by
  intro vs
  induction vs with
  | nil => intro w j; rfl
  | cons v vs ih => intro w j; simp only [setCellsFrom]; rw [ih, add_mk, heap_setCell, if_neg hne]
theorem Rw.sets {w w' : World} {base e size : Nat} {a : Option Addr} {n c : Nat} {xs : List Value} {b i : Nat} {vs : List Value} (h : Rw w base e size a n c xs) (hw : w' = setCells w ⟨b, i, none⟩ vs) (hne : blk a ≠ some b) : Rw w' base e size a n c xs :=
  h.kept fun k hk => by subst hw; exact heap_sets (fun e => hne (by rw [hk, e])) vs w 0
theorem Rw.sl {w : World} {base e size : Nat} {a : Option Addr} {n c : Nat} {xs : List Value} (h : Rw w base e size a n c xs) : SlAt w a xs := by
  cases a with
  | none =>
    rcases h.2 with ⟨_, hn⟩ | ⟨g, cap, cur, hv, _⟩
    · have := h.1; rw [hn] at this; simp at this; exact this
    · cases hv
  | some p =>
    intro i hi
    rcases h.2 with ⟨hv, _⟩ | ⟨g, cap, cur, hv, _⟩
    · cases hv
    · cases hv
      exact World.ownsRow.cells h (g := g) rfl i _ (List.getElem?_eq_getElem hi)

/-- what is asked of a slice's type -/
def SlTy (P : Program) (t e size bytes : Nat) : Prop := ∃ i z, P.underlying t = some (.slice e) ∧ P.info? e = some i ∧ i.zero = some z ∧ i.size = size ∧ i.bytes = bytes ∧ z.cells.size = size ∧ 0 < size

theorem append_own {P : Program} {w : World} {base t ty e size bytes : Nat} {a : Option Addr} {n c : Nat} {xs news : List Value} {src : Addr} {m mc : Nat} {K : Value → World → Prop}
    (hT : SlTy P t e size bytes) (h : Rw w base e size a n c xs) (hs : CellsAt w src news) (hl : news.length = m * size) (h1 : ∀ u ∈ news, u.oneCell' = true) (hm : n + m < 2 ^ 32) (hby : bytes < 2 ^ 10) (hbase : base ≤ w.heap.size)
    (hk : ∀ a' c' w', Rw w' base e size a' (n + m) c' (xs ++ news) → w.grownBy w' (blk a) → K (.slice a' (n + m) c') w') :
    SemOk P (Builtin.append_ #[t, t] ty #[.slice a n c, .slice (some src) m mc]) K w := by
  obtain ⟨i, z, ht, hi, hz, hsz, hb, hzs, hpos⟩ := hT
  obtain ⟨v', w', hrun, hown, hg, _⟩ := run_append_own w base t ty e i z size bytes ht hi hz hsz hb hzs hpos (.slice a n c) n xs h src m mc news hl
    (fun j u hu => by obtain ⟨h', e'⟩ := List.getElem?_eq_some_iff.1 hu; rw [← e']; exact hs j h') h1 (by unfold maxLen; omega) (by
      have : (n + m) * bytes ≤ 2 ^ 32 * 2 ^ 10 := Nat.mul_le_mul (by omega) (by omega)
      omega) hbase
  rcases hown.2 with ⟨hv, hn⟩ | ⟨g, cap, cur, hv, _⟩
  · subst hv
    refine ⟨_, w', hrun, ?_⟩
    have := hk none 0 w' (by rw [hn]; rw [hn] at hown; exact hown) (by rw [← ownBlock_eq a n c]; exact hg)
    rw [hn] at this
    exact this
  · subst hv
    exact ⟨_, w', hrun, hk _ _ w' hown (by rw [← ownBlock_eq a n c]; exact hg)⟩

theorem Own.grown {n : Nat} {w0 w w' : World} {bs : List (Nat × List Value)} (h : Own n w0 w bs) {row : Option Nat} (hg : w.grownBy w' row) (hr : ∀ k, row = some k → n ≤ k ∧ ∀ p ∈ bs, p.1 ≠ k) : Own n w0 w' bs := by
  refine ⟨h.below.grown hg h.le (fun k hk => (hr k hk).1), Nat.le_trans h.le hg.size, fun p hp => ⟨(h.box p hp).1, ?_⟩, h.dif⟩
  obtain ⟨T, hT⟩ := (h.box p hp).2
  refine ⟨T, ?_⟩
  rw [hg.block p.1 (Array.getElem?_eq_some_iff.1 hT.1).1 (fun e => (hr p.1 e.symm).2 p hp rfl)]
  exact hT

/-- the cells of a list of structs, one behind the other -/
def flat {α : Type} (f : α → List Value) (l : List α) : List Value := l.flatMap f
theorem flat_len {α : Type} {f : α → List Value} {k : Nat} (hf : ∀ x, (f x).length = k) : ∀ l : List α, (flat f l).length = l.length * k
  | [] => by simp [flat]
  | x :: l => by
    have := flat_len hf l
    simp only [flat, List.flatMap_cons, List.length_append, List.length_cons] at this ⊢
    rw [this, hf, Nat.add_mul]; omega
theorem flat_snoc {α : Type} (f : α → List Value) (l : List α) (x : α) : flat f (l ++ [x]) = flat f l ++ f x := by simp [flat]
theorem SlAt.elem {α : Type} {f : α → List Value} {k : Nat} (hf : ∀ x, (f x).length = k) (hk : 0 < k) {w : World} {a : Option Addr} {l : List α} (h : SlAt w a (flat f l)) {i : Nat} (hi : i < l.length) : ∃ p, a = some p ∧ CellsAt w (p.add (i * k)) (f l[i]) := by
  have hne : flat f l ≠ [] := by
    intro e
    have := flat_len hf l
    rw [e] at this
    have h2 : 0 < l.length * k := Nat.mul_pos (by omega) hk
    simp only [List.length_nil] at this
    omega
  obtain ⟨p, rfl, hc⟩ := h.some_of hne
  refine ⟨p, rfl, ?_⟩
  have hsplit : flat f l = flat f (l.take i) ++ f l[i] ++ flat f (l.drop (i + 1)) := by
    have : l = l.take i ++ ([l[i]] ++ l.drop (i + 1)) := by simp
    conv => lhs; rw [this]
    simp only [flat, List.flatMap_append, List.flatMap_cons, List.flatMap_nil, List.append_nil, List.append_assoc]
  rw [hsplit] at hc
  have hlen : (flat f (l.take i)).length = i * k := by rw [flat_len hf, List.length_take, Nat.min_eq_left (by omega)]
  have := hc.piece (by intro e; have := hf l[i]; rw [e] at this; simp at this; omega)
  rwa [hlen] at this
end Go.Vc
