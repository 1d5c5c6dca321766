/- What code does with memory, told in plain values: pieces that a call owns, data that stays, and how they pass from world to world. -/
import Derived.Test.YtfcemnnlmlggoaaGreatMemE
import Derived.Test.YtfcemnnlmlggoaaGreatVcI
import Derived.Test.YtfcemnnlmlggoaaGreatHeld
import Derived.ChangeKeysEq
import Derived.Lib.ConvBytes
import Derived.Lib.AppendStr
import Derived.Laws.BytesArg
namespace Go.Lv
open Go.Vc
open Go.RowKit (Below)

theorem _root_.Go.Vc.Keep.refl (m : List Nat) (w : World) : Keep m w w := ⟨rfl, rfl, rfl, Nat.le_refl _, fun _ _ _ => rfl⟩
theorem _root_.Go.Vc.Keep.trans {m : List Nat} {a b c : World} (h : Keep m a b) (k : Keep m b c) : Keep m a c :=
  ⟨k.os.trans h.os, k.tape.trans h.tape, k.output.trans h.output, Nat.le_trans h.size k.size, fun j hj hm => (k.block j (Nat.lt_of_lt_of_le hj h.size) hm).trans (h.block j hj hm)⟩
theorem _root_.Go.Vc.Keep.mono {m m' : List Nat} {a b : World} (h : Keep m a b) (hs : ∀ k ∈ m, k ∈ m') : Keep m' a b :=
  ⟨h.os, h.tape, h.output, h.size, fun j hj hm => h.block j hj fun h => hm (hs j h)⟩
theorem _root_.Go.Vc.Keep.ofExt {a b : World} (h : Ext a b) : Keep [] a b := ⟨h.os, h.tape, h.output, h.size, fun j hj _ => Below.block h j hj⟩
theorem _root_.Go.Vc.Keep.ext {a b : World} (h : Keep [] a b) : Ext a b := ⟨h.os, h.tape, h.output, h.size, fun j hj => h.block j hj (by simp)⟩
theorem _root_.Go.Vc.Keep.grown {a b : World} {row : Option Nat} (h : a.grownBy b row) : Keep row.toList a b := ⟨h.os, h.tape, h.output, h.size, fun j hj hm => h.block j hj fun e => hm (by simp [← e])⟩
theorem _root_.Go.Vc.Keep.by {a b : World} (h : Keep [] a b) : a.grownBy b none := ⟨h.os, h.tape, h.output, h.size, fun j hj _ => h.block j hj (by simp)⟩

/-- what a call may rely on: m are blocks that are there, none of them holds a laid variable, and these are as they were laid -/
structure MOk (m : List Nat) (w : World) : Prop where
  lt : ∀ b ∈ m, b < w.heap.size
  off : ∀ b ∈ held.bs, b ∉ m
  tab : held.T w
theorem MOk.keep {m : List Nat} {w w' : World} (h : MOk m w) (k : Keep m w w') : MOk m w' :=
  ⟨fun b hb => Nat.lt_of_lt_of_le (h.lt b hb) k.size, h.off, held.stable w w' (fun b hb => k.block b (held.lt w h.tab b hb) (h.off b hb)) h.tab⟩
theorem MOk.nil {w : World} (h : held.T w) : MOk [] w := ⟨fun _ h => (by cases h), fun _ _ h => (by cases h), h⟩
/-- cells beside m are as they were -/
structure KeepD (m : List Nat) (w w' : World) : Prop where
  size : w.heap.size ≤ w'.heap.size
  block : ∀ k o, w.heap[k]? = some o → k ∉ m → plainO o = true → w'.heap[k]? = some o
theorem _root_.Go.Vc.Keep.d {m : List Nat} {w w' : World} (h : Keep m w w') : KeepD m w w' := ⟨h.size, fun k o hk hm _ => by rw [h.block k (Array.getElem?_eq_some_iff.1 hk).1 hm]; exact hk⟩
theorem _root_.Go.Vc.Grown.d {B : Nat} {w w' : World} (h : Grown B w w') (m : List Nat) : KeepD m w w' := ⟨h.size, fun k o hk _ hc => h.block k o hk (.inr hc)⟩
/-- what stays beside m in w stays beside m' in w' -/
structure Step (m : List Nat) (w : World) (m' : List Nat) (w' : World) : Prop where
  keep : KeepD m w w'
  sub : ∀ k ∈ m', k ∈ m ∨ w.heap.size ≤ k
theorem Step.trans {m m' m'' : List Nat} {w w' w'' : World} (h : Step m w m' w') (k : Step m' w' m'' w'') : Step m w m'' w'' := by
  refine ⟨⟨Nat.le_trans h.keep.size k.keep.size, fun j o hj hm hc => k.keep.block j o (h.keep.block j o hj hm hc) (fun hm' => (h.sub j hm').elim hm (fun hx => by have := (Array.getElem?_eq_some_iff.1 hj).1; omega)) hc⟩, fun j hj => ?_⟩
  rcases k.sub j hj with h1 | h1
  · exact h.sub j h1
  · exact .inr (Nat.le_trans h.keep.size h1)
theorem Step.refl (m : List Nat) (w : World) : Step m w m w := ⟨(Keep.refl _ _).d, fun _ h => .inl h⟩
theorem Step.drop {m m' : List Nat} (w : World) (h : ∀ k ∈ m', k ∈ m) : Step m w m' w := ⟨(Keep.refl _ _).d, fun k hk => .inl (h k hk)⟩
theorem Step.grow {B : Nat} {w w' : World} (m : List Nat) (h : Grown B w w') : Step m w m w' := ⟨h.d m, fun _ h => .inl h⟩
theorem cell_obj {w : World} {p : Addr} {v : Value} (h : w.cell? p = some v) : ∃ o, w.heap[p.block]? = some o ∧ plainO o = true := by
  unfold World.cell? at h
  split at h
  · rename_i hh; exact ⟨_, hh, rfl⟩
  · cases h
theorem cells_obj {w : World} {p : Addr} {xs : List Value} (h : CellsAt w p xs) (hx : xs ≠ []) : ∃ o, w.heap[p.block]? = some o ∧ plainO o = true := by
  have := cell_obj (h 0 (List.length_pos_iff.2 hx))
  rwa [add_block] at this

/-! ## Data -/
def All2 {α β : Type} (R : α → β → Prop) : List α → List β → Prop
  | [], [] => True
  | a :: l, b :: m => R a b ∧ All2 R l m
  | _, _ => False
theorem All2.mono {α β : Type} {R R' : α → β → Prop} (h : ∀ a b, R a b → R' a b) : ∀ {l : List α} {m : List β}, All2 R l m → All2 R' l m
  | [], [], _ => trivial
  | _ :: _, _ :: _, ⟨h1, h2⟩ => ⟨h _ _ h1, All2.mono h h2⟩
theorem All2.length {α β : Type} {R : α → β → Prop} : ∀ {l : List α} {m : List β}, All2 R l m → l.length = m.length
  | [], [], _ => rfl
  | _ :: _, _ :: _, ⟨_, h2⟩ => by simp [All2.length h2]
theorem All2.append {α β : Type} {R : α → β → Prop} : ∀ {l l' : List α} {m m' : List β}, All2 R l m → All2 R l' m' → All2 R (l ++ l') (m ++ m')
  | [], _, [], _, _, h => h
  | _ :: _, _, _ :: _, _, ⟨h1, h2⟩, h => ⟨h1, All2.append h2 h⟩
theorem All2.get {α β : Type} {R : α → β → Prop} {x : α} : ∀ {l : List α} {m : List β} {i : Nat}, All2 R l m → l[i]? = some x → ∃ y, m[i]? = some y ∧ R x y
  | [], [], i, _, h => (by simp at h)
  | _ :: _, b :: _, 0, ⟨h1, _⟩, h => ⟨b, rfl, by simp at h; exact h ▸ h1⟩
  | _ :: l, _ :: m, i + 1, ⟨_, h2⟩, h => by
    have := All2.get (l := l) (m := m) (i := i) h2 (by simpa using h)
    simpa using this
theorem All2.take {α β : Type} {R : α → β → Prop} : ∀ {l : List α} {m : List β} (i : Nat), All2 R l m → All2 R (l.take i) (m.take i)
  | _, _, 0, _ => trivial
  | [], [], _ + 1, _ => trivial
  | _ :: _, _ :: _, _ + 1, ⟨h1, h2⟩ => ⟨h1, All2.take _ h2⟩
theorem All2.drop {α β : Type} {R : α → β → Prop} : ∀ {l : List α} {m : List β} (i : Nat), All2 R l m → All2 R (l.drop i) (m.drop i)
  | _, _, 0, h => h
  | [], [], _ + 1, _ => trivial
  | _ :: l, _ :: m, i + 1, ⟨_, h2⟩ => All2.drop (l := l) (m := m) i h2

/-- how values of a type lie in cells -/
structure Cod (α : Type) where
  size : Nat
  pos : 0 < size
  rep : List Nat → World → α → List Value → Prop
  len : ∀ {m w x cs}, rep m w x cs → cs.length = size
  one : ∀ {m w x cs}, rep m w x cs → ∀ u ∈ cs, u.oneCell' = true
  st : ∀ {m w x cs m' w'}, rep m w x cs → Step m w m' w' → rep m' w' x cs

def cInt (k : IntKind) : Cod Int := { size := 1, pos := by decide, rep := fun _ _ x cs => cs = [.int k x], len := fun h => by subst h; rfl, one := fun h u hu => by subst h; simp at hu; subst hu; rfl, st := fun h _ => h }
def cBool : Cod Bool := { size := 1, pos := by decide, rep := fun _ _ x cs => cs = [.bool x], len := fun h => by subst h; rfl, one := fun h u hu => by subst h; simp at hu; subst hu; rfl, st := fun h _ => h }
def cStr : Cod (List UInt8) := { size := 1, pos := by decide, rep := fun _ _ x cs => cs = [.string (mkS x)], len := fun h => by subst h; rfl, one := fun h u hu => by subst h; simp at hu; subst hu; rfl, st := fun h _ => h }
def cPair {α β : Type} (c : Cod α) (d : Cod β) : Cod (α × β) where
  size := c.size + d.size
  pos := by have := c.pos; omega
  rep := fun m w x cs => ∃ a b, cs = a ++ b ∧ c.rep m w x.1 a ∧ d.rep m w x.2 b
  len := by rintro m w x cs ⟨a, b, rfl, h1, h2⟩; simp [c.len h1, d.len h2]
  one := by
    rintro m w x cs ⟨a, b, rfl, h1, h2⟩ u hu
    rcases List.mem_append.1 hu with h | h
    · exact c.one h1 u h
    · exact d.one h2 u h
  st := by rintro m w x cs m' w' ⟨a, b, rfl, h1, h2⟩ s; exact ⟨a, b, rfl, c.st h1 s, d.st h2 s⟩
def cMap {α β : Type} (f : β → α) (c : Cod α) : Cod β := { size := c.size, pos := c.pos, rep := fun m w x cs => c.rep m w (f x) cs, len := c.len, one := c.one, st := c.st }

theorem flat_len {css : List (List Value)} {k : Nat} (h : ∀ cs ∈ css, cs.length = k) : css.flatten.length = css.length * k := by
  induction css with
  | nil => simp
  | cons a l ih => rw [List.flatten_cons, List.length_append, h a (by simp), ih (fun c hc => h c (by simp [hc])), List.length_cons, Nat.succ_mul]; omega
theorem rows_len {α : Type} (c : Cod α) {m : List Nat} {w : World} : ∀ {l : List α} {css : List (List Value)}, All2 (c.rep m w) l css → ∀ cs ∈ css, cs.length = c.size
  | [], [], _, _, h => (by cases h)
  | _ :: _, _ :: _, ⟨h1, h2⟩, cs, h => by
    cases h with
    | head => exact c.len h1
    | tail _ h => exact rows_len c h2 cs h
theorem rows_one {α : Type} (c : Cod α) {m : List Nat} {w : World} : ∀ {l : List α} {css : List (List Value)}, All2 (c.rep m w) l css → ∀ u ∈ css.flatten, u.oneCell' = true
  | [], [], _, _, h => (by simp at h)
  | _ :: _, _ :: _, ⟨h1, h2⟩, u, h => by
    rw [List.flatten_cons] at h
    rcases List.mem_append.1 h with h | h
    · exact c.one h1 u h
    · exact rows_one c h2 u h
/-- what the elements are -/
def El {α : Type} (c : Cod α) (m : List Nat) (w : World) (l : List α) (xs : List Value) : Prop := ∃ css, xs = css.flatten ∧ All2 (c.rep m w) l css
theorem El.st {α : Type} {c : Cod α} {m m' : List Nat} {w w' : World} {l : List α} {xs : List Value} (h : El c m w l xs) (s : Step m w m' w') : El c m' w' l xs := by
  obtain ⟨css, rfl, h⟩ := h; exact ⟨css, rfl, h.mono fun _ _ h => c.st h s⟩
theorem El.nil {α : Type} (c : Cod α) (m : List Nat) (w : World) : El c m w [] [] := ⟨[], rfl, trivial⟩
theorem El.cons {α : Type} {c : Cod α} {m : List Nat} {w : World} {x : α} {cs : List Value} {l : List α} {xs : List Value} (h : c.rep m w x cs) (k : El c m w l xs) : El c m w (x :: l) (cs ++ xs) := by
  obtain ⟨css, rfl, k⟩ := k; exact ⟨cs :: css, rfl, h, k⟩
theorem El.app {α : Type} {c : Cod α} {m : List Nat} {w : World} {l l' : List α} {xs xs' : List Value} (h : El c m w l xs) (k : El c m w l' xs') : El c m w (l ++ l') (xs ++ xs') := by
  obtain ⟨css, rfl, h⟩ := h
  obtain ⟨css', rfl, k⟩ := k
  exact ⟨css ++ css', by simp, h.append k⟩
theorem El.len {α : Type} {c : Cod α} {m : List Nat} {w : World} {l : List α} {xs : List Value} (h : El c m w l xs) : xs.length = l.length * c.size := by
  obtain ⟨css, rfl, h⟩ := h; rw [flat_len (rows_len c h), h.length]
theorem El.one {α : Type} {c : Cod α} {m : List Nat} {w : World} {l : List α} {xs : List Value} (h : El c m w l xs) : ∀ u ∈ xs, u.oneCell' = true := by
  obtain ⟨css, rfl, h⟩ := h; exact rows_one c h
theorem flat_take {css : List (List Value)} {k : Nat} (h : ∀ cs ∈ css, cs.length = k) : ∀ (i : Nat), css.flatten.take (i * k) = (css.take i).flatten := by
  induction css with
  | nil => intro i; simp
  | cons a l ih =>
    intro i
    cases i with
    | zero => simp
    | succ i =>
      have ha := h a (by simp)
      rw [List.flatten_cons, List.take_succ_cons, List.flatten_cons, ← ih (fun c hc => h c (by simp [hc])), List.take_append, ha, Nat.succ_mul, Nat.add_sub_cancel, List.take_of_length_le (by omega)]
theorem flat_drop {css : List (List Value)} {k : Nat} (h : ∀ cs ∈ css, cs.length = k) : ∀ (i : Nat), css.flatten.drop (i * k) = (css.drop i).flatten := by
  induction css with
  | nil => intro i; simp
  | cons a l ih =>
    intro i
    cases i with
    | zero => simp
    | succ i =>
      have ha := h a (by simp)
      rw [List.flatten_cons, List.drop_succ_cons, ← ih (fun c hc => h c (by simp [hc])), List.drop_append, ha, Nat.succ_mul, Nat.add_sub_cancel, List.drop_of_length_le (by omega)]
      simp
theorem El.take {α : Type} {c : Cod α} {m : List Nat} {w : World} {l : List α} {xs : List Value} (h : El c m w l xs) (i : Nat) : El c m w (l.take i) (xs.take (i * c.size)) := by
  obtain ⟨css, rfl, h⟩ := h; exact ⟨css.take i, flat_take (rows_len c h) i, h.take i⟩
theorem El.drop {α : Type} {c : Cod α} {m : List Nat} {w : World} {l : List α} {xs : List Value} (h : El c m w l xs) (i : Nat) : El c m w (l.drop i) (xs.drop (i * c.size)) := by
  obtain ⟨css, rfl, h⟩ := h; exact ⟨css.drop i, flat_drop (rows_len c h) i, h.drop i⟩
theorem El.get {α : Type} {c : Cod α} {m : List Nat} {w : World} {l : List α} {xs : List Value} (h : El c m w l xs) {i : Nat} {x : α} (hx : l[i]? = some x) : ∃ cs ys zs, xs = ys ++ cs ++ zs ∧ ys.length = i * c.size ∧ c.rep m w x cs := by
  obtain ⟨css, rfl, h⟩ := h
  obtain ⟨cs, hc, hr⟩ := h.get hx
  have hi : i < css.length := (List.getElem?_eq_some_iff.1 hc).1
  have hcs : css[i] = cs := (List.getElem?_eq_some_iff.1 hc).2
  refine ⟨cs, (css.take i).flatten, (css.drop (i + 1)).flatten, ?_, ?_, hr⟩
  · have : css = css.take i ++ ([cs] ++ css.drop (i + 1)) := by rw [← hcs]; simp
    conv => lhs; rw [this]
    simp
  · rw [flat_len (k := c.size) (fun cs hcs => rows_len c h cs (List.mem_of_mem_take hcs)), List.length_take, Nat.min_eq_left (by omega)]

theorem CellsAt.sub {w : World} {p : Addr} {cs ys zs : List Value} (h : CellsAt w p (ys ++ cs ++ zs)) (hc : cs ≠ []) : CellsAt w (p.add ys.length) cs := CellsAt.piece h hc

theorem CellsAt.part {w : World} {q : Addr} {cs p : List Value} (h : CellsAt w q cs) (off n : Nat) (hn : off + n ≤ cs.length) (hp : p = (cs.drop off).take n) : CellsAt w (q.add off) p := by
  by_cases hne : p = []
  · subst hne; intro i hi; exact absurd hi (Nat.not_lt_zero _)
  · have h1 : cs = cs.take off ++ p ++ (cs.drop off).drop n := by rw [hp, List.append_assoc, List.take_append_drop, List.take_append_drop]
    rw [h1] at h
    have h2 := CellsAt.sub h hne
    rwa [List.length_take, Nat.min_eq_left (by omega)] at h2
/-- a slice that is only read -/
def SlR {α : Type} (c : Cod α) (m : List Nat) (w : World) (a : Option Addr) (l : List α) : Prop :=
  l = [] ∨ ∃ p xs, a = some p ∧ p.block ∉ m ∧ CellsAt w p xs ∧ El c m w l xs
theorem CellsAt.lt {w : World} {p : Addr} {xs : List Value} (h : CellsAt w p xs) (hx : xs ≠ []) : p.block < w.heap.size := by
  have := cell_lt (h 0 (List.length_pos_iff.2 hx))
  rwa [add_block] at this
theorem CellsAt.kept {w w' : World} {p : Addr} {xs : List Value} (h : CellsAt w p xs) (hk : xs ≠ [] → w'.heap[p.block]? = w.heap[p.block]?) : CellsAt w' p xs := by
  intro i hi
  have := h i hi
  have hne : xs ≠ [] := by intro e; subst e; simp at hi
  unfold World.cell? at this ⊢
  rw [add_block] at this ⊢
  rw [hk hne]
  exact this
theorem SlR.st {α : Type} {c : Cod α} {m m' : List Nat} {w w' : World} {a : Option Addr} {l : List α} (h : SlR c m w a l) (s : Step m w m' w') : SlR c m' w' a l := by
  rcases h with h | ⟨p, xs, rfl, hp, hc, he⟩
  · exact .inl h
  · by_cases hx : xs = []
    · left
      have := he.len
      rw [hx] at this
      have hp := c.pos
      cases l with
      | nil => rfl
      | cons a l =>
        exfalso
        have h2 := Nat.mul_pos (Nat.succ_pos l.length) hp
        rw [List.length_cons, List.length_nil] at this
        rw [← this] at h2
        exact Nat.lt_irrefl _ h2
    · have hlt := CellsAt.lt hc hx
      obtain ⟨ob, h1, h2⟩ := cells_obj hc hx
      exact .inr ⟨p, xs, rfl, fun hm => (s.sub _ hm).elim hp (by omega), CellsAt.kept hc fun _ => by rw [s.keep.block _ ob h1 hp h2, h1], he.st s⟩
/-- cells that are only read -/
def ElAt (m : List Nat) (w : World) (q : Addr) (cs : List Value) : Prop := (q.block ∉ m ∧ ∃ o, w.heap[q.block]? = some o ∧ plainO o = true) ∧ CellsAt w q cs
theorem ElAt.st {m m' : List Nat} {w w' : World} {q : Addr} {cs : List Value} (h : ElAt m w q cs) (s : Step m w m' w') : ElAt m' w' q cs := by
  obtain ⟨⟨hm, o, ho, hc⟩, h2⟩ := h
  have hlt := (Array.getElem?_eq_some_iff.1 ho).1
  have hk := s.keep.block _ o ho hm hc
  exact ⟨⟨fun hm' => (s.sub _ hm').elim hm (by omega), o, hk, hc⟩, CellsAt.kept h2 fun _ => by rw [hk, ho]⟩
theorem ElAt.held {m r : List Nat} {w u : World} {q : Addr} {cs : List Value} (h : ElAt m w q cs) (hu : Keep r w u) (hr : ∀ b ∈ r, b ∈ m) : CellsAt u q cs :=
  CellsAt.kept h.2 fun hx => hu.block _ (CellsAt.lt h.2 hx) fun hm => h.1.1 (hr _ hm)
theorem CellsAt.head {w : World} {q : Addr} {c : Value} {cs : List Value} (h : CellsAt w q (c :: cs)) : w.cell? q = some c := by
  have := h 0 (by simp)
  simpa [Addr.add] using this
theorem SlR.nil {α : Type} (c : Cod α) (m : List Nat) (w : World) (a : Option Addr) : SlR c m w a [] := .inl rfl
theorem SlR.elem {α : Type} {c : Cod α} {m : List Nat} {w : World} {a : Option Addr} {l : List α} (h : SlR c m w a l) {i : Int} (hi : 0 ≤ i ∧ i < (l.length : Int)) :
    ∃ p x cs, a = some p ∧ l[i.toNat]? = some x ∧ ElAt m w (p.add (i.toNat * c.size)) cs ∧ c.rep m w x cs := by
  rcases h with rfl | ⟨p, xs, rfl, hp, hc, he⟩
  · simp at hi; omega
  · have hlt : i.toNat < l.length := by omega
    obtain ⟨cs, ys, zs, hx, hy, hr⟩ := he.get (List.getElem?_eq_getElem hlt)
    subst hx
    have hne : cs ≠ [] := fun e => by have := c.len hr; rw [e] at this; have := c.pos; simp at *; omega
    have hcc := CellsAt.sub hc hne
    rw [hy] at hcc
    exact ⟨p, _, cs, rfl, List.getElem?_eq_getElem hlt, ⟨⟨by rw [add_block]; exact hp, cells_obj hcc hne⟩, hcc⟩, hr⟩
theorem SlR.sub {α : Type} {c : Cod α} {m : List Nat} {w : World} {a : Option Addr} {l : List α} (h : SlR c m w a l) {lo hi cap : Nat} (h2 : hi ≤ l.length) (hc : l.length ≤ cap) :
    SlR c m w (subBase a lo cap c.size) ((l.take hi).drop lo) := by
  by_cases hlo : lo < hi
  · rcases h with rfl | ⟨p, xs, rfl, hp, hcl, he⟩
    · exact .inl (by simp)
    · right
      have hne : ¬ cap = lo := by omega
      have e2 := (he.take hi).drop lo
      have hsplit : xs = xs.take (lo * c.size) ++ (xs.take (hi * c.size)).drop (lo * c.size) ++ xs.drop (hi * c.size) := by
        have h1 : xs.take (lo * c.size) = (xs.take (hi * c.size)).take (lo * c.size) := by rw [List.take_take, Nat.min_eq_left (Nat.mul_le_mul_right _ (by omega))]
        rw [h1, List.take_append_drop, List.take_append_drop]
      have hl : (xs.take (lo * c.size)).length = lo * c.size := by rw [List.length_take, he.len, Nat.min_eq_left (Nat.mul_le_mul_right _ (by omega))]
      have hlen2 := e2.len
      rw [hsplit] at hcl
      have := CellsAt.sub hcl (fun e => by
        rw [e] at hlen2
        have hp := c.pos
        have hll : 0 < ((l.take hi).drop lo).length := by rw [List.length_drop, List.length_take]; omega
        have := Nat.mul_pos hll hp
        simp only [List.length_nil] at hlen2
        omega)
      rw [hl] at this
      refine ⟨p.add (lo * c.size), _, ?_, by rw [add_block]; exact hp, this, e2⟩
      unfold subBase
      rw [if_neg hne]
      rfl
  · left
    simp
    omega

def cSl {α : Type} (c : Cod α) : Cod (List α) where
  size := 1
  pos := by decide
  rep := fun m w l cs => ∃ a cap, cs = [.slice a l.length cap] ∧ l.length ≤ cap ∧ SlR c m w a l
  len := by rintro m w x cs ⟨a, cap, rfl, _⟩; rfl
  one := by rintro m w x cs ⟨a, cap, rfl, _⟩ u hu; simp at hu; subst hu; rfl
  st := by rintro m w x cs m' w' ⟨a, cap, rfl, h1, h2⟩ s; exact ⟨a, cap, rfl, h1, h2.st s⟩

/-! ## Pieces that a call owns -/
inductive Pc where
  | box (b : Nat) (l : List Value)
  | row (e size : Nat) (a : Option Addr) (n c : Nat) (xs : List Value)
  | win (a : Option Addr) (xs rest : List Value) (T : Nat) (fz : Nat × Nat)
  | raw (b : Nat) (ob : Obj)
/-- the cells at the front of a block, which may be written -/
def Wn (w : World) (a : Option Addr) (xs rest : List Value) (T : Nat) (fz : Nat × Nat) : Prop :=
  (a = none ∧ xs = []) ∨ ∃ g, a = some ⟨g, 0, none⟩ ∧ w.heap[g]? = some (.cells ⟨xs ++ rest⟩ T fz) ∧ (fz = (0, 0) ∨ xs.length ≤ fz.1)
def Pc.blk : Pc → Option Nat
  | .box b _ => some b
  | .row _ _ a _ _ _ => Vc.blk a
  | .win a _ _ _ _ => Vc.blk a
  | .raw b _ => some b
def Pc.holds (w : World) : Pc → Prop
  | .box b l => Box w b l
  | .row e size a n c xs => Rw w 0 e size a n c xs
  | .win a xs rest T fz => Wn w a xs rest T fz
  | .raw b ob => w.heap[b]? = some ob ∧ plainO ob = true
theorem Pc.holds.lt {w : World} {p : Pc} (h : p.holds w) {b : Nat} (hb : p.blk = some b) : b < w.heap.size := by
  cases p with
  | box b' l => cases hb; exact Box.lt h
  | row e size a n c xs => exact (Rw.lt h b hb).2
  | win a xs rest T fz =>
    rcases h with ⟨rfl, _⟩ | ⟨g, rfl, hg, _⟩
    · cases hb
    · cases hb; exact (Array.getElem?_eq_some_iff.1 hg).1
  | raw b' ob => cases hb; exact (Array.getElem?_eq_some_iff.1 h.1).1
theorem Pc.holds.kept {w w' : World} {p : Pc} (h : p.holds w) (hk : ∀ b, p.blk = some b → w'.heap[b]? = w.heap[b]?) : p.holds w' := by
  cases p with
  | box b l => obtain ⟨T, hT⟩ := h; exact ⟨T, by rw [hk b rfl]; exact hT⟩
  | row e size a n c xs => exact Rw.kept h hk
  | win a xs rest T fz =>
    rcases h with h | ⟨g, rfl, hg, hf⟩
    · exact .inl h
    · exact .inr ⟨g, rfl, by rw [hk g rfl]; exact hg, hf⟩
  | raw b ob => exact ⟨by rw [hk b rfl]; exact h.1, h.2⟩

/-- the blocks that may change: those of the pieces, and those of the callers -/
def ms : List Pc → List Nat → List Nat
  | [], m => m
  | p :: ps, m => p.blk.toList ++ ms ps m
theorem mem_ms {ps : List Pc} {m : List Nat} {k : Nat} : k ∈ ms ps m ↔ (∃ p ∈ ps, p.blk = some k) ∨ k ∈ m := by
  induction ps with
  | nil => simp [ms]
  | cons p ps ih =>
    simp only [ms, List.mem_append, ih, Option.mem_toList, List.mem_cons]
    constructor
    · rintro (h | ⟨q, hq, h⟩ | h)
      · exact .inl ⟨p, .inl rfl, h⟩
      · exact .inl ⟨q, .inr hq, h⟩
      · exact .inr h
    · rintro (⟨q, rfl | hq, h⟩ | h)
      · exact .inl h
      · exact .inr (.inl ⟨q, hq, h⟩)
      · exact .inr (.inr h)

theorem Pc.holds.cells {w : World} {p : Pc} (h : p.holds w) {b : Nat} (hb : p.blk = some b) : ∃ o, w.heap[b]? = some o ∧ plainO o = true := by
  cases p with
  | box b' l => cases hb; obtain ⟨T, hT, _⟩ := h; exact ⟨_, hT, rfl⟩
  | row e size a n c xs =>
    rcases h.2 with ⟨hv, _⟩ | ⟨g, cap, cur, hv, _, hh, _⟩
    · cases hv; cases hb
    · cases hv; cases hb; exact ⟨_, hh, rfl⟩
  | win a xs rest T fz =>
    rcases h with ⟨rfl, _⟩ | ⟨g, rfl, hg, _⟩
    · cases hb
    · cases hb; exact ⟨_, hg, rfl⟩
  | raw b' ob => cases hb; exact ⟨_, h.1, h.2⟩
/-- blocks below n0 that the call may change: rs; m0: those of the callers; fr: what it has promised to keep, and since when; ds: marks of loops -/
structure Mem (n0 : Nat) (rs m0 : List Nat) (fr : List (List Nat × Nat × World)) (ds : List Nat) (w : World) (ps : List Pc) : Prop where
  le : n0 ≤ w.heap.size
  lt : ∀ b ∈ m0, b < n0
  keep : ∀ f ∈ fr, KeepR f.1 f.2.1 f.2.2 w
  fmine : ∀ f ∈ fr, f.2.1 ≤ f.2.2.heap.size ∧ ∀ p ∈ ps, ∀ b, p.blk = some b → b ∈ f.1 ∨ f.2.1 ≤ b
  holds : ∀ p ∈ ps, p.holds w
  mine : ∀ p ∈ ps, ∀ b, p.blk = some b → b ∈ rs ∨ n0 ≤ b
  dif : ps.Pairwise fun p q => ∀ b, p.blk = some b → q.blk ≠ some b
  marks : MarksOk ds w ∧ ∀ D ∈ ds, n0 ≤ D

section
variable {n0 : Nat} {rs m0 : List Nat} {fr : List (List Nat × Nat × World)} {ds : List Nat} {w w' : World} {ps : List Pc}
theorem marks_nil (w : World) (n : Nat) : MarksOk [] w ∧ ∀ D ∈ ([] : List Nat), n ≤ D := ⟨⟨List.nodup_nil, by simp⟩, by simp⟩
theorem Mem.start (h : ∀ b ∈ m0, b < w.heap.size) : Mem w.heap.size [] m0 [([], w.heap.size, w)] [] w [] :=
  ⟨Nat.le_refl _, h, fun f hf => by simp at hf; subst hf; exact KeepR.refl _ _ _, fun f hf => by simp at hf; subst hf; exact ⟨Nat.le_refl _, fun _ h => (by cases h)⟩, fun _ h => (by cases h), fun _ h => (by cases h), List.Pairwise.nil, marks_nil _ _⟩
theorem Mem.relen (o : Mem n0 rs m0 fr ds w ps) (k : Nat) {e size : Nat} {a : Option Addr} {n n' c : Nat} {xs : List Value} (hk : ps[k]? = some (.row e size a n c xs)) (h : n = n') : Mem n0 rs m0 fr ds w (ps.set k (.row e size a n' c xs)) := by
  subst h
  have : ps.set k (.row e size a n c xs) = ps := by
    apply List.ext_getElem?
    intro i
    rw [List.getElem?_set]
    split
    · rename_i hi
      subst hi
      split
      · exact hk.symm
      · rename_i hlt
        rw [List.getElem?_eq_none (by omega)] at hk
        cases hk
    · rfl
  rw [this]
  exact o
theorem Mem.mlt (o : Mem n0 rs m0 fr ds w ps) : ∀ b ∈ ms ps m0, b < w.heap.size := by
  intro b hb
  rcases mem_ms.1 hb with ⟨p, hp, h⟩ | h
  · exact (o.holds p hp).lt h
  · exact Nat.lt_of_lt_of_le (o.lt b h) o.le
theorem Mem.mo {w0 : World} (o : Mem w0.heap.size rs m0 fr ds w ps) (hm : MOk m0 w0) (hr : ∀ b ∈ rs, b ∈ m0) (hf : (rs, w0.heap.size, w0) ∈ fr) : MOk (ms ps m0) w where
  lt := o.mlt
  off := fun b hb hm' => by
    rcases mem_ms.1 hm' with ⟨p, hp, h⟩ | h
    · rcases o.mine p hp b h with h1 | h1
      · exact hm.off b hb (hr b h1)
      · exact absurd (held.lt w0 hm.tab b hb) (Nat.not_lt.2 h1)
    · exact hm.off b hb h
  tab := held.stable w0 w (fun b hb => (o.keep _ hf).kp.block b (held.lt w0 hm.tab b hb) (fun h => hm.off b hb (hr b h))) hm.tab
theorem Mem.mn {w0 : World} {fr : List (List Nat × Nat × World)} (o : Mem w0.heap.size [] m0 (([], w0.heap.size, w0) :: fr) ds w ps) (hm : MOk m0 w0) : MOk (ms ps m0) w := o.mo hm (by simp) (.head _)
theorem Mem.mp {w0 : World} {fr : List (List Nat × Nat × World)} (o : Mem w0.heap.size rs m0 ((rs, w0.heap.size, w0) :: fr) ds w ps) (hm : MOk m0 w0) (hr : ∀ b ∈ rs, b ∈ m0) : MOk (ms ps m0) w := o.mo hm hr (.head _)
theorem Mem.done {w0 : World} (o : Mem n0 rs m0 [(rs, w0.heap.size, w0)] ds w ps) : Keep rs w0 w := by
  have h := o.keep _ (List.mem_cons_self)
  exact ⟨h.kp.os, h.kp.tape, h.kp.output, h.kp.size, h.kp.block⟩
/-- a full keep beside blocks that are cells, or new: what was promised stays promised -/
theorem keepR_step {M l : List Nat} {B : Nat} {W : World} (h : KeepR M B W w) (hB : B ≤ W.heap.size) (hK : Keep l w w') (hl : ∀ b ∈ l, (b ∈ M ∨ B ≤ b) ∧ ∃ o, w.heap[b]? = some o ∧ plainO o = true) : KeepR M B W w' := by
  refine ⟨⟨hK.os.trans h.kp.os, hK.tape.trans h.kp.tape, hK.output.trans h.kp.output, Nat.le_trans h.kp.size hK.size, fun k hk hm => ?_⟩, fun k ob hk ho hc => ?_⟩
  · rw [hK.block k (Nat.lt_of_lt_of_le hk (Nat.le_trans hB h.kp.size)) (fun hkl => ?_), h.kp.block k hk hm]
    rcases (hl k hkl).1 with h1 | h1
    · exact hm h1
    · omega
  · have h2 := h.rest k ob hk ho hc
    rw [hK.block k (Array.getElem?_eq_some_iff.1 h2).1 (fun hkl => ?_), h2]
    obtain ⟨o', h3, h4⟩ := (hl k hkl).2
    rw [h2] at h3
    cases h3
    rw [hc] at h4; cases h4
theorem marks_keep {l : List Nat} (h : MarksOk ds w) (hK : Keep l w w') (hl : ∀ b ∈ l, ∃ o, w.heap[b]? = some o ∧ plainO o = true) : MarksOk ds w' :=
  ⟨h.1, fun D hD => by
    have h2 := h.2 D hD
    rw [hK.block D (Array.getElem?_eq_some_iff.1 h2).1 (fun hkl => ?_), h2]
    obtain ⟨o', h3, h4⟩ := hl D hkl
    rw [h2] at h3; cases h3; cases h4⟩
/-- a step that changes none of the pieces -/
theorem Mem.ext (o : Mem n0 rs m0 fr ds w ps) (e : Keep [] w w') : Mem n0 rs m0 fr ds w' ps :=
  ⟨Nat.le_trans o.le e.size, o.lt, fun f hf => keepR_step (o.keep f hf) (o.fmine f hf).1 e (by simp), o.fmine, fun p hp => (o.holds p hp).kept fun b hb => e.block b ((o.holds p hp).lt hb) (by simp), o.mine, o.dif, marks_keep o.marks.1 e (by simp), o.marks.2⟩
theorem Mem.extS (e : Keep [] w w') : Step (ms ps m0) w (ms ps m0) w' := ⟨(e.mono (by simp)).d, fun _ h => .inl h⟩
theorem keep_drew (h : w' = w.drew) : Keep [] w w' := Keep.ofExt (.drew h)
theorem keep_alloc {ob : Obj} (h : w' = w.alloc ob) : Keep [] w w' := Keep.ofExt (.alloc h)
theorem Mem.push (o : Mem n0 rs m0 fr ds w ps) {b : Nat} {ob : Obj} (hb : b = w.heap.size) (e : w' = w.alloc ob) (p : Pc) (hp : p.blk = some b) (hh : p.holds w') : Mem n0 rs m0 fr ds w' (p :: ps) := by
  have o' := o.ext (keep_alloc e)
  refine ⟨o'.le, o.lt, o'.keep, fun f hf => ⟨(o.fmine f hf).1, fun q hq c hc => ?_⟩, fun q hq => ?_, fun q hq => ?_, ?_, o'.marks⟩
  · cases hq with
    | head =>
      rw [hp] at hc; cases hc
      have h1 := (o.keep f hf).kp.size
      have h2 := (o.fmine f hf).1
      exact .inr (by omega)
    | tail _ hq => exact (o.fmine f hf).2 q hq c hc
  · cases hq with
    | head => exact hh
    | tail _ hq => exact o'.holds q hq
  · cases hq with
    | head => intro c hc; rw [hp] at hc; cases hc; exact .inr (hb ▸ o.le)
    | tail _ hq => exact o.mine q hq
  · refine List.pairwise_cons.2 ⟨fun q hq c hc hqc => ?_, o.dif⟩
    rw [hp] at hc; cases hc
    have := (o.holds q hq).lt hqc
    omega
theorem Mem.add (o : Mem n0 rs m0 fr ds w ps) (e : Keep [] w w') (p : Pc) (hp : p.blk = some w.heap.size) (hh : p.holds w') : Mem n0 rs m0 fr ds w' (p :: ps) := by
  have o' := o.ext e
  refine ⟨o'.le, o.lt, o'.keep, fun f hf => ⟨(o.fmine f hf).1, fun q hq c hc => ?_⟩, fun q hq => ?_, fun q hq => ?_, ?_, o'.marks⟩
  · cases hq with
    | head =>
      rw [hp] at hc; cases hc
      have h1 := (o.keep f hf).kp.size
      have h2 := (o.fmine f hf).1
      exact .inr (by omega)
    | tail _ hq => exact (o.fmine f hf).2 q hq c hc
  · cases hq with
    | head => exact hh
    | tail _ hq => exact o'.holds q hq
  · cases hq with
    | head => intro c hc; rw [hp] at hc; cases hc; exact .inr o.le
    | tail _ hq => exact o.mine q hq
  · refine List.pairwise_cons.2 ⟨fun q hq c hc hqc => ?_, o.dif⟩
    rw [hp] at hc; cases hc
    have := (o.holds q hq).lt hqc
    omega
theorem Mem.addS (e : Keep [] w w') (p : Pc) (hp : p.blk = some w.heap.size) : Step (ms ps m0) w (ms (p :: ps) m0) w' :=
  ⟨(e.mono (by simp)).d, fun k hk => by
    rcases mem_ms.1 hk with ⟨q, hq, h⟩ | h
    · cases hq with
      | head => rw [hp] at h; cases h; exact .inr (Nat.le_refl _)
      | tail _ hq => exact .inl (mem_ms.2 (.inl ⟨q, hq, h⟩))
    · exact .inl (mem_ms.2 (.inr h))⟩
theorem Mem.adds (o : Mem n0 rs m0 fr ds w ps) (e : Keep [] w w') (p : Pc) (hp : ∀ b, p.blk = some b → w.heap.size ≤ b) (hh : p.holds w') : Mem n0 rs m0 fr ds w' (p :: ps) := by
  have o' := o.ext e
  refine ⟨o'.le, o.lt, o'.keep, fun f hf => ⟨(o.fmine f hf).1, fun q hq c hc => ?_⟩, fun q hq => ?_, fun q hq => ?_, ?_, o'.marks⟩
  · cases hq with
    | head =>
      have h1 := (o.keep f hf).kp.size
      have h2 := (o.fmine f hf).1
      have h3 := hp c hc
      exact .inr (by omega)
    | tail _ hq => exact (o.fmine f hf).2 q hq c hc
  · cases hq with
    | head => exact hh
    | tail _ hq => exact o'.holds q hq
  · cases hq with
    | head => intro c hc; exact .inr (Nat.le_trans o.le (hp c hc))
    | tail _ hq => exact o.mine q hq
  · refine List.pairwise_cons.2 ⟨fun q hq c hc hqc => ?_, o.dif⟩
    have := (o.holds q hq).lt hqc
    have := hp c hc
    omega
theorem Mem.addsS (e : Keep [] w w') (p : Pc) (hp : ∀ b, p.blk = some b → w.heap.size ≤ b) : Step (ms ps m0) w (ms (p :: ps) m0) w' :=
  ⟨(e.mono (by simp)).d, fun k hk => by
    rcases mem_ms.1 hk with ⟨q, hq, h⟩ | h
    · cases hq with
      | head => exact .inr (hp k h)
      | tail _ hq => exact .inl (mem_ms.2 (.inl ⟨q, hq, h⟩))
    · exact .inl (mem_ms.2 (.inr h))⟩
theorem Mem.endRS (k : Nat) {e size : Nat} {a : Option Addr} {n c : Nat} {xs : List Value} (hk : ps[k]? = some (.row e size a n c xs)) : Step (ms ps m0) w ((Vc.blk a).toList ++ m0) w := Step.drop w fun j hj => by
  rcases List.mem_append.1 hj with h | h
  · exact mem_ms.2 (.inl ⟨_, List.mem_of_getElem? hk, by rwa [Option.mem_toList] at h⟩)
  · exact mem_ms.2 (.inr h)
theorem Mem.obj {b : Nat} {l : List Value} {e size : Nat} {a : Option Addr} {n c : Nat} {xs : List Value} (hm : ∀ b ∈ m0, b < w.heap.size) (_hb : b ∈ m0) (ha : ∀ q, Vc.blk a = some q → q ∈ m0 ∧ q ≠ b) (hbx : Box w b l) (hr : Rw w 0 e size a n c xs) :
    Mem w.heap.size (b :: (Vc.blk a).toList) m0 [((b :: (Vc.blk a).toList), w.heap.size, w)] [] w [.box b l, .row e size a n c xs] := by
  have mine : ∀ p ∈ [Pc.box b l, .row e size a n c xs], ∀ q, p.blk = some q → q ∈ (b :: (Vc.blk a).toList) ∨ w.heap.size ≤ q := by
    intro p hp q hq
    simp only [List.mem_cons, List.not_mem_nil, or_false] at hp
    rcases hp with rfl | rfl
    · cases hq; exact .inl (by simp)
    · left
      have hq' : Vc.blk a = some q := hq
      rw [hq']; simp
  refine ⟨Nat.le_refl _, hm, fun f hf => by simp at hf; subst hf; exact KeepR.refl _ _ _, fun f hf => by simp at hf; subst hf; exact ⟨Nat.le_refl _, mine⟩, fun p hp => ?_, mine, ?_, marks_nil _ _⟩
  · simp only [List.mem_cons, List.not_mem_nil, or_false] at hp
    rcases hp with rfl | rfl
    · exact hbx
    · exact hr
  · refine List.pairwise_cons.2 ⟨fun q hq c hc hqc => ?_, List.pairwise_singleton _ _⟩
    simp only [List.mem_singleton] at hq
    subst hq
    cases hc
    exact (ha _ hqc).2 rfl
theorem Mem.objS {b : Nat} {l : List Value} {e size : Nat} {a : Option Addr} {n c : Nat} {xs : List Value} (hb : b ∈ m0) (ha : ∀ q, Vc.blk a = some q → q ∈ m0 ∧ q ≠ b) : Step m0 w (ms [.box b l, .row e size a n c xs] m0) w := Step.drop w fun j hj => by
  rcases mem_ms.1 hj with ⟨p, hp, h⟩ | h
  · simp only [List.mem_cons, List.not_mem_nil, or_false] at hp
    rcases hp with rfl | rfl
    · cases h; exact hb
    · exact (ha _ h).1
  · exact h
theorem Mem.objlt {b : Nat} {a : Option Addr} (hm : ∀ b ∈ m0, b < w.heap.size) (hb : b ∈ m0) (ha : ∀ q, Vc.blk a = some q → q ∈ m0 ∧ q ≠ b) : ∀ q ∈ b :: (Vc.blk a).toList, q < w.heap.size := by
  intro q hq
  rcases List.mem_cons.1 hq with rfl | hq
  · exact hm _ hb
  · rw [Option.mem_toList] at hq; exact hm _ (ha q hq).1
theorem Mem.box (o : Mem n0 rs m0 fr ds w ps) {b : Nat} {cs : Array Value} {T : TypeId} (hb : b = w.heap.size) (e : w' = w.alloc (.cells cs T)) (hgho : Gho cs.toList T := by first | exact trivial | exact fun h k => by first | rfl | (simp at h; done) | (simp [isPtr] at k; done)) : Mem n0 rs m0 fr ds w' (.box b cs.toList :: ps) :=
  o.push hb e (.box b cs.toList) rfl (Box.new hb e hgho)
theorem Mem.boxS {b : Nat} {cs : Array Value} {T : TypeId} (hb : b = w.heap.size) (e : w' = w.alloc (.cells cs T)) : Step (ms ps m0) w (ms (.box b cs.toList :: ps) m0) w' :=
  ⟨((keep_alloc e).mono (by simp)).d, fun k hk => by
    simp only [ms, Pc.blk, Option.toList_some, List.singleton_append, List.mem_cons] at hk
    rcases hk with rfl | hk
    · exact .inr (hb ▸ Nat.le_refl _)
    · exact .inl hk⟩
theorem Mem.lit (o : Mem n0 rs m0 fr ds w ps) {b : Nat} {cs : Array Value} {T : TypeId} (hb : b = w.heap.size) (e : w' = w.alloc (.cells cs T)) (size n : Nat) (hn : n ≤ maxLen) (hs : cs.size = n * size) : Mem n0 rs m0 fr ds w' (.row T size (some ⟨b, 0, none⟩) n n cs.toList :: ps) :=
  o.push hb e (.row T size (some ⟨b, 0, none⟩) n n cs.toList) rfl (Rw.lit hb e (Nat.zero_le _) hn hs)
theorem Mem.litS {b : Nat} {cs : Array Value} {T : TypeId} (hb : b = w.heap.size) (e : w' = w.alloc (.cells cs T)) (size n : Nat) : Step (ms ps m0) w (ms (.row T size (some ⟨b, 0, none⟩) n n cs.toList :: ps) m0) w' := Mem.boxS (ps := ps) (m0 := m0) (T := T) (cs := cs) hb e
theorem Mem.nilrow (o : Mem n0 rs m0 fr ds w ps) (e size : Nat) : Mem n0 rs m0 fr ds w (.row e size none 0 0 [] :: ps) := by
  refine ⟨o.le, o.lt, o.keep, fun f hf => ⟨(o.fmine f hf).1, fun q hq c hc => ?_⟩, fun q hq => ?_, fun q hq => ?_, List.pairwise_cons.2 ⟨fun q _ c hc => (by cases hc), o.dif⟩, o.marks⟩
  · cases hq with
    | head => cases hc
    | tail _ hq => exact (o.fmine f hf).2 q hq c hc
  · cases hq with
    | head => exact Rw.nil w 0 e size
    | tail _ hq => exact o.holds q hq
  · cases hq with
    | head => intro c hc; cases hc
    | tail _ hq => exact o.mine q hq
theorem Mem.nilS (e size : Nat) : Step (ms ps m0) w (ms (.row e size none 0 0 [] :: ps) m0) w := Step.drop w fun _ h => h
theorem Mem.at (o : Mem n0 rs m0 fr ds w ps) (k : Nat) {b : Nat} {l : List Value} (hk : ps[k]? = some (.box b l)) : Box w b l := o.holds _ (List.mem_of_getElem? hk)
theorem Mem.rowAt (o : Mem n0 rs m0 fr ds w ps) (k : Nat) {e size : Nat} {a : Option Addr} {n c : Nat} {xs : List Value} (hk : ps[k]? = some (.row e size a n c xs)) : Rw w 0 e size a n c xs := o.holds _ (List.mem_of_getElem? hk)
theorem Mem.wr (o : Mem n0 rs m0 fr ds w ps) (k : Nat) {b i n : Nat} {l : List Value} (hk : ps[k]? = some (.box b l)) (hn : Nat.ble (i + n) l.length = true) : Writable w ⟨b, i, none⟩ n := (o.at k hk).writable (Nat.le_of_ble_eq_true hn)
theorem dif_ne (hd : ps.Pairwise fun p q => ∀ b, p.blk = some b → q.blk ≠ some b) {i j : Nat} {p q : Pc} (hi : ps[i]? = some p) (hj : ps[j]? = some q) (hij : i ≠ j) {b : Nat} (hp : p.blk = some b) (hq : q.blk = some b) : False := by
  obtain ⟨hi1, hi2⟩ := List.getElem?_eq_some_iff.1 hi
  obtain ⟨hj1, hj2⟩ := List.getElem?_eq_some_iff.1 hj
  have hd := List.pairwise_iff_getElem.1 hd
  rcases Nat.lt_or_gt_of_ne hij with h | h
  · exact hd i j hi1 hj1 h b (by rw [hi2]; exact hp) (by rw [hj2]; exact hq)
  · exact hd j i hj1 hi1 h b (by rw [hj2]; exact hq) (by rw [hi2]; exact hp)
/-- one piece changes: another one of the same block, or of a new one -/
theorem Mem.upd (o : Mem n0 rs m0 fr ds w ps) (k : Nat) {p p' : Pc} (hk : ps[k]? = some p) (hK : Keep p.blk.toList w w') (hp : p'.holds w') (hb : ∀ b, p'.blk = some b → p.blk = some b ∨ w.heap.size ≤ b) : Mem n0 rs m0 fr ds w' (ps.set k p') := by
  have hmem := List.mem_of_getElem? hk
  have hkl := (List.getElem?_eq_some_iff.1 hk).1
  have key : ∀ i q, (ps.set k p')[i]? = some q → (i = k ∧ q = p') ∨ (i ≠ k ∧ ps[i]? = some q) := by
    intro i q h
    rw [List.getElem?_set] at h
    split at h
    · rename_i e; subst e; simp at h; exact .inl ⟨rfl, h.symm⟩
    · rename_i e; exact .inr ⟨fun h => e h.symm, h⟩
  have hcell : ∀ b ∈ p.blk.toList, ∃ o, w.heap[b]? = some o ∧ plainO o = true := fun b hb => (o.holds p hmem).cells (by rwa [Option.mem_toList] at hb)
  refine ⟨Nat.le_trans o.le hK.size, o.lt, fun f hf => keepR_step (o.keep f hf) (o.fmine f hf).1 hK (fun b hb => ⟨(o.fmine f hf).2 p hmem b (by rwa [Option.mem_toList] at hb), hcell b hb⟩), fun f hf => ⟨(o.fmine f hf).1, fun q hq b hqb => ?_⟩, fun q hq => ?_, fun q hq b hqb => ?_, ?_, marks_keep o.marks.1 hK hcell, o.marks.2⟩
  · obtain ⟨i, hi⟩ := List.getElem?_of_mem hq
    rcases key i q hi with ⟨_, rfl⟩ | ⟨hne, hi⟩
    · rcases hb b hqb with h | h
      · exact (o.fmine f hf).2 p hmem b h
      · have h1 := (o.keep f hf).kp.size
        have h2 := (o.fmine f hf).1
        exact .inr (by omega)
    · exact (o.fmine f hf).2 q (List.mem_of_getElem? hi) b hqb
  · obtain ⟨i, hi⟩ := List.getElem?_of_mem hq
    rcases key i q hi with ⟨_, rfl⟩ | ⟨hne, hi⟩
    · exact hp
    · have hq' := List.mem_of_getElem? hi
      refine (o.holds q hq').kept fun b hb => hK.block b ((o.holds q hq').lt hb) fun hm => ?_
      rw [Option.mem_toList] at hm
      exact dif_ne o.dif hi hk hne hb hm
  · obtain ⟨i, hi⟩ := List.getElem?_of_mem hq
    rcases key i q hi with ⟨_, rfl⟩ | ⟨hne, hi⟩
    · rcases hb b hqb with h | h
      · exact o.mine p hmem b h
      · exact .inr (Nat.le_trans o.le h)
    · exact o.mine q (List.mem_of_getElem? hi) b hqb
  · rw [List.pairwise_iff_getElem]
    intro i j hi hj hij b hbi hbj
    have gi := List.getElem?_eq_getElem hi
    have gj := List.getElem?_eq_getElem hj
    rcases key i _ gi with ⟨e1, e2⟩ | ⟨hne, hi'⟩ <;> rcases key j _ gj with ⟨e3, e4⟩ | ⟨hne', hj'⟩
    · omega
    · rw [e2] at hbi
      rcases hb b hbi with h | h
      · exact dif_ne o.dif hk hj' (Ne.symm hne') h hbj
      · have := (o.holds _ (List.mem_of_getElem? hj')).lt hbj; omega
    · rw [e4] at hbj
      rcases hb b hbj with h | h
      · exact dif_ne o.dif hi' hk hne hbi h
      · have := (o.holds _ (List.mem_of_getElem? hi')).lt hbi; omega
    · exact dif_ne o.dif hi' hj' (by omega) hbi hbj
theorem Mem.updS (k : Nat) {p p' : Pc} (hk : ps[k]? = some p) (hK : Keep p.blk.toList w w') (hb : ∀ b, p'.blk = some b → p.blk = some b ∨ w.heap.size ≤ b) : Step (ms ps m0) w (ms (ps.set k p') m0) w' := by
  have hmem := List.mem_of_getElem? hk
  refine ⟨(hK.mono fun j hj => mem_ms.2 (.inl ⟨p, hmem, by rwa [Option.mem_toList] at hj⟩)).d, fun j hj => ?_⟩
  rcases mem_ms.1 hj with ⟨q, hq, h⟩ | h
  · rcases List.mem_or_eq_of_mem_set hq with hq | rfl
    · exact .inl (mem_ms.2 (.inl ⟨q, hq, h⟩))
    · rcases hb j h with h | h
      · exact .inl (mem_ms.2 (.inl ⟨p, hmem, h⟩))
      · exact .inr h
  · exact .inl (mem_ms.2 (.inr h))
theorem keep_set {b i : Nat} {v : Value} (e : w' = w.setCell ⟨b, i, none⟩ v) : Keep (some b).toList w w' := Keep.grown (grownBy_set e)
theorem keep_sets {b i : Nat} {vs : List Value} (e : w' = setCells w ⟨b, i, none⟩ vs) : Keep (some b).toList w w' := by
  subst e
  unfold setCells
  suffices ∀ (vs : List Value) (w : World) (j : Nat), Keep (some b).toList w (setCellsFrom w ⟨b, i, none⟩ j vs) from this vs w 0
  intro vs
  induction vs with
  | nil => intro w j; exact Keep.refl _ _
  | cons v vs ih => intro w j; simp only [setCellsFrom]; rw [add_mk]; exact (keep_set rfl).trans (ih _ _)
theorem Mem.set (o : Mem n0 rs m0 fr ds w ps) (k : Nat) {b i : Nat} {l : List Value} {v : Value} (e : w' = w.setCell ⟨b, i, none⟩ v) (hk : ps[k]? = some (.box b l)) (hgv : Gv v := by first | exact trivial | exact rfl) : Mem n0 rs m0 fr ds w' (ps.set k (.box b (l.set i v))) :=
  o.upd k hk (keep_set e) ((o.at k hk).set e hgv) fun _ h => .inl h
theorem Mem.setS (k : Nat) {b i : Nat} {l : List Value} {v : Value} (e : w' = w.setCell ⟨b, i, none⟩ v) (hk : ps[k]? = some (.box b l)) : Step (ms ps m0) w (ms (ps.set k (.box b (l.set i v))) m0) w' :=
  Mem.updS k hk (keep_set e) fun _ h => .inl h
theorem Mem.sets (o : Mem n0 rs m0 fr ds w ps) (k : Nat) {b i : Nat} {l vs : List Value} (e : w' = setCells w ⟨b, i, none⟩ vs) (hk : ps[k]? = some (.box b l)) (hgvs : Gvs vs := by first | exact trivial | exact rfl) : Mem n0 rs m0 fr ds w' (ps.set k (.box b (over l i vs))) :=
  o.upd k hk (keep_sets e) ((o.at k hk).sets e hgvs) fun _ h => .inl h
theorem Mem.setsS (k : Nat) {b i : Nat} {l vs : List Value} (e : w' = setCells w ⟨b, i, none⟩ vs) (hk : ps[k]? = some (.box b l)) : Step (ms ps m0) w (ms (ps.set k (.box b (over l i vs))) m0) w' :=
  Mem.updS k hk (keep_sets e) fun _ h => .inl h
/-- a call that changes one box -/
theorem Mem.call (o : Mem n0 rs m0 fr ds w ps) (k : Nat) {b : Nat} {l l' : List Value} (hK : Keep [b] w w') (hb : Box w' b l') (hk : ps[k]? = some (.box b l)) : Mem n0 rs m0 fr ds w' (ps.set k (.box b l')) :=
  o.upd k hk hK hb fun _ h => .inl h
theorem Mem.callS (k : Nat) {b : Nat} {l l' : List Value} (hK : Keep [b] w w') (hk : ps[k]? = some (.box b l)) : Step (ms ps m0) w (ms (ps.set k (.box b l')) m0) w' :=
  Mem.updS k hk hK fun _ h => .inl h
theorem Mem.oldnew {b : Nat} {a a' : Option Addr} {l : List Value} {e size n c : Nat} {xs : List Value} (o : Mem n0 (b :: (Vc.blk a).toList) m0 fr ds w ps) (k : Nat) (hk : ps[k]? = some (.row e size a' n c xs)) (j : Nat) (hj : ps[j]? = some (.box b l)) (hne : k ≠ j) : ∀ q, Vc.blk a' = some q → q ∈ (Vc.blk a).toList ∨ n0 ≤ q := by
  intro q hq
  rcases o.mine _ (List.mem_of_getElem? hk) q hq with h | h
  · rcases List.mem_cons.1 h with rfl | h
    · exact (dif_ne o.dif hk hj hne hq rfl).elim
    · exact .inl h
  · exact .inr h
theorem Mem.rowdif (o : Mem n0 rs m0 fr ds w ps) (k j : Nat) {e size e' size' : Nat} {a a' : Option Addr} {n c n' c' : Nat} {xs xs' : List Value} (hk : ps[k]? = some (.row e size a n c xs)) (hj : ps[j]? = some (.row e' size' a' n' c' xs')) (hne : k ≠ j) : ∀ q, Vc.blk a = some q → Vc.blk a' ≠ some q :=
  fun _ hq hq' => dif_ne o.dif hk hj hne hq hq'
theorem Mem.objin (o : Mem n0 rs m0 fr ds w ps) (k j : Nat) {b : Nat} {l : List Value} {e size : Nat} {a : Option Addr} {n c : Nat} {xs : List Value} (hk : ps[k]? = some (.box b l)) (hj : ps[j]? = some (.row e size a n c xs)) (hne : k ≠ j) : ∀ q, Vc.blk a = some q → q ∈ ms ps m0 ∧ q ≠ b :=
  fun q hq => ⟨mem_ms.2 (.inl ⟨_, List.mem_of_getElem? hj, hq⟩), fun e => dif_ne o.dif hk hj hne (b := q) (by rw [e]; rfl) hq⟩
/-- a call that changes an object: its box, and its row -/
theorem Mem.call2 (o : Mem n0 rs m0 fr ds w ps) (k j : Nat) {b : Nat} {l l' : List Value} {e size : Nat} {a a' : Option Addr} {n c n' c' : Nat} {xs xs' : List Value} (hk : ps[k]? = some (.box b l)) (hj : ps[j]? = some (.row e size a n c xs)) (hne : k ≠ j) (hK : Keep (b :: (Vc.blk a).toList) w w') (hb : Box w' b l') (hr : Rw w' 0 e size a' n' c' xs') (hf : ∀ q, Vc.blk a' = some q → q ∈ (Vc.blk a).toList ∨ w.heap.size ≤ q) :
    Mem n0 rs m0 fr ds w' ((ps.set k (.box b l')).set j (.row e size a' n' c' xs')) := by
  have mk := List.mem_of_getElem? hk
  have mj := List.mem_of_getElem? hj
  have hlk := (List.getElem?_eq_some_iff.1 hk).1
  have hlj := (List.getElem?_eq_some_iff.1 hj).1
  have key : ∀ i q, ((ps.set k (.box b l')).set j (.row e size a' n' c' xs'))[i]? = some q → (i = j ∧ q = .row e size a' n' c' xs') ∨ (i = k ∧ i ≠ j ∧ q = .box b l') ∨ (i ≠ k ∧ i ≠ j ∧ ps[i]? = some q) := by
    intro i q h
    rw [List.getElem?_set] at h
    split at h
    · rename_i e1; subst e1
      rw [if_pos (by simpa using hlj)] at h
      exact .inl ⟨rfl, (Option.some.inj h).symm⟩
    · rename_i e1
      rw [List.getElem?_set] at h
      split at h
      · rename_i e2; subst e2
        exact .inr (.inl ⟨rfl, fun h' => e1 h'.symm, (Option.some.inj h).symm⟩)
      · rename_i e2; exact .inr (.inr ⟨fun h' => e2 h'.symm, fun h' => e1 h'.symm, h⟩)
  have hold : ∀ q, q ∈ (Vc.blk a).toList → Vc.blk a = some q := fun q h => by rwa [Option.mem_toList] at h
  have hcell : ∀ q ∈ b :: (Vc.blk a).toList, ∃ ob, w.heap[q]? = some ob ∧ plainO ob = true := fun q hq => by
    rcases List.mem_cons.1 hq with rfl | hq
    · exact (o.holds _ mk).cells rfl
    · exact (o.holds _ mj).cells (hold q hq)
  have hin : ∀ (M : List Nat) (B : Nat), (∀ p ∈ ps, ∀ q, p.blk = some q → q ∈ M ∨ B ≤ q) → ∀ q ∈ b :: (Vc.blk a).toList, q ∈ M ∨ B ≤ q := fun M B h q hq => by
    rcases List.mem_cons.1 hq with rfl | hq
    · exact h _ mk _ rfl
    · exact h _ mj _ (hold q hq)
  have hnew : ∀ (M : List Nat) (B : Nat), B ≤ w.heap.size → (∀ p ∈ ps, ∀ q, p.blk = some q → q ∈ M ∨ B ≤ q) → ∀ p ∈ (ps.set k (.box b l')).set j (.row e size a' n' c' xs'), ∀ q, p.blk = some q → q ∈ M ∨ B ≤ q := fun M B hB h p hp q hq => by
    obtain ⟨i, hi⟩ := List.getElem?_of_mem hp
    rcases key i p hi with ⟨_, rfl⟩ | ⟨_, _, rfl⟩ | ⟨_, _, hi⟩
    · rcases hf q hq with h1 | h1
      · exact h _ mj _ (hold q h1)
      · exact .inr (Nat.le_trans hB h1)
    · exact h _ mk _ hq
    · exact h _ (List.mem_of_getElem? hi) q hq
  refine ⟨Nat.le_trans o.le hK.size, o.lt, fun f hf' => keepR_step (o.keep f hf') (o.fmine f hf').1 hK (fun q hq => ⟨hin _ _ (o.fmine f hf').2 q hq, hcell q hq⟩), fun f hf' => ⟨(o.fmine f hf').1, hnew _ _ (Nat.le_trans (o.fmine f hf').1 (o.keep f hf').kp.size) (o.fmine f hf').2⟩, fun p hp => ?_, hnew _ _ o.le o.mine, ?_, marks_keep o.marks.1 hK hcell, o.marks.2⟩
  · obtain ⟨i, hi⟩ := List.getElem?_of_mem hp
    rcases key i p hi with ⟨_, rfl⟩ | ⟨_, _, rfl⟩ | ⟨h1, h2, hi2⟩
    · exact hr
    · exact hb
    · have hp' := List.mem_of_getElem? hi2
      refine (o.holds p hp').kept fun q hq => hK.block q ((o.holds p hp').lt hq) fun hm => ?_
      rcases List.mem_cons.1 hm with he | hm
      · exact dif_ne o.dif hi2 hk h1 hq (by rw [he]; rfl)
      · exact dif_ne o.dif hi2 hj h2 hq (hold q hm)
  · rw [List.pairwise_iff_getElem]
    intro i i' hi hi' hii q hq hq'
    have g1 := List.getElem?_eq_getElem hi
    have g2 := List.getElem?_eq_getElem hi'
    have rowother : ∀ (x : Nat) (p : Pc), x ≠ j → ps[x]? = some p → Vc.blk a' = some q → p.blk = some q → False := fun x p hx hpx h1 h2 => by
      rcases hf q h1 with h3 | h3
      · exact dif_ne o.dif hpx hj hx h2 (hold q h3)
      · have := (o.holds _ (List.mem_of_getElem? hpx)).lt h2; omega
    have boxother : ∀ (x : Nat) (p : Pc), x ≠ k → ps[x]? = some p → some b = some q → p.blk = some q → False := fun x p hx hpx h1 h2 => dif_ne o.dif hpx hk hx h2 h1
    rcases key i _ g1 with ⟨e1, f1⟩ | ⟨e1, e1', f1⟩ | ⟨n1, n1', hi1⟩ <;> rcases key i' _ g2 with ⟨e2, f2⟩ | ⟨e2, e2', f2⟩ | ⟨n2, n2', hi2⟩
    · omega
    · rw [f1] at hq; rw [f2] at hq'
      exact rowother k _ hne hk hq hq'
    · rw [f1] at hq
      exact rowother i' _ n2' hi2 hq hq'
    · rw [f1] at hq; rw [f2] at hq'
      exact rowother k _ hne hk hq' hq
    · omega
    · rw [f1] at hq
      exact boxother i' _ n2 hi2 hq hq'
    · rw [f2] at hq'
      exact rowother i _ n1' hi1 hq' hq
    · rw [f2] at hq'
      exact boxother i _ n1 hi1 hq' hq
    · exact dif_ne o.dif hi1 hi2 (by omega) hq hq'
theorem Mem.call2S (k j : Nat) {b : Nat} {l l' : List Value} {e size : Nat} {a a' : Option Addr} {n c n' c' : Nat} {xs xs' : List Value} (hk : ps[k]? = some (.box b l)) (hj : ps[j]? = some (.row e size a n c xs)) (hK : Keep (b :: (Vc.blk a).toList) w w') (hf : ∀ q, Vc.blk a' = some q → q ∈ (Vc.blk a).toList ∨ w.heap.size ≤ q) :
    Step (ms ps m0) w (ms ((ps.set k (.box b l')).set j (.row e size a' n' c' xs')) m0) w' := by
  have mk := List.mem_of_getElem? hk
  have mj := List.mem_of_getElem? hj
  refine ⟨(hK.mono fun q hq => ?_).d, fun q hq => ?_⟩
  · rcases List.mem_cons.1 hq with rfl | hq
    · exact mem_ms.2 (.inl ⟨_, mk, rfl⟩)
    · rw [Option.mem_toList] at hq; exact mem_ms.2 (.inl ⟨_, mj, hq⟩)
  · rcases mem_ms.1 hq with ⟨p, hp, h⟩ | h
    · rcases List.mem_or_eq_of_mem_set hp with hp | rfl
      · rcases List.mem_or_eq_of_mem_set hp with hp | rfl
        · exact .inl (mem_ms.2 (.inl ⟨p, hp, h⟩))
        · exact .inl (mem_ms.2 (.inl ⟨_, mk, h⟩))
      · rcases hf q h with h1 | h1
        · rw [Option.mem_toList] at h1; exact .inl (mem_ms.2 (.inl ⟨_, mj, h1⟩))
        · exact .inr h1
    · exact .inl (mem_ms.2 (.inr h))
theorem Mem.call2D (k j : Nat) {b : Nat} {l l' : List Value} {e size : Nat} {a' : Option Addr} {n' c' : Nat} {xs' : List Value} (hk : ps[k]? = some (.box b l)) :
    Step ((Vc.blk a').toList ++ ms ps m0) w (ms ((ps.set k (.box b l')).set j (.row e size a' n' c' xs')) m0) w := Step.drop w fun q hq => by
  rcases mem_ms.1 hq with ⟨p, hp, h⟩ | h
  · rcases List.mem_or_eq_of_mem_set hp with hp | rfl
    · rcases List.mem_or_eq_of_mem_set hp with hp | rfl
      · exact List.mem_append.2 (.inr (mem_ms.2 (.inl ⟨p, hp, h⟩)))
      · exact List.mem_append.2 (.inr (mem_ms.2 (.inl ⟨_, List.mem_of_getElem? hk, h⟩)))
    · exact List.mem_append.2 (.inl (by rw [Option.mem_toList]; exact h))
  · exact List.mem_append.2 (.inr (mem_ms.2 (.inr h)))
/-- a row that is given away, and comes back as another one -/
theorem Mem.updD (k : Nat) {e size : Nat} {a' : Option Addr} {n' c' : Nat} {xs' : List Value} : Step ((Vc.blk a').toList ++ ms ps m0) w (ms (ps.set k (.row e size a' n' c' xs')) m0) w := Step.drop w fun q hq => by
  rcases mem_ms.1 hq with ⟨p, hp, h⟩ | h
  · rcases List.mem_or_eq_of_mem_set hp with hp | rfl
    · exact List.mem_append.2 (.inr (mem_ms.2 (.inl ⟨p, hp, h⟩)))
    · exact List.mem_append.2 (.inl (by rw [Option.mem_toList]; exact h))
  · exact List.mem_append.2 (.inr (mem_ms.2 (.inr h)))
theorem Mem.adds2 (o : Mem n0 rs m0 fr ds w ps) (hK : Keep [] w w') {b : Nat} {l : List Value} {e size : Nat} {a : Option Addr} {n c : Nat} {xs : List Value} (hb : Box w' b l) (hr : Rw w' 0 e size a n c xs) (hbn : w.heap.size ≤ b) (han : ∀ q, Vc.blk a = some q → w.heap.size ≤ q ∧ q ≠ b) : Mem n0 rs m0 fr ds w' (.box b l :: .row e size a n c xs :: ps) := by
  have o' := o.adds hK (.row e size a n c xs) (fun q hq => (han q hq).1) hr
  refine ⟨o'.le, o'.lt, o'.keep, fun f hf => ⟨(o'.fmine f hf).1, fun p hp q hq => ?_⟩, fun p hp => ?_, fun p hp => ?_, ?_, o'.marks⟩
  · cases hp with
    | head =>
      cases hq
      have h1 := (o.keep f hf).kp.size
      have h2 := (o.fmine f hf).1
      exact .inr (by omega)
    | tail _ hp => exact (o'.fmine f hf).2 p hp q hq
  · cases hp with
    | head => exact hb
    | tail _ hp => exact o'.holds p hp
  · cases hp with
    | head => intro q hq; cases hq; exact .inr (Nat.le_trans o.le hbn)
    | tail _ hp => exact o'.mine p hp
  · refine List.pairwise_cons.2 ⟨fun p hp q hq hpq => ?_, o'.dif⟩
    cases hq
    cases hp with
    | head => exact (han _ hpq).2 rfl
    | tail _ hp => have := (o.holds p hp).lt hpq; omega
theorem Mem.adds2S (hK : Keep [] w w') {b : Nat} {l : List Value} {e size : Nat} {a : Option Addr} {n c : Nat} {xs : List Value} (hbn : w.heap.size ≤ b) (han : ∀ q, Vc.blk a = some q → w.heap.size ≤ q ∧ q ≠ b) : Step (ms ps m0) w (ms (.box b l :: .row e size a n c xs :: ps) m0) w' :=
  ⟨(hK.mono (by simp)).d, fun q hq => by
    rcases mem_ms.1 hq with ⟨p, hp, h⟩ | h
    · cases hp with
      | head => cases h; exact .inr hbn
      | tail _ hp =>
        cases hp with
        | head => exact .inr (han q h).1
        | tail _ hp => exact .inl (mem_ms.2 (.inl ⟨p, hp, h⟩))
    · exact .inl (mem_ms.2 (.inr h))⟩
theorem Mem.adds2D {b : Nat} {l : List Value} {e size : Nat} {a : Option Addr} {n c : Nat} {xs : List Value} : Step (b :: (Vc.blk a).toList ++ ms ps m0) w (ms (.box b l :: .row e size a n c xs :: ps) m0) w := Step.drop w fun q hq => by
  rcases mem_ms.1 hq with ⟨p, hp, h⟩ | h
  · cases hp with
    | head => cases h; simp
    | tail _ hp =>
      cases hp with
      | head =>
        have h' : Vc.blk a = some q := h
        simp [h']
      | tail _ hp => exact List.mem_append.2 (.inr (mem_ms.2 (.inl ⟨p, hp, h⟩)))
  · exact List.mem_append.2 (.inr (mem_ms.2 (.inr h)))
theorem Mem.endOS (k j : Nat) {b : Nat} {l : List Value} {e size : Nat} {a : Option Addr} {n c : Nat} {xs : List Value} (hj : ps[j]? = some (.box b l)) (hk : ps[k]? = some (.row e size a n c xs)) : Step (ms ps m0) w (b :: (Vc.blk a).toList ++ m0) w := Step.drop w fun q hq => by
  rcases List.mem_append.1 hq with h | h
  · rcases List.mem_cons.1 h with rfl | h
    · exact mem_ms.2 (.inl ⟨_, List.mem_of_getElem? hj, rfl⟩)
    · exact mem_ms.2 (.inl ⟨_, List.mem_of_getElem? hk, by rwa [Option.mem_toList] at h⟩)
  · exact mem_ms.2 (.inr h)
theorem Mem.inms (k : Nat) {b : Nat} {l : List Value} (hk : ps[k]? = some (.box b l)) : b ∈ ms ps m0 := mem_ms.2 (.inl ⟨_, List.mem_of_getElem? hk, rfl⟩)
theorem Mem.endS : Step (ms ps m0) w m0 w := Step.drop w fun _ h => mem_ms.2 (.inr h)
/-- a piece is let go -/
theorem Mem.erase (o : Mem n0 rs m0 fr ds w ps) (k : Nat) : Mem n0 rs m0 fr ds w (ps.eraseIdx k) :=
  ⟨o.le, o.lt, o.keep, fun f hf => ⟨(o.fmine f hf).1, fun p hp => (o.fmine f hf).2 p (List.mem_of_mem_eraseIdx hp)⟩, fun p hp => o.holds p (List.mem_of_mem_eraseIdx hp), fun p hp => o.mine p (List.mem_of_mem_eraseIdx hp), o.dif.sublist (List.eraseIdx_sublist ps k), o.marks⟩
theorem Mem.eraseS (k : Nat) : Step (ms ps m0) w (ms (ps.eraseIdx k) m0) w := Step.drop w fun j hk => by
  rcases mem_ms.1 hk with ⟨p, hp, h⟩ | h
  · exact mem_ms.2 (.inl ⟨p, List.mem_of_mem_eraseIdx hp, h⟩)
  · exact mem_ms.2 (.inr h)
theorem Mem.front (o : Mem n0 rs m0 fr ds w ps) (k : Nat) {p : Pc} (hk : ps[k]? = some p) : Mem n0 rs m0 fr ds w (p :: ps.eraseIdx k) := by
  have hp := List.mem_of_getElem? hk
  have hin : ∀ q ∈ p :: ps.eraseIdx k, q ∈ ps := fun q hq => by
    rcases List.mem_cons.1 hq with rfl | h
    · exact hp
    · exact List.mem_of_mem_eraseIdx h
  refine ⟨o.le, o.lt, o.keep, fun f hf => ⟨(o.fmine f hf).1, fun q hq => (o.fmine f hf).2 q (hin q hq)⟩, fun q hq => o.holds q (hin q hq), fun q hq => o.mine q (hin q hq), List.pairwise_cons.2 ⟨fun q hq b h1 h2 => ?_, o.dif.sublist (List.eraseIdx_sublist ps k)⟩, o.marks⟩
  obtain ⟨i, hi⟩ := List.getElem?_of_mem hq
  rw [List.getElem?_eraseIdx] at hi
  split at hi
  · exact dif_ne o.dif hi hk (by omega) h2 h1
  · exact dif_ne o.dif hi hk (by omega) h2 h1
theorem Mem.frontS (k : Nat) {p : Pc} (hk : ps[k]? = some p) : Step (ms ps m0) w (ms (p :: ps.eraseIdx k) m0) w := Step.drop w fun j hj => by
  rcases mem_ms.1 hj with ⟨q, hq, h⟩ | h
  · rcases List.mem_cons.1 hq with rfl | h'
    · exact mem_ms.2 (.inl ⟨q, List.mem_of_getElem? hk, h⟩)
    · exact mem_ms.2 (.inl ⟨q, List.mem_of_mem_eraseIdx h', h⟩)
  · exact mem_ms.2 (.inr h)
theorem Mem.unmark (o : Mem n0 rs m0 fr ds w ps) : Mem n0 rs m0 fr [] w ps := ⟨o.le, o.lt, o.keep, o.fmine, o.holds, o.mine, o.dif, marks_nil _ _⟩
theorem Mem.remark {es : List Nat} (o : Mem n0 rs m0 fr ds w ps) (h : MarksOk es w) (hg : ∀ D ∈ es, n0 ≤ D) : Mem n0 rs m0 fr es w ps := ⟨o.le, o.lt, o.keep, o.fmine, o.holds, o.mine, o.dif, h, hg⟩
theorem Mem.offms (o : Mem n0 rs m0 fr ds w ps) (k : Nat) {p : Pc} {b : Nat} (hk : ps[k]? = some p) (hp : p.blk = some b) (hr : b ∉ rs) : b ∉ ms (ps.eraseIdx k) m0 := by
  intro hm
  have hmem := List.mem_of_getElem? hk
  rcases mem_ms.1 hm with ⟨q, hq, h⟩ | h
  · obtain ⟨i, hi⟩ := List.getElem?_of_mem hq
    rw [List.getElem?_eraseIdx] at hi
    split at hi
    · exact dif_ne o.dif hi hk (by omega) h hp
    · exact dif_ne o.dif hi hk (by omega) h hp
  · rcases o.mine _ hmem b hp with h2 | h2
    · exact hr h2
    · have := o.lt _ h; omega
/-- a row that is let go is a slice that is read -/
theorem Mem.freeze (o : Mem n0 rs m0 fr ds w ps) (k : Nat) {e : Nat} {α : Type} {c : Cod α} {a : Option Addr} {n cap : Nat} {xs : List Value} {l : List α} (hk : ps[k]? = some (.row e c.size a n cap xs)) (hr : ∀ b ∈ rs, b ∉ Vc.blk a)
    (he : El c (ms (ps.eraseIdx k) m0) w l xs) : SlR c (ms (ps.eraseIdx k) m0) w a l := by
  have hrow := o.rowAt k hk
  have hsl := hrow.sl
  by_cases hl : l = []
  · exact .inl hl
  · right
    have hx : xs ≠ [] := by
      intro h
      have := he.len
      rw [h] at this
      have hp := c.pos
      have h2 := List.length_pos_iff.2 hl
      have h3 := Nat.mul_pos h2 hp
      simp only [List.length_nil] at this
      omega
    obtain ⟨p, rfl, hc⟩ := hsl.some_of hx
    exact ⟨p, xs, rfl, o.offms k hk rfl (fun h => hr _ h (by simp [Vc.blk])), hc, he⟩
theorem Mem.freezeW (o : Mem n0 rs m0 fr ds w ps) (k : Nat) {α : Type} {c : Cod α} {a : Option Addr} {xs rest : List Value} {T : Nat} {fz : Nat × Nat} {l : List α} (hk : ps[k]? = some (.win a xs rest T fz)) (hr : ∀ b ∈ rs, b ∉ Vc.blk a)
    (he : El c (ms (ps.eraseIdx k) m0) w l xs) : SlR c (ms (ps.eraseIdx k) m0) w a l := by
  have hrow : Wn w a xs rest T fz := o.holds _ (List.mem_of_getElem? hk)
  by_cases hl : l = []
  · exact .inl hl
  · right
    have hx : xs ≠ [] := by
      intro h
      have := he.len
      rw [h] at this
      have hp := c.pos
      have h2 := List.length_pos_iff.2 hl
      have h3 := Nat.mul_pos h2 hp
      simp only [List.length_nil] at this
      omega
    rcases hrow with ⟨_, h⟩ | ⟨g, rfl, hg, hf⟩
    · exact absurd h hx
    · refine ⟨_, xs, rfl, o.offms k hk rfl (fun h => hr _ h (by simp [Vc.blk])), ?_, he⟩
      intro i hi
      rw [add_mk, Nat.zero_add]
      simp [World.cell?, hg, List.getElem?_append_left, hi]
/-- a box that is let go is read -/
theorem Mem.freezeBox (o : Mem n0 rs m0 fr ds w ps) (k : Nat) {b : Nat} {l : List Value} (hk : ps[k]? = some (.box b l)) (hr : b ∉ rs) : ElAt (ms (ps.eraseIdx k) m0) w ⟨b, 0, none⟩ l :=
  ⟨⟨o.offms k hk rfl hr, (o.holds _ (List.mem_of_getElem? hk)).cells rfl⟩, (o.at k hk).whole⟩
theorem Mem.recv {b : Nat} {l : List Value} (hm : ∀ b ∈ m0, b < w.heap.size) (_ : b ∈ m0) (hb : Box w b l) : Mem w.heap.size [b] m0 [([b], w.heap.size, w)] [] w [.box b l] :=
  ⟨Nat.le_refl _, hm, fun f hf => by simp at hf; subst hf; exact KeepR.refl _ _ _, fun f hf => by simp at hf; subst hf; exact ⟨Nat.le_refl _, fun p hp c hc => by simp at hp; subst hp; cases hc; exact .inl (by simp)⟩,
    fun p hp => by simp at hp; subst hp; exact hb, fun p hp c hc => by simp at hp; subst hp; cases hc; exact .inl (by simp), List.pairwise_singleton _ _, marks_nil _ _⟩
theorem Mem.recvS {b : Nat} {l : List Value} (hi : b ∈ m0) (_ : Box w b l) : Step m0 w (ms [.box b l] m0) w := Step.drop w fun k hk => by
  rcases mem_ms.1 hk with ⟨p, hp, h⟩ | h
  · simp at hp; subst hp; cases h; exact hi
  · exact h
/-- some pieces change, each in its block -/
theorem Mem.repl (o : Mem n0 rs m0 fr ds w ps) {qs : List Pc} {l : List Nat} (hK : Keep l w w') (hl : ∀ b ∈ l, ∃ p ∈ ps, p.blk = some b) (hq : qs.map Pc.blk = ps.map Pc.blk) (hh : ∀ q ∈ qs, q.holds w') : Mem n0 rs m0 fr ds w' qs := by
  have hcell : ∀ b ∈ l, ∃ o, w.heap[b]? = some o ∧ plainO o = true := fun b hb => by
    obtain ⟨p, hp, e⟩ := hl b hb
    exact (o.holds p hp).cells e
  have hmem : ∀ q ∈ qs, ∃ p ∈ ps, p.blk = q.blk := fun q hqq => by
    have : q.blk ∈ qs.map Pc.blk := List.mem_map.2 ⟨q, hqq, rfl⟩
    rw [hq] at this
    obtain ⟨p, hp, e⟩ := List.mem_map.1 this
    exact ⟨p, hp, e⟩
  refine ⟨Nat.le_trans o.le hK.size, o.lt, fun f hf => keepR_step (o.keep f hf) (o.fmine f hf).1 hK (fun b hb => ?_), fun f hf => ⟨(o.fmine f hf).1, fun q hqq b hb => ?_⟩, hh, fun q hqq b hb => ?_, ?_, marks_keep o.marks.1 hK hcell, o.marks.2⟩
  · obtain ⟨p, hp, e⟩ := hl b hb
    exact ⟨(o.fmine f hf).2 p hp b e, hcell b hb⟩
  · obtain ⟨p, hp, e⟩ := hmem q hqq
    exact (o.fmine f hf).2 p hp b (e.trans hb)
  · obtain ⟨p, hp, e⟩ := hmem q hqq
    exact o.mine p hp b (e.trans hb)
  · have h1 : (ps.map Pc.blk).Pairwise fun x y => ∀ b, x = some b → y ≠ some b := List.pairwise_map.2 o.dif
    rw [← hq] at h1
    exact List.pairwise_map.1 h1
theorem Mem.replS {qs : List Pc} {l : List Nat} (hK : Keep l w w') (hl : ∀ b ∈ l, ∃ p ∈ ps, p.blk = some b) (hq : qs.map Pc.blk = ps.map Pc.blk) : Step (ms ps m0) w (ms qs m0) w' := by
  refine ⟨(hK.mono fun j hj => ?_).d, fun j hj => .inl ?_⟩
  · obtain ⟨p, hp, e⟩ := hl j hj
    exact mem_ms.2 (.inl ⟨p, hp, e⟩)
  · rcases mem_ms.1 hj with ⟨q, hqq, h⟩ | h
    · have : q.blk ∈ qs.map Pc.blk := List.mem_map.2 ⟨q, hqq, rfl⟩
      rw [hq] at this
      obtain ⟨p, hp, e⟩ := List.mem_map.1 this
      exact mem_ms.2 (.inl ⟨p, hp, e.trans h⟩)
    · exact mem_ms.2 (.inr h)
/-- an object that is lost (its row is frozen): no piece is left -/
theorem Mem.lost (o : Mem n0 rs m0 fr ds w ps) (k j : Nat) {b : Nat} {l : List Value} {e size : Nat} {a : Option Addr} {n c : Nat} {xs : List Value} (hk : ps[k]? = some (.box b l)) (hj : ps[j]? = some (.row e size a n c xs)) (hK : Keep (b :: (Vc.blk a).toList) w w') : Mem n0 rs m0 fr ds w' [] := by
  have hl : ∀ q ∈ b :: (Vc.blk a).toList, ∃ p ∈ ps, p.blk = some q := fun q hq => by
    rcases List.mem_cons.1 hq with rfl | hq
    · exact ⟨_, List.mem_of_getElem? hk, rfl⟩
    · rw [Option.mem_toList] at hq; exact ⟨_, List.mem_of_getElem? hj, hq⟩
  have hcell : ∀ b' ∈ b :: (Vc.blk a).toList, ∃ o, w.heap[b']? = some o ∧ plainO o = true := fun b' hb => by
    obtain ⟨p, hp, e⟩ := hl b' hb
    exact (o.holds p hp).cells e
  refine ⟨Nat.le_trans o.le hK.size, o.lt, fun f hf => keepR_step (o.keep f hf) (o.fmine f hf).1 hK (fun b hb => ?_), fun f hf => ⟨(o.fmine f hf).1, fun q hqq => (by cases hqq)⟩, fun q hqq => (by cases hqq), fun q hqq => (by cases hqq), List.Pairwise.nil, marks_keep o.marks.1 hK hcell, o.marks.2⟩
  obtain ⟨p, hp, e⟩ := hl b hb
  exact ⟨(o.fmine f hf).2 p hp b e, hcell b hb⟩
theorem Mem.lostS (k j : Nat) {b : Nat} {l : List Value} {e size : Nat} {a : Option Addr} {n c : Nat} {xs : List Value} (hk : ps[k]? = some (.box b l)) (hj : ps[j]? = some (.row e size a n c xs)) (hK : Keep (b :: (Vc.blk a).toList) w w') : Step (ms ps m0) w (ms [] m0) w' := by
  refine ⟨(hK.mono fun q hq => ?_).d, fun q hq => .inl ?_⟩
  · rcases List.mem_cons.1 hq with rfl | hq
    · exact mem_ms.2 (.inl ⟨_, List.mem_of_getElem? hk, rfl⟩)
    · rw [Option.mem_toList] at hq; exact mem_ms.2 (.inl ⟨_, List.mem_of_getElem? hj, hq⟩)
  · rcases mem_ms.1 hq with ⟨p, hp, _⟩ | h
    · cases hp
    · exact mem_ms.2 (.inr h)
/-- a piece whose block does not change -/
theorem Mem.still (o : Mem n0 rs m0 fr ds w ps) (i : Nat) {p : Pc} (hi : ps[i]? = some p) {l : List Nat} (hK : Keep l w w') (hl : ∀ b ∈ l, ∃ j q, i ≠ j ∧ ps[j]? = some q ∧ q.blk = some b) : p.holds w' := by
  have hp := List.mem_of_getElem? hi
  refine (o.holds p hp).kept fun b hb => hK.block b ((o.holds p hp).lt hb) fun hm => ?_
  obtain ⟨j, q, hne, hj, e⟩ := hl b hm
  exact dif_ne o.dif hi hj hne hb e
/-- boxes of the caller's -/
theorem Mem.recvs {bs : List (Nat × List Value)} (hm : ∀ b ∈ m0, b < w.heap.size) (hb : ∀ p ∈ bs, Box w p.1 p.2) (hd : (bs.map (·.1)).Pairwise (· ≠ ·)) : Mem w.heap.size (bs.map (·.1)) m0 [(bs.map (·.1), w.heap.size, w)] [] w (bs.map fun p => .box p.1 p.2) := by
  have mine : ∀ p ∈ bs.map (fun p => Pc.box p.1 p.2), ∀ b, p.blk = some b → b ∈ bs.map (·.1) ∨ w.heap.size ≤ b := fun p hp b hb => by
    obtain ⟨q, hq, rfl⟩ := List.mem_map.1 hp
    cases hb
    exact .inl (List.mem_map.2 ⟨q, hq, rfl⟩)
  refine ⟨Nat.le_refl _, hm, fun f hf => by simp at hf; subst hf; exact KeepR.refl _ _ _, fun f hf => by simp at hf; subst hf; exact ⟨Nat.le_refl _, mine⟩, fun p hp => ?_, mine, ?_, marks_nil _ _⟩
  · obtain ⟨q, hq, rfl⟩ := List.mem_map.1 hp
    exact hb q hq
  · rw [List.pairwise_map] at hd ⊢
    refine hd.imp fun {a b} hab c hc hc' => ?_
    cases hc
    exact hab (Option.some.inj hc').symm
theorem Mem.recvsS {bs : List (Nat × List Value)} (hi : ∀ p ∈ bs, p.1 ∈ m0) : Step m0 w (ms (bs.map fun p => .box p.1 p.2) m0) w := Step.drop w fun k hk => by
  rcases mem_ms.1 hk with ⟨p, hp, h⟩ | h
  · obtain ⟨q, hq, rfl⟩ := List.mem_map.1 hp
    cases h
    exact hi q hq
  · exact h
theorem Mem.winStart {a : Option Addr} {xs rest : List Value} {T : Nat} {fz : Nat × Nat} (hm : ∀ b ∈ m0, b < w.heap.size) (hb : Wn w a xs rest T fz) : Mem w.heap.size (Vc.blk a).toList m0 [((Vc.blk a).toList, w.heap.size, w)] [] w [.win a xs rest T fz] :=
  ⟨Nat.le_refl _, hm, fun f hf => by simp at hf; subst hf; exact KeepR.refl _ _ _, fun f hf => by simp at hf; subst hf; exact ⟨Nat.le_refl _, fun p hp c hc => by simp at hp; subst hp; exact .inl (by simpa [Pc.blk] using hc)⟩,
    fun p hp => by simp at hp; subst hp; exact hb, fun p hp c hc => by simp at hp; subst hp; exact .inl (by simpa [Pc.blk] using hc), List.pairwise_singleton _ _, marks_nil _ _⟩
theorem Mem.winS {a : Option Addr} {xs rest : List Value} {T : Nat} {fz : Nat × Nat} (hi : ∀ b, Vc.blk a = some b → b ∈ m0) : Step m0 w (ms [.win a xs rest T fz] m0) w := Step.drop w fun k hk => by
  rcases mem_ms.1 hk with ⟨p, hp, h⟩ | h
  · simp at hp; subst hp; exact hi k h
  · exact h
theorem Mem.given {e size n c : Nat} {a : Option Addr} {xs : List Value} (hm : ∀ b ∈ m0, b < w.heap.size) (hb : Rw w 0 e size a n c xs) : Mem w.heap.size (Vc.blk a).toList m0 [((Vc.blk a).toList, w.heap.size, w)] [] w [.row e size a n c xs] :=
  ⟨Nat.le_refl _, hm, fun f hf => by simp at hf; subst hf; exact KeepR.refl _ _ _, fun f hf => by simp at hf; subst hf; exact ⟨Nat.le_refl _, fun p hp c hc => by simp at hp; subst hp; exact .inl (by simpa [Pc.blk] using hc)⟩,
    fun p hp => by simp at hp; subst hp; exact hb, fun p hp c hc => by simp at hp; subst hp; exact .inl (by simpa [Pc.blk] using hc), List.pairwise_singleton _ _, marks_nil _ _⟩
theorem Mem.givenS {e size n c : Nat} {a : Option Addr} {xs : List Value} (hi : ∀ b, Vc.blk a = some b → b ∈ m0) : Step m0 w (ms [.row e size a n c xs] m0) w := Step.drop w fun k hk => by
  rcases mem_ms.1 hk with ⟨p, hp, h⟩ | h
  · simp at hp; subst hp; exact hi k h
  · exact h
theorem Mem.winAt (o : Mem n0 rs m0 fr ds w ps) (k : Nat) {a : Option Addr} {xs rest : List Value} {T : Nat} {fz : Nat × Nat} (hk : ps[k]? = some (.win a xs rest T fz)) : Wn w a xs rest T fz := o.holds _ (List.mem_of_getElem? hk)
theorem Mem.wset (o : Mem n0 rs m0 fr ds w ps) (k : Nat) {a : Option Addr} {xs xs' rest : List Value} {T : Nat} {fz : Nat × Nat} (hk : ps[k]? = some (.win a xs rest T fz)) (hr : Wn w' a xs' rest T fz) (hg : w.grownBy w' (Vc.blk a)) : Mem n0 rs m0 fr ds w' (ps.set k (.win a xs' rest T fz)) :=
  o.upd k hk (Keep.grown hg) hr fun _ hb => .inl hb
theorem Mem.wsetS (k : Nat) {a : Option Addr} {xs xs' rest : List Value} {T : Nat} {fz : Nat × Nat} (hk : ps[k]? = some (.win a xs rest T fz)) (hg : w.grownBy w' (Vc.blk a)) : Step (ms ps m0) w (ms (ps.set k (.win a xs' rest T fz)) m0) w' :=
  Mem.updS (p' := .win a xs' rest T fz) k hk (Keep.grown hg) fun _ hb => .inl hb
theorem Mem.inrow (k : Nat) {e size n c : Nat} {a : Option Addr} {xs : List Value} (hk : ps[k]? = some (.row e size a n c xs)) : ∀ b, Vc.blk a = some b → b ∈ ms ps m0 := fun _ hb => mem_ms.2 (.inl ⟨_, List.mem_of_getElem? hk, hb⟩)
theorem _root_.Go.Vc.Keep.toGrown {a : Option Addr} (h : Keep (Vc.blk a).toList w w') : w.grownBy w' (Vc.blk a) := ⟨h.os, h.tape, h.output, h.size, fun j hj hm => h.block j hj (by simpa [eq_comm] using hm)⟩
theorem Mem.inwin (k : Nat) {a : Option Addr} {xs rest : List Value} {T : Nat} {fz : Nat × Nat} (hk : ps[k]? = some (.win a xs rest T fz)) : ∀ b, Vc.blk a = some b → b ∈ ms ps m0 := fun _ hb => mem_ms.2 (.inl ⟨_, List.mem_of_getElem? hk, hb⟩)
theorem Mem.neq (o : Mem n0 rs m0 fr ds w ps) (i j : Nat) {b c : Nat} {l l' : List Value} (hi : ps[i]? = some (.box b l)) (hj : ps[j]? = some (.box c l')) (hij : i ≠ j) (h : b = c) : False :=
  dif_ne o.dif hi hj hij (b := b) rfl (by rw [h]; rfl)
theorem Mem.offrow {b : Nat} (o : Mem n0 rs m0 fr ds w ps) (k : Nat) {e size n cap : Nat} {a : Option Addr} {xs : List Value} (hk : ps[k]? = some (.row e size a n cap xs)) (j : Nat) {l : List Value} (hj : ps[j]? = some (.box b l)) (hkj : k ≠ j) : ∀ c ∈ [b], c ∉ Vc.blk a := by
  intro c hc ha
  rw [List.mem_singleton.1 hc] at ha
  exact dif_ne o.dif hk hj hkj (b := b) ha rfl
theorem Mem.app (o : Mem n0 rs m0 fr ds w ps) (k : Nat) {e size n c n' c' : Nat} {a a' : Option Addr} {xs xs' : List Value} (hk : ps[k]? = some (.row e size a n c xs)) (hr : Rw w' 0 e size a' n' c' xs') (hg : w.grownBy w' (Vc.blk a)) (hat : Vc.blk a' = Vc.blk a ∨ Vc.blk a' = some w.heap.size) : Mem n0 rs m0 fr ds w' (ps.set k (.row e size a' n' c' xs')) :=
  o.upd k hk (Keep.grown hg) hr fun b hb => by
    rcases hat with h | h
    · exact .inl (h.symm.trans hb)
    · exact .inr (by have : some b = some w.heap.size := hb.symm.trans h; cases this; exact Nat.le_refl _)
theorem Mem.appS (k : Nat) {e size n c n' c' : Nat} {a a' : Option Addr} {xs xs' : List Value} (hk : ps[k]? = some (.row e size a n c xs)) (_ : Rw w' 0 e size a' n' c' xs') (hg : w.grownBy w' (Vc.blk a)) (hat : Vc.blk a' = Vc.blk a ∨ Vc.blk a' = some w.heap.size) : Step (ms ps m0) w (ms (ps.set k (.row e size a' n' c' xs')) m0) w' :=
  Mem.updS (p' := .row e size a' n' c' xs') k hk (Keep.grown hg) fun b hb => by
    rcases hat with h | h
    · exact .inl (h.symm.trans hb)
    · exact .inr (by have : some b = some w.heap.size := hb.symm.trans h; cases this; exact Nat.le_refl _)
/-! loops over functions -/
theorem keep_app {R : List Nat} {w0 w1 w2 : World} {a : Option Addr} (t : Keep R w0 w1) (hg : w1.grownBy w2 (Vc.blk a)) (hf : ∀ q, Vc.blk a = some q → q ∈ R ∨ w0.heap.size ≤ q) : Keep R w0 w2 :=
  ⟨hg.os.trans t.os, hg.tape.trans t.tape, hg.output.trans t.output, Nat.le_trans t.size hg.size, fun j hj hm => (hg.block j (Nat.lt_of_lt_of_le hj t.size) fun e => by
    rcases hf j e.symm with h | h
    · exact hm h
    · omega).trans (t.block j hj hm)⟩
theorem keep_fresh {R : List Nat} {w0 w1 w2 : World} {b : Nat} (t : Keep R w0 w1) (k : Keep (some b).toList w1 w2) (hf : ∀ q, Vc.blk (some ⟨b, 0, none⟩) = some q → q ∈ R ∨ w0.heap.size ≤ q) : Keep R w0 w2 :=
  keep_app (a := some ⟨b, 0, none⟩) t (Keep.toGrown (a := some ⟨b, 0, none⟩) k) hf
theorem cells_kept0 {w u : World} {q : Addr} {cs : List Value} (h : CellsAt w q cs) (hu : Keep [] w u) : CellsAt u q cs := CellsAt.kept h fun hne => hu.block _ (CellsAt.lt h hne) (by simp)
theorem eq_held {P : World → Prop} {w : World} (h : P w) : ∀ u, u = w → P u := fun _ hu => hu ▸ h
theorem fresh_lit {R : List Nat} {w0 w1 : World} {b : Nat} (hb : b = w1.heap.size) (t : Keep R w0 w1) : ∀ q, Vc.blk (some ⟨b, 0, none⟩) = some q → q ∈ R ∨ w0.heap.size ≤ q := fun q hq => by
  cases hq
  exact .inr (by rw [hb]; exact t.size)
theorem fresh_app {R : List Nat} {w0 w1 : World} {a a' : Option Addr} (hf : ∀ q, Vc.blk a = some q → q ∈ R ∨ w0.heap.size ≤ q) (hat : Vc.blk a' = Vc.blk a ∨ Vc.blk a' = some w1.heap.size) (t : Keep R w0 w1) : ∀ q, Vc.blk a' = some q → q ∈ R ∨ w0.heap.size ≤ q := fun q hq => by
  rcases hat with h | h
  · exact hf q (h.symm.trans hq)
  · rw [h] at hq
    cases hq
    exact .inr t.size
theorem Mem.boxrow (o : Mem n0 rs m0 fr ds w ps) (i k : Nat) {b : Nat} {l : List Value} {e size n c : Nat} {a : Option Addr} {xs : List Value} (hi : ps[i]? = some (.box b l)) (hk : ps[k]? = some (.row e size a n c xs)) (hne : i ≠ k) (h : b ∈ (Vc.blk a).toList) : False :=
  dif_ne o.dif hi hk hne rfl (by rwa [Option.mem_toList] at h)
theorem Mem.xE (_ : Mem n0 rs m0 fr ds w ps) (e : Keep [] w w') : Step (ms ps m0) w (ms ps m0) w' := Mem.extS e
theorem Mem.xB (_ : Mem n0 rs m0 fr ds w ps) {b : Nat} {cs : Array Value} {T : TypeId} (hb : b = w.heap.size) (e : w' = w.alloc (.cells cs T)) : Step (ms ps m0) w (ms (.box b cs.toList :: ps) m0) w' := Mem.boxS hb e
theorem Mem.xL (_ : Mem n0 rs m0 fr ds w ps) {b : Nat} {cs : Array Value} {T : TypeId} (hb : b = w.heap.size) (e : w' = w.alloc (.cells cs T)) (size n : Nat) : Step (ms ps m0) w (ms (.row T size (some ⟨b, 0, none⟩) n n cs.toList :: ps) m0) w' := Mem.litS hb e size n
theorem Mem.xN (_ : Mem n0 rs m0 fr ds w ps) (e size : Nat) : Step (ms ps m0) w (ms (.row e size none 0 0 [] :: ps) m0) w := Mem.nilS e size
theorem Mem.xS (_ : Mem n0 rs m0 fr ds w ps) (k : Nat) {b i : Nat} {l : List Value} {v : Value} (e : w' = w.setCell ⟨b, i, none⟩ v) (hk : ps[k]? = some (.box b l)) : Step (ms ps m0) w (ms (ps.set k (.box b (l.set i v))) m0) w' := Mem.setS k e hk
theorem Mem.xSs (_ : Mem n0 rs m0 fr ds w ps) (k : Nat) {b i : Nat} {l vs : List Value} (e : w' = setCells w ⟨b, i, none⟩ vs) (hk : ps[k]? = some (.box b l)) : Step (ms ps m0) w (ms (ps.set k (.box b (over l i vs))) m0) w' := Mem.setsS k e hk
theorem Mem.xX (_ : Mem n0 rs m0 fr ds w ps) (k : Nat) : Step (ms ps m0) w (ms (ps.eraseIdx k) m0) w := Mem.eraseS k
theorem Mem.xF (_ : Mem n0 rs m0 fr ds w ps) (k : Nat) {p : Pc} (hk : ps[k]? = some p) : Step (ms ps m0) w (ms (p :: ps.eraseIdx k) m0) w := Mem.frontS k hk
theorem Mem.xA (_ : Mem n0 rs m0 fr ds w ps) (k : Nat) {e size n c n' c' : Nat} {a a' : Option Addr} {xs xs' : List Value} (hk : ps[k]? = some (.row e size a n c xs)) (hr : Rw w' 0 e size a' n' c' xs') (hg : w.grownBy w' (Vc.blk a)) (hat : Vc.blk a' = Vc.blk a ∨ Vc.blk a' = some w.heap.size) : Step (ms ps m0) w (ms (ps.set k (.row e size a' n' c' xs')) m0) w' := Mem.appS k hk hr hg hat
theorem Mem.xC (_ : Mem n0 rs m0 fr ds w ps) (k : Nat) {b : Nat} {l l' : List Value} (hK : Keep [b] w w') (hk : ps[k]? = some (.box b l)) : Step (ms ps m0) w (ms (ps.set k (.box b l')) m0) w' := Mem.callS k hK hk
theorem Mem.dC (o : Mem n0 rs m0 fr ds w ps) (k : Nat) {b : Nat} {l l' : List Value} (hK : Keep [b] w w') (hb : Box w' b l') (hk : ps[k]? = some (.box b l)) : Step (ms ps m0) w (ms (ps.set k (.box b l')) m0) w' ∧ Mem n0 rs m0 fr ds w' (ps.set k (.box b l')) := ⟨o.xC k hK hk, o.call k hK hb hk⟩
theorem Mem.y2 (o : Mem n0 rs m0 fr ds w ps) (k j : Nat) {b : Nat} {l l' : List Value} {e size : Nat} {a a' : Option Addr} {n c n' c' : Nat} {xs xs' : List Value} (hk : ps[k]? = some (.box b l)) (hj : ps[j]? = some (.row e size a n c xs)) (hne : k ≠ j) (hK : Keep (b :: (Vc.blk a).toList) w w') (hb : Box w' b l') (hr : Rw w' 0 e size a' n' c' xs') (hf : ∀ q, Vc.blk a' = some q → q ∈ (Vc.blk a).toList ∨ w.heap.size ≤ q)
    {α : Type} {cd : Cod α} {L : List α} (hel : El cd ((Vc.blk a').toList ++ ms ps m0) w' L xs') :
    Step (ms ps m0) w (ms ((ps.set k (.box b l')).set j (.row e size a' n' c' xs')) m0) w' ∧ El cd (ms ((ps.set k (.box b l')).set j (.row e size a' n' c' xs')) m0) w' L xs' ∧ Mem n0 rs m0 fr ds w' ((ps.set k (.box b l')).set j (.row e size a' n' c' xs')) :=
  ⟨Mem.call2S k j hk hj hK hf, hel.st (Mem.call2D k j hk), o.call2 k j hk hj hne hK hb hr hf⟩
theorem Mem.eRS (_ : Mem n0 rs m0 fr ds w ps) (k : Nat) {e size : Nat} {a : Option Addr} {n c : Nat} {xs : List Value} (hk : ps[k]? = some (.row e size a n c xs)) : Step (ms ps m0) w ((Vc.blk a).toList ++ m0) w := Mem.endRS k hk
theorem Mem.dE (o : Mem n0 rs m0 fr ds w ps) (e : Keep [] w w') : Step (ms ps m0) w (ms ps m0) w' ∧ Mem n0 rs m0 fr ds w' ps := ⟨o.xE e, o.ext e⟩
theorem Mem.dD (o : Mem n0 rs m0 fr ds w ps) (e : w' = w.drew) : Step (ms ps m0) w (ms ps m0) w' ∧ Mem n0 rs m0 fr ds w' ps := o.dE (keep_drew e)
theorem Mem.dB (o : Mem n0 rs m0 fr ds w ps) {b : Nat} {cs : Array Value} {T : TypeId} (hb : b = w.heap.size) (e : w' = w.alloc (.cells cs T)) (hgho : Gho cs.toList T := by first | exact trivial | exact fun h k => by first | rfl | (simp at h; done) | (simp [isPtr] at k; done)) : Step (ms ps m0) w (ms (.box b cs.toList :: ps) m0) w' ∧ Mem n0 rs m0 fr ds w' (.box b cs.toList :: ps) := ⟨o.xB hb e, o.box hb e hgho⟩
theorem Mem.dS (o : Mem n0 rs m0 fr ds w ps) (k : Nat) {b i : Nat} {l : List Value} {v : Value} (e : w' = w.setCell ⟨b, i, none⟩ v) (hk : ps[k]? = some (.box b l)) (hgv : Gv v := by first | exact trivial | exact rfl) : Step (ms ps m0) w (ms (ps.set k (.box b (l.set i v))) m0) w' ∧ Mem n0 rs m0 fr ds w' (ps.set k (.box b (l.set i v))) := ⟨o.xS k e hk, o.set k e hk hgv⟩
theorem Mem.dSs (o : Mem n0 rs m0 fr ds w ps) (k : Nat) {b i : Nat} {l vs : List Value} (e : w' = setCells w ⟨b, i, none⟩ vs) (hk : ps[k]? = some (.box b l)) (hgvs : Gvs vs := by first | exact trivial | exact rfl) : Step (ms ps m0) w (ms (ps.set k (.box b (over l i vs))) m0) w' ∧ Mem n0 rs m0 fr ds w' (ps.set k (.box b (over l i vs))) := ⟨o.xSs k e hk, o.sets k e hk hgvs⟩
theorem Mem.dX (o : Mem n0 rs m0 fr ds w ps) (k : Nat) : Step (ms ps m0) w (ms (ps.eraseIdx k) m0) w ∧ Mem n0 rs m0 fr ds w (ps.eraseIdx k) := ⟨o.xX k, o.erase k⟩
theorem keepR_grow {M : List Nat} {B B' : Nat} {W : World} (h : KeepR M B W w) (hG : Grown B' w w') (hB : B ≤ W.heap.size) (hB' : W.heap.size ≤ B') : KeepR M B W w' := by
  have key : ∀ k, k < W.heap.size → w'.heap[k]? = w.heap[k]? := fun k hk => by
    have hlt : k < w.heap.size := Nat.lt_of_lt_of_le hk h.kp.size
    have := hG.block k _ (Array.getElem?_eq_getElem hlt) (.inl (by omega))
    rw [this, Array.getElem?_eq_getElem hlt]
  refine ⟨⟨hG.os.trans h.kp.os, hG.tape.trans h.kp.tape, hG.output.trans h.kp.output, Nat.le_trans h.kp.size hG.size, fun k hk hm => (key k (by omega)).trans (h.kp.block k hk hm)⟩, fun k o hk ho hc => ?_⟩
  rw [key k (Array.getElem?_eq_some_iff.1 ho).1]
  exact h.rest k o hk ho hc
theorem Mem.grow {B : Nat} (o : Mem n0 rs m0 fr ds w ps) (hG : Grown B w w') (hB : ∀ f ∈ fr, f.2.2.heap.size ≤ B) (hd : ∀ D ∈ ds, D < B) : Mem n0 rs m0 fr ds w' ps :=
  ⟨Nat.le_trans o.le hG.size, o.lt, fun f hf => keepR_grow (o.keep f hf) hG (o.fmine f hf).1 (hB f hf), o.fmine, fun p hp => (o.holds p hp).kept fun b hb => by
      obtain ⟨ob, h1, h2⟩ := (o.holds p hp).cells hb
      rw [hG.block b ob h1 (.inr h2), h1], o.mine, o.dif, ⟨o.marks.1.1, fun D hD => hG.block D _ (o.marks.1.2 D hD) (.inl (hd D hD))⟩, o.marks.2⟩
/-- a round begins: it promises, too -/
theorem Mem.round (o : Mem n0 rs m0 fr ds w ps) {M : List Nat} {B : Nat} (hB : B ≤ w.heap.size) (hM : ∀ k ∈ ms ps m0, k ∈ M ∨ B ≤ k) : Mem n0 rs m0 ((M, B, w) :: fr) ds w ps :=
  ⟨o.le, o.lt, fun f hf => by cases hf with | head => exact KeepR.refl _ _ _ | tail _ hf => exact o.keep f hf,
    fun f hf => by cases hf with | head => exact ⟨hB, fun p hp b hb => hM b (mem_ms.2 (.inl ⟨p, hp, hb⟩))⟩ | tail _ hf => exact o.fmine f hf, o.holds, o.mine, o.dif, o.marks⟩
theorem Mem.roundEnd {M : List Nat} {B : Nat} {W : World} (o : Mem n0 rs m0 ((M, B, W) :: fr) ds w ps) : KeepR M B W w ∧ Mem n0 rs m0 fr ds w ps :=
  ⟨o.keep _ List.mem_cons_self, o.le, o.lt, fun f hf => o.keep f (List.mem_cons_of_mem _ hf), fun f hf => o.fmine f (List.mem_cons_of_mem _ hf), o.holds, o.mine, o.dif, o.marks⟩
theorem _root_.Go.Vc.KpM.all {M : List Nat} {W W' : World} (h : KpM M W.heap.size W W') : Keep M W W' := ⟨h.os, h.tape, h.output, h.size, h.block⟩
theorem Mem.mark (o : Mem n0 rs m0 fr ds w ps) {D B : Nat} (hD : w.heap[D]? = some (.deferred (some []))) (hB : B ≤ D) (hn : n0 ≤ B) (hd : ∀ E ∈ ds, E < B) : Mem n0 rs m0 fr (D :: ds) w ps :=
  ⟨o.le, o.lt, o.keep, o.fmine, o.holds, o.mine, o.dif, ⟨List.nodup_cons.2 ⟨fun h => by have := hd D h; omega, o.marks.1.1⟩, fun E hE => by cases hE with | head => exact hD | tail _ hE => exact o.marks.1.2 E hE⟩, fun E hE => by cases hE with | head => omega | tail _ hE => exact o.marks.2 E hE⟩
theorem shut_grown (n : Nat) : ∀ (ds : List Nat) (w : World), MarksOk ds w → (∀ D ∈ ds, n ≤ D) → Grown n w (shut ds w)
  | [], w, _, _ => Grown.refl _ _
  | D :: ds, w, h, hn => by
    have h1 : Grown n w (w.putObj D (.deferred none)) := by
      refine ⟨rfl, rfl, rfl, by simp [World.putObj], fun k ob hk hc => ?_⟩
      rw [World.putObj_heap_other (fun e => ?_)]
      · exact hk
      · subst e
        have h2 := h.2 k (by simp)
        rw [hk] at h2
        cases h2
        rcases hc with hc | hc
        · have := hn k (by simp); omega
        · cases hc
    exact h1.trans (shut_grown n ds _ (marks_put h _) fun E hE => hn E (by simp [hE]))
theorem Mem.shutK {w0 : World} (o : Mem w0.heap.size rs m0 [(rs, w0.heap.size, w0)] ds w ps) : Keep rs w0 (shut ds w) := by
  have hG := shut_grown w0.heap.size ds w o.marks.1 o.marks.2
  have h := keepR_grow (o.keep _ List.mem_cons_self) hG (Nat.le_refl _) (Nat.le_refl _)
  exact ⟨h.kp.os, h.kp.tape, h.kp.output, h.kp.size, h.kp.block⟩
theorem Mem.shutS (o : Mem n0 rs m0 fr ds w ps) : Step (ms ps m0) w (ms ps m0) (shut ds w) := Step.grow _ (shut_grown n0 ds w o.marks.1 o.marks.2)
theorem Mem.shutAt (o : Mem n0 rs m0 fr ds w ps) (k : Nat) {b : Nat} {l : List Value} (hk : ps[k]? = some (.box b l)) : Box (shut ds w) b l := by
  have hG := shut_grown n0 ds w o.marks.1 o.marks.2
  obtain ⟨T, hT, hg⟩ := o.at k hk
  exact ⟨T, hG.block b _ hT (.inr rfl), hg⟩
end

theorem Mem.dsl {n0 : Nat} {rs m0 : List Nat} {fr : List (List Nat × Nat × World)} {ds : List Nat} {w : World} {ps : List Pc} (o : Mem n0 rs m0 fr ds w ps) : ∀ D ∈ ds, D < w.heap.size := fun D hD => (Array.getElem?_eq_some_iff.1 (o.marks.1.2 D hD)).1
/-! iterators: J of what has come; Jx when a round has said 'no more' -/
def Gh {α : Type} (J Jx : List α → World → Prop) (pre : List α) (stop : Bool) (W : World) : Prop := cond stop (Jx pre W) (J pre W)
theorem gh_by {α : Type} {J Jx : List α → World → Prop} (hJ : ∀ pre A B, J pre A → A.grownBy B none → J pre B) (hX : ∀ pre A B, Jx pre A → A.grownBy B none → Jx pre B) {pre : List α} {stop : Bool} {W W' : World} (h : Gh J Jx pre stop W) (hg : W.grownBy W' none) : Gh J Jx pre stop W' := by
  cases stop
  · exact hJ _ _ _ h hg
  · exact hX _ _ _ h hg
theorem gh_end {α : Type} {J Jx : List α → World → Prop} {pre xs : List α} {stop : Bool} {W : World} (h : Gh J Jx pre stop W) (hp : pre <+: xs) (he : stop = false → pre = xs) : J xs W ∨ ∃ pre, pre <+: xs ∧ Jx pre W := by
  cases stop
  · rw [← he rfl]; exact .inl h
  · exact .inr ⟨pre, hp, h⟩
theorem prefix_snoc {α : Type} {pre xs : List α} {x : α} (h : pre <+: xs) (hx : xs[pre.length]? = some x) : (pre ++ [x]) <+: xs := by
  obtain ⟨t, rfl⟩ := h
  cases t with
  | nil => simp at hx
  | cons y t => simp at hx; subst hx; exact ⟨t, by simp⟩
theorem prefix_get {α : Type} {pre xs : List α} {x : α} (h : (pre ++ [x]) <+: xs) : xs[pre.length]? = some x := by
  obtain ⟨t, rfl⟩ := h
  simp
theorem _root_.Go.Vc.Grown.keep0 {w W : World} (h : Grown w.heap.size w W) (m : List Nat) : Keep m w W := ⟨h.os, h.tape, h.output, h.size, fun k hk _ => by
  have := h.block k _ (Array.getElem?_eq_getElem hk) (.inl hk)
  rw [this, Array.getElem?_eq_getElem hk]⟩
theorem _root_.Go.Vc.Keep.kpm {m : List Nat} {w W W' : World} (h : Keep m w W) (k : KpM m w.heap.size W W') : Keep m w W' :=
  ⟨k.os.trans h.os, k.tape.trans h.tape, k.output.trans h.output, Nat.le_trans h.size k.size, fun j hj hm => (k.block j hj hm).trans (h.block j hj hm)⟩
theorem _root_.Go.Vc.Keep.more {m : List Nat} {w W W' : World} (h : Keep m w W) (k : Keep [] W W') : Keep m w W' := h.trans (k.mono (by simp))
theorem _root_.Go.Vc.Keep.stw {m : List Nat} {w W : World} (h : Keep m w W) : Step m w m W := ⟨h.d, fun _ h => .inl h⟩
theorem _root_.Go.Vc.Keep.mlt {m : List Nat} {w W : World} (h : Keep m w W) (hm : ∀ b ∈ m, b < w.heap.size) : ∀ b ∈ m, b < W.heap.size := fun b hb => Nat.lt_of_lt_of_le (hm b hb) h.size
theorem marks0 (w : World) : MarksOk [] w := ⟨List.nodup_nil, by simp⟩
theorem leastN_spec {p : Nat → Prop} (h : ∃ n, p n) : ∃ n, p n ∧ ∀ k, p k → n ≤ k := by
  obtain ⟨n, hn⟩ := h
  induction n using Nat.strongRecOn with
  | _ n ih =>
    by_cases hk : ∃ k, k < n ∧ p k
    · obtain ⟨k, h1, h2⟩ := hk; exact ih k h1 h2
    · exact ⟨n, hn, fun k hpk => by
        rcases Nat.lt_or_ge k n with h | h
        · exact absurd ⟨k, h, hpk⟩ hk
        · exact h⟩
open Classical in
noncomputable def leastN (p : Nat → Prop) : Nat := if h : ∃ n, p n then Classical.choose (leastN_spec h) else 0
theorem leastN_at {p : Nat → Prop} (h : ∃ n, p n) : p (leastN p) := by unfold leastN; rw [dif_pos h]; exact (Classical.choose_spec (leastN_spec h)).1
theorem leastN_le {p : Nat → Prop} {n : Nat} (h : p n) : leastN p ≤ n := by unfold leastN; rw [dif_pos ⟨n, h⟩]; exact (Classical.choose_spec (leastN_spec ⟨n, h⟩)).2 n h
theorem cond_map {b : Bool} {A B A' B' : Prop} (h1 : A → A') (h2 : B → B') (h : cond b A B) : cond b A' B' := by cases b; exact h2 h; exact h1 h
theorem _root_.Go.Vc.Box.keep {w u : World} {b : Nat} {l : List Value} (h : Box w b l) {r : List Nat} (hu : Keep r w u) (hr : b ∉ r) : Box u b l := by
  obtain ⟨T, hT⟩ := h
  exact ⟨T, by rw [hu.block b (Array.getElem?_eq_some_iff.1 hT.1).1 hr]; exact hT⟩
theorem _root_.Go.Vc.Rw.cap {w : World} {base e size : Nat} {a : Option Addr} {n c : Nat} {xs : List Value} (h : Rw w base e size a n c xs) : n ≤ c := by
  rcases h.2 with ⟨hv, hn⟩ | ⟨g, cap, cur, hv, _, _, hc, _⟩
  · omega
  · cases hv; exact hc
theorem row_elem {α : Type} {c : Cod α} {m : List Nat} {w : World} {e n cap : Nat} {a : Option Addr} {xs : List Value} {l : List α} (hr : Rw w 0 e c.size a n cap xs) (he : El c m w l xs) {i : Int} (hi : 0 ≤ i ∧ i < (l.length : Int)) :
    ∃ p x cs, a = some p ∧ l[i.toNat]? = some x ∧ (True ∧ CellsAt w (p.add (i.toNat * c.size)) cs) ∧ c.rep m w x cs := by
  have hlt : i.toNat < l.length := by omega
  obtain ⟨cs, ys, zs, hx, hy, hrep⟩ := he.get (List.getElem?_eq_getElem hlt)
  have hne : cs ≠ [] := fun e => by have := c.len hrep; rw [e] at this; have := c.pos; simp at *; omega
  have hsl := hr.sl
  rw [hx] at hsl
  obtain ⟨p, hp, hc⟩ := hsl.some_of (by simp [hne])
  have hcc := CellsAt.sub hc hne
  rw [hy] at hcc
  exact ⟨p, _, cs, hp, List.getElem?_eq_getElem hlt, ⟨trivial, hcc⟩, hrep⟩
theorem row_len {α : Type} {c : Cod α} {m : List Nat} {w : World} {e n cap : Nat} {a : Option Addr} {xs : List Value} {l : List α} (hr : Rw w 0 e c.size a n cap xs) (he : El c m w l xs) : n = l.length :=
  Nat.eq_of_mul_eq_mul_right c.pos (hr.len.symm.trans he.len)
theorem row_elemN {α : Type} {c : Cod α} {m : List Nat} {w : World} {e n cap : Nat} {a : Option Addr} {xs : List Value} {l : List α} (hr : Rw w 0 e c.size a n cap xs) (he : El c m w l xs) {i : Int} (hi : 0 ≤ i ∧ i < (n : Int)) :
    ∃ p x cs, a = some p ∧ l[i.toNat]? = some x ∧ (True ∧ CellsAt w (p.add (i.toNat * c.size)) cs) ∧ c.rep m w x cs := row_elem hr he (by rw [row_len hr he] at hi; exact hi)
theorem over_len : ∀ (vs l : List Value) (i : Nat), (over l i vs).length = l.length
  | [], _, _ => rfl
  | v :: vs, l, i => by rw [over, over_len]; simp
theorem over_take (k : Nat) : ∀ (vs l : List Value) (i : Nat), (over l i vs).take k = over (l.take k) i vs
  | [], _, _ => rfl
  | v :: vs, l, i => by rw [over, over_take, over, List.take_set]
theorem over_left (A B : List Value) : ∀ (vs : List Value) (i : Nat), i + vs.length ≤ A.length → over (A ++ B) i vs = over A i vs ++ B := by
  intro vs
  induction vs generalizing A with
  | nil => intro i _; rfl
  | cons v vs ih =>
    intro i h
    simp only [List.length_cons] at h
    rw [over, over, List.set_append_left _ _ (by omega)]
    exact ih (A.set i v) (i + 1) (by simp; omega)
theorem over_right (A B : List Value) : ∀ (vs : List Value) (i : Nat), over (A ++ B) (A.length + i) vs = A ++ over B i vs := by
  intro vs
  induction vs generalizing B with
  | nil => intro i; rfl
  | cons v vs ih =>
    intro i
    rw [over, over, List.set_append_right _ _ (by omega), show A.length + i - A.length = i by omega]
    exact ih (B.set i v) (i + 1)
theorem over_all : ∀ (cs vs : List Value), vs.length = cs.length → over cs 0 vs = vs := by
  intro cs
  suffices ∀ (vs A cs : List Value), vs.length = cs.length → over (A ++ cs) A.length vs = A ++ vs by
    intro vs h; exact this vs [] cs h
  intro vs
  induction vs with
  | nil => intro A cs h; cases cs with | nil => rfl | cons => simp at h
  | cons v vs ih =>
    intro A cs h
    cases cs with
    | nil => simp at h
    | cons c cs =>
      have := ih (A ++ [v]) cs (by simpa using h)
      rw [over, List.set_append_right _ _ (Nat.le_refl _), Nat.sub_self, List.set_cons_zero]
      simpa using this
theorem heap_setsT {b T : Nat} : ∀ (vs : List Value) (w : World) (i j : Nat) (l : List Value), w.heap[b]? = some (.cells ⟨l⟩ T (0, 0)) → (setCellsFrom w ⟨b, i, none⟩ j vs).heap[b]? = some (.cells ⟨over l (i + j) vs⟩ T (0, 0)) := by
  intro vs
  induction vs with
  | nil => intro w i j l h; exact h
  | cons v vs ih =>
    intro w i j l h
    simp only [setCellsFrom, over]
    have := ih (w.setCell ((⟨b, i, none⟩ : Addr).add j) v) i (j + 1) (l.set (i + j) v) (by rw [add_mk, heap_setCell, if_pos rfl, h]; simp)
    rwa [show i + (j + 1) = i + j + 1 by omega] at this
theorem _root_.Go.Vc.Rw.store {w : World} {e size n c : Nat} {p : Addr} {xs : List Value} (h : Rw w 0 e size (some p) n c xs) {j : Nat} {vs : List Value} (hj : j + vs.length ≤ n * size) :
    Writable w (p.add j) vs.length ∧ ∀ w', w' = setCells w (p.add j) vs → Rw w' 0 e size (some p) n c (over xs j vs) ∧ w.grownBy w' (some p.block) := by
  rcases h.2 with ⟨hv, _⟩ | ⟨g, cap, cur, hv, hg, hh, hn, hcap, hsz, ht⟩
  · cases hv
  · obtain ⟨rfl, rfl⟩ : p = ⟨g, 0, none⟩ ∧ c = cap := by cases hv; exact ⟨rfl, rfl⟩
    have hwr : ∀ {i n : Nat}, i + n ≤ cur.toList.length → Writable w ⟨g, i, none⟩ n := fun {i n} hn j hj => by
      rw [add_mk]
      have hlt : i + j < cur.toList.length := by omega
      exact ⟨⟨cur.toList[i + j], by simp [World.cell?, hh]⟩, by simp [World.frozen?, hh]⟩
    have hmul : n * size ≤ c * size := Nat.mul_le_mul_right _ hn
    have hlen : cur.toList.length = c * size := by simpa using hsz
    have ea : (⟨g, 0, none⟩ : Addr).add j = ⟨g, j, none⟩ := by rw [add_mk, Nat.zero_add]
    rw [ea]
    refine ⟨hwr (by omega), fun w' hw => ⟨⟨by rw [over_len]; exact h.1, .inr ⟨g, c, ⟨over cur.toList j vs⟩, rfl, hg, ?_, hn, hcap, by rw [← hsz]; simp [over_len], ?_⟩⟩, ?_⟩⟩
    · subst hw
      exact heap_setsT vs w j 0 cur.toList hh
    · show (over cur.toList j vs).take _ = _
      rw [over_take, ht]
    · have := keep_sets hw
      exact ⟨this.os, this.tape, this.output, this.size, fun k hk hm => this.block k hk (by simpa [eq_comm] using fun e => hm (by rw [e]))⟩
theorem El.put {α : Type} {c : Cod α} {m : List Nat} {w : World} {l : List α} {xs : List Value} (h : El c m w l xs) {i : Nat} {x : α} (hx : l[i]? = some x) :
    ∃ cs, (∃ ys zs, xs = ys ++ cs ++ zs ∧ ys.length = i * c.size) ∧ cs.length = c.size ∧ i * c.size + c.size ≤ xs.length ∧ ∀ x' off vs, off + vs.length ≤ c.size → c.rep m w x' (over cs off vs) → El c m w (l.set i x') (over xs (i * c.size + off) vs) := by
  obtain ⟨cs, ys, zs, hxs, hy, hrep⟩ := h.get hx
  have hl := c.len hrep
  refine ⟨cs, ⟨ys, zs, hxs, hy⟩, hl, by rw [hxs]; simp; omega, fun x' off vs hov hr => ?_⟩
  have hi : i < l.length := (List.getElem?_eq_some_iff.1 hx).1
  have h1 := h.take i
  have h2 := h.drop (i + 1)
  have e1 : xs.take (i * c.size) = ys := by rw [hxs, List.append_assoc, ← hy]; simp
  have e2 : xs.drop ((i + 1) * c.size) = zs := by
    rw [hxs, show (i + 1) * c.size = (ys ++ cs).length by simp [hy, hl, Nat.succ_mul]]
    simp
  rw [e1] at h1
  rw [e2] at h2
  rw [List.set_eq_take_append_cons_drop, if_pos hi]
  have := h1.app (El.cons hr h2)
  rw [hxs, ← hy, List.append_assoc, over_right, over_left _ _ _ _ (by omega)]
  exact this
/-- a part of an element is written -/
theorem row_put {α : Type} {c : Cod α} {m : List Nat} {w : World} {e n cap : Nat} {a : Option Addr} {xs : List Value} {l : List α} (hr : Rw w 0 e c.size a n cap xs) (he : El c m w l xs) {i : Nat} {x : α} {p : Addr} {cs : List Value} (ha : a = some p) (hx : l[i]? = some x) (hc : CellsAt w (p.add (i * c.size)) cs) (hcl : cs.length = c.size) (off : Nat) (vs : List Value) (hov : off + vs.length ≤ c.size) :
    Writable w ((p.add (i * c.size)).add off) vs.length ∧ ∀ w', w' = setCells w ((p.add (i * c.size)).add off) vs → ∃ xs', Rw w' 0 e c.size a n cap xs' ∧ w.grownBy w' (Vc.blk a) ∧ ∀ x', c.rep m w x' (over cs off vs) → El c m w (l.set i x') xs' := by
  subst ha
  obtain ⟨cs0, ⟨ys, zs, hxs, hy⟩, hl0, hle, hput⟩ := he.put hx
  have hne : cs0 ≠ [] := fun e => by rw [e] at hl0; have := c.pos; simp at hl0; omega
  have hsl := hr.sl
  rw [hxs] at hsl
  obtain ⟨q, hq, hcc⟩ := hsl.some_of (by simp [hne])
  cases hq
  have hc0 := CellsAt.sub hcc hne
  rw [hy] at hc0
  have ecs : cs = cs0 := by
    apply List.ext_getElem (hcl.trans hl0.symm)
    intro j h1 h2
    have a1 := hc j h1
    have a2 := hc0 j h2
    exact Option.some.inj (a1.symm.trans a2)
  subst ecs
  have ea : (p.add (i * c.size)).add off = p.add (i * c.size + off) := by
    rcases hr.2 with ⟨hv, _⟩ | ⟨g, cap, cur, hv, _⟩
    · cases hv
    · cases hv; rw [add_mk, add_mk, add_mk, Nat.add_assoc]
  rw [ea]
  have hlx := hr.len
  obtain ⟨hw, hs⟩ := hr.store (j := i * c.size + off) (vs := vs) (by omega)
  exact ⟨hw, fun w' hw' => ⟨_, (hs w' hw').1, (hs w' hw').2, fun x' hx' => hput x' off vs hov hx'⟩⟩
theorem row_put0 {α : Type} {c : Cod α} {m : List Nat} {w : World} {e n cap : Nat} {a : Option Addr} {xs : List Value} {l : List α} (hr : Rw w 0 e c.size a n cap xs) (he : El c m w l xs) {i : Nat} {p : Addr} (ha : a = some p) (hi : i < n) (vs : List Value) (hv : vs.length = c.size) :
    Writable w (p.add (i * c.size)) c.size ∧ ∀ w', w' = setCells w (p.add (i * c.size)) vs → ∃ xs', Rw w' 0 e c.size a n cap xs' ∧ w.grownBy w' (Vc.blk a) ∧ ∀ x', c.rep m w x' vs → El c m w (l.set i x') xs' := by
  subst ha
  rw [row_len hr he] at hi
  obtain ⟨cs0, _, hl0, hle, hput⟩ := he.put (List.getElem?_eq_getElem hi)
  have hlx := hr.len
  obtain ⟨hw, hs⟩ := hr.store (j := i * c.size) (vs := vs) (by omega)
  refine ⟨hv ▸ hw, fun w' hw' => ⟨_, (hs w' hw').1, (hs w' hw').2, fun x' hx' => ?_⟩⟩
  have := hput x' 0 vs (by omega) (by rw [over_all _ _ (by omega)]; exact hx')
  simpa using this
theorem row_put1 {α : Type} {c : Cod α} {m : List Nat} {w : World} {e n cap : Nat} {a : Option Addr} {xs : List Value} {l : List α} (hr : Rw w 0 e c.size a n cap xs) (he : El c m w l xs) {i : Nat} {p : Addr} (ha : a = some p) (hi : i < n) (v : Value) (h1 : c.size = 1) :
    Writable w (p.add (i * c.size)) 1 ∧ ∀ w', w' = w.setCell (p.add (i * c.size)) v → ∃ xs', Rw w' 0 e c.size a n cap xs' ∧ w.grownBy w' (Vc.blk a) ∧ ∀ x', c.rep m w x' [v] → El c m w (l.set i x') xs' := by
  obtain ⟨hw, hs⟩ := row_put0 hr he ha hi [v] h1.symm
  exact ⟨by rw [h1] at hw ⊢; exact hw, fun w' hw' => hs w' (by rw [hw']; exact (setCells_one _ _ _).symm)⟩
theorem row_putp {α : Type} {c : Cod α} {m : List Nat} {w : World} {e n cap : Nat} {a : Option Addr} {xs : List Value} {l : List α} (hr : Rw w 0 e c.size a n cap xs) (he : El c m w l xs) {i : Nat} {x : α} {p : Addr} {cs : List Value} (ha : a = some p) (hx : l[i]? = some x) (hc : CellsAt w (p.add (i * c.size)) cs) (hcl : cs.length = c.size) (off : Nat) (v : Value) (hov : off + 1 ≤ c.size) :
    Writable w ((p.add (i * c.size)).add off) 1 ∧ ∀ w', w' = w.setCell ((p.add (i * c.size)).add off) v → ∃ xs', Rw w' 0 e c.size a n cap xs' ∧ w.grownBy w' (Vc.blk a) ∧ ∀ x', c.rep m w x' (cs.set off v) → El c m w (l.set i x') xs' := by
  obtain ⟨hw, hs⟩ := row_put hr he ha hx hc hcl off [v] hov
  exact ⟨hw, fun w' hw' => hs w' (by rw [hw']; exact (setCells_one _ _ _).symm)⟩
theorem heap_setsF {b T : Nat} {fz : Nat × Nat} : ∀ (vs : List Value) (w : World) (i j : Nat) (l : List Value), w.heap[b]? = some (.cells ⟨l⟩ T fz) → (setCellsFrom w ⟨b, i, none⟩ j vs).heap[b]? = some (.cells ⟨over l (i + j) vs⟩ T fz) := by
  intro vs
  induction vs with
  | nil => intro w i j l h; exact h
  | cons v vs ih =>
    intro w i j l h
    simp only [setCellsFrom, over]
    have := ih (w.setCell ((⟨b, i, none⟩ : Addr).add j) v) i (j + 1) (l.set (i + j) v) (by rw [add_mk, heap_setCell, if_pos rfl, h]; simp)
    rwa [show i + (j + 1) = i + j + 1 by omega] at this
theorem Wn.sl {w : World} {a : Option Addr} {xs rest : List Value} {T : Nat} {fz : Nat × Nat} (h : Wn w a xs rest T fz) : SlAt w a xs := by
  rcases h with ⟨rfl, rfl⟩ | ⟨g, rfl, hg, _⟩
  · rfl
  · intro i hi
    rw [add_mk, Nat.zero_add]
    simp [World.cell?, hg, List.getElem?_append_left, hi]
theorem Wn.store {w : World} {p : Addr} {xs rest : List Value} {T : Nat} {fz : Nat × Nat} (h : Wn w (some p) xs rest T fz) {j : Nat} {vs : List Value} (hj : j + vs.length ≤ xs.length) :
    Writable w (p.add j) vs.length ∧ ∀ w', w' = setCells w (p.add j) vs → Wn w' (some p) (over xs j vs) rest T fz ∧ w.grownBy w' (some p.block) := by
  rcases h with ⟨h, _⟩ | ⟨g, hp, hg, hf⟩
  · cases h
  · cases hp
    have ea : (⟨g, 0, none⟩ : Addr).add j = ⟨g, j, none⟩ := by rw [add_mk, Nat.zero_add]
    rw [ea]
    refine ⟨fun i hi => ?_, fun w' hw => ⟨.inr ⟨g, rfl, ?_, by rw [over_len]; exact hf⟩, ?_⟩⟩
    · rw [add_mk]
      refine ⟨⟨(xs ++ rest)[j + i]'(by simp; omega), by simp [World.cell?, hg]⟩, ?_⟩
      simp only [World.frozen?, hg]
      rcases hf with rfl | hf
      · simp
      · simp; omega
    · subst hw
      have := heap_setsF vs w j 0 _ hg
      rw [Nat.add_zero, over_left _ _ _ _ hj] at this
      exact this
    · have := keep_sets hw
      exact ⟨this.os, this.tape, this.output, this.size, fun k hk hm => this.block k hk (by simpa [eq_comm] using fun e => hm (by rw [e]))⟩
theorem win_elem {α : Type} {c : Cod α} {m : List Nat} {w : World} {a : Option Addr} {xs rest : List Value} {T : Nat} {fz : Nat × Nat} {l : List α} (hr : Wn w a xs rest T fz) (he : El c m w l xs) {i : Int} (hi : 0 ≤ i ∧ i < (l.length : Int)) :
    ∃ p x cs, a = some p ∧ l[i.toNat]? = some x ∧ (True ∧ CellsAt w (p.add (i.toNat * c.size)) cs) ∧ c.rep m w x cs := by
  have hlt : i.toNat < l.length := by omega
  obtain ⟨cs, ys, zs, hx, hy, hrep⟩ := he.get (List.getElem?_eq_getElem hlt)
  have hne : cs ≠ [] := fun e => by have := c.len hrep; rw [e] at this; have := c.pos; simp at *; omega
  have hsl := hr.sl
  rw [hx] at hsl
  obtain ⟨p, hp, hc⟩ := hsl.some_of (by simp [hne])
  have hcc := CellsAt.sub hc hne
  rw [hy] at hcc
  exact ⟨p, _, cs, hp, List.getElem?_eq_getElem hlt, ⟨trivial, hcc⟩, hrep⟩
theorem win_put0 {α : Type} {c : Cod α} {m : List Nat} {w : World} {a : Option Addr} {xs rest : List Value} {T : Nat} {fz : Nat × Nat} {l : List α} (hr : Wn w a xs rest T fz) (he : El c m w l xs) {i : Nat} {p : Addr} (ha : a = some p) (hi : i < l.length) (vs : List Value) (hv : vs.length = c.size) :
    Writable w (p.add (i * c.size)) c.size ∧ ∀ w', w' = setCells w (p.add (i * c.size)) vs → ∃ xs', Wn w' a xs' rest T fz ∧ w.grownBy w' (Vc.blk a) ∧ ∀ x', c.rep m w x' vs → El c m w (l.set i x') xs' := by
  subst ha
  obtain ⟨cs0, _, hl0, hle, hput⟩ := he.put (List.getElem?_eq_getElem hi)
  obtain ⟨hw, hs⟩ := hr.store (j := i * c.size) (vs := vs) (by omega)
  refine ⟨hv ▸ hw, fun w' hw' => ⟨_, (hs w' hw').1, (hs w' hw').2, fun x' hx' => ?_⟩⟩
  have := hput x' 0 vs (by omega) (by rw [over_all _ _ (by omega)]; exact hx')
  simpa using this
theorem win_put1 {α : Type} {c : Cod α} {m : List Nat} {w : World} {a : Option Addr} {xs rest : List Value} {T : Nat} {fz : Nat × Nat} {l : List α} (hr : Wn w a xs rest T fz) (he : El c m w l xs) {i : Nat} {p : Addr} (ha : a = some p) (hi : i < l.length) (v : Value) (h1 : c.size = 1) :
    Writable w (p.add (i * c.size)) 1 ∧ ∀ w', w' = w.setCell (p.add (i * c.size)) v → ∃ xs', Wn w' a xs' rest T fz ∧ w.grownBy w' (Vc.blk a) ∧ ∀ x', c.rep m w x' [v] → El c m w (l.set i x') xs' := by
  obtain ⟨hw, hs⟩ := win_put0 hr he ha hi [v] h1.symm
  exact ⟨by rw [h1] at hw ⊢; exact hw, fun w' hw' => hs w' (by rw [hw']; exact (setCells_one _ _ _).symm)⟩
/-- a row of one's own as such cells, and back -/
theorem _root_.Go.Vc.Rw.win {w : World} {e size n c : Nat} {a : Option Addr} {xs : List Value} (h : Rw w 0 e size a n c xs) :
    ∃ rest, Wn w a xs rest e (0, 0) ∧ ∀ w' xs', Wn w' a xs' rest e (0, 0) → xs'.length = xs.length → Rw w' 0 e size a n c xs' := by
  rcases h.2 with ⟨hv, hn⟩ | ⟨g, cap, cur, hv, hg, hh, hnc, hcap, hsz, ht⟩
  · cases hv
    have : xs = [] := by
      have := h.1
      rw [hn, Nat.zero_mul] at this
      exact List.length_eq_zero_iff.1 this
    exact ⟨[], .inl ⟨rfl, this⟩, fun w' xs' _ hl => ⟨hl.trans h.1, .inl ⟨rfl, hn⟩⟩⟩
  · cases hv
    have hlen : cur.toList.length = c * size := by simpa using hsz
    have hmul : n * size ≤ c * size := Nat.mul_le_mul_right _ hnc
    refine ⟨cur.toList.drop (n * size), .inr ⟨g, rfl, ?_, .inl rfl⟩, fun w' xs' hw hl => ⟨hl.trans h.1, ?_⟩⟩
    · rw [hh, ← ht, List.take_append_drop]
    · rcases hw with ⟨hx, _⟩ | ⟨g', hx, hh', _⟩
      · cases hx
      · cases hx
        have hx1 := h.1
        refine .inr ⟨g, c, ⟨xs' ++ cur.toList.drop (n * size)⟩, rfl, Nat.zero_le _, hh', hnc, hcap, ?_, ?_⟩
        · simp; omega
        · show (xs' ++ _).take _ = _
          rw [List.take_append_of_le_length (by omega), List.take_of_length_le (by omega)]
theorem _root_.Go.Vc.Rw.take {w : World} {base e size n c k : Nat} {a : Option Addr} {xs : List Value} (h : Rw w base e size a n c xs) (hk : k ≤ n) : Rw w base e size a k c (xs.take (k * size)) := by
  have hmul : k * size ≤ n * size := Nat.mul_le_mul_right _ hk
  refine ⟨by rw [List.length_take, h.1]; omega, ?_⟩
  rcases h.2 with ⟨hv, hn⟩ | ⟨g, cap, cur, hv, hg, hh, hnc, hcap, hsz, ht⟩
  · have : k = 0 := by omega
    subst this
    cases hv
    exact .inl ⟨rfl, rfl⟩
  · cases hv
    refine .inr ⟨g, c, cur, rfl, hg, hh, by omega, hcap, hsz, ?_⟩
    rw [← ht, List.take_take, Nat.min_eq_left hmul]
theorem subBase_zero (a : Option Addr) (c size : Nat) : subBase a 0 c size = a := by
  unfold subBase
  split
  · rfl
  · cases a with
    | none => rfl
    | some p => simp [Addr.add]
theorem SlR.none {α : Type} {c : Cod α} {m : List Nat} {w : World} {a : Option Addr} {l : List α} (h : SlR c m w a l) (ha : a.isNone = true) : l = [] := by
  rcases h with h | ⟨p, xs, rfl, _⟩
  · exact h
  · cases ha
theorem row_none {α : Type} {c : Cod α} {m : List Nat} {w : World} {e n cap : Nat} {a : Option Addr} {xs : List Value} {l : List α} (hr : Rw w 0 e c.size a n cap xs) (he : El c m w l xs) (ha : a.isNone = true) : l = [] := by
  have h := hr.sl
  cases a with
  | some p => cases ha
  | none =>
    have h : xs = [] := h
    have hl := he.len
    rw [h] at hl
    cases l with
    | nil => rfl
    | cons x l =>
      exfalso
      have h2 := Nat.mul_pos (Nat.succ_pos l.length) c.pos
      rw [List.length_cons, List.length_nil] at hl
      rw [← hl] at h2
      exact Nat.lt_irrefl _ h2
theorem SlR.cells {α : Type} {c : Cod α} {m : List Nat} {w : World} {a : Option Addr} {l : List α} (h : SlR c m w a l) : ∃ xs, SlAt w a xs ∧ El c m w l xs := by
  rcases h with rfl | ⟨p, xs, rfl, _, hc, he⟩
  · refine ⟨[], ?_, El.nil _ _ _⟩
    cases a with
    | none => rfl
    | some p => intro i hi; simp at hi
  · exact ⟨xs, hc, he⟩
theorem loop_again {p q : Nat → Prop} {N n : Nat} (hn : N = leastN p) (h : q n) (hl : n < N) : (∃ n, q n) ∧ leastN q < leastN p := ⟨⟨n, h⟩, Nat.lt_of_le_of_lt (leastN_le h) (hn ▸ hl)⟩
theorem arr_equal {P : Program} {t e : TypeId} {k : IntKind} {i : TypeInfo} (hu : P.underlying t = some (.array 2 e)) (he : P.underlying e = some (.int k)) (hc : P.cellsOf e = 1) (hi : P.info? e = some i) (a b c d : Int) (w : World) :
    (Op.equal t (.agg #[.int k a, .int k b]) (.agg #[.int k c, .int k d])).run P w = .ok ((a == c) && (b == d)) w := by
  unfold Op.equal Op.maxDepth
  rw [show (10000 : Nat) = 9998 + 1 + 1 from rfl, run_equalIn_array w _ _ _ hu hi, hc]
  have hp : ∀ (xs : Array Value) (j : Nat) (v : Value), xs.toList[j]? = some v → (part e xs (j * 1)).run P w = .ok v w := fun xs j v hv => part_run he rfl (by rw [Nat.mul_one]; exact hv)
  have e2 : List.range 2 = [0, 1] := rfl
  rw [e2]
  simp only [Op.eqItems, Sem.run_bind]
  rw [hp #[.int k a, .int k b] 0 (.int k a) rfl, Result.andThen_ok, hp #[.int k c, .int k d] 0 (.int k c) rfl, Result.andThen_ok, run_equalIn_int w _ e k _ a c he, Result.andThen_ok]
  cases hac : (a == c) with
  | false => simp
  | true =>
    simp only [Bool.not_true, Bool.false_eq_true, if_false, Sem.run_bind]
    rw [hp #[.int k a, .int k b] 1 (.int k b) rfl, Result.andThen_ok, hp #[.int k c, .int k d] 1 (.int k d) rfl, Result.andThen_ok, run_equalIn_int w _ e k _ b d he, Result.andThen_ok]
    cases hbd : (b == d) <;> simp
theorem arr_eql2 {P : Program} {t e : TypeId} {k : IntKind} {i : TypeInfo} (hu : P.underlying t = some (.array 2 e)) (he : P.underlying e = some (.int k)) (hc : P.cellsOf e = 1) (hg : P.eqGuardType P.depth t = false) (hi : P.info? e = some i) {a b c d : Int} {w : World} {x y : Operand} {K : Value → World → Prop}
    (h : K (.bool ((a == c) && (b == d))) w) : SemOk P (do eqGuard .eql t x y (.agg #[.int k a, .int k b]) (.agg #[.int k c, .int k d]); binOp .eql t (.agg #[.int k a, .int k b]) (.agg #[.int k c, .int k d])) K w := by
  refine ⟨_, w, ?_, h⟩
  simp [run_eqGuard_agg w .eql t x y _ _ hg, binOp, arr_equal hu he hc hi]
theorem arr_neq2 {P : Program} {t e : TypeId} {k : IntKind} {i : TypeInfo} (hu : P.underlying t = some (.array 2 e)) (he : P.underlying e = some (.int k)) (hc : P.cellsOf e = 1) (hg : P.eqGuardType P.depth t = false) (hi : P.info? e = some i) {a b c d : Int} {w : World} {x y : Operand} {K : Value → World → Prop}
    (h : K (.bool (!((a == c) && (b == d)))) w) : SemOk P (do eqGuard .neq t x y (.agg #[.int k a, .int k b]) (.agg #[.int k c, .int k d]); binOp .neq t (.agg #[.int k a, .int k b]) (.agg #[.int k c, .int k d])) K w := by
  refine ⟨_, w, ?_, h⟩
  simp [run_eqGuard_agg w .neq t x y _ _ hg, binOp, arr_equal hu he hc hi]
def cRaw : Cod Value := { size := 1, pos := by decide, rep := fun _ _ x cs => cs = [x] ∧ x.oneCell' = true, len := fun h => by rw [h.1]; rfl, one := fun h u hu => by rw [h.1] at hu; simp at hu; subst hu; exact h.2, st := fun h _ => h }
/-! texts and bytes -/
def nums (x : List UInt8) : List Int := x.map fun c => (c.toNat : Int)
def strOf (l : List Int) : List UInt8 := l.map fun n => UInt8.ofNat n.toNat
theorem nums_len (x : List UInt8) : (nums x).length = x.length := by simp [nums]
theorem el_nums (m : List Nat) (w : World) : ∀ (l : List Int), El (cInt .u8) m w l (l.map fun n => .int .u8 n)
  | [] => El.nil _ _ _
  | n :: l => El.cons (cs := [.int .u8 n]) rfl (el_nums m w l)
theorem el_ints {m : List Nat} {w : World} {k : IntKind} : ∀ {l : List Int} {xs : List Value}, El (cInt k) m w l xs → xs = l.map fun n => .int k n
  | [], _, ⟨css, rfl, h⟩ => by cases css with | nil => rfl | cons => exact h.elim
  | n :: l, _, ⟨css, rfl, h⟩ => by
    cases css with
    | nil => exact h.elim
    | cons cs css =>
      have h1 : cs = [.int k n] := h.1
      have := el_ints (l := l) ⟨css, rfl, h.2⟩
      rw [List.flatten_cons, this, h1]; rfl
theorem conv_bytes {P : Program} {src dst e : TypeId} (hs : P.underlying src = some .string) (hd : P.underlying dst = some (.slice e)) (he : P.underlying e = some (.int .u8)) {x : List UInt8} {m : List Nat} {w : World} (hm : ∀ b ∈ m, b < w.heap.size) {K : Value → World → Prop}
    (h : ∀ (a : Option Addr) (c : Nat) (w' : World), (nums x).length ≤ c → SlR (cInt .u8) m w' a (nums x) → Keep [] w w' → K (.slice a (nums x).length c) w') : SemOk P (convert src dst (.string (mkS x))) K w := by
  refine ⟨_, _, Lib.run_convert_string_bytes w src dst e (mkS x) hs hd he, ?_⟩
  have hsz : (mkS x).size = (nums x).length := by rw [nums_len]; rfl
  have hc := grownCap_ge w (mkS x).size 0 e
  rw [hsz] at hc ⊢
  refine h _ _ _ hc (.inr ⟨_, _, rfl, fun hb => Nat.lt_irrefl _ (hm _ hb), ?_, el_nums _ _ _⟩) ⟨rfl, rfl, rfl, by rw [Lib.bytesWorld_size]; omega, fun k hk _ => Lib.bytesWorld_at_old w e (mkS x) k hk⟩
  intro i hi
  have hix : i < x.length := by simpa [nums] using hi
  rw [add_mk, Nat.zero_add, Lib.bytesWorld_cell w e (mkS x) i (by exact hix)]
  simp [nums, mkS, List.getD, hix]
theorem strCells_nums (x : List UInt8) : Lib.strCells (mkS x) = (nums x).map fun n => Value.int .u8 n := by
  simp [Lib.strCells, nums, mkS]
/-- a string's bytes appended to a row of one's own -/
theorem append_str {P : Program} {w : World} {base t u ty e : TypeId} {a : Option Addr} {n c : Nat} {xs : List Value} {x : List UInt8} {K : Value → World → Prop}
    (hT : SlTy P t e 1 1) (he : P.underlying e = some (.int .u8)) (hz : ∀ i, P.info? e = some i → i.zero = some (.int .u8 0)) (hu : P.underlying u = some .string) (h : Rw w base e 1 a n c xs) (hm : n + x.length < 2 ^ 32) (hbase : base ≤ w.heap.size)
    (hk : ∀ a' c' w', Rw w' base e 1 a' (n + x.length) c' (xs ++ (nums x).map fun n => Value.int .u8 n) → w.grownBy w' (blk a) → (blk a' = blk a ∨ blk a' = some w.heap.size) → K (.slice a' (n + x.length) c') w') :
    SemOk P (Builtin.append_ #[t, u] ty #[.slice a n c, .string (mkS x)]) K w := by
  obtain ⟨i, z, ht, hi, hz', hsz, hby, hzs, hpos⟩ := hT
  have hzz := hz i hi
  have hsize : (mkS x).size = x.length := rfl
  obtain ⟨v', w', hr, hown, hg, hn⟩ := Lib.run_append_own_string (P := P) w base t u ty e i ht hu hi hzz hsz hby (.slice a n c) n xs h (mkS x) (by unfold maxLen; omega) (by omega) hbase
  have hxl : xs.length = n := by simpa using h.1
  refine ⟨v', w', hr, ?_⟩
  have hv : ∃ a' c', v' = .slice a' (n + x.length) c' ∧ (blk a' = blk a ∨ blk a' = some w.heap.size) := by
    rcases h.2 with ⟨hv, hn0⟩ | ⟨g, cap, cur, hv, _, hgc, hnc, hcm, hcs, _⟩
    · cases hv
      by_cases hx : (mkS x).size = 0
      · have := hn.2 ⟨rfl, hx⟩
        exact ⟨none, 0, by rw [this]; congr 1; omega, .inl rfl⟩
      · have hr2 := run_append_nil_string (P := P) w t u ty e i (.int .u8 0) ht hu hi hzz (mkS x) (by omega) (by omega) (by rw [hby]; omega)
        rw [hr] at hr2
        cases hr2
        exact ⟨_, _, by rw [Nat.zero_add]; rfl, .inr rfl⟩
    · cases hv
      by_cases hroom : n + (mkS x).size ≤ c
      · have hcs' : cur.size = c := by simpa using hcs
        have hr2 := Lib.run_append_room_string (P := P) w t u ty e i ht hu hi hsz g n c cur hgc (mkS x) hroom (by omega)
        rw [hr] at hr2
        cases hr2
        exact ⟨_, _, rfl, .inl rfl⟩
      · have holds : ∀ j u, xs[j]? = some u → w.cell? ((⟨g, 0, none⟩ : Addr).add j) = some u := World.ownsRow.cells h (g := g) rfl
        have hr2 := Lib.run_append_grow_string (P := P) w t u ty e i (.int .u8 0) ht hu hi hzz ⟨g, 0, none⟩ n c xs (by rw [hsz]; simpa using hxl) holds (mkS x) (by omega) (by omega) (by rw [hby]; exact growslice_fits (by unfold maxLen at hcm; omega) (by omega))
        rw [hr] at hr2
        cases hr2
        exact ⟨_, _, rfl, .inr rfl⟩
  obtain ⟨a', c', rfl, hb⟩ := hv
  rw [strCells_nums] at hown
  exact hk a' c' w' hown (by rw [← ownBlock_eq a n c]; exact hg) hb
theorem conv_bytesW {P : Program} {src dst e : TypeId} (hs : P.underlying src = some .string) (hd : P.underlying dst = some (.slice e)) (he : P.underlying e = some (.int .u8)) {x : List UInt8} {w : World} {K : Value → World → Prop}
    (h : ∀ (c : Nat) (rest : List Value) (fz : Nat × Nat) (w' : World), (nums x).length ≤ c → Wn w' (some ⟨w.heap.size, 0, none⟩) ((nums x).map fun n => .int .u8 n) rest e fz → Keep [] w w' → K (.slice (some ⟨w.heap.size, 0, none⟩) (nums x).length c) w') : SemOk P (convert src dst (.string (mkS x))) K w := by
  refine ⟨_, _, Lib.run_convert_string_bytes w src dst e (mkS x) hs hd he, ?_⟩
  have hsz : (mkS x).size = (nums x).length := by rw [nums_len]; rfl
  have hc := grownCap_ge w (mkS x).size 0 e
  rw [hsz] at hc ⊢
  refine h _ (List.replicate (grownCap w (mkS x).size 0 e - (mkS x).size) (.int .u8 0)) ((Lib.bytesCells w e (mkS x)).size, (Lib.bytesCells w e (mkS x)).size + 1) _ hc (.inr ⟨_, rfl, ?_, .inr ?_⟩) ⟨rfl, rfl, rfl, by rw [Lib.bytesWorld_size]; omega, fun k hk _ => Lib.bytesWorld_at_old w e (mkS x) k hk⟩
  · rw [Lib.bytesWorld_at_new]
    congr 2
    apply Array.ext'
    simp [Lib.bytesCells, nums, mkS, Function.comp_def]
  · simp [Lib.bytesCells, nums, mkS]
theorem conv_string {P : Program} {src dst e : TypeId} (hs : P.underlying src = some (.slice e)) (he : P.underlying e = some (.int .u8)) (hd : P.underlying dst = some .string) {a : Option Addr} {l : List Int} {c : Nat} {m : List Nat} {w : World} (hl : SlR (cInt .u8) m w a l) {K : Value → World → Prop}
    (h : K (.string (mkS (strOf l))) w) : SemOk P (convert src dst (.slice a l.length c)) K w := by
  refine ⟨_, w, ?_, h⟩
  rw [run_convert_bytes_string w src dst e a l.length c hs he hd]
  rcases hl with rfl | ⟨p, xs, rfl, _, hc, hel⟩
  · cases a with
    | none => simp [Conv.bytesToString]; rfl
    | some p =>
      have := run_bytesToString (P := P) w p 0 c [] (by simpa using run_loadCells_list (P := P) w p [] (by simp))
      exact this
  · have hx := el_ints hel
    subst hx
    have hlc := run_loadCells_list (P := P) w p (l.map fun n => Value.int .u8 n) (fun j v hj => by
      obtain ⟨hj', rfl⟩ := List.getElem?_eq_some_iff.1 hj
      exact hc j hj')
    simp only [List.length_map] at hlc
    rw [run_bytesToString w p l.length c l hlc, foldl_push_bytes]
    simp [strOf, mkS, ByteArray.empty, ByteArray.emptyWithCapacity]
    rfl
theorem _root_.Go.Vc.Keep.step0 {w w' : World} (h : Keep [] w w') : Step [] w [] w' := ⟨h.d, by simp⟩
theorem Step.drop0 (m : List Nat) (w : World) : Step m w [] w := Step.drop w (by simp)
theorem row_rd {α : Type} {c : Cod α} {m : List Nat} {w : World} {e n cap : Nat} {a : Option Addr} {xs : List Value} {l : List α} (hr : Rw w 0 e c.size a n cap xs) (he : El c m w l xs) : SlR c [] w a l := by
  have he' := he.st (Step.drop0 m w)
  by_cases hl : l = []
  · exact .inl hl
  · have hx : xs ≠ [] := by
      intro h
      have := he.len
      rw [h] at this
      have h3 := Nat.mul_pos (List.length_pos_iff.2 hl) c.pos
      simp only [List.length_nil] at this
      omega
    obtain ⟨p, rfl, hc⟩ := hr.sl.some_of hx
    exact .inr ⟨p, xs, rfl, by simp, hc, he'⟩
theorem el_rep {α : Type} {c : Cod α} {m : List Nat} {w : World} {x : α} {z : Value} (h : c.rep m w x [z]) : ∀ n, El c m w (List.replicate n x) (List.replicate n z)
  | 0 => El.nil _ _ _
  | n + 1 => by rw [List.replicate_succ, List.replicate_succ]; exact El.cons (cs := [z]) h (el_rep h n)
theorem make_row {P : Program} {t e bytes : Nat} (hT : SlTy P t e 1 bytes) {z : Value} (hz : ∀ i, P.info? e = some i → i.zero = some z) (hcell : z.cells = #[z]) (n : Int) (h0 : 0 ≤ n) (hn : n < 4294967296) (hb : bytes < 2 ^ 10) {w : World} {K : Value → World → Prop}
    (hk : ∀ b w', b = w.heap.size → w' = w.alloc (.cells ⟨List.replicate n.toNat z⟩ e) → K (.slice (some ⟨b, 0, none⟩) n.toNat n.toNat) w') : SemOk P (Instr.makeSlice t (.int .i64 n) (.int .i64 n)) K w := by
  obtain ⟨i, z', ht, hi, hz', hsz, hby, hzs, hpos⟩ := hT
  have := hz i hi
  rw [hz'] at this
  cases this
  have hle : (i.bytes : Int) * n ≤ 1024 * 4294967296 := Int.mul_le_mul (by rw [hby]; omega) (by omega) h0 (by omega)
  refine ⟨_, _, run_make w (P := P) t e i _ ht hi hz' .i64 .i64 n n (by omega) (by omega) (by omega) (by omega), ?_⟩
  refine hk _ _ rfl ?_
  congr 2
  rw [hsz, Nat.mul_one, hcell]
  apply Array.ext'
  apply List.ext_getElem
  · simp [madeCells]
  · intro j h1 h2
    simp [madeCells, Nat.mod_one]
theorem el_repN {α : Type} {c : Cod α} {m : List Nat} {w : World} {x : α} {zc : List Value} (h : c.rep m w x zc) (n : Nat) : El c m w (List.replicate n x) (List.replicate n zc).flatten := by
  refine ⟨List.replicate n zc, rfl, ?_⟩
  induction n with
  | zero => exact trivial
  | succ n ih => rw [List.replicate_succ, List.replicate_succ]; exact ⟨h, ih⟩
theorem flat_rep_len (zc : List Value) (n : Nat) : (List.replicate n zc).flatten.length = n * zc.length := by simp
theorem flat_rep_get (zc : List Value) : ∀ (n j : Nat), j < n * zc.length → (List.replicate n zc).flatten[j]? = zc[j % zc.length]?
  | 0, j, h => by simp at h
  | n + 1, j, h => by
    rw [List.replicate_succ, List.flatten_cons]
    by_cases hj : j < zc.length
    · rw [List.getElem?_append_left hj, Nat.mod_eq_of_lt hj]
    · rw [List.getElem?_append_right (by omega), flat_rep_get zc n (j - zc.length) (by rw [Nat.succ_mul] at h; omega)]
      congr 1
      have : j = (j - zc.length) + zc.length := by omega
      conv => rhs; rw [this, Nat.add_mod_right]
theorem make_rowN {P : Program} {t e size bytes : Nat} (hT : SlTy P t e size bytes) {z : Value} {zc : List Value} (hz : ∀ i, P.info? e = some i → i.zero = some z) (hcell : z.cells = ⟨zc⟩) (n : Int) (h0 : 0 ≤ n) (hn : n < 4294967296) (hb : bytes < 2 ^ 10) {w : World} {K : Value → World → Prop}
    (hk : ∀ b w', b = w.heap.size → w' = w.alloc (.cells ⟨(List.replicate n.toNat zc).flatten⟩ e) → K (.slice (some ⟨b, 0, none⟩) n.toNat n.toNat) w') : SemOk P (Instr.makeSlice t (.int .i64 n) (.int .i64 n)) K w := by
  obtain ⟨i, z', ht, hi, hz', hsz, hby, hzs, hpos⟩ := hT
  have := hz i hi
  rw [hz'] at this
  cases this
  have hzl : zc.length = size := by rw [hcell] at hzs; exact hzs
  have hle : (i.bytes : Int) * n ≤ 1024 * 4294967296 := Int.mul_le_mul (by rw [hby]; omega) (by omega) h0 (by omega)
  refine ⟨_, _, run_make w (P := P) t e i _ ht hi hz' .i64 .i64 n n (by omega) (by omega) (by omega) (by omega), ?_⟩
  refine hk _ _ rfl ?_
  congr 2
  rw [hsz, hcell]
  apply Array.ext'
  apply List.ext_getElem?
  intro j
  by_cases hj : j < n.toNat * size
  · rw [flat_rep_get zc n.toNat j (by rw [hzl]; exact hj)]
    have hm : j % zc.length < zc.length := Nat.mod_lt _ (by rw [hzl]; exact hpos)
    rw [List.getElem?_eq_getElem hm]
    simp [madeCells, hj, hm]
  · exact (List.getElem?_eq_none (by simp [madeCells]; omega)).trans (List.getElem?_eq_none (by rw [flat_rep_len, hzl]; omega)).symm
theorem arr_get {α : Type} (f : α → Value) (l : List α) (i : Nat) (z : α) (hi : i < l.length) : (l.map f)[i]? = some (f (l.getD i z)) := by
  rw [List.getElem?_map, List.getElem?_eq_getElem hi, List.getD_eq_getElem?_getD, List.getElem?_eq_getElem hi]; rfl
def isAggD : TypeDesc → Bool
  | .struct _ => true
  | .array _ _ => true
  | _ => false
/-- an array of one cell each, at a place -/
theorem arr_index1 {P : Program} {t len e : Nat} (ht : P.underlying t = some (.array len e)) {d : TypeDesc} (hd : P.underlying e = some d) (hn : isAggD d = false) (hi : (P.info? e).map (·.size) = some 1) {k : IntKind} {i : Int} (h0 : 0 ≤ i) (h1 : i < (len : Int)) {xs : List Value} {v : Value} (hv : xs[i.toNat]? = some v) {w : World} {K : Value → World → Prop} (hk : K v w) :
    SemOk P (Instr.index t (.agg ⟨xs⟩) (.int k i)) K w := by
  obtain ⟨inf', hi', hs⟩ := Option.map_eq_some_iff.1 hi
  refine ⟨v, w, ?_, hk⟩
  have hg : (⟨xs⟩ : Array Value)[i.toNat * 1]? = some v := by rw [Nat.mul_one]; simpa using hv
  have hr : (isAgg e).run P w = .ok false w := by
    rw [isAgg_run hd]
    cases d <;> first | rfl | cases hn
  simp [Instr.index, asIntOf, underlying, ht, h0, h1, part, hr, sizeOf, typeInfo, hi', hs, hv]
/-- an array of structs, at a place -/
theorem arr_indexS {P : Program} {t len e sz : Nat} (ht : P.underlying t = some (.array len e)) {d : TypeDesc} (hd : P.underlying e = some d) (hn : isAggD d = true) (hi : (P.info? e).map (·.size) = some sz) {k : IntKind} {i : Int} {α : Type} (f : α → List Value) (hf : ∀ x, (f x).length = sz) (l : List α) (hll : l.length = len) {cs : List Value} (hc : cs = l.flatMap f) (h0 : 0 ≤ i) (h1 : i < (len : Int)) {w : World} {K : Value → World → Prop}
    (hk : ∀ y, l[i.toNat]? = some y → K (.agg ⟨f y⟩) w) : SemOk P (Instr.index t (.agg ⟨cs⟩) (.int k i)) K w := by
  obtain ⟨inf', hi', hs⟩ := Option.map_eq_some_iff.1 hi
  have hlt : i.toNat < l.length := by omega
  have hy : l[i.toNat]? = some l[i.toNat] := List.getElem?_eq_getElem hlt
  refine ⟨_, w, ?_, hk _ hy⟩
  have hr : (isAgg e).run P w = .ok true w := by
    rw [isAgg_run hd]
    cases d <;> first | rfl | cases hn
  subst hc
  have hlen : ∀ m : List α, (m.flatMap f).length = m.length * sz := by
    intro m
    induction m with
    | nil => simp
    | cons a m ih => simp [List.flatMap_cons, hf, ih, Nat.add_mul]; omega
  have h2 : l = l.take i.toNat ++ (l[i.toNat] :: l.drop (i.toNat + 1)) := by simp
  have hsp := congrArg (List.flatMap f) h2
  rw [List.flatMap_append, List.flatMap_cons] at hsp
  have hpre : ((l.take i.toNat).flatMap f).length = i.toNat * sz := by rw [hlen, List.length_take, Nat.min_eq_left (by omega)]
  have hcut : ((l.flatMap f).drop (i.toNat * sz)).take sz = f l[i.toNat] := by
    rw [hsp, ← hpre, List.drop_left, ← hf l[i.toNat], List.take_left]
  simp [Instr.index, asIntOf, underlying, ht, h0, h1, part, hr, sizeOf, typeInfo, hi', hs, hcut]
theorem addA (b i : Nat) : (⟨b, 0, none⟩ : Addr).add (i * 1) = ⟨b, i, none⟩ := by rw [add_mk, Nat.zero_add, Nat.mul_one]
/-- a cell of an array in a box, by its place -/
theorem Box.cellA {w : World} {b : Nat} {l : List Value} (h : Box w b l) {i : Nat} {v : Value} (hv : l[i]? = some v) : w.cell? ((⟨b, 0, none⟩ : Addr).add (i * 1)) = some v := by
  rw [addA]; exact Box.cell h hv
theorem Box.wrA {w : World} {b : Nat} {l : List Value} (h : Box w b l) {i : Nat} (hi : i < l.length) : Writable w ((⟨b, 0, none⟩ : Addr).add (i * 1)) 1 := by
  rw [addA]; exact Box.writable h (by omega)
theorem set2f {α : Type} (f : α → Value) (a b x : α) (i : Nat) (hi : i < 2) : [f a, f b].set i (f x) = [f (if i = 0 then x else a), f (if i = 1 then x else b)] := by
  match i, hi with
  | 0, _ => simp
  | 1, _ => simp
theorem get2f {α : Type} (f : α → Value) (a b : α) (i : Nat) (hi : i < 2) : [f a, f b][i]? = some (f (if i = 0 then a else b)) := by
  match i, hi with
  | 0, _ => simp
  | 1, _ => simp
theorem Mem.setE {n0 : Nat} {rs m0 : List Nat} {fr : List (List Nat × Nat × World)} {ds : List Nat} {w w' : World} {ps : List Pc} (o : Mem n0 rs m0 fr ds w ps) (k : Nat) {b i : Nat} {l l' : List Value} {v : Value} (e : w' = w.setCell ⟨b, i, none⟩ v) (hk : ps[k]? = some (.box b l)) (hl : l.set i v = l') (hgv : Gv v := by first | exact trivial | exact rfl) : Mem n0 rs m0 fr ds w' (ps.set k (.box b l')) := hl ▸ o.set k e hk hgv
/-- a new row with room, nothing in it -/
theorem make_cap {P : Program} {t e bytes : Nat} (hT : SlTy P t e 1 bytes) {z : Value} (hz : ∀ i, P.info? e = some i → i.zero = some z) (hcell : z.cells = #[z]) (c : Int) (h0 : 0 ≤ c) (hn : c < 4294967296) (hb : bytes < 2 ^ 10) {w : World} {K : Value → World → Prop}
    (hk : ∀ w', Rw w' 0 e 1 (some ⟨w.heap.size, 0, none⟩) 0 c.toNat [] → Keep [] w w' → K (.slice (some ⟨w.heap.size, 0, none⟩) 0 c.toNat) w') : SemOk P (Instr.makeSlice t (.int .i64 0) (.int .i64 c)) K w := by
  obtain ⟨i, z', ht, hi, hz', hsz, hby, hzs, hpos⟩ := hT
  have := hz i hi
  rw [hz'] at this
  cases this
  have hle : (i.bytes : Int) * c ≤ 1024 * 4294967296 := Int.mul_le_mul (by rw [hby]; omega) (by omega) h0 (by omega)
  refine ⟨_, _, run_make w (P := P) t e i _ ht hi hz' .i64 .i64 0 c (by omega) (by omega) (by omega) (by omega), ?_⟩
  refine hk _ ⟨rfl, .inr ⟨w.heap.size, _, _, rfl, Nat.zero_le _, heap_alloc_new w _, Nat.zero_le _, by unfold maxLen; omega, ?_, by simp⟩⟩ (keep_alloc rfl)
  simp [madeCells, hsz]
/-! ## Objects that point to themselves; rows that are new -/
/-- a pointer that is nil, or points to a place of a block -/
def SelfP (off b : Nat) (v : Value) : Prop := v = .pointer none ∨ v = .pointer (some ⟨b, off, none⟩)
theorem SelfP.one {off b : Nat} {v : Value} (h : SelfP off b v) : v.oneCell' = true := by rcases h with rfl | rfl <;> rfl
theorem newq_lit {n b : Nat} (h : n ≤ b) : ∀ q, Vc.blk (some ⟨b, 0, none⟩) = some q → n ≤ q := fun q hq => by
  have : b = q := Option.some.inj hq
  omega
theorem newq_app {n k : Nat} {a : Option Addr} (h : Vc.blk a = Vc.blk none ∨ Vc.blk a = some k) (hk : n ≤ k) : ∀ q, Vc.blk a = some q → n ≤ q := fun q hq => by
  rcases h with h | h
  · rw [h] at hq; cases hq
  · rw [h] at hq
    have : k = q := Option.some.inj hq
    omega
theorem newq_app2 {n k : Nat} {a b : Option Addr} (h : Vc.blk a = Vc.blk b ∨ Vc.blk a = some k) (hb : ∀ q, Vc.blk b = some q → n ≤ q) (hk : n ≤ k) : ∀ q, Vc.blk a = some q → n ≤ q := fun q hq => by
  rcases h with h | h
  · rw [h] at hq; exact hb q hq
  · rw [h] at hq
    have : k = q := Option.some.inj hq
    omega
end Go.Lv
