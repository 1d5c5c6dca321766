/- What code does with memory, told in plain values: pieces that a call owns, data that stays, and how they pass from world to world. -/
import Derived.Test.YtdbdkdmgfiiljaaMemE
import Derived.Test.YtdbdkdmgfiiljaaVcI
import Derived.Test.YtdbdkdmgfiiljaaHeld
import Derived.ChangeKeysEq
import Derived.Lib.ConvBytes
import Derived.Lib.AppendStr
import Derived.Laws.BytesArg
namespace Go.Lv
open Go.Vc
open Go.RowKit (Below)
theorem _root_.Go.Vc.Keep.refl (m : List Nat) (w : World) : Keep m w w := ⟨rfl, rfl, rfl, Nat.le_refl _, fun _ _ _ => rfl⟩
theorem _root_.Go.Vc.Keep.trans {m : List Nat} {a b c : World} (h : Keep m a b) (k : Keep m b c) : Keep m a c :=
  ⟨k.os.trans h.os, k.tape.trans h.tape, k.output.trans h.output, Nat.le_trans h.size k.size, fun j hj hm => (k.block j (Nat.lt_of_lt_of_le hj h.size) hm).trans (h.block j hj hm)⟩
theorem _root_.Go.Vc.Keep.mono {m m' : List Nat} {a b : World} (h : Keep m a b) (hs : ∀ k ∈ m, k ∈ m') : Keep m' a b :=
  ⟨h.os, h.tape, h.output, h.size, fun j hj hm => h.block j hj fun h => hm (hs j h)⟩
theorem _root_.Go.Vc.Keep.ofExt {a b : World} (h : Ext a b) : Keep [] a b := ⟨h.os, h.tape, h.output, h.size, fun j hj _ => Below.block h j hj⟩
theorem _root_.Go.Vc.Keep.ext {a b : World} (h : Keep [] a b) : Ext a b := ⟨h.os, h.tape, h.output, h.size, fun j hj => h.block j hj (by simp)⟩
theorem _root_.Go.Vc.Keep.grown {a b : World} {row : Option Nat} (h : a.grownBy b row) : Keep row.toList a b := ⟨h.os, h.tape, h.output, h.size, fun j hj hm => h.block j hj fun e => hm (by simp [← e])⟩
structure MOk (m : List Nat) (w : World) : Prop where
  lt : ∀ b ∈ m, b < w.heap.size
  off : ∀ b ∈ held.bs, b ∉ m
  tab : held.T w
theorem MOk.nil {w : World} (h : held.T w) : MOk [] w := ⟨fun _ h => (by cases h), fun _ _ h => (by cases h), h⟩
structure KeepD (m : List Nat) (w w' : World) : Prop where
  size : w.heap.size ≤ w'.heap.size
  block : ∀ k o, w.heap[k]? = some o → k ∉ m → plainO o = true → w'.heap[k]? = some o
theorem _root_.Go.Vc.Keep.d {m : List Nat} {w w' : World} (h : Keep m w w') : KeepD m w w' := ⟨h.size, fun k o hk hm _ => by rw [h.block k (Array.getElem?_eq_some_iff.1 hk).1 hm]; exact hk⟩
structure Step (m : List Nat) (w : World) (m' : List Nat) (w' : World) : Prop where
  keep : KeepD m w w'
  sub : ∀ k ∈ m', k ∈ m ∨ w.heap.size ≤ k
theorem Step.trans {m m' m'' : List Nat} {w w' w'' : World} (h : Step m w m' w') (k : Step m' w' m'' w'') : Step m w m'' w'' := by
  refine ⟨⟨Nat.le_trans h.keep.size k.keep.size, fun j o hj hm hc => k.keep.block j o (h.keep.block j o hj hm hc) (fun hm' => (h.sub j hm').elim hm (fun hx => by have := (Array.getElem?_eq_some_iff.1 hj).1; omega)) hc⟩, fun j hj => ?_⟩
  rcases k.sub j hj with h1 | h1
  · exact h.sub j h1
  · exact .inr (Nat.le_trans h.keep.size h1)
theorem Step.refl (m : List Nat) (w : World) : Step m w m w := ⟨(Keep.refl _ _).d, fun _ h => .inl h⟩
theorem Step.drop {m m' : List Nat} (w : World) (h : ∀ k ∈ m', k ∈ m) : Step m w m' w := ⟨(Keep.refl _ _).d, fun k hk => .inl (h k hk)⟩
theorem cell_obj {w : World} {p : Addr} {v : Value} (h : w.cell? p = some v) : ∃ o, w.heap[p.block]? = some o ∧ plainO o = true := by
  unfold World.cell? at h
  split at h
  · rename_i hh; exact ⟨_, hh, rfl⟩
  · cases h
theorem cells_obj {w : World} {p : Addr} {xs : List Value} (h : CellsAt w p xs) (hx : xs ≠ []) : ∃ o, w.heap[p.block]? = some o ∧ plainO o = true := by
  have := cell_obj (h 0 (List.length_pos_iff.2 hx))
  rwa [add_block] at this
def All2 {α β : Type} (R : α → β → Prop) : List α → List β → Prop
  | [], [] => True
  | a :: l, b :: m => R a b ∧ All2 R l m
  | _, _ => False
theorem All2.mono {α β : Type} {R R' : α → β → Prop} (h : ∀ a b, R a b → R' a b) : ∀ {l : List α} {m : List β}, All2 R l m → All2 R' l m
  | [], [], _ => trivial
  | _ :: _, _ :: _, ⟨h1, h2⟩ => ⟨h _ _ h1, All2.mono h h2⟩
theorem All2.length {α β : Type} {R : α → β → Prop} : ∀ {l : List α} {m : List β}, All2 R l m → l.length = m.length
  | [], [], _ => rfl
  | _ :: _, _ :: _, ⟨_, h2⟩ => by simp [All2.length h2]
theorem All2.append {α β : Type} {R : α → β → Prop} : ∀ {l l' : List α} {m m' : List β}, All2 R l m → All2 R l' m' → All2 R (l ++ l') (m ++ m')
  | [], _, [], _, _, h => h
  | _ :: _, _, _ :: _, _, ⟨h1, h2⟩, h => ⟨h1, All2.append h2 h⟩
theorem All2.get {α β : Type} {R : α → β → Prop} {x : α} : ∀ {l : List α} {m : List β} {i : Nat}, All2 R l m → l[i]? = some x → ∃ y, m[i]? = some y ∧ R x y
  | [], [], i, _, h => (by simp at h)
  | _ :: _, b :: _, 0, ⟨h1, _⟩, h => ⟨b, rfl, by simp at h; exact h ▸ h1⟩
  | _ :: l, _ :: m, i + 1, ⟨_, h2⟩, h => by
    have := All2.get (l := l) (m := m) (i := i) h2 (by simpa using h)
    simpa using this
theorem All2.take {α β : Type} {R : α → β → Prop} : ∀ {l : List α} {m : List β} (i : Nat), All2 R l m → All2 R (l.take i) (m.take i)
  | _, _, 0, _ => trivial
  | [], [], _ + 1, _ => trivial
  | _ :: _, _ :: _, _ + 1, ⟨h1, h2⟩ => ⟨h1, All2.take _ h2⟩
theorem All2.drop {α β : Type} {R : α → β → Prop} : ∀ {l : List α} {m : List β} (i : Nat), All2 R l m → All2 R (l.drop i) (m.drop i)
  | _, _, 0, h => h
  | [], [], _ + 1, _ => trivial
  | _ :: l, _ :: m, i + 1, ⟨_, h2⟩ => All2.drop (l := l) (m := m) i h2
structure Cod (α : Type) where
  size : Nat
  pos : 0 < size
  rep : List Nat → World → α → List Value → Prop
  len : ∀ {m w x cs}, rep m w x cs → cs.length = size
  one : ∀ {m w x cs}, rep m w x cs → ∀ u ∈ cs, u.oneCell' = true
  st : ∀ {m w x cs m' w'}, rep m w x cs → Step m w m' w' → rep m' w' x cs
def cInt (k : IntKind) : Cod Int := { size := 1, pos := by decide, rep := fun _ _ x cs => cs = [.int k x], len := fun h => by subst h; rfl, one := fun h u hu => by subst h; simp at hu; subst hu; rfl, st := fun h _ => h }
def cBool : Cod Bool := { size := 1, pos := by decide, rep := fun _ _ x cs => cs = [.bool x], len := fun h => by subst h; rfl, one := fun h u hu => by subst h; simp at hu; subst hu; rfl, st := fun h _ => h }
def cStr : Cod (List UInt8) := { size := 1, pos := by decide, rep := fun _ _ x cs => cs = [.string (mkS x)], len := fun h => by subst h; rfl, one := fun h u hu => by subst h; simp at hu; subst hu; rfl, st := fun h _ => h }
def cPair {α β : Type} (c : Cod α) (d : Cod β) : Cod (α × β) where
  size := c.size + d.size
  pos := by have := c.pos; omega
  rep := fun m w x cs => ∃ a b, cs = a ++ b ∧ c.rep m w x.1 a ∧ d.rep m w x.2 b
  len := by rintro m w x cs ⟨a, b, rfl, h1, h2⟩; simp [c.len h1, d.len h2]
  one := by
    rintro m w x cs ⟨a, b, rfl, h1, h2⟩ u hu
    rcases List.mem_append.1 hu with h | h
    · exact c.one h1 u h
    · exact d.one h2 u h
  st := by rintro m w x cs m' w' ⟨a, b, rfl, h1, h2⟩ s; exact ⟨a, b, rfl, c.st h1 s, d.st h2 s⟩
def cMap {α β : Type} (f : β → α) (c : Cod α) : Cod β := { size := c.size, pos := c.pos, rep := fun m w x cs => c.rep m w (f x) cs, len := c.len, one := c.one, st := c.st }
theorem flat_len {css : List (List Value)} {k : Nat} (h : ∀ cs ∈ css, cs.length = k) : css.flatten.length = css.length * k := by
  induction css with
  | nil => simp
  | cons a l ih => rw [List.flatten_cons, List.length_append, h a (by simp), ih (fun c hc => h c (by simp [hc])), List.length_cons, Nat.succ_mul]; omega
theorem rows_len {α : Type} (c : Cod α) {m : List Nat} {w : World} : ∀ {l : List α} {css : List (List Value)}, All2 (c.rep m w) l css → ∀ cs ∈ css, cs.length = c.size
  | [], [], _, _, h => (by cases h)
  | _ :: _, _ :: _, ⟨h1, h2⟩, cs, h => by
    cases h with
    | head => exact c.len h1
    | tail _ h => exact rows_len c h2 cs h
theorem rows_one {α : Type} (c : Cod α) {m : List Nat} {w : World} : ∀ {l : List α} {css : List (List Value)}, All2 (c.rep m w) l css → ∀ u ∈ css.flatten, u.oneCell' = true
  | [], [], _, _, h => (by simp at h)
  | _ :: _, _ :: _, ⟨h1, h2⟩, u, h => by
    rw [List.flatten_cons] at h
    rcases List.mem_append.1 h with h | h
    · exact c.one h1 u h
    · exact rows_one c h2 u h
def El {α : Type} (c : Cod α) (m : List Nat) (w : World) (l : List α) (xs : List Value) : Prop := ∃ css, xs = css.flatten ∧ All2 (c.rep m w) l css
theorem El.st {α : Type} {c : Cod α} {m m' : List Nat} {w w' : World} {l : List α} {xs : List Value} (h : El c m w l xs) (s : Step m w m' w') : El c m' w' l xs := by
  obtain ⟨css, rfl, h⟩ := h; exact ⟨css, rfl, h.mono fun _ _ h => c.st h s⟩
theorem El.nil {α : Type} (c : Cod α) (m : List Nat) (w : World) : El c m w [] [] := ⟨[], rfl, trivial⟩
theorem El.cons {α : Type} {c : Cod α} {m : List Nat} {w : World} {x : α} {cs : List Value} {l : List α} {xs : List Value} (h : c.rep m w x cs) (k : El c m w l xs) : El c m w (x :: l) (cs ++ xs) := by
  obtain ⟨css, rfl, k⟩ := k; exact ⟨cs :: css, rfl, h, k⟩
theorem El.app {α : Type} {c : Cod α} {m : List Nat} {w : World} {l l' : List α} {xs xs' : List Value} (h : El c m w l xs) (k : El c m w l' xs') : El c m w (l ++ l') (xs ++ xs') := by
  obtain ⟨css, rfl, h⟩ := h
  obtain ⟨css', rfl, k⟩ := k
  exact ⟨css ++ css', by simp, h.append k⟩
theorem El.len {α : Type} {c : Cod α} {m : List Nat} {w : World} {l : List α} {xs : List Value} (h : El c m w l xs) : xs.length = l.length * c.size := by
  obtain ⟨css, rfl, h⟩ := h; rw [flat_len (rows_len c h), h.length]
theorem El.one {α : Type} {c : Cod α} {m : List Nat} {w : World} {l : List α} {xs : List Value} (h : El c m w l xs) : ∀ u ∈ xs, u.oneCell' = true := by
  obtain ⟨css, rfl, h⟩ := h; exact rows_one c h
theorem flat_take {css : List (List Value)} {k : Nat} (h : ∀ cs ∈ css, cs.length = k) : ∀ (i : Nat), css.flatten.take (i * k) = (css.take i).flatten := by
  induction css with
  | nil => intro i; simp
  | cons a l ih =>
    intro i
    cases i with
    | zero => simp
    | succ i =>
      have ha := h a (by simp)
      rw [List.flatten_cons, List.take_succ_cons, List.flatten_cons, ← ih (fun c hc => h c (by simp [hc])), List.take_append, ha, Nat.succ_mul, Nat.add_sub_cancel, List.take_of_length_le (by omega)]
theorem flat_drop {css : List (List Value)} {k : Nat} (h : ∀ cs ∈ css, cs.length = k) : ∀ (i : Nat), css.flatten.drop (i * k) = (css.drop i).flatten := by
  induction css with
  | nil => intro i; simp
  | cons a l ih =>
    intro i
    cases i with
    | zero => simp
    | succ i =>
      have ha := h a (by simp)
      rw [List.flatten_cons, List.drop_succ_cons, ← ih (fun c hc => h c (by simp [hc])), List.drop_append, ha, Nat.succ_mul, Nat.add_sub_cancel, List.drop_of_length_le (by omega)]
      simp
theorem El.take {α : Type} {c : Cod α} {m : List Nat} {w : World} {l : List α} {xs : List Value} (h : El c m w l xs) (i : Nat) : El c m w (l.take i) (xs.take (i * c.size)) := by
  obtain ⟨css, rfl, h⟩ := h; exact ⟨css.take i, flat_take (rows_len c h) i, h.take i⟩
theorem El.drop {α : Type} {c : Cod α} {m : List Nat} {w : World} {l : List α} {xs : List Value} (h : El c m w l xs) (i : Nat) : El c m w (l.drop i) (xs.drop (i * c.size)) := by
  obtain ⟨css, rfl, h⟩ := h; exact ⟨css.drop i, flat_drop (rows_len c h) i, h.drop i⟩
theorem El.get {α : Type} {c : Cod α} {m : List Nat} {w : World} {l : List α} {xs : List Value} (h : El c m w l xs) {i : Nat} {x : α} (hx : l[i]? = some x) : ∃ cs ys zs, xs = ys ++ cs ++ zs ∧ ys.length = i * c.size ∧ c.rep m w x cs := by
  obtain ⟨css, rfl, h⟩ := h
  obtain ⟨cs, hc, hr⟩ := h.get hx
  have hi : i < css.length := (List.getElem?_eq_some_iff.1 hc).1
  have hcs : css[i] = cs := (List.getElem?_eq_some_iff.1 hc).2
  refine ⟨cs, (css.take i).flatten, (css.drop (i + 1)).flatten, ?_, ?_, hr⟩
  · have : css = css.take i ++ ([cs] ++ css.drop (i + 1)) := by rw [← hcs]; simp
    conv => lhs; rw [this]
    simp
  · rw [flat_len (k := c.size) (fun cs hcs => rows_len c h cs (List.mem_of_mem_take hcs)), List.length_take, Nat.min_eq_left (by omega)]
theorem CellsAt.sub {w : World} {p : Addr} {cs ys zs : List Value} (h : CellsAt w p (ys ++ cs ++ zs)) (hc : cs ≠ []) : CellsAt w (p.add ys.length) cs := CellsAt.piece h hc
def SlR {α : Type} (c : Cod α) (m : List Nat) (w : World) (a : Option Addr) (l : List α) : Prop :=
  l = [] ∨ ∃ p xs, a = some p ∧ p.block ∉ m ∧ CellsAt w p xs ∧ El c m w l xs
theorem CellsAt.lt {w : World} {p : Addr} {xs : List Value} (h : CellsAt w p xs) (hx : xs ≠ []) : p.block < w.heap.size := by
  have := cell_lt (h 0 (List.length_pos_iff.2 hx))
  rwa [add_block] at this
theorem CellsAt.kept {w w' : World} {p : Addr} {xs : List Value} (h : CellsAt w p xs) (hk : xs ≠ [] → w'.heap[p.block]? = w.heap[p.block]?) : CellsAt w' p xs := by
  intro i hi
  have := h i hi
  have hne : xs ≠ [] := by intro e; subst e; simp at hi
  unfold World.cell? at this ⊢
  rw [add_block] at this ⊢
  rw [hk hne]
  exact this
theorem SlR.st {α : Type} {c : Cod α} {m m' : List Nat} {w w' : World} {a : Option Addr} {l : List α} (h : SlR c m w a l) (s : Step m w m' w') : SlR c m' w' a l := by
  rcases h with h | ⟨p, xs, rfl, hp, hc, he⟩
  · exact .inl h
  · by_cases hx : xs = []
    · left
      have := he.len
      rw [hx] at this
      have hp := c.pos
      cases l with
      | nil => rfl
      | cons a l =>
        exfalso
        have h2 := Nat.mul_pos (Nat.succ_pos l.length) hp
        rw [List.length_cons, List.length_nil] at this
        rw [← this] at h2
        exact Nat.lt_irrefl _ h2
    · have hlt := CellsAt.lt hc hx
      obtain ⟨ob, h1, h2⟩ := cells_obj hc hx
      exact .inr ⟨p, xs, rfl, fun hm => (s.sub _ hm).elim hp (by omega), CellsAt.kept hc fun _ => by rw [s.keep.block _ ob h1 hp h2, h1], he.st s⟩
def ElAt (m : List Nat) (w : World) (q : Addr) (cs : List Value) : Prop := (q.block ∉ m ∧ ∃ o, w.heap[q.block]? = some o ∧ plainO o = true) ∧ CellsAt w q cs
theorem ElAt.held {m r : List Nat} {w u : World} {q : Addr} {cs : List Value} (h : ElAt m w q cs) (hu : Keep r w u) (hr : ∀ b ∈ r, b ∈ m) : CellsAt u q cs :=
  CellsAt.kept h.2 fun hx => hu.block _ (CellsAt.lt h.2 hx) fun hm => h.1.1 (hr _ hm)
theorem CellsAt.head {w : World} {q : Addr} {c : Value} {cs : List Value} (h : CellsAt w q (c :: cs)) : w.cell? q = some c := by
  have := h 0 (by simp)
  simpa [Addr.add] using this
theorem SlR.nil {α : Type} (c : Cod α) (m : List Nat) (w : World) (a : Option Addr) : SlR c m w a [] := .inl rfl
theorem SlR.elem {α : Type} {c : Cod α} {m : List Nat} {w : World} {a : Option Addr} {l : List α} (h : SlR c m w a l) {i : Int} (hi : 0 ≤ i ∧ i < (l.length : Int)) :
    ∃ p x cs, a = some p ∧ l[i.toNat]? = some x ∧ ElAt m w (p.add (i.toNat * c.size)) cs ∧ c.rep m w x cs := by
  rcases h with rfl | ⟨p, xs, rfl, hp, hc, he⟩
  · simp at hi; omega
  · have hlt : i.toNat < l.length := by omega
    obtain ⟨cs, ys, zs, hx, hy, hr⟩ := he.get (List.getElem?_eq_getElem hlt)
    subst hx
    have hne : cs ≠ [] := fun e => by have := c.len hr; rw [e] at this; have := c.pos; simp at *; omega
    have hcc := CellsAt.sub hc hne
    rw [hy] at hcc
    exact ⟨p, _, cs, rfl, List.getElem?_eq_getElem hlt, ⟨⟨by rw [add_block]; exact hp, cells_obj hcc hne⟩, hcc⟩, hr⟩
def cSl {α : Type} (c : Cod α) : Cod (List α) where
  size := 1
  pos := by decide
  rep := fun m w l cs => ∃ a cap, cs = [.slice a l.length cap] ∧ l.length ≤ cap ∧ SlR c m w a l
  len := by rintro m w x cs ⟨a, cap, rfl, _⟩; rfl
  one := by rintro m w x cs ⟨a, cap, rfl, _⟩ u hu; simp at hu; subst hu; rfl
  st := by rintro m w x cs m' w' ⟨a, cap, rfl, h1, h2⟩ s; exact ⟨a, cap, rfl, h1, h2.st s⟩
inductive Pc where
  | box (b : Nat) (l : List Value)
  | row (e size : Nat) (a : Option Addr) (n c : Nat) (xs : List Value)
  | win (a : Option Addr) (xs rest : List Value) (T : Nat) (fz : Nat × Nat)
  | raw (b : Nat) (ob : Obj)
def Wn (w : World) (a : Option Addr) (xs rest : List Value) (T : Nat) (fz : Nat × Nat) : Prop :=
  (a = none ∧ xs = []) ∨ ∃ g, a = some ⟨g, 0, none⟩ ∧ w.heap[g]? = some (.cells ⟨xs ++ rest⟩ T fz) ∧ (fz = (0, 0) ∨ xs.length ≤ fz.1)
def Pc.blk : Pc → Option Nat
  | .box b _ => some b
  | .row _ _ a _ _ _ => Vc.blk a
  | .win a _ _ _ _ => Vc.blk a
  | .raw b _ => some b
def Pc.holds (w : World) : Pc → Prop
  | .box b l => Box w b l
  | .row e size a n c xs => Rw w 0 e size a n c xs
  | .win a xs rest T fz => Wn w a xs rest T fz
  | .raw b ob => w.heap[b]? = some ob ∧ plainO ob = true
theorem Pc.holds.lt {w : World} {p : Pc} (h : p.holds w) {b : Nat} (hb : p.blk = some b) : b < w.heap.size := by
  cases p with
  | box b' l => cases hb; exact Box.lt h
  | row e size a n c xs => exact (Rw.lt h b hb).2
  | win a xs rest T fz =>
    rcases h with ⟨rfl, _⟩ | ⟨g, rfl, hg, _⟩
    · cases hb
    · cases hb; exact (Array.getElem?_eq_some_iff.1 hg).1
  | raw b' ob => cases hb; exact (Array.getElem?_eq_some_iff.1 h.1).1
theorem Pc.holds.kept {w w' : World} {p : Pc} (h : p.holds w) (hk : ∀ b, p.blk = some b → w'.heap[b]? = w.heap[b]?) : p.holds w' := by
  cases p with
  | box b l => obtain ⟨T, hT⟩ := h; exact ⟨T, by rw [hk b rfl]; exact hT⟩
  | row e size a n c xs => exact Rw.kept h hk
  | win a xs rest T fz =>
    rcases h with h | ⟨g, rfl, hg, hf⟩
    · exact .inl h
    · exact .inr ⟨g, rfl, by rw [hk g rfl]; exact hg, hf⟩
  | raw b ob => exact ⟨by rw [hk b rfl]; exact h.1, h.2⟩
def ms : List Pc → List Nat → List Nat
  | [], m => m
  | p :: ps, m => p.blk.toList ++ ms ps m
theorem mem_ms {ps : List Pc} {m : List Nat} {k : Nat} : k ∈ ms ps m ↔ (∃ p ∈ ps, p.blk = some k) ∨ k ∈ m := by
  induction ps with
  | nil => simp [ms]
  | cons p ps ih =>
    simp only [ms, List.mem_append, ih, Option.mem_toList, List.mem_cons]
    constructor
    · rintro (h | ⟨q, hq, h⟩ | h)
      · exact .inl ⟨p, .inl rfl, h⟩
      · exact .inl ⟨q, .inr hq, h⟩
      · exact .inr h
    · rintro (⟨q, rfl | hq, h⟩ | h)
      · exact .inl h
      · exact .inr (.inl ⟨q, hq, h⟩)
      · exact .inr (.inr h)
theorem Pc.holds.cells {w : World} {p : Pc} (h : p.holds w) {b : Nat} (hb : p.blk = some b) : ∃ o, w.heap[b]? = some o ∧ plainO o = true := by
  cases p with
  | box b' l => cases hb; obtain ⟨T, hT⟩ := h; exact ⟨_, hT, rfl⟩
  | row e size a n c xs =>
    rcases h.2 with ⟨hv, _⟩ | ⟨g, cap, cur, hv, _, hh, _⟩
    · cases hv; cases hb
    · cases hv; cases hb; exact ⟨_, hh, rfl⟩
  | win a xs rest T fz =>
    rcases h with ⟨rfl, _⟩ | ⟨g, rfl, hg, _⟩
    · cases hb
    · cases hb; exact ⟨_, hg, rfl⟩
  | raw b' ob => cases hb; exact ⟨_, h.1, h.2⟩
structure Mem (n0 : Nat) (rs m0 : List Nat) (fr : List (List Nat × Nat × World)) (ds : List Nat) (w : World) (ps : List Pc) : Prop where
  le : n0 ≤ w.heap.size
  lt : ∀ b ∈ m0, b < n0
  keep : ∀ f ∈ fr, KeepR f.1 f.2.1 f.2.2 w
  fmine : ∀ f ∈ fr, f.2.1 ≤ f.2.2.heap.size ∧ ∀ p ∈ ps, ∀ b, p.blk = some b → b ∈ f.1 ∨ f.2.1 ≤ b
  holds : ∀ p ∈ ps, p.holds w
  mine : ∀ p ∈ ps, ∀ b, p.blk = some b → b ∈ rs ∨ n0 ≤ b
  dif : ps.Pairwise fun p q => ∀ b, p.blk = some b → q.blk ≠ some b
  marks : MarksOk ds w ∧ ∀ D ∈ ds, n0 ≤ D
section
variable {n0 : Nat} {rs m0 : List Nat} {fr : List (List Nat × Nat × World)} {ds : List Nat} {w w' : World} {ps : List Pc}
theorem marks_nil (w : World) (n : Nat) : MarksOk [] w ∧ ∀ D ∈ ([] : List Nat), n ≤ D := ⟨⟨List.nodup_nil, by simp⟩, by simp⟩
theorem Mem.start (h : ∀ b ∈ m0, b < w.heap.size) : Mem w.heap.size [] m0 [([], w.heap.size, w)] [] w [] :=
  ⟨Nat.le_refl _, h, fun f hf => by simp at hf; subst hf; exact KeepR.refl _ _ _, fun f hf => by simp at hf; subst hf; exact ⟨Nat.le_refl _, fun _ h => (by cases h)⟩, fun _ h => (by cases h), fun _ h => (by cases h), List.Pairwise.nil, marks_nil _ _⟩
theorem Mem.mlt (o : Mem n0 rs m0 fr ds w ps) : ∀ b ∈ ms ps m0, b < w.heap.size := by
  intro b hb
  rcases mem_ms.1 hb with ⟨p, hp, h⟩ | h
  · exact (o.holds p hp).lt h
  · exact Nat.lt_of_lt_of_le (o.lt b h) o.le
theorem Mem.mo {w0 : World} (o : Mem w0.heap.size rs m0 fr ds w ps) (hm : MOk m0 w0) (hr : ∀ b ∈ rs, b ∈ m0) (hf : (rs, w0.heap.size, w0) ∈ fr) : MOk (ms ps m0) w where
  lt := o.mlt
  off := fun b hb hm' => by
    rcases mem_ms.1 hm' with ⟨p, hp, h⟩ | h
    · rcases o.mine p hp b h with h1 | h1
      · exact hm.off b hb (hr b h1)
      · exact absurd (held.lt w0 hm.tab b hb) (Nat.not_lt.2 h1)
    · exact hm.off b hb h
  tab := held.stable w0 w (fun b hb => (o.keep _ hf).kp.block b (held.lt w0 hm.tab b hb) (fun h => hm.off b hb (hr b h))) hm.tab
theorem Mem.done {w0 : World} (o : Mem n0 rs m0 [(rs, w0.heap.size, w0)] ds w ps) : Keep rs w0 w := by
  have h := o.keep _ (List.mem_cons_self)
  exact ⟨h.kp.os, h.kp.tape, h.kp.output, h.kp.size, h.kp.block⟩
theorem keepR_step {M l : List Nat} {B : Nat} {W : World} (h : KeepR M B W w) (hB : B ≤ W.heap.size) (hK : Keep l w w') (hl : ∀ b ∈ l, (b ∈ M ∨ B ≤ b) ∧ ∃ o, w.heap[b]? = some o ∧ plainO o = true) : KeepR M B W w' := by
  refine ⟨⟨hK.os.trans h.kp.os, hK.tape.trans h.kp.tape, hK.output.trans h.kp.output, Nat.le_trans h.kp.size hK.size, fun k hk hm => ?_⟩, fun k ob hk ho hc => ?_⟩
  · rw [hK.block k (Nat.lt_of_lt_of_le hk (Nat.le_trans hB h.kp.size)) (fun hkl => ?_), h.kp.block k hk hm]
    rcases (hl k hkl).1 with h1 | h1
    · exact hm h1
    · omega
  · have h2 := h.rest k ob hk ho hc
    rw [hK.block k (Array.getElem?_eq_some_iff.1 h2).1 (fun hkl => ?_), h2]
    obtain ⟨o', h3, h4⟩ := (hl k hkl).2
    rw [h2] at h3
    cases h3
    rw [hc] at h4; cases h4
theorem marks_keep {l : List Nat} (h : MarksOk ds w) (hK : Keep l w w') (hl : ∀ b ∈ l, ∃ o, w.heap[b]? = some o ∧ plainO o = true) : MarksOk ds w' :=
  ⟨h.1, fun D hD => by
    have h2 := h.2 D hD
    rw [hK.block D (Array.getElem?_eq_some_iff.1 h2).1 (fun hkl => ?_), h2]
    obtain ⟨o', h3, h4⟩ := hl D hkl
    rw [h2] at h3; cases h3; cases h4⟩
theorem Mem.ext (o : Mem n0 rs m0 fr ds w ps) (e : Keep [] w w') : Mem n0 rs m0 fr ds w' ps :=
  ⟨Nat.le_trans o.le e.size, o.lt, fun f hf => keepR_step (o.keep f hf) (o.fmine f hf).1 e (by simp), o.fmine, fun p hp => (o.holds p hp).kept fun b hb => e.block b ((o.holds p hp).lt hb) (by simp), o.mine, o.dif, marks_keep o.marks.1 e (by simp), o.marks.2⟩
theorem Mem.extS (e : Keep [] w w') : Step (ms ps m0) w (ms ps m0) w' := ⟨(e.mono (by simp)).d, fun _ h => .inl h⟩
theorem keep_drew (h : w' = w.drew) : Keep [] w w' := Keep.ofExt (.drew h)
theorem keep_alloc {ob : Obj} (h : w' = w.alloc ob) : Keep [] w w' := Keep.ofExt (.alloc h)
theorem Mem.push (o : Mem n0 rs m0 fr ds w ps) {b : Nat} {ob : Obj} (hb : b = w.heap.size) (e : w' = w.alloc ob) (p : Pc) (hp : p.blk = some b) (hh : p.holds w') : Mem n0 rs m0 fr ds w' (p :: ps) := by
  have o' := o.ext (keep_alloc e)
  refine ⟨o'.le, o.lt, o'.keep, fun f hf => ⟨(o.fmine f hf).1, fun q hq c hc => ?_⟩, fun q hq => ?_, fun q hq => ?_, ?_, o'.marks⟩
  · cases hq with
    | head =>
      rw [hp] at hc; cases hc
      have h1 := (o.keep f hf).kp.size
      have h2 := (o.fmine f hf).1
      exact .inr (by omega)
    | tail _ hq => exact (o.fmine f hf).2 q hq c hc
  · cases hq with
    | head => exact hh
    | tail _ hq => exact o'.holds q hq
  · cases hq with
    | head => intro c hc; rw [hp] at hc; cases hc; exact .inr (hb ▸ o.le)
    | tail _ hq => exact o.mine q hq
  · refine List.pairwise_cons.2 ⟨fun q hq c hc hqc => ?_, o.dif⟩
    rw [hp] at hc; cases hc
    have := (o.holds q hq).lt hqc
    omega
theorem Mem.addS (e : Keep [] w w') (p : Pc) (hp : p.blk = some w.heap.size) : Step (ms ps m0) w (ms (p :: ps) m0) w' :=
  ⟨(e.mono (by simp)).d, fun k hk => by
    rcases mem_ms.1 hk with ⟨q, hq, h⟩ | h
    · cases hq with
      | head => rw [hp] at h; cases h; exact .inr (Nat.le_refl _)
      | tail _ hq => exact .inl (mem_ms.2 (.inl ⟨q, hq, h⟩))
    · exact .inl (mem_ms.2 (.inr h))⟩
theorem Mem.endRS (k : Nat) {e size : Nat} {a : Option Addr} {n c : Nat} {xs : List Value} (hk : ps[k]? = some (.row e size a n c xs)) : Step (ms ps m0) w ((Vc.blk a).toList ++ m0) w := Step.drop w fun j hj => by
  rcases List.mem_append.1 hj with h | h
  · exact mem_ms.2 (.inl ⟨_, List.mem_of_getElem? hk, by rwa [Option.mem_toList] at h⟩)
  · exact mem_ms.2 (.inr h)
theorem Mem.obj {b : Nat} {l : List Value} {e size : Nat} {a : Option Addr} {n c : Nat} {xs : List Value} (hm : ∀ b ∈ m0, b < w.heap.size) (_hb : b ∈ m0) (ha : ∀ q, Vc.blk a = some q → q ∈ m0 ∧ q ≠ b) (hbx : Box w b l) (hr : Rw w 0 e size a n c xs) :
    Mem w.heap.size (b :: (Vc.blk a).toList) m0 [((b :: (Vc.blk a).toList), w.heap.size, w)] [] w [.box b l, .row e size a n c xs] := by
  have mine : ∀ p ∈ [Pc.box b l, .row e size a n c xs], ∀ q, p.blk = some q → q ∈ (b :: (Vc.blk a).toList) ∨ w.heap.size ≤ q := by
    intro p hp q hq
    simp only [List.mem_cons, List.not_mem_nil, or_false] at hp
    rcases hp with rfl | rfl
    · cases hq; exact .inl (by simp)
    · left
      have hq' : Vc.blk a = some q := hq
      rw [hq']; simp
  refine ⟨Nat.le_refl _, hm, fun f hf => by simp at hf; subst hf; exact KeepR.refl _ _ _, fun f hf => by simp at hf; subst hf; exact ⟨Nat.le_refl _, mine⟩, fun p hp => ?_, mine, ?_, marks_nil _ _⟩
  · simp only [List.mem_cons, List.not_mem_nil, or_false] at hp
    rcases hp with rfl | rfl
    · exact hbx
    · exact hr
  · refine List.pairwise_cons.2 ⟨fun q hq c hc hqc => ?_, List.pairwise_singleton _ _⟩
    simp only [List.mem_singleton] at hq
    subst hq
    cases hc
    exact (ha _ hqc).2 rfl
theorem Mem.objS {b : Nat} {l : List Value} {e size : Nat} {a : Option Addr} {n c : Nat} {xs : List Value} (hb : b ∈ m0) (ha : ∀ q, Vc.blk a = some q → q ∈ m0 ∧ q ≠ b) : Step m0 w (ms [.box b l, .row e size a n c xs] m0) w := Step.drop w fun j hj => by
  rcases mem_ms.1 hj with ⟨p, hp, h⟩ | h
  · simp only [List.mem_cons, List.not_mem_nil, or_false] at hp
    rcases hp with rfl | rfl
    · cases h; exact hb
    · exact (ha _ h).1
  · exact h
theorem Mem.objlt {b : Nat} {a : Option Addr} (hm : ∀ b ∈ m0, b < w.heap.size) (hb : b ∈ m0) (ha : ∀ q, Vc.blk a = some q → q ∈ m0 ∧ q ≠ b) : ∀ q ∈ b :: (Vc.blk a).toList, q < w.heap.size := by
  intro q hq
  rcases List.mem_cons.1 hq with rfl | hq
  · exact hm _ hb
  · rw [Option.mem_toList] at hq; exact hm _ (ha q hq).1
theorem Mem.box (o : Mem n0 rs m0 fr ds w ps) {b : Nat} {cs : Array Value} {T : TypeId} (hb : b = w.heap.size) (e : w' = w.alloc (.cells cs T)) : Mem n0 rs m0 fr ds w' (.box b cs.toList :: ps) :=
  o.push hb e (.box b cs.toList) rfl (Box.new hb e)
theorem Mem.boxS {b : Nat} {cs : Array Value} {T : TypeId} (hb : b = w.heap.size) (e : w' = w.alloc (.cells cs T)) : Step (ms ps m0) w (ms (.box b cs.toList :: ps) m0) w' :=
  ⟨((keep_alloc e).mono (by simp)).d, fun k hk => by
    simp only [ms, Pc.blk, Option.toList_some, List.singleton_append, List.mem_cons] at hk
    rcases hk with rfl | hk
    · exact .inr (hb ▸ Nat.le_refl _)
    · exact .inl hk⟩
theorem Mem.lit (o : Mem n0 rs m0 fr ds w ps) {b : Nat} {cs : Array Value} {T : TypeId} (hb : b = w.heap.size) (e : w' = w.alloc (.cells cs T)) (size n : Nat) (hn : n ≤ maxLen) (hs : cs.size = n * size) : Mem n0 rs m0 fr ds w' (.row T size (some ⟨b, 0, none⟩) n n cs.toList :: ps) :=
  o.push hb e (.row T size (some ⟨b, 0, none⟩) n n cs.toList) rfl (Rw.lit hb e (Nat.zero_le _) hn hs)
theorem Mem.litS {b : Nat} {cs : Array Value} {T : TypeId} (hb : b = w.heap.size) (e : w' = w.alloc (.cells cs T)) (size n : Nat) : Step (ms ps m0) w (ms (.row T size (some ⟨b, 0, none⟩) n n cs.toList :: ps) m0) w' := Mem.boxS (ps := ps) (m0 := m0) (T := T) (cs := cs) hb e
theorem Mem.nilrow (o : Mem n0 rs m0 fr ds w ps) (e size : Nat) : Mem n0 rs m0 fr ds w (.row e size none 0 0 [] :: ps) := by
  refine ⟨o.le, o.lt, o.keep, fun f hf => ⟨(o.fmine f hf).1, fun q hq c hc => ?_⟩, fun q hq => ?_, fun q hq => ?_, List.pairwise_cons.2 ⟨fun q _ c hc => (by cases hc), o.dif⟩, o.marks⟩
  · cases hq with
    | head => cases hc
    | tail _ hq => exact (o.fmine f hf).2 q hq c hc
  · cases hq with
    | head => exact Rw.nil w 0 e size
    | tail _ hq => exact o.holds q hq
  · cases hq with
    | head => intro c hc; cases hc
    | tail _ hq => exact o.mine q hq
theorem Mem.nilS (e size : Nat) : Step (ms ps m0) w (ms (.row e size none 0 0 [] :: ps) m0) w := Step.drop w fun _ h => h
theorem Mem.at (o : Mem n0 rs m0 fr ds w ps) (k : Nat) {b : Nat} {l : List Value} (hk : ps[k]? = some (.box b l)) : Box w b l := o.holds _ (List.mem_of_getElem? hk)
theorem Mem.rowAt (o : Mem n0 rs m0 fr ds w ps) (k : Nat) {e size : Nat} {a : Option Addr} {n c : Nat} {xs : List Value} (hk : ps[k]? = some (.row e size a n c xs)) : Rw w 0 e size a n c xs := o.holds _ (List.mem_of_getElem? hk)
theorem Mem.wr (o : Mem n0 rs m0 fr ds w ps) (k : Nat) {b i n : Nat} {l : List Value} (hk : ps[k]? = some (.box b l)) (hn : Nat.ble (i + n) l.length = true) : Writable w ⟨b, i, none⟩ n := (o.at k hk).writable (Nat.le_of_ble_eq_true hn)
theorem dif_ne (hd : ps.Pairwise fun p q => ∀ b, p.blk = some b → q.blk ≠ some b) {i j : Nat} {p q : Pc} (hi : ps[i]? = some p) (hj : ps[j]? = some q) (hij : i ≠ j) {b : Nat} (hp : p.blk = some b) (hq : q.blk = some b) : False := by
  obtain ⟨hi1, hi2⟩ := List.getElem?_eq_some_iff.1 hi
  obtain ⟨hj1, hj2⟩ := List.getElem?_eq_some_iff.1 hj
  have hd := List.pairwise_iff_getElem.1 hd
  rcases Nat.lt_or_gt_of_ne hij with h | h
  · exact hd i j hi1 hj1 h b (by rw [hi2]; exact hp) (by rw [hj2]; exact hq)
  · exact hd j i hj1 hi1 h b (by rw [hj2]; exact hq) (by rw [hi2]; exact hp)
theorem Mem.upd (o : Mem n0 rs m0 fr ds w ps) (k : Nat) {p p' : Pc} (hk : ps[k]? = some p) (hK : Keep p.blk.toList w w') (hp : p'.holds w') (hb : ∀ b, p'.blk = some b → p.blk = some b ∨ w.heap.size ≤ b) : Mem n0 rs m0 fr ds w' (ps.set k p') := by
  have hmem := List.mem_of_getElem? hk
  have hkl := (List.getElem?_eq_some_iff.1 hk).1
  have key : ∀ i q, (ps.set k p')[i]? = some q → (i = k ∧ q = p') ∨ (i ≠ k ∧ ps[i]? = some q) := by
    intro i q h
    rw [List.getElem?_set] at h
    split at h
    · rename_i e; subst e; simp at h; exact .inl ⟨rfl, h.symm⟩
    · rename_i e; exact .inr ⟨fun h => e h.symm, h⟩
  have hcell : ∀ b ∈ p.blk.toList, ∃ o, w.heap[b]? = some o ∧ plainO o = true := fun b hb => (o.holds p hmem).cells (by rwa [Option.mem_toList] at hb)
  refine ⟨Nat.le_trans o.le hK.size, o.lt, fun f hf => keepR_step (o.keep f hf) (o.fmine f hf).1 hK (fun b hb => ⟨(o.fmine f hf).2 p hmem b (by rwa [Option.mem_toList] at hb), hcell b hb⟩), fun f hf => ⟨(o.fmine f hf).1, fun q hq b hqb => ?_⟩, fun q hq => ?_, fun q hq b hqb => ?_, ?_, marks_keep o.marks.1 hK hcell, o.marks.2⟩
  · obtain ⟨i, hi⟩ := List.getElem?_of_mem hq
    rcases key i q hi with ⟨_, rfl⟩ | ⟨hne, hi⟩
    · rcases hb b hqb with h | h
      · exact (o.fmine f hf).2 p hmem b h
      · have h1 := (o.keep f hf).kp.size
        have h2 := (o.fmine f hf).1
        exact .inr (by omega)
    · exact (o.fmine f hf).2 q (List.mem_of_getElem? hi) b hqb
  · obtain ⟨i, hi⟩ := List.getElem?_of_mem hq
    rcases key i q hi with ⟨_, rfl⟩ | ⟨hne, hi⟩
    · exact hp
    · have hq' := List.mem_of_getElem? hi
      refine (o.holds q hq').kept fun b hb => hK.block b ((o.holds q hq').lt hb) fun hm => ?_
      rw [Option.mem_toList] at hm
      exact dif_ne o.dif hi hk hne hb hm
  · obtain ⟨i, hi⟩ := List.getElem?_of_mem hq
    rcases key i q hi with ⟨_, rfl⟩ | ⟨hne, hi⟩
    · rcases hb b hqb with h | h
      · exact o.mine p hmem b h
      · exact .inr (Nat.le_trans o.le h)
    · exact o.mine q (List.mem_of_getElem? hi) b hqb
  · rw [List.pairwise_iff_getElem]
    intro i j hi hj hij b hbi hbj
    have gi := List.getElem?_eq_getElem hi
    have gj := List.getElem?_eq_getElem hj
    rcases key i _ gi with ⟨e1, e2⟩ | ⟨hne, hi'⟩ <;> rcases key j _ gj with ⟨e3, e4⟩ | ⟨hne', hj'⟩
    · omega
    · rw [e2] at hbi
      rcases hb b hbi with h | h
      · exact dif_ne o.dif hk hj' (Ne.symm hne') h hbj
      · have := (o.holds _ (List.mem_of_getElem? hj')).lt hbj; omega
    · rw [e4] at hbj
      rcases hb b hbj with h | h
      · exact dif_ne o.dif hi' hk hne hbi h
      · have := (o.holds _ (List.mem_of_getElem? hi')).lt hbi; omega
    · exact dif_ne o.dif hi' hj' (by omega) hbi hbj
theorem Mem.updS (k : Nat) {p p' : Pc} (hk : ps[k]? = some p) (hK : Keep p.blk.toList w w') (hb : ∀ b, p'.blk = some b → p.blk = some b ∨ w.heap.size ≤ b) : Step (ms ps m0) w (ms (ps.set k p') m0) w' := by
  have hmem := List.mem_of_getElem? hk
  refine ⟨(hK.mono fun j hj => mem_ms.2 (.inl ⟨p, hmem, by rwa [Option.mem_toList] at hj⟩)).d, fun j hj => ?_⟩
  rcases mem_ms.1 hj with ⟨q, hq, h⟩ | h
  · rcases List.mem_or_eq_of_mem_set hq with hq | rfl
    · exact .inl (mem_ms.2 (.inl ⟨q, hq, h⟩))
    · rcases hb j h with h | h
      · exact .inl (mem_ms.2 (.inl ⟨p, hmem, h⟩))
      · exact .inr h
  · exact .inl (mem_ms.2 (.inr h))
theorem keep_set {b i : Nat} {v : Value} (e : w' = w.setCell ⟨b, i, none⟩ v) : Keep (some b).toList w w' := Keep.grown (grownBy_set e)
theorem keep_sets {b i : Nat} {vs : List Value} (e : w' = setCells w ⟨b, i, none⟩ vs) : Keep (some b).toList w w' := by
  subst e
  unfold setCells
  suffices ∀ (vs : List Value) (w : World) (j : Nat), Keep (some b).toList w (setCellsFrom w ⟨b, i, none⟩ j vs) from this vs w 0
  intro vs
  induction vs with
  | nil => intro w j; exact Keep.refl _ _
  | cons v vs ih => intro w j; simp only [setCellsFrom]; rw [add_mk]; exact (keep_set rfl).trans (ih _ _)
theorem Mem.set (o : Mem n0 rs m0 fr ds w ps) (k : Nat) {b i : Nat} {l : List Value} {v : Value} (e : w' = w.setCell ⟨b, i, none⟩ v) (hk : ps[k]? = some (.box b l)) : Mem n0 rs m0 fr ds w' (ps.set k (.box b (l.set i v))) :=
  o.upd k hk (keep_set e) ((o.at k hk).set e) fun _ h => .inl h
theorem Mem.setS (k : Nat) {b i : Nat} {l : List Value} {v : Value} (e : w' = w.setCell ⟨b, i, none⟩ v) (hk : ps[k]? = some (.box b l)) : Step (ms ps m0) w (ms (ps.set k (.box b (l.set i v))) m0) w' :=
  Mem.updS k hk (keep_set e) fun _ h => .inl h
theorem Mem.sets (o : Mem n0 rs m0 fr ds w ps) (k : Nat) {b i : Nat} {l vs : List Value} (e : w' = setCells w ⟨b, i, none⟩ vs) (hk : ps[k]? = some (.box b l)) : Mem n0 rs m0 fr ds w' (ps.set k (.box b (over l i vs))) :=
  o.upd k hk (keep_sets e) ((o.at k hk).sets e) fun _ h => .inl h
theorem Mem.setsS (k : Nat) {b i : Nat} {l vs : List Value} (e : w' = setCells w ⟨b, i, none⟩ vs) (hk : ps[k]? = some (.box b l)) : Step (ms ps m0) w (ms (ps.set k (.box b (over l i vs))) m0) w' :=
  Mem.updS k hk (keep_sets e) fun _ h => .inl h
theorem Mem.call (o : Mem n0 rs m0 fr ds w ps) (k : Nat) {b : Nat} {l l' : List Value} (hK : Keep [b] w w') (hb : Box w' b l') (hk : ps[k]? = some (.box b l)) : Mem n0 rs m0 fr ds w' (ps.set k (.box b l')) :=
  o.upd k hk hK hb fun _ h => .inl h
theorem Mem.callS (k : Nat) {b : Nat} {l l' : List Value} (hK : Keep [b] w w') (hk : ps[k]? = some (.box b l)) : Step (ms ps m0) w (ms (ps.set k (.box b l')) m0) w' :=
  Mem.updS k hk hK fun _ h => .inl h
theorem Mem.oldnew {b : Nat} {a a' : Option Addr} {l : List Value} {e size n c : Nat} {xs : List Value} (o : Mem n0 (b :: (Vc.blk a).toList) m0 fr ds w ps) (k : Nat) (hk : ps[k]? = some (.row e size a' n c xs)) (j : Nat) (hj : ps[j]? = some (.box b l)) (hne : k ≠ j) : ∀ q, Vc.blk a' = some q → q ∈ (Vc.blk a).toList ∨ n0 ≤ q := by
  intro q hq
  rcases o.mine _ (List.mem_of_getElem? hk) q hq with h | h
  · rcases List.mem_cons.1 h with rfl | h
    · exact (dif_ne o.dif hk hj hne hq rfl).elim
    · exact .inl h
  · exact .inr h
theorem Mem.objin (o : Mem n0 rs m0 fr ds w ps) (k j : Nat) {b : Nat} {l : List Value} {e size : Nat} {a : Option Addr} {n c : Nat} {xs : List Value} (hk : ps[k]? = some (.box b l)) (hj : ps[j]? = some (.row e size a n c xs)) (hne : k ≠ j) : ∀ q, Vc.blk a = some q → q ∈ ms ps m0 ∧ q ≠ b :=
  fun q hq => ⟨mem_ms.2 (.inl ⟨_, List.mem_of_getElem? hj, hq⟩), fun e => dif_ne o.dif hk hj hne (b := q) (by rw [e]; rfl) hq⟩
theorem Mem.call2 (o : Mem n0 rs m0 fr ds w ps) (k j : Nat) {b : Nat} {l l' : List Value} {e size : Nat} {a a' : Option Addr} {n c n' c' : Nat} {xs xs' : List Value} (hk : ps[k]? = some (.box b l)) (hj : ps[j]? = some (.row e size a n c xs)) (hne : k ≠ j) (hK : Keep (b :: (Vc.blk a).toList) w w') (hb : Box w' b l') (hr : Rw w' 0 e size a' n' c' xs') (hf : ∀ q, Vc.blk a' = some q → q ∈ (Vc.blk a).toList ∨ w.heap.size ≤ q) :
    Mem n0 rs m0 fr ds w' ((ps.set k (.box b l')).set j (.row e size a' n' c' xs')) := by
  have mk := List.mem_of_getElem? hk
  have mj := List.mem_of_getElem? hj
  have hlk := (List.getElem?_eq_some_iff.1 hk).1
  have hlj := (List.getElem?_eq_some_iff.1 hj).1
  have key : ∀ i q, ((ps.set k (.box b l')).set j (.row e size a' n' c' xs'))[i]? = some q → (i = j ∧ q = .row e size a' n' c' xs') ∨ (i = k ∧ i ≠ j ∧ q = .box b l') ∨ (i ≠ k ∧ i ≠ j ∧ ps[i]? = some q) := by
    intro i q h
    rw [List.getElem?_set] at h
    split at h
    · rename_i e1; subst e1
      rw [if_pos (by simpa using hlj)] at h
      exact .inl ⟨rfl, (Option.some.inj h).symm⟩
    · rename_i e1
      rw [List.getElem?_set] at h
      split at h
      · rename_i e2; subst e2
        exact .inr (.inl ⟨rfl, fun h' => e1 h'.symm, (Option.some.inj h).symm⟩)
      · rename_i e2; exact .inr (.inr ⟨fun h' => e2 h'.symm, fun h' => e1 h'.symm, h⟩)
  have hold : ∀ q, q ∈ (Vc.blk a).toList → Vc.blk a = some q := fun q h => by rwa [Option.mem_toList] at h
  have hcell : ∀ q ∈ b :: (Vc.blk a).toList, ∃ ob, w.heap[q]? = some ob ∧ plainO ob = true := fun q hq => by
    rcases List.mem_cons.1 hq with rfl | hq
    · exact (o.holds _ mk).cells rfl
    · exact (o.holds _ mj).cells (hold q hq)
  have hin : ∀ (M : List Nat) (B : Nat), (∀ p ∈ ps, ∀ q, p.blk = some q → q ∈ M ∨ B ≤ q) → ∀ q ∈ b :: (Vc.blk a).toList, q ∈ M ∨ B ≤ q := fun M B h q hq => by
    rcases List.mem_cons.1 hq with rfl | hq
    · exact h _ mk _ rfl
    · exact h _ mj _ (hold q hq)
  have hnew : ∀ (M : List Nat) (B : Nat), B ≤ w.heap.size → (∀ p ∈ ps, ∀ q, p.blk = some q → q ∈ M ∨ B ≤ q) → ∀ p ∈ (ps.set k (.box b l')).set j (.row e size a' n' c' xs'), ∀ q, p.blk = some q → q ∈ M ∨ B ≤ q := fun M B hB h p hp q hq => by
    obtain ⟨i, hi⟩ := List.getElem?_of_mem hp
    rcases key i p hi with ⟨_, rfl⟩ | ⟨_, _, rfl⟩ | ⟨_, _, hi⟩
    · rcases hf q hq with h1 | h1
      · exact h _ mj _ (hold q h1)
      · exact .inr (Nat.le_trans hB h1)
    · exact h _ mk _ hq
    · exact h _ (List.mem_of_getElem? hi) q hq
  refine ⟨Nat.le_trans o.le hK.size, o.lt, fun f hf' => keepR_step (o.keep f hf') (o.fmine f hf').1 hK (fun q hq => ⟨hin _ _ (o.fmine f hf').2 q hq, hcell q hq⟩), fun f hf' => ⟨(o.fmine f hf').1, hnew _ _ (Nat.le_trans (o.fmine f hf').1 (o.keep f hf').kp.size) (o.fmine f hf').2⟩, fun p hp => ?_, hnew _ _ o.le o.mine, ?_, marks_keep o.marks.1 hK hcell, o.marks.2⟩
  · obtain ⟨i, hi⟩ := List.getElem?_of_mem hp
    rcases key i p hi with ⟨_, rfl⟩ | ⟨_, _, rfl⟩ | ⟨h1, h2, hi2⟩
    · exact hr
    · exact hb
    · have hp' := List.mem_of_getElem? hi2
      refine (o.holds p hp').kept fun q hq => hK.block q ((o.holds p hp').lt hq) fun hm => ?_
      rcases List.mem_cons.1 hm with he | hm
      · exact dif_ne o.dif hi2 hk h1 hq (by rw [he]; rfl)
      · exact dif_ne o.dif hi2 hj h2 hq (hold q hm)
  · rw [List.pairwise_iff_getElem]
    intro i i' hi hi' hii q hq hq'
    have g1 := List.getElem?_eq_getElem hi
    have g2 := List.getElem?_eq_getElem hi'
    have rowother : ∀ (x : Nat) (p : Pc), x ≠ j → ps[x]? = some p → Vc.blk a' = some q → p.blk = some q → False := fun x p hx hpx h1 h2 => by
      rcases hf q h1 with h3 | h3
      · exact dif_ne o.dif hpx hj hx h2 (hold q h3)
      · have := (o.holds _ (List.mem_of_getElem? hpx)).lt h2; omega
    have boxother : ∀ (x : Nat) (p : Pc), x ≠ k → ps[x]? = some p → some b = some q → p.blk = some q → False := fun x p hx hpx h1 h2 => dif_ne o.dif hpx hk hx h2 h1
    rcases key i _ g1 with ⟨e1, f1⟩ | ⟨e1, e1', f1⟩ | ⟨n1, n1', hi1⟩ <;> rcases key i' _ g2 with ⟨e2, f2⟩ | ⟨e2, e2', f2⟩ | ⟨n2, n2', hi2⟩
    · omega
    · rw [f1] at hq; rw [f2] at hq'
      exact rowother k _ hne hk hq hq'
    · rw [f1] at hq
      exact rowother i' _ n2' hi2 hq hq'
    · rw [f1] at hq; rw [f2] at hq'
      exact rowother k _ hne hk hq' hq
    · omega
    · rw [f1] at hq
      exact boxother i' _ n2 hi2 hq hq'
    · rw [f2] at hq'
      exact rowother i _ n1' hi1 hq' hq
    · rw [f2] at hq'
      exact boxother i _ n1 hi1 hq' hq
    · exact dif_ne o.dif hi1 hi2 (by omega) hq hq'
theorem Mem.call2S (k j : Nat) {b : Nat} {l l' : List Value} {e size : Nat} {a a' : Option Addr} {n c n' c' : Nat} {xs xs' : List Value} (hk : ps[k]? = some (.box b l)) (hj : ps[j]? = some (.row e size a n c xs)) (hK : Keep (b :: (Vc.blk a).toList) w w') (hf : ∀ q, Vc.blk a' = some q → q ∈ (Vc.blk a).toList ∨ w.heap.size ≤ q) :
    Step (ms ps m0) w (ms ((ps.set k (.box b l')).set j (.row e size a' n' c' xs')) m0) w' := by
  have mk := List.mem_of_getElem? hk
  have mj := List.mem_of_getElem? hj
  refine ⟨(hK.mono fun q hq => ?_).d, fun q hq => ?_⟩
  · rcases List.mem_cons.1 hq with rfl | hq
    · exact mem_ms.2 (.inl ⟨_, mk, rfl⟩)
    · rw [Option.mem_toList] at hq; exact mem_ms.2 (.inl ⟨_, mj, hq⟩)
  · rcases mem_ms.1 hq with ⟨p, hp, h⟩ | h
    · rcases List.mem_or_eq_of_mem_set hp with hp | rfl
      · rcases List.mem_or_eq_of_mem_set hp with hp | rfl
        · exact .inl (mem_ms.2 (.inl ⟨p, hp, h⟩))
        · exact .inl (mem_ms.2 (.inl ⟨_, mk, h⟩))
      · rcases hf q h with h1 | h1
        · rw [Option.mem_toList] at h1; exact .inl (mem_ms.2 (.inl ⟨_, mj, h1⟩))
        · exact .inr h1
    · exact .inl (mem_ms.2 (.inr h))
theorem Mem.call2D (k j : Nat) {b : Nat} {l l' : List Value} {e size : Nat} {a' : Option Addr} {n' c' : Nat} {xs' : List Value} (hk : ps[k]? = some (.box b l)) :
    Step ((Vc.blk a').toList ++ ms ps m0) w (ms ((ps.set k (.box b l')).set j (.row e size a' n' c' xs')) m0) w := Step.drop w fun q hq => by
  rcases mem_ms.1 hq with ⟨p, hp, h⟩ | h
  · rcases List.mem_or_eq_of_mem_set hp with hp | rfl
    · rcases List.mem_or_eq_of_mem_set hp with hp | rfl
      · exact List.mem_append.2 (.inr (mem_ms.2 (.inl ⟨p, hp, h⟩)))
      · exact List.mem_append.2 (.inr (mem_ms.2 (.inl ⟨_, List.mem_of_getElem? hk, h⟩)))
    · exact List.mem_append.2 (.inl (by rw [Option.mem_toList]; exact h))
  · exact List.mem_append.2 (.inr (mem_ms.2 (.inr h)))
theorem Mem.inms (k : Nat) {b : Nat} {l : List Value} (hk : ps[k]? = some (.box b l)) : b ∈ ms ps m0 := mem_ms.2 (.inl ⟨_, List.mem_of_getElem? hk, rfl⟩)
theorem Mem.endS : Step (ms ps m0) w m0 w := Step.drop w fun _ h => mem_ms.2 (.inr h)
theorem Mem.erase (o : Mem n0 rs m0 fr ds w ps) (k : Nat) : Mem n0 rs m0 fr ds w (ps.eraseIdx k) :=
  ⟨o.le, o.lt, o.keep, fun f hf => ⟨(o.fmine f hf).1, fun p hp => (o.fmine f hf).2 p (List.mem_of_mem_eraseIdx hp)⟩, fun p hp => o.holds p (List.mem_of_mem_eraseIdx hp), fun p hp => o.mine p (List.mem_of_mem_eraseIdx hp), o.dif.sublist (List.eraseIdx_sublist ps k), o.marks⟩
theorem Mem.eraseS (k : Nat) : Step (ms ps m0) w (ms (ps.eraseIdx k) m0) w := Step.drop w fun j hk => by
  rcases mem_ms.1 hk with ⟨p, hp, h⟩ | h
  · exact mem_ms.2 (.inl ⟨p, List.mem_of_mem_eraseIdx hp, h⟩)
  · exact mem_ms.2 (.inr h)
theorem Mem.front (o : Mem n0 rs m0 fr ds w ps) (k : Nat) {p : Pc} (hk : ps[k]? = some p) : Mem n0 rs m0 fr ds w (p :: ps.eraseIdx k) := by
  have hp := List.mem_of_getElem? hk
  have hin : ∀ q ∈ p :: ps.eraseIdx k, q ∈ ps := fun q hq => by
    rcases List.mem_cons.1 hq with rfl | h
    · exact hp
    · exact List.mem_of_mem_eraseIdx h
  refine ⟨o.le, o.lt, o.keep, fun f hf => ⟨(o.fmine f hf).1, fun q hq => (o.fmine f hf).2 q (hin q hq)⟩, fun q hq => o.holds q (hin q hq), fun q hq => o.mine q (hin q hq), List.pairwise_cons.2 ⟨fun q hq b h1 h2 => ?_, o.dif.sublist (List.eraseIdx_sublist ps k)⟩, o.marks⟩
  obtain ⟨i, hi⟩ := List.getElem?_of_mem hq
  rw [List.getElem?_eraseIdx] at hi
  split at hi
  · exact dif_ne o.dif hi hk (by omega) h2 h1
  · exact dif_ne o.dif hi hk (by omega) h2 h1
theorem Mem.offms (o : Mem n0 rs m0 fr ds w ps) (k : Nat) {p : Pc} {b : Nat} (hk : ps[k]? = some p) (hp : p.blk = some b) (hr : b ∉ rs) : b ∉ ms (ps.eraseIdx k) m0 := by
  intro hm
  have hmem := List.mem_of_getElem? hk
  rcases mem_ms.1 hm with ⟨q, hq, h⟩ | h
  · obtain ⟨i, hi⟩ := List.getElem?_of_mem hq
    rw [List.getElem?_eraseIdx] at hi
    split at hi
    · exact dif_ne o.dif hi hk (by omega) h hp
    · exact dif_ne o.dif hi hk (by omega) h hp
  · rcases o.mine _ hmem b hp with h2 | h2
    · exact hr h2
    · have := o.lt _ h; omega
theorem Mem.freeze (o : Mem n0 rs m0 fr ds w ps) (k : Nat) {e : Nat} {α : Type} {c : Cod α} {a : Option Addr} {n cap : Nat} {xs : List Value} {l : List α} (hk : ps[k]? = some (.row e c.size a n cap xs)) (hr : ∀ b ∈ rs, b ∉ Vc.blk a)
    (he : El c (ms (ps.eraseIdx k) m0) w l xs) : SlR c (ms (ps.eraseIdx k) m0) w a l := by
  have hrow := o.rowAt k hk
  have hsl := hrow.sl
  by_cases hl : l = []
  · exact .inl hl
  · right
    have hx : xs ≠ [] := by
      intro h
      have := he.len
      rw [h] at this
      have hp := c.pos
      have h2 := List.length_pos_iff.2 hl
      have h3 := Nat.mul_pos h2 hp
      simp only [List.length_nil] at this
      omega
    obtain ⟨p, rfl, hc⟩ := hsl.some_of hx
    exact ⟨p, xs, rfl, o.offms k hk rfl (fun h => hr _ h (by simp [Vc.blk])), hc, he⟩
theorem Mem.recv {b : Nat} {l : List Value} (hm : ∀ b ∈ m0, b < w.heap.size) (_ : b ∈ m0) (hb : Box w b l) : Mem w.heap.size [b] m0 [([b], w.heap.size, w)] [] w [.box b l] :=
  ⟨Nat.le_refl _, hm, fun f hf => by simp at hf; subst hf; exact KeepR.refl _ _ _, fun f hf => by simp at hf; subst hf; exact ⟨Nat.le_refl _, fun p hp c hc => by simp at hp; subst hp; cases hc; exact .inl (by simp)⟩,
    fun p hp => by simp at hp; subst hp; exact hb, fun p hp c hc => by simp at hp; subst hp; cases hc; exact .inl (by simp), List.pairwise_singleton _ _, marks_nil _ _⟩
theorem Mem.recvS {b : Nat} {l : List Value} (hi : b ∈ m0) (_ : Box w b l) : Step m0 w (ms [.box b l] m0) w := Step.drop w fun k hk => by
  rcases mem_ms.1 hk with ⟨p, hp, h⟩ | h
  · simp at hp; subst hp; cases h; exact hi
  · exact h
theorem Mem.neq (o : Mem n0 rs m0 fr ds w ps) (i j : Nat) {b c : Nat} {l l' : List Value} (hi : ps[i]? = some (.box b l)) (hj : ps[j]? = some (.box c l')) (hij : i ≠ j) (h : b = c) : False :=
  dif_ne o.dif hi hj hij (b := b) rfl (by rw [h]; rfl)
theorem Mem.app (o : Mem n0 rs m0 fr ds w ps) (k : Nat) {e size n c n' c' : Nat} {a a' : Option Addr} {xs xs' : List Value} (hk : ps[k]? = some (.row e size a n c xs)) (hr : Rw w' 0 e size a' n' c' xs') (hg : w.grownBy w' (Vc.blk a)) (hat : Vc.blk a' = Vc.blk a ∨ Vc.blk a' = some w.heap.size) : Mem n0 rs m0 fr ds w' (ps.set k (.row e size a' n' c' xs')) :=
  o.upd k hk (Keep.grown hg) hr fun b hb => by
    rcases hat with h | h
    · exact .inl (h.symm.trans hb)
    · exact .inr (by have : some b = some w.heap.size := hb.symm.trans h; cases this; exact Nat.le_refl _)
theorem Mem.appS (k : Nat) {e size n c n' c' : Nat} {a a' : Option Addr} {xs xs' : List Value} (hk : ps[k]? = some (.row e size a n c xs)) (_ : Rw w' 0 e size a' n' c' xs') (hg : w.grownBy w' (Vc.blk a)) (hat : Vc.blk a' = Vc.blk a ∨ Vc.blk a' = some w.heap.size) : Step (ms ps m0) w (ms (ps.set k (.row e size a' n' c' xs')) m0) w' :=
  Mem.updS (p' := .row e size a' n' c' xs') k hk (Keep.grown hg) fun b hb => by
    rcases hat with h | h
    · exact .inl (h.symm.trans hb)
    · exact .inr (by have : some b = some w.heap.size := hb.symm.trans h; cases this; exact Nat.le_refl _)
theorem keep_app {R : List Nat} {w0 w1 w2 : World} {a : Option Addr} (t : Keep R w0 w1) (hg : w1.grownBy w2 (Vc.blk a)) (hf : ∀ q, Vc.blk a = some q → q ∈ R ∨ w0.heap.size ≤ q) : Keep R w0 w2 :=
  ⟨hg.os.trans t.os, hg.tape.trans t.tape, hg.output.trans t.output, Nat.le_trans t.size hg.size, fun j hj hm => (hg.block j (Nat.lt_of_lt_of_le hj t.size) fun e => by
    rcases hf j e.symm with h | h
    · exact hm h
    · omega).trans (t.block j hj hm)⟩
theorem eq_held {P : World → Prop} {w : World} (h : P w) : ∀ u, u = w → P u := fun _ hu => hu ▸ h
theorem fresh_lit {R : List Nat} {w0 w1 : World} {b : Nat} (hb : b = w1.heap.size) (t : Keep R w0 w1) : ∀ q, Vc.blk (some ⟨b, 0, none⟩) = some q → q ∈ R ∨ w0.heap.size ≤ q := fun q hq => by
  cases hq
  exact .inr (by rw [hb]; exact t.size)
theorem fresh_app {R : List Nat} {w0 w1 : World} {a a' : Option Addr} (hf : ∀ q, Vc.blk a = some q → q ∈ R ∨ w0.heap.size ≤ q) (hat : Vc.blk a' = Vc.blk a ∨ Vc.blk a' = some w1.heap.size) (t : Keep R w0 w1) : ∀ q, Vc.blk a' = some q → q ∈ R ∨ w0.heap.size ≤ q := fun q hq => by
  rcases hat with h | h
  · exact hf q (h.symm.trans hq)
  · rw [h] at hq
    cases hq
    exact .inr t.size
theorem Mem.boxrow (o : Mem n0 rs m0 fr ds w ps) (i k : Nat) {b : Nat} {l : List Value} {e size n c : Nat} {a : Option Addr} {xs : List Value} (hi : ps[i]? = some (.box b l)) (hk : ps[k]? = some (.row e size a n c xs)) (hne : i ≠ k) (h : b ∈ (Vc.blk a).toList) : False :=
  dif_ne o.dif hi hk hne rfl (by rwa [Option.mem_toList] at h)
theorem Mem.xE (_ : Mem n0 rs m0 fr ds w ps) (e : Keep [] w w') : Step (ms ps m0) w (ms ps m0) w' := Mem.extS e
theorem Mem.xB (_ : Mem n0 rs m0 fr ds w ps) {b : Nat} {cs : Array Value} {T : TypeId} (hb : b = w.heap.size) (e : w' = w.alloc (.cells cs T)) : Step (ms ps m0) w (ms (.box b cs.toList :: ps) m0) w' := Mem.boxS hb e
theorem Mem.xL (_ : Mem n0 rs m0 fr ds w ps) {b : Nat} {cs : Array Value} {T : TypeId} (hb : b = w.heap.size) (e : w' = w.alloc (.cells cs T)) (size n : Nat) : Step (ms ps m0) w (ms (.row T size (some ⟨b, 0, none⟩) n n cs.toList :: ps) m0) w' := Mem.litS hb e size n
theorem Mem.xN (_ : Mem n0 rs m0 fr ds w ps) (e size : Nat) : Step (ms ps m0) w (ms (.row e size none 0 0 [] :: ps) m0) w := Mem.nilS e size
theorem Mem.xS (_ : Mem n0 rs m0 fr ds w ps) (k : Nat) {b i : Nat} {l : List Value} {v : Value} (e : w' = w.setCell ⟨b, i, none⟩ v) (hk : ps[k]? = some (.box b l)) : Step (ms ps m0) w (ms (ps.set k (.box b (l.set i v))) m0) w' := Mem.setS k e hk
theorem Mem.xSs (_ : Mem n0 rs m0 fr ds w ps) (k : Nat) {b i : Nat} {l vs : List Value} (e : w' = setCells w ⟨b, i, none⟩ vs) (hk : ps[k]? = some (.box b l)) : Step (ms ps m0) w (ms (ps.set k (.box b (over l i vs))) m0) w' := Mem.setsS k e hk
theorem Mem.xX (_ : Mem n0 rs m0 fr ds w ps) (k : Nat) : Step (ms ps m0) w (ms (ps.eraseIdx k) m0) w := Mem.eraseS k
theorem Mem.xA (_ : Mem n0 rs m0 fr ds w ps) (k : Nat) {e size n c n' c' : Nat} {a a' : Option Addr} {xs xs' : List Value} (hk : ps[k]? = some (.row e size a n c xs)) (hr : Rw w' 0 e size a' n' c' xs') (hg : w.grownBy w' (Vc.blk a)) (hat : Vc.blk a' = Vc.blk a ∨ Vc.blk a' = some w.heap.size) : Step (ms ps m0) w (ms (ps.set k (.row e size a' n' c' xs')) m0) w' := Mem.appS k hk hr hg hat
theorem Mem.xC (_ : Mem n0 rs m0 fr ds w ps) (k : Nat) {b : Nat} {l l' : List Value} (hK : Keep [b] w w') (hk : ps[k]? = some (.box b l)) : Step (ms ps m0) w (ms (ps.set k (.box b l')) m0) w' := Mem.callS k hK hk
theorem Mem.dC (o : Mem n0 rs m0 fr ds w ps) (k : Nat) {b : Nat} {l l' : List Value} (hK : Keep [b] w w') (hb : Box w' b l') (hk : ps[k]? = some (.box b l)) : Step (ms ps m0) w (ms (ps.set k (.box b l')) m0) w' ∧ Mem n0 rs m0 fr ds w' (ps.set k (.box b l')) := ⟨o.xC k hK hk, o.call k hK hb hk⟩
theorem Mem.y2 (o : Mem n0 rs m0 fr ds w ps) (k j : Nat) {b : Nat} {l l' : List Value} {e size : Nat} {a a' : Option Addr} {n c n' c' : Nat} {xs xs' : List Value} (hk : ps[k]? = some (.box b l)) (hj : ps[j]? = some (.row e size a n c xs)) (hne : k ≠ j) (hK : Keep (b :: (Vc.blk a).toList) w w') (hb : Box w' b l') (hr : Rw w' 0 e size a' n' c' xs') (hf : ∀ q, Vc.blk a' = some q → q ∈ (Vc.blk a).toList ∨ w.heap.size ≤ q)
    {α : Type} {cd : Cod α} {L : List α} (hel : El cd ((Vc.blk a').toList ++ ms ps m0) w' L xs') :
    Step (ms ps m0) w (ms ((ps.set k (.box b l')).set j (.row e size a' n' c' xs')) m0) w' ∧ El cd (ms ((ps.set k (.box b l')).set j (.row e size a' n' c' xs')) m0) w' L xs' ∧ Mem n0 rs m0 fr ds w' ((ps.set k (.box b l')).set j (.row e size a' n' c' xs')) :=
  ⟨Mem.call2S k j hk hj hK hf, hel.st (Mem.call2D k j hk), o.call2 k j hk hj hne hK hb hr hf⟩
theorem Mem.eRS (_ : Mem n0 rs m0 fr ds w ps) (k : Nat) {e size : Nat} {a : Option Addr} {n c : Nat} {xs : List Value} (hk : ps[k]? = some (.row e size a n c xs)) : Step (ms ps m0) w ((Vc.blk a).toList ++ m0) w := Mem.endRS k hk
theorem Mem.dE (o : Mem n0 rs m0 fr ds w ps) (e : Keep [] w w') : Step (ms ps m0) w (ms ps m0) w' ∧ Mem n0 rs m0 fr ds w' ps := ⟨o.xE e, o.ext e⟩
theorem Mem.dD (o : Mem n0 rs m0 fr ds w ps) (e : w' = w.drew) : Step (ms ps m0) w (ms ps m0) w' ∧ Mem n0 rs m0 fr ds w' ps := o.dE (keep_drew e)
theorem Mem.dB (o : Mem n0 rs m0 fr ds w ps) {b : Nat} {cs : Array Value} {T : TypeId} (hb : b = w.heap.size) (e : w' = w.alloc (.cells cs T)) : Step (ms ps m0) w (ms (.box b cs.toList :: ps) m0) w' ∧ Mem n0 rs m0 fr ds w' (.box b cs.toList :: ps) := ⟨o.xB hb e, o.box hb e⟩
theorem Mem.dS (o : Mem n0 rs m0 fr ds w ps) (k : Nat) {b i : Nat} {l : List Value} {v : Value} (e : w' = w.setCell ⟨b, i, none⟩ v) (hk : ps[k]? = some (.box b l)) : Step (ms ps m0) w (ms (ps.set k (.box b (l.set i v))) m0) w' ∧ Mem n0 rs m0 fr ds w' (ps.set k (.box b (l.set i v))) := ⟨o.xS k e hk, o.set k e hk⟩
theorem Mem.dSs (o : Mem n0 rs m0 fr ds w ps) (k : Nat) {b i : Nat} {l vs : List Value} (e : w' = setCells w ⟨b, i, none⟩ vs) (hk : ps[k]? = some (.box b l)) : Step (ms ps m0) w (ms (ps.set k (.box b (over l i vs))) m0) w' ∧ Mem n0 rs m0 fr ds w' (ps.set k (.box b (over l i vs))) := ⟨o.xSs k e hk, o.sets k e hk⟩
theorem Mem.dX (o : Mem n0 rs m0 fr ds w ps) (k : Nat) : Step (ms ps m0) w (ms (ps.eraseIdx k) m0) w ∧ Mem n0 rs m0 fr ds w (ps.eraseIdx k) := ⟨o.xX k, o.erase k⟩
end
theorem leastN_spec {p : Nat → Prop} (h : ∃ n, p n) : ∃ n, p n ∧ ∀ k, p k → n ≤ k := by
  obtain ⟨n, hn⟩ := h
  induction n using Nat.strongRecOn with
  | _ n ih =>
    by_cases hk : ∃ k, k < n ∧ p k
    · obtain ⟨k, h1, h2⟩ := hk; exact ih k h1 h2
    · exact ⟨n, hn, fun k hpk => by
        rcases Nat.lt_or_ge k n with h | h
        · exact absurd ⟨k, h, hpk⟩ hk
        · exact h⟩
open Classical in
noncomputable def leastN (p : Nat → Prop) : Nat := if h : ∃ n, p n then Classical.choose (leastN_spec h) else 0
theorem leastN_at {p : Nat → Prop} (h : ∃ n, p n) : p (leastN p) := by unfold leastN; rw [dif_pos h]; exact (Classical.choose_spec (leastN_spec h)).1
theorem leastN_le {p : Nat → Prop} {n : Nat} (h : p n) : leastN p ≤ n := by unfold leastN; rw [dif_pos ⟨n, h⟩]; exact (Classical.choose_spec (leastN_spec ⟨n, h⟩)).2 n h
theorem cond_map {b : Bool} {A B A' B' : Prop} (h1 : A → A') (h2 : B → B') (h : cond b A B) : cond b A' B' := by cases b; exact h2 h; exact h1 h
theorem _root_.Go.Vc.Box.keep {w u : World} {b : Nat} {l : List Value} (h : Box w b l) {r : List Nat} (hu : Keep r w u) (hr : b ∉ r) : Box u b l := by
  obtain ⟨T, hT⟩ := h
  exact ⟨T, by rw [hu.block b (Array.getElem?_eq_some_iff.1 hT).1 hr]; exact hT⟩
theorem _root_.Go.Vc.Rw.cap {w : World} {base e size : Nat} {a : Option Addr} {n c : Nat} {xs : List Value} (h : Rw w base e size a n c xs) : n ≤ c := by
  rcases h.2 with ⟨hv, hn⟩ | ⟨g, cap, cur, hv, _, _, hc, _⟩
  · omega
  · cases hv; exact hc
theorem row_elem {α : Type} {c : Cod α} {m : List Nat} {w : World} {e n cap : Nat} {a : Option Addr} {xs : List Value} {l : List α} (hr : Rw w 0 e c.size a n cap xs) (he : El c m w l xs) {i : Int} (hi : 0 ≤ i ∧ i < (l.length : Int)) :
    ∃ p x cs, a = some p ∧ l[i.toNat]? = some x ∧ (True ∧ CellsAt w (p.add (i.toNat * c.size)) cs) ∧ c.rep m w x cs := by
  have hlt : i.toNat < l.length := by omega
  obtain ⟨cs, ys, zs, hx, hy, hrep⟩ := he.get (List.getElem?_eq_getElem hlt)
  have hne : cs ≠ [] := fun e => by have := c.len hrep; rw [e] at this; have := c.pos; simp at *; omega
  have hsl := hr.sl
  rw [hx] at hsl
  obtain ⟨p, hp, hc⟩ := hsl.some_of (by simp [hne])
  have hcc := CellsAt.sub hc hne
  rw [hy] at hcc
  exact ⟨p, _, cs, hp, List.getElem?_eq_getElem hlt, ⟨trivial, hcc⟩, hrep⟩
theorem row_len {α : Type} {c : Cod α} {m : List Nat} {w : World} {e n cap : Nat} {a : Option Addr} {xs : List Value} {l : List α} (hr : Rw w 0 e c.size a n cap xs) (he : El c m w l xs) : n = l.length :=
  Nat.eq_of_mul_eq_mul_right c.pos (hr.len.symm.trans he.len)
theorem over_len : ∀ (vs l : List Value) (i : Nat), (over l i vs).length = l.length
  | [], _, _ => rfl
  | v :: vs, l, i => by rw [over, over_len]; simp
theorem over_take (k : Nat) : ∀ (vs l : List Value) (i : Nat), (over l i vs).take k = over (l.take k) i vs
  | [], _, _ => rfl
  | v :: vs, l, i => by rw [over, over_take, over, List.take_set]
theorem over_left (A B : List Value) : ∀ (vs : List Value) (i : Nat), i + vs.length ≤ A.length → over (A ++ B) i vs = over A i vs ++ B := by
  intro vs
  induction vs generalizing A with
  | nil => intro i _; rfl
  | cons v vs ih =>
    intro i h
    simp only [List.length_cons] at h
    rw [over, over, List.set_append_left _ _ (by omega)]
    exact ih (A.set i v) (i + 1) (by simp; omega)
theorem over_right (A B : List Value) : ∀ (vs : List Value) (i : Nat), over (A ++ B) (A.length + i) vs = A ++ over B i vs := by
  intro vs
  induction vs generalizing B with
  | nil => intro i; rfl
  | cons v vs ih =>
    intro i
    rw [over, over, List.set_append_right _ _ (by omega), show A.length + i - A.length = i by omega]
    exact ih (B.set i v) (i + 1)
theorem heap_setsT {b T : Nat} : ∀ (vs : List Value) (w : World) (i j : Nat) (l : List Value), w.heap[b]? = some (.cells ⟨l⟩ T (0, 0)) → (setCellsFrom w ⟨b, i, none⟩ j vs).heap[b]? = some (.cells ⟨over l (i + j) vs⟩ T (0, 0)) := by
  intro vs
  induction vs with
  | nil => intro w i j l h; exact h
  | cons v vs ih =>
    intro w i j l h
    simp only [setCellsFrom, over]
    have := ih (w.setCell ((⟨b, i, none⟩ : Addr).add j) v) i (j + 1) (l.set (i + j) v) (by rw [add_mk, heap_setCell, if_pos rfl, h]; simp)
    rwa [show i + (j + 1) = i + j + 1 by omega] at this
theorem _root_.Go.Vc.Rw.store {w : World} {e size n c : Nat} {p : Addr} {xs : List Value} (h : Rw w 0 e size (some p) n c xs) {j : Nat} {vs : List Value} (hj : j + vs.length ≤ n * size) :
    Writable w (p.add j) vs.length ∧ ∀ w', w' = setCells w (p.add j) vs → Rw w' 0 e size (some p) n c (over xs j vs) ∧ w.grownBy w' (some p.block) := by
  rcases h.2 with ⟨hv, _⟩ | ⟨g, cap, cur, hv, hg, hh, hn, hcap, hsz, ht⟩
  · cases hv
  · obtain ⟨rfl, rfl⟩ : p = ⟨g, 0, none⟩ ∧ c = cap := by cases hv; exact ⟨rfl, rfl⟩
    have hb : Box w g cur.toList := ⟨e, hh⟩
    have hmul : n * size ≤ c * size := Nat.mul_le_mul_right _ hn
    have hlen : cur.toList.length = c * size := by simpa using hsz
    have ea : (⟨g, 0, none⟩ : Addr).add j = ⟨g, j, none⟩ := by rw [add_mk, Nat.zero_add]
    rw [ea]
    refine ⟨hb.writable (by omega), fun w' hw => ⟨⟨by rw [over_len]; exact h.1, .inr ⟨g, c, ⟨over cur.toList j vs⟩, rfl, hg, ?_, hn, hcap, by rw [← hsz]; simp [over_len], ?_⟩⟩, ?_⟩⟩
    · subst hw
      exact heap_setsT vs w j 0 cur.toList hh
    · show (over cur.toList j vs).take _ = _
      rw [over_take, ht]
    · have := keep_sets hw
      exact ⟨this.os, this.tape, this.output, this.size, fun k hk hm => this.block k hk (by simpa [eq_comm] using fun e => hm (by rw [e]))⟩
theorem El.put {α : Type} {c : Cod α} {m : List Nat} {w : World} {l : List α} {xs : List Value} (h : El c m w l xs) {i : Nat} {x : α} (hx : l[i]? = some x) :
    ∃ cs, (∃ ys zs, xs = ys ++ cs ++ zs ∧ ys.length = i * c.size) ∧ cs.length = c.size ∧ i * c.size + c.size ≤ xs.length ∧ ∀ x' off vs, off + vs.length ≤ c.size → c.rep m w x' (over cs off vs) → El c m w (l.set i x') (over xs (i * c.size + off) vs) := by
  obtain ⟨cs, ys, zs, hxs, hy, hrep⟩ := h.get hx
  have hl := c.len hrep
  refine ⟨cs, ⟨ys, zs, hxs, hy⟩, hl, by rw [hxs]; simp; omega, fun x' off vs hov hr => ?_⟩
  have hi : i < l.length := (List.getElem?_eq_some_iff.1 hx).1
  have h1 := h.take i
  have h2 := h.drop (i + 1)
  have e1 : xs.take (i * c.size) = ys := by rw [hxs, List.append_assoc, ← hy]; simp
  have e2 : xs.drop ((i + 1) * c.size) = zs := by
    rw [hxs, show (i + 1) * c.size = (ys ++ cs).length by simp [hy, hl, Nat.succ_mul]]
    simp
  rw [e1] at h1
  rw [e2] at h2
  rw [List.set_eq_take_append_cons_drop, if_pos hi]
  have := h1.app (El.cons hr h2)
  rw [hxs, ← hy, List.append_assoc, over_right, over_left _ _ _ _ (by omega)]
  exact this
theorem row_put {α : Type} {c : Cod α} {m : List Nat} {w : World} {e n cap : Nat} {a : Option Addr} {xs : List Value} {l : List α} (hr : Rw w 0 e c.size a n cap xs) (he : El c m w l xs) {i : Nat} {x : α} {p : Addr} {cs : List Value} (ha : a = some p) (hx : l[i]? = some x) (hc : CellsAt w (p.add (i * c.size)) cs) (hcl : cs.length = c.size) (off : Nat) (vs : List Value) (hov : off + vs.length ≤ c.size) :
    Writable w ((p.add (i * c.size)).add off) vs.length ∧ ∀ w', w' = setCells w ((p.add (i * c.size)).add off) vs → ∃ xs', Rw w' 0 e c.size a n cap xs' ∧ w.grownBy w' (Vc.blk a) ∧ ∀ x', c.rep m w x' (over cs off vs) → El c m w (l.set i x') xs' := by
  subst ha
  obtain ⟨cs0, ⟨ys, zs, hxs, hy⟩, hl0, hle, hput⟩ := he.put hx
  have hne : cs0 ≠ [] := fun e => by rw [e] at hl0; have := c.pos; simp at hl0; omega
  have hsl := hr.sl
  rw [hxs] at hsl
  obtain ⟨q, hq, hcc⟩ := hsl.some_of (by simp [hne])
  cases hq
  have hc0 := CellsAt.sub hcc hne
  rw [hy] at hc0
  have ecs : cs = cs0 := by
    apply List.ext_getElem (hcl.trans hl0.symm)
    intro j h1 h2
    have a1 := hc j h1
    have a2 := hc0 j h2
    exact Option.some.inj (a1.symm.trans a2)
  subst ecs
  have ea : (p.add (i * c.size)).add off = p.add (i * c.size + off) := by
    rcases hr.2 with ⟨hv, _⟩ | ⟨g, cap, cur, hv, _⟩
    · cases hv
    · cases hv; rw [add_mk, add_mk, add_mk, Nat.add_assoc]
  rw [ea]
  have hlx := hr.len
  obtain ⟨hw, hs⟩ := hr.store (j := i * c.size + off) (vs := vs) (by omega)
  exact ⟨hw, fun w' hw' => ⟨_, (hs w' hw').1, (hs w' hw').2, fun x' hx' => hput x' off vs hov hx'⟩⟩
theorem row_putp {α : Type} {c : Cod α} {m : List Nat} {w : World} {e n cap : Nat} {a : Option Addr} {xs : List Value} {l : List α} (hr : Rw w 0 e c.size a n cap xs) (he : El c m w l xs) {i : Nat} {x : α} {p : Addr} {cs : List Value} (ha : a = some p) (hx : l[i]? = some x) (hc : CellsAt w (p.add (i * c.size)) cs) (hcl : cs.length = c.size) (off : Nat) (v : Value) (hov : off + 1 ≤ c.size) :
    Writable w ((p.add (i * c.size)).add off) 1 ∧ ∀ w', w' = w.setCell ((p.add (i * c.size)).add off) v → ∃ xs', Rw w' 0 e c.size a n cap xs' ∧ w.grownBy w' (Vc.blk a) ∧ ∀ x', c.rep m w x' (cs.set off v) → El c m w (l.set i x') xs' := by
  obtain ⟨hw, hs⟩ := row_put hr he ha hx hc hcl off [v] hov
  exact ⟨hw, fun w' hw' => hs w' (by rw [hw']; exact (setCells_one _ _ _).symm)⟩
theorem SlR.cells {α : Type} {c : Cod α} {m : List Nat} {w : World} {a : Option Addr} {l : List α} (h : SlR c m w a l) : ∃ xs, SlAt w a xs ∧ El c m w l xs := by
  rcases h with rfl | ⟨p, xs, rfl, _, hc, he⟩
  · refine ⟨[], ?_, El.nil _ _ _⟩
    cases a with
    | none => rfl
    | some p => intro i hi; simp at hi
  · exact ⟨xs, hc, he⟩
theorem loop_again {p q : Nat → Prop} {N n : Nat} (hn : N = leastN p) (h : q n) (hl : n < N) : (∃ n, q n) ∧ leastN q < leastN p := ⟨⟨n, h⟩, Nat.lt_of_le_of_lt (leastN_le h) (hn ▸ hl)⟩
theorem arr_equal {P : Program} {t e : TypeId} {k : IntKind} {i : TypeInfo} (hu : P.underlying t = some (.array 2 e)) (he : P.underlying e = some (.int k)) (hc : P.cellsOf e = 1) (hi : P.info? e = some i) (a b c d : Int) (w : World) :
    (Op.equal t (.agg #[.int k a, .int k b]) (.agg #[.int k c, .int k d])).run P w = .ok ((a == c) && (b == d)) w := by
  unfold Op.equal Op.maxDepth
  rw [show (10000 : Nat) = 9998 + 1 + 1 from rfl, run_equalIn_array w _ _ _ hu hi, hc]
  have hp : ∀ (xs : Array Value) (j : Nat) (v : Value), xs.toList[j]? = some v → (part e xs (j * 1)).run P w = .ok v w := fun xs j v hv => part_run he rfl (by rw [Nat.mul_one]; exact hv)
  have e2 : List.range 2 = [0, 1] := rfl
  rw [e2]
  simp only [Op.eqItems, Sem.run_bind]
  rw [hp #[.int k a, .int k b] 0 (.int k a) rfl, Result.andThen_ok, hp #[.int k c, .int k d] 0 (.int k c) rfl, Result.andThen_ok, run_equalIn_int w _ e k _ a c he, Result.andThen_ok]
  cases hac : (a == c) with
  | false => simp
  | true =>
    simp only [Bool.not_true, Bool.false_eq_true, if_false, Sem.run_bind]
    rw [hp #[.int k a, .int k b] 1 (.int k b) rfl, Result.andThen_ok, hp #[.int k c, .int k d] 1 (.int k d) rfl, Result.andThen_ok, run_equalIn_int w _ e k _ b d he, Result.andThen_ok]
    cases hbd : (b == d) <;> simp
theorem arr_eql2 {P : Program} {t e : TypeId} {k : IntKind} {i : TypeInfo} (hu : P.underlying t = some (.array 2 e)) (he : P.underlying e = some (.int k)) (hc : P.cellsOf e = 1) (hg : P.eqGuardType P.depth t = false) (hi : P.info? e = some i) {a b c d : Int} {w : World} {x y : Operand} {K : Value → World → Prop}
    (h : K (.bool ((a == c) && (b == d))) w) : SemOk P (do eqGuard .eql t x y (.agg #[.int k a, .int k b]) (.agg #[.int k c, .int k d]); binOp .eql t (.agg #[.int k a, .int k b]) (.agg #[.int k c, .int k d])) K w := by
  refine ⟨_, w, ?_, h⟩
  simp [run_eqGuard_agg w .eql t x y _ _ hg, binOp, arr_equal hu he hc hi]
end Go.Lv
