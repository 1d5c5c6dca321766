/- Memory: what a call leaves alone, and the boxes of its own. -/
import Derived.Test.YtfcemnnlmlggoaaGreatVcF
namespace Go.Vc
open Go.RowKit (Below)

/-- all that was there is as it was -/
def Ext (w w' : World) : Prop := Below w.heap.size w w'

theorem Ext.refl (w : World) : Ext w w := Below.refl _ _
theorem Ext.size {w w' : World} (h : Ext w w') : w.heap.size ≤ w'.heap.size := Below.size h
theorem Ext.trans {a b c : World} (h : Ext a b) (k : Ext b c) : Ext a c := Below.trans h (Below.mono k h.size)
theorem Ext.alloc {w w' : World} {o : Obj} (h : w' = w.alloc o) : Ext w w' := h ▸ (Below.refl _ _).alloc (Nat.le_refl _) _
theorem Ext.drew {w w' : World} (h : w' = w.drew) : Ext w w' := h ▸ (Below.refl _ _).drew
theorem Ext.below {n : Nat} {w0 w w' : World} (hB : Below n w0 w) (hn : n ≤ w.heap.size) (h : Ext w w') : Below n w0 w' := hB.trans (Below.mono h hn)

theorem cell_lt {w : World} {p : Addr} {v : Value} (h : w.cell? p = some v) : p.block < w.heap.size := by
  unfold World.cell? at h
  split at h
  · rename_i hh; exact (Array.getElem?_eq_some_iff.1 hh).1
  · cases h
theorem Ext.cell {w w' : World} (h : Ext w w') {p : Addr} {v : Value} (hc : w.cell? p = some v) : w'.cell? p = some v := by
  rw [Below.cell h (cell_lt hc)]; exact hc
theorem Ext.block {w w' : World} (h : Ext w w') {b : Nat} {o : Obj} (hc : w.heap[b]? = some o) : w'.heap[b]? = some o := by
  rw [Below.block h b (Array.getElem?_eq_some_iff.1 hc).1]; exact hc
theorem Ext.cells {w w' : World} (h : Ext w w') {p : Addr} {l : List Value} (hc : CellsAt w p l) : CellsAt w' p l := fun i hi => h.cell (hc i hi)

/-! ## boxes -/
def isPtr : Value → Bool
  | .pointer _ => true
  | _ => false
/-- GHO: what a block's cells tell of its type, where the seat asks it (here: nothing) -/
def Gho (_l : List Value) (_T : TypeId) : Prop := True
def Gv (_v : Value) : Prop := True
def Gvs (_vs : List Value) : Prop := True
theorem Gvs.cons {v : Value} {vs : List Value} (_h : Gvs (v :: vs)) : Gv v ∧ Gvs vs := ⟨trivial, trivial⟩
theorem Gho.set {l : List Value} {T : TypeId} {v : Value} (i : Nat) (_h : Gho l T) (_hv : Gv v) : Gho (l.set i v) T := trivial
/-- GHO end -/
def Box (w : World) (b : Nat) (l : List Value) : Prop := ∃ T, w.heap[b]? = some (.cells ⟨l⟩ T (0, 0)) ∧ Gho l T

theorem Box.lt {w : World} {b : Nat} {l : List Value} (h : Box w b l) : b < w.heap.size := by
  obtain ⟨T, h, _⟩ := h; exact (Array.getElem?_eq_some_iff.1 h).1
theorem Box.ext {w w' : World} {b : Nat} {l : List Value} (h : Box w b l) (e : Ext w w') : Box w' b l := by
  obtain ⟨T, h, hg⟩ := h; exact ⟨T, e.block h, hg⟩
theorem Box.new {w w' : World} {b : Nat} {cs : Array Value} {T : TypeId} (hb : b = w.heap.size) (h : w' = w.alloc (.cells cs T)) (hgho : Gho cs.toList T := by first | exact trivial | exact fun h k => by first | rfl | (simp at h; done) | (simp [isPtr] at k; done)) : Box w' b cs.toList := by
  subst hb h
  exact ⟨T, by show (w.heap.push (.cells cs T))[w.heap.size]? = _; simp, hgho⟩
theorem new_cell {w : World} {cs : Array Value} {T : TypeId} {i : Nat} {v : Value} (hv : cs.toList[i]? = some v) : (w.alloc (.cells cs T)).cell? ⟨w.heap.size, i, none⟩ = some v := by
  have h : (w.alloc (.cells cs T)).heap[w.heap.size]? = some (.cells cs T) := by show (w.heap.push (.cells cs T))[w.heap.size]? = _; simp
  simp only [World.cell?, h]
  simpa using hv
theorem Box.cell {w : World} {b : Nat} {l : List Value} (h : Box w b l) {i : Nat} {v : Value} (hv : l[i]? = some v) : w.cell? ⟨b, i, none⟩ = some v := by
  obtain ⟨T, h, _⟩ := h
  simp [World.cell?, h, hv]
theorem Box.frozen {w : World} {b : Nat} {l : List Value} (h : Box w b l) (i : Nat) : w.frozen? ⟨b, i, none⟩ = false := by
  obtain ⟨T, h, _⟩ := h
  simp [World.frozen?, h]
theorem add_mk (b i j : Nat) : (⟨b, i, none⟩ : Addr).add j = ⟨b, i + j, none⟩ := by
  unfold Addr.add; split
  · subst_vars; rfl
  · rfl
theorem Box.writable {w : World} {b : Nat} {l : List Value} (h : Box w b l) {i n : Nat} (hn : i + n ≤ l.length) : Writable w ⟨b, i, none⟩ n := by
  intro j hj
  rw [add_mk]
  have hlt : i + j < l.length := by omega
  exact ⟨⟨_, h.cell (List.getElem?_eq_getElem hlt)⟩, h.frozen _⟩
theorem Box.cells {w : World} {b : Nat} {l : List Value} (h : Box w b l) (i : Nat) {m : List Value} (hm : ∀ j (hj : j < m.length), l[i + j]? = some m[j]) : CellsAt w ⟨b, i, none⟩ m := by
  intro j hj
  rw [add_mk]
  exact h.cell (hm j hj)
theorem Box.whole {w : World} {b : Nat} {l : List Value} (h : Box w b l) : CellsAt w ⟨b, 0, none⟩ l := h.cells 0 fun j hj => by simp

theorem heap_setCell {w : World} {b i : Nat} {v : Value} {k : Nat} : (w.setCell ⟨b, i, none⟩ v).heap[k]? = if b = k then (w.heap[k]?).map (fun | .cells c e f => .cells (c.setIfInBounds i v) e f | o => o) else w.heap[k]? := by
  simp only [World.setCell, Array.getElem?_modify]
  split
  · rename_i h; cases w.heap[k]? with
    | none => rfl
    | some o => cases o <;> simp
  · rfl
theorem Box.set {w w' : World} {b i : Nat} {l : List Value} {v : Value} (h : Box w b l) (e : w' = w.setCell ⟨b, i, none⟩ v) (hgv : Gv v := by first | exact trivial | exact rfl) : Box w' b (l.set i v) := by
  subst e
  obtain ⟨T, h, hg⟩ := h
  exact ⟨T, by rw [heap_setCell, if_pos rfl, h]; simp, hg.set i hgv⟩
theorem Box.setOther {w w' : World} {b c i : Nat} {l : List Value} {v : Value} (h : Box w b l) (e : w' = w.setCell ⟨c, i, none⟩ v) (hne : c ≠ b) : Box w' b l := by
  subst e
  obtain ⟨T, h, hg⟩ := h
  exact ⟨T, by rw [heap_setCell, if_neg hne]; exact h, hg⟩

/-- writing a list into a list -/
def over : List Value → Nat → List Value → List Value
  | l, _, [] => l
  | l, i, v :: vs => over (l.set i v) (i + 1) vs

theorem Box.setsFrom {b : Nat} : ∀ (vs : List Value) (w : World) (i j : Nat) (l : List Value), Box w b l → Gvs vs → Box (setCellsFrom w ⟨b, i, none⟩ j vs) b (over l (i + j) vs) := by
  intro vs
  induction vs with
  | nil => intro w i j l h _; exact h
  | cons v vs ih =>
    intro w i j l h hg
    simp only [setCellsFrom, over]
    have := ih (w.setCell ((⟨b, i, none⟩ : Addr).add j) v) i (j + 1) (l.set (i + j) v) (by rw [add_mk]; exact h.set rfl hg.cons.1) hg.cons.2
    rwa [show i + (j + 1) = i + j + 1 by omega] at this
theorem Box.sets {w w' : World} {b i : Nat} {l vs : List Value} (h : Box w b l) (e : w' = setCells w ⟨b, i, none⟩ vs) (hgvs : Gvs vs := by first | exact trivial | exact rfl) : Box w' b (over l i vs) := by
  subst e; exact Box.setsFrom vs w i 0 l h hgvs
theorem Box.setsFromOther {b c : Nat} (hne : c ≠ b) : ∀ (vs : List Value) (w : World) (i j : Nat) (l : List Value), Box w b l → Box (setCellsFrom w ⟨c, i, none⟩ j vs) b l := by
  intro vs
  induction vs with
  | nil => intro w i j l h; exact h
  | cons v vs ih =>
    intro w i j l h
    simp only [setCellsFrom]
    exact ih _ i (j + 1) l (by rw [add_mk]; exact h.setOther rfl hne)
theorem Box.setsOther {w w' : World} {b c i : Nat} {l vs : List Value} (h : Box w b l) (e : w' = setCells w ⟨c, i, none⟩ vs) (hne : c ≠ b) : Box w' b l := by
  subst e; exact Box.setsFromOther hne vs w i 0 l h

theorem below_sets {n : Nat} {w0 w w' : World} {b i : Nat} {vs : List Value} (h : Below n w0 w) (hb : n ≤ b) (e : w' = setCells w ⟨b, i, none⟩ vs) : Below n w0 w' := by
  subst e
  unfold setCells
  suffices ∀ (vs : List Value) (w : World) (j : Nat), Below n w0 w → Below n w0 (setCellsFrom w ⟨b, i, none⟩ j vs) from this vs w 0 h
  intro vs
  induction vs with
  | nil => intro w j h; exact h
  | cons v vs ih => intro w j h; exact ih _ _ (h.setCell (by rw [add_mk]; exact hb) v)

/-! ## the boxes of a call -/
/-- since w0 nothing below n has changed; the boxes of the call's own, the newest first -/
structure Own (n : Nat) (w0 w : World) (bs : List (Nat × List Value)) : Prop where
  below : Below n w0 w
  le : n ≤ w.heap.size
  box : ∀ p ∈ bs, n ≤ p.1 ∧ Box w p.1 p.2
  dif : (bs.map (·.1)).Pairwise (· ≠ ·)

theorem Own.start (w : World) : Own w.heap.size w w [] := ⟨Below.refl _ _, Nat.le_refl _, fun _ h => (by cases h), List.Pairwise.nil⟩
theorem Own.ext {n : Nat} {w0 w w' : World} {bs : List (Nat × List Value)} (h : Own n w0 w bs) (e : Ext w w') : Own n w0 w' bs :=
  ⟨e.below h.below h.le, Nat.le_trans h.le e.size, fun p hp => ⟨(h.box p hp).1, (h.box p hp).2.ext e⟩, h.dif⟩
theorem Own.drew {n : Nat} {w0 w w' : World} {bs : List (Nat × List Value)} (h : Own n w0 w bs) (e : w' = w.drew) : Own n w0 w' bs := h.ext (.drew e)
theorem Own.alloc {n : Nat} {w0 w w' : World} {bs : List (Nat × List Value)} (h : Own n w0 w bs) {b : Nat} {cs : Array Value} {T : TypeId} (hb : b = w.heap.size) (e : w' = w.alloc (.cells cs T)) (hgho : Gho cs.toList T := by first | exact trivial | exact fun h k => by first | rfl | (simp at h; done) | (simp [isPtr] at k; done)) : Own n w0 w' ((b, cs.toList) :: bs) := by
  have h1 := h.ext (.alloc e)
  refine ⟨h1.below, h1.le, fun p hp => ?_, ?_⟩
  · cases hp with
    | head => exact ⟨hb ▸ h.le, Box.new hb e hgho⟩
    | tail _ hp => exact h1.box p hp
  · simp only [List.map_cons, List.pairwise_cons]
    refine ⟨fun c hc => ?_, h.dif⟩
    obtain ⟨p, hp, rfl⟩ := List.mem_map.1 hc
    have := (h.box p hp).2.lt
    omega
/-- the k-th box -/
theorem Own.at {n : Nat} {w0 w : World} {bs : List (Nat × List Value)} (h : Own n w0 w bs) (k : Nat) {b : Nat} {l : List Value} (hk : bs[k]? = some (b, l)) : Box w b l := (h.box _ (List.mem_of_getElem? hk)).2
theorem Own.ge {n : Nat} {w0 w : World} {bs : List (Nat × List Value)} (h : Own n w0 w bs) (k : Nat) {b : Nat} {l : List Value} (hk : bs[k]? = some (b, l)) : n ≤ b := (h.box _ (List.mem_of_getElem? hk)).1

theorem own_upd {n : Nat} {w0 w w' : World} {bs : List (Nat × List Value)} (h : Own n w0 w bs) (k : Nat) {b : Nat} {l l' : List Value} (hk : bs[k]? = some (b, l)) (hB : Below n w0 w') (hs : w.heap.size ≤ w'.heap.size)
    (h1 : Box w' b l') (h2 : ∀ c m, Box w c m → b ≠ c → Box w' c m) : Own n w0 w' (bs.set k (b, l')) := by
  have hlt : k < bs.length := (List.getElem?_eq_some_iff.1 hk).1
  have hmap : (bs.set k (b, l')).map (·.1) = bs.map (·.1) := by
    rw [List.map_set]
    apply List.ext_getElem?
    intro i
    rw [List.getElem?_set]
    split
    · rename_i e
      subst e
      have := (List.getElem?_eq_some_iff.1 hk).2
      simp [hlt, this]
    · rfl
  refine ⟨hB, Nat.le_trans h.le hs, fun p hp => ?_, by rw [hmap]; exact h.dif⟩
  obtain ⟨i, hi⟩ := List.getElem?_of_mem hp
  rw [List.getElem?_set] at hi
  split at hi
  · rename_i e
    subst e
    simp at hi
    obtain ⟨_, rfl⟩ := hi
    exact ⟨h.ge k hk, h1⟩
  · rename_i hne
    have hm := List.mem_of_getElem? hi
    refine ⟨(h.box p hm).1, h2 _ _ (h.box p hm).2 ?_⟩
    have hd := List.pairwise_iff_getElem.1 h.dif
    intro e
    have hi' := (List.getElem?_eq_some_iff.1 hi)
    have hk' := (List.getElem?_eq_some_iff.1 hk)
    obtain ⟨i1, i2⟩ := hi'
    obtain ⟨k1, k2⟩ := hk'
    rcases Nat.lt_or_ge k i with hh | hh
    · have := hd k i (by simpa using k1) (by simpa using i1) hh
      simp [k2, i2, e] at this
    · have := hd i k (by simpa using i1) (by simpa using k1) (by omega)
      simp [k2, i2, e] at this
theorem Own.set {n : Nat} {w0 w w' : World} {bs : List (Nat × List Value)} (h : Own n w0 w bs) (k : Nat) {b i : Nat} {l : List Value} {v : Value} (e : w' = w.setCell ⟨b, i, none⟩ v) (hk : bs[k]? = some (b, l)) (hgv : Gv v := by first | exact trivial | exact rfl) : Own n w0 w' (bs.set k (b, l.set i v)) :=
  own_upd h k hk (e ▸ h.below.setCell (h.ge k hk) v) (by subst e; simp [World.setCell]) ((h.at k hk).set e hgv) fun _ _ hb hne => hb.setOther e hne
theorem setCells_size : ∀ (vs : List Value) (w : World) (a : Addr) (j : Nat), (setCellsFrom w a j vs).heap.size = w.heap.size := by
  intro vs
  induction vs with
  | nil => intro w a j; rfl
  | cons v vs ih => intro w a j; simp only [setCellsFrom]; rw [ih]; simp [World.setCell]
theorem Own.sets {n : Nat} {w0 w w' : World} {bs : List (Nat × List Value)} (h : Own n w0 w bs) (k : Nat) {b i : Nat} {l vs : List Value} (e : w' = setCells w ⟨b, i, none⟩ vs) (hk : bs[k]? = some (b, l)) (hgvs : Gvs vs := by first | exact trivial | exact rfl) : Own n w0 w' (bs.set k (b, over l i vs)) :=
  own_upd h k hk (below_sets h.below (h.ge k hk) e) (by subst e; unfold setCells; rw [setCells_size]; exact Nat.le_refl _) ((h.at k hk).sets e hgvs) fun _ _ hb hne => hb.setsOther e hne
theorem Own.wr {n : Nat} {w0 w : World} {bs : List (Nat × List Value)} (h : Own n w0 w bs) (k : Nat) {b i m : Nat} {l : List Value} (hk : bs[k]? = some (b, l)) (hn : Nat.ble (i + m) l.length = true) : Writable w ⟨b, i, none⟩ m := (h.at k hk).writable (Nat.le_of_ble_eq_true hn)
theorem Own.done {w w' : World} {bs : List (Nat × List Value)} (h : Own w.heap.size w w' bs) : Ext w w' := h.below

/-! ## small things -/
theorem cond_intro {b : Bool} {A B : Prop} (h1 : b = true → A) (h2 : b = false → B) : cond b A B := by
  cases b
  · exact h2 rfl
  · exact h1 rfl
theorem cond_t {b : Bool} {A B : Prop} (hb : b = true) (h : A) : cond b A B := by subst hb; exact h
theorem cond_f {b : Bool} {A B : Prop} (hb : b = false) (h : B) : cond b A B := by subst hb; exact h
theorem ptrOr_some {p : Option Addr} {a : Addr} {K : Addr → Prop} (hp : p = some a) (h : K a) : ptrOr p K := by subst hp; exact h
theorem wrap_in {n : Int} (h1 : -9223372036854775808 ≤ n) (h2 : n ≤ 9223372036854775807) : IntKind.i64.wrap n = n := IntWalk.i64_in n ⟨h1, h2⟩
theorem call_then {P : Program} {f : FuncId} {args : Array Value} {w : World} {K K' : Value → World → Prop} (h : Calls P f args w (Ret K)) (hk : ∀ v w', K v w' → K' v w') : Calls P f args w (Ret K') :=
  h.mono fun e w' h => by cases e with
    | returned v => exact hk v w' h
    | panicked c => exact h
    | outgrown => exact h
theorem callV_then {P : Program} {fv : Value} {args : Array Value} {w : World} {K K' : Value → World → Prop} (h : callV P fv args K w) (hk : ∀ v w', K v w' → K' v w') : callV P fv args K' w := by
  unfold callV at h ⊢
  split at h
  · revert h
    generalize callOk P _ = b
    intro h
    cases b
    · obtain ⟨v, w', h1, h2⟩ := h
      exact ⟨v, w', h1, hk _ _ h2⟩
    · exact call_then h hk
  · exact h
theorem byte_bd (l : List UInt8) (i : Nat) : 0 ≤ ((l.getD i 0).toNat : Int) ∧ ((l.getD i 0).toNat : Int) ≤ 255 := by
  have := (l.getD i 0).toNat_lt; omega
end Go.Vc
