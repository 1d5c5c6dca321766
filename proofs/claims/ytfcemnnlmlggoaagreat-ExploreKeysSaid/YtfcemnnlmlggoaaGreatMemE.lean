/- The boxes of a call that also writes one box of its caller's. -/
import Derived.Test.YtfcemnnlmlggoaaGreatMemD
namespace Go.Vc
open Go.RowKit (Below)

theorem Ext.grownBy {w w' : World} (h : Ext w w') (row : Option Nat) : w.grownBy w' row := ⟨h.os, h.tape, h.output, h.size, fun k hk _ => Below.block h k hk⟩
theorem grownBy_trans {a b c : World} {row : Option Nat} (h : a.grownBy b row) (k : b.grownBy c row) : a.grownBy c row :=
  ⟨k.os.trans h.os, k.tape.trans h.tape, k.output.trans h.output, Nat.le_trans h.size k.size, fun j hj hr => (k.block j (Nat.lt_of_lt_of_le hj h.size) hr).trans (h.block j hj hr)⟩
/-- a step that changes blocks of a set only -/
theorem grownBy_of {w0 w w' : World} {rb : Nat} (h : w0.grownBy w (some rb)) (hB : Below w0.heap.size w w') : w0.grownBy w' (some rb) :=
  ⟨hB.os.trans h.os, hB.tape.trans h.tape, hB.output.trans h.output, Nat.le_trans h.size hB.size, fun j hj hr => (Below.block hB j hj).trans (h.block j hj hr)⟩

structure OwnR (rb : Nat) (w0 w : World) (r : List Value) (bs : List (Nat × List Value)) : Prop where
  grown : w0.grownBy w (some rb)
  rlt : rb < w0.heap.size
  rbox : Box w rb r
  box : ∀ p ∈ bs, w0.heap.size ≤ p.1 ∧ Box w p.1 p.2
  dif : (bs.map (·.1)).Pairwise (· ≠ ·)

theorem OwnR.start {rb : Nat} {w : World} {r : List Value} (h : Box w rb r) : OwnR rb w w r [] :=
  ⟨⟨rfl, rfl, rfl, Nat.le_refl _, fun _ _ _ => rfl⟩, h.lt, h, fun _ h => (by cases h), List.Pairwise.nil⟩
theorem OwnR.le {rb : Nat} {w0 w : World} {r : List Value} {bs : List (Nat × List Value)} (h : OwnR rb w0 w r bs) : w0.heap.size ≤ w.heap.size := h.grown.size
theorem OwnR.ext {rb : Nat} {w0 w w' : World} {r : List Value} {bs : List (Nat × List Value)} (h : OwnR rb w0 w r bs) (e : Ext w w') : OwnR rb w0 w' r bs :=
  ⟨grownBy_trans h.grown (e.grownBy _), h.rlt, h.rbox.ext e, fun p hp => ⟨(h.box p hp).1, (h.box p hp).2.ext e⟩, h.dif⟩
theorem OwnR.drew {rb : Nat} {w0 w w' : World} {r : List Value} {bs : List (Nat × List Value)} (h : OwnR rb w0 w r bs) (e : w' = w.drew) : OwnR rb w0 w' r bs := h.ext (.drew e)
/-- as boxes of a call's own, above the caller's -/
theorem OwnR.own {rb : Nat} {w0 w : World} {r : List Value} {bs : List (Nat × List Value)} (h : OwnR rb w0 w r bs) : Own w0.heap.size w w bs := ⟨Below.refl _ _, h.le, h.box, h.dif⟩
theorem OwnR.back {rb : Nat} {w0 w w' : World} {r : List Value} {bs bs' : List (Nat × List Value)} (h : OwnR rb w0 w r bs) (o : Own w0.heap.size w w' bs') : OwnR rb w0 w' r bs' := by
  refine ⟨grownBy_of h.grown o.below, h.rlt, ?_, o.box, o.dif⟩
  obtain ⟨T, hT⟩ := h.rbox
  exact ⟨T, by rw [Below.block o.below rb h.rlt]; exact hT⟩
theorem OwnR.alloc {rb : Nat} {w0 w w' : World} {r : List Value} {bs : List (Nat × List Value)} (h : OwnR rb w0 w r bs) {b : Nat} {cs : Array Value} {T : TypeId} (hb : b = w.heap.size) (e : w' = w.alloc (.cells cs T)) (hgho : Gho cs.toList T := by first | exact trivial | exact fun h k => by first | rfl | (simp at h; done) | (simp [isPtr] at k; done)) : OwnR rb w0 w' r ((b, cs.toList) :: bs) :=
  h.back (h.own.alloc hb e hgho)
theorem OwnR.set {rb : Nat} {w0 w w' : World} {r : List Value} {bs : List (Nat × List Value)} (h : OwnR rb w0 w r bs) (k : Nat) {b i : Nat} {l : List Value} {v : Value} (e : w' = w.setCell ⟨b, i, none⟩ v) (hk : bs[k]? = some (b, l)) (hgv : Gv v := by first | exact trivial | exact rfl) : OwnR rb w0 w' r (bs.set k (b, l.set i v)) :=
  h.back (h.own.set k e hk hgv)
theorem OwnR.sets {rb : Nat} {w0 w w' : World} {r : List Value} {bs : List (Nat × List Value)} (h : OwnR rb w0 w r bs) (k : Nat) {b i : Nat} {l vs : List Value} (e : w' = setCells w ⟨b, i, none⟩ vs) (hk : bs[k]? = some (b, l)) (hgvs : Gvs vs := by first | exact trivial | exact rfl) : OwnR rb w0 w' r (bs.set k (b, over l i vs)) :=
  h.back (h.own.sets k e hk hgvs)
theorem OwnR.gro {rb : Nat} {w0 w w' : World} {r : List Value} {bs : List (Nat × List Value)} (h : OwnR rb w0 w r bs) {row : Option Nat} (hg : w.grownBy w' row) (hr : ∀ k, row = some k → w0.heap.size ≤ k ∧ ∀ p ∈ bs, p.1 ≠ k) : OwnR rb w0 w' r bs :=
  h.back (h.own.grown hg hr)
theorem OwnR.at {rb : Nat} {w0 w : World} {r : List Value} {bs : List (Nat × List Value)} (h : OwnR rb w0 w r bs) (k : Nat) {b : Nat} {l : List Value} (hk : bs[k]? = some (b, l)) : Box w b l := h.own.at k hk
theorem OwnR.ge {rb : Nat} {w0 w : World} {r : List Value} {bs : List (Nat × List Value)} (h : OwnR rb w0 w r bs) (k : Nat) {b : Nat} {l : List Value} (hk : bs[k]? = some (b, l)) : w0.heap.size ≤ b := h.own.ge k hk
theorem OwnR.wr {rb : Nat} {w0 w : World} {r : List Value} {bs : List (Nat × List Value)} (h : OwnR rb w0 w r bs) (k : Nat) {b i m : Nat} {l : List Value} (hk : bs[k]? = some (b, l)) (hn : Nat.ble (i + m) l.length = true) : Writable w ⟨b, i, none⟩ m := h.own.wr k hk hn
theorem OwnR.wrR {rb : Nat} {w0 w : World} {r : List Value} {bs : List (Nat × List Value)} (h : OwnR rb w0 w r bs) {i m : Nat} (hn : Nat.ble (i + m) r.length = true) : Writable w ⟨rb, i, none⟩ m := h.rbox.writable (Nat.le_of_ble_eq_true hn)
/-- a call, or a store, that changes the caller's box only -/
theorem OwnR.call {rb : Nat} {w0 w w' : World} {r r' : List Value} {bs : List (Nat × List Value)} (h : OwnR rb w0 w r bs) (hg : w.grownBy w' (some rb)) (hb : Box w' rb r') : OwnR rb w0 w' r' bs := by
  refine ⟨grownBy_trans h.grown hg, h.rlt, hb, fun p hp => ⟨(h.box p hp).1, ?_⟩, h.dif⟩
  obtain ⟨T, hT⟩ := (h.box p hp).2
  refine ⟨T, ?_⟩
  rw [hg.block p.1 (Array.getElem?_eq_some_iff.1 hT.1).1 (fun e => by cases e; have := (h.box p hp).1; have := h.rlt; omega)]
  exact hT
theorem grownBy_set {w w' : World} {b i : Nat} {v : Value} (e : w' = w.setCell ⟨b, i, none⟩ v) : w.grownBy w' (some b) := by
  subst e
  refine ⟨rfl, rfl, rfl, by simp [World.setCell], fun k _ hr => ?_⟩
  rw [heap_setCell, if_neg (fun h => hr (by rw [h]))]
theorem OwnR.setR {rb : Nat} {w0 w w' : World} {r : List Value} {bs : List (Nat × List Value)} (h : OwnR rb w0 w r bs) {i : Nat} {v : Value} (e : w' = w.setCell ⟨rb, i, none⟩ v) (hgv : Gv v := by first | exact trivial | exact rfl) : OwnR rb w0 w' (r.set i v) bs :=
  h.call (grownBy_set e) (h.rbox.set e hgv)
end Go.Vc
