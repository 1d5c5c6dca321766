/- Blocks that the seat's contracts hold: laid variables (none here). -/
import Derived.Test.YtojfilbjdnnoeaaDoorProg
import Derived.Shelf.Strconv.Itoa3
import Derived.Test.YtojfilbjdnnoeaaDoorVcI
namespace Go.Lv
open Go.Proofs
/-- blocks of laid variables, what they hold, and that nothing else matters to it -/
structure Held where
  bs : List Nat
  T : World → Prop
  stable : ∀ w w', (∀ b ∈ bs, w'.heap[b]? = w.heap[b]?) → T w → T w'
  lt : ∀ w, T w → ∀ b ∈ bs, b < w.heap.size
/-- is the input of a size that can be reached? (of tied cards it is) -/
def sized : Bool := true
theorem held_g0 : Tryd.prog.globalNamed "internal/strconv.uint64pow10" = some 1 := by kernel_rfl
theorem held_g2 : Tryd.prog.globalNamed "strconv.ErrSyntax" = some 2 := by kernel_rfl
theorem held_g3 : Tryd.prog.globalNamed "strconv.ErrRange" = some 3 := by kernel_rfl
/-- the variables -/
def held : Held where
  bs := [1, 0, 2, 3]
  T := fun w => Lib.TabIs Tryd.prog w "internal/strconv.uint64pow10" .u64 Lib.pow10Tab ∧ (∃ m, w.cell? ⟨0, 0, none⟩ = some (.int .i64 m)) ∧ (∃ tp p, w.var? Tryd.prog "strconv.ErrSyntax" = some #[.iface tp p]) ∧ (∃ tp p, w.var? Tryd.prog "strconv.ErrRange" = some #[.iface tp p])
  stable := fun w w' h ht => by
    obtain ⟨t0, t1, t2, t3⟩ := ht
    refine ⟨?_, ?_, ?_, ?_⟩
    · have hg := h 1 (by simp)
      have t := t0
      unfold Lib.TabIs World.var? at t ⊢
      simp only [held_g0, Option.bind_some] at t ⊢
      rw [hg]; exact t
    · have hg := h 0 (by simp)
      have t := t1
      unfold World.cell? at t ⊢
      simp only at t ⊢
      rw [hg]; exact t
    · have hg := h 2 (by simp)
      have t := t2
      unfold World.var? at t ⊢
      simp only [held_g2, Option.bind_some] at t ⊢
      rw [hg]; exact t
    · have hg := h 3 (by simp)
      have t := t3
      unfold World.var? at t ⊢
      simp only [held_g3, Option.bind_some] at t ⊢
      rw [hg]; exact t
  lt := fun w ht b hb => by
    obtain ⟨t0, t1, t2, t3⟩ := ht
    have hb : b = 1 ∨ b = 0 ∨ b = 2 ∨ b = 3 := by simpa using hb
    rcases hb with rfl | rfl | rfl | rfl
    · by_cases hc : 1 < w.heap.size
      · exact hc
      · exfalso
        have t := t0
        unfold Lib.TabIs World.var? at t
        simp only [held_g0, Option.bind_some] at t
        rw [Array.getElem?_eq_none (by omega)] at t
        cases t
    · by_cases hc : 0 < w.heap.size
      · exact hc
      · exfalso
        have t := t1
        unfold World.cell? at t
        simp only at t
        rw [Array.getElem?_eq_none (by omega)] at t
        obtain ⟨_, t⟩ := t
        cases t
    · by_cases hc : 2 < w.heap.size
      · exact hc
      · exfalso
        have t := t2
        unfold World.var? at t
        simp only [held_g2, Option.bind_some] at t
        rw [Array.getElem?_eq_none (by omega)] at t
        obtain ⟨_, _, t⟩ := t
        cases t
    · by_cases hc : 3 < w.heap.size
      · exact hc
      · exfalso
        have t := t3
        unfold World.var? at t
        simp only [held_g3, Option.bind_some] at t
        rw [Array.getElem?_eq_none (by omega)] at t
        obtain ⟨_, _, t⟩ := t
        cases t
end Go.Lv
