/- The world behind a sort, in the words of windows. -/
import Derived.Test.YtcbpdageojenjaaLv
import Derived.Shelf.SlSortCmp.Whole1
import Derived.Shelf.SlSortCmp.NoneTotal
namespace Go.Lv
open Go.Vc Go.Proofs Go.Sort
variable {α : Type} [Inhabited α]

theorem sw_at {enc : α → Value} {w : World} {g n : Nat} {d : Array α} {os : Array Obj} {c : Array Value} {T : TypeId} {fz : Nat × Nat} (hg : w.heap[g]? = some (.cells c T fz)) : (sortWorld enc w g 0 n d os).heap[g]? = some (.cells (putCells enc 0 d c) T fz) := by
  have hlt := (Array.getElem?_eq_some_iff.1 hg).1
  show ((w.heap.modify g _) ++ os)[g]? = _
  rw [Array.getElem?_append_left (by simpa using hlt), Array.getElem?_modify, if_pos rfl, hg]
  rfl
theorem sw_ne {enc : α → Value} {w : World} {g n k : Nat} {d : Array α} {os : Array Obj} (hk : k ≠ g) (hlt : k < w.heap.size) : (sortWorld enc w g 0 n d os).heap[k]? = w.heap[k]? := by
  show ((w.heap.modify g _) ++ os)[k]? = _
  rw [Array.getElem?_append_left (by simpa using hlt), Array.getElem?_modify, if_neg (Ne.symm hk)]
theorem sw_keep {enc : α → Value} {w : World} {g n : Nat} {d : Array α} {os : Array Obj} : Keep [g] w (sortWorld enc w g 0 n d os) :=
  ⟨rfl, rfl, rfl, by show _ ≤ ((w.heap.modify g _) ++ os).size; simp, fun j hj hm => sw_ne (by simpa using hm) hj⟩
theorem put_all {enc : α → Value} {d : Array α} {xs rest : List Value} (h : d.size = xs.length) : putCells enc 0 d ⟨xs ++ rest⟩ = ⟨d.toList.map enc ++ rest⟩ := by
  unfold putCells
  apply Array.ext'
  apply List.ext_getElem
  · simp [h]
  · intro j h1 h2
    simp only [Array.toList_mapIdx, List.getElem_mapIdx]
    by_cases hj : j < d.size
    · rw [if_pos (by omega), List.getElem_append_left (by simpa using hj)]
      simp [getElem!_pos d j hj]
    · have e1 : (d.toList.map enc).length ≤ j := by rw [List.length_map, Array.length_toList]; omega
      have e2 : xs.length ≤ j := by omega
      rw [if_neg (by omega), List.getElem_append_right e1]
      show (xs ++ rest)[j]'_ = _
      rw [List.getElem_append_right e2]
      have e3 : (d.toList.map enc).length = xs.length := by rw [List.length_map, Array.length_toList]; exact h
      simp only [e3]
theorem sw_cell {enc : α → Value} {w : World} {g n : Nat} {d : Array α} {os : Array Obj} {a : Addr} {v : Value} (h : w.cell? a = some v) (ha : a.block ≠ g) : (sortWorld enc w g 0 n d os).cell? a = some v := by
  unfold World.cell? at h ⊢
  have hlt : a.block < w.heap.size := by
    cases hh : w.heap[a.block]? with
    | none => rw [hh] at h; cases h
    | some o => exact (Array.getElem?_eq_some_iff.1 hh).1
  rw [sw_ne ha hlt]
  exact h
end Go.Lv
