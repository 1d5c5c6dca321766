/- sort.Ints and slices.Compact, by the kit's contracts. -/
import Derived.Test.YtfcemnnlmlggoaaGreatKeyD
import Derived.Test.YtfcemnnlmlggoaaGreatShKey
import Derived.Shelf.GgSortFunc.Insertion
import Derived.Lib.RowBridge
namespace Go.Lv
open Go.Vc Go.Proofs Go.Sort
section
variable {α : Type} [Inhabited α]
theorem sw_at {enc : α → Value} {w : World} {g n : Nat} {d : Array α} {os : Array Obj} {c : Array Value} {T : TypeId} {fz : Nat × Nat} (hg : w.heap[g]? = some (.cells c T fz)) : (sortWorld enc w g 0 n d os).heap[g]? = some (.cells (putCells enc 0 d c) T fz) := by
  have hlt := (Array.getElem?_eq_some_iff.1 hg).1
  show ((w.heap.modify g _) ++ os)[g]? = _
  rw [Array.getElem?_append_left (by simpa using hlt), Array.getElem?_modify, if_pos rfl, hg]
  rfl
theorem sw_ne {enc : α → Value} {w : World} {g n k : Nat} {d : Array α} {os : Array Obj} (hk : k ≠ g) (hlt : k < w.heap.size) : (sortWorld enc w g 0 n d os).heap[k]? = w.heap[k]? := by
  show ((w.heap.modify g _) ++ os)[k]? = _
  rw [Array.getElem?_append_left (by simpa using hlt), Array.getElem?_modify, if_neg (Ne.symm hk)]
theorem sw_keep {enc : α → Value} {w : World} {g n : Nat} {d : Array α} {os : Array Obj} : Keep [g] w (sortWorld enc w g 0 n d os) :=
  ⟨rfl, rfl, rfl, by show _ ≤ ((w.heap.modify g _) ++ os).size; simp, fun j hj hm => sw_ne (by simpa using hm) hj⟩
theorem put_all {enc : α → Value} {d : Array α} {xs rest : List Value} (h : d.size = xs.length) : putCells enc 0 d ⟨xs ++ rest⟩ = ⟨d.toList.map enc ++ rest⟩ := by
  unfold putCells
  apply Array.ext'
  apply List.ext_getElem
  · simp [h]
  · intro j h1 h2
    simp only [Array.toList_mapIdx, List.getElem_mapIdx]
    by_cases hj : j < d.size
    · rw [if_pos (by omega), List.getElem_append_left (by simpa using hj)]
      simp [getElem!_pos d j hj]
    · have e1 : (d.toList.map enc).length ≤ j := by rw [List.length_map, Array.length_toList]; omega
      have e2 : xs.length ≤ j := by omega
      rw [if_neg (by omega), List.getElem_append_right e1]
      show (xs ++ rest)[j]'_ = _
      rw [List.getElem_append_right e2]
      have e3 : (d.toList.map enc).length = xs.length := by rw [List.length_map, Array.length_toList]; exact h
      simp only [e3]
theorem sw_cell {enc : α → Value} {w : World} {g n : Nat} {d : Array α} {os : Array Obj} {a : Addr} {v : Value} (h : w.cell? a = some v) (ha : a.block ≠ g) : (sortWorld enc w g 0 n d os).cell? a = some v := by
  unfold World.cell? at h ⊢
  have hlt : a.block < w.heap.size := by
    cases hh : w.heap[a.block]? with
    | none => rw [hh] at h; cases h
    | some o => exact (Array.getElem?_eq_some_iff.1 hh).1
  rw [sw_ne ha hlt]
  exact h
end
theorem rw_put {α : Type} [Inhabited α] {enc : α → Value} {w : World} {e g n c q k : Nat} {xs : List Value} {d : Array α} {os : Array Obj} (h : Rw w 0 e 1 (some ⟨g, 0, none⟩) n c xs) (hd : d.size = n) (hk : k ≤ n) : Rw (sortWorld enc w g 0 q d os) 0 e 1 (some ⟨g, 0, none⟩) k c ((d.toList.map enc).take k) := by
  obtain ⟨rest, hw, hback⟩ := h.win
  have hxl : xs.length = n := by have := h.len; omega
  rcases hw with ⟨hx, _⟩ | ⟨g', hx, hh, _⟩
  · cases hx
  · cases hx
    have h2 := hback (sortWorld enc w g 0 q d os) (d.toList.map enc) (.inr ⟨g, rfl, by rw [sw_at hh, put_all (by omega)], .inl rfl⟩) (by simp; omega)
    have := h2.take hk
    rwa [Nat.mul_one] at this
theorem put_sort {α : Type} [Inhabited α] (enc : α → Value) (w : World) (g q : Nat) (d : Array α) : putRow enc (Sort.ahead w q) g 0 d = sortWorld enc w g 0 q d #[] := (grow_empty _).symm
theorem rw_holds {α : Type} [Inhabited α] {enc : α → Value} {w : World} {e g n c : Nat} {zs : List α} (h : Rw w 0 e 1 (some ⟨g, 0, none⟩) n c (zs.map enc)) : Holds enc w g 0 zs.toArray ∧ g < w.heap.size ∧ zs.length = n ∧ n ≤ c ∧ c ≤ maxLen := by
  have hl : zs.length = n := by have := h.len; simpa using this
  rcases h.2 with ⟨hv, _⟩ | ⟨g', cap, cur, hv, _, hh, hnc, hcap, hsz, ht⟩
  · cases hv
  · cases hv
    refine ⟨fun j hj => ?_, (Array.getElem?_eq_some_iff.1 hh).1, hl, hnc, hcap⟩
    have hj' : j < zs.length := by simpa using hj
    rw [Nat.zero_add]
    refine ⟨?_, by simp [World.frozen?, hh]⟩
    have h1 : (cur.toList.take (n * 1))[j]? = (zs.map enc)[j]? := by rw [ht]
    rw [List.getElem?_take_of_lt (by omega)] at h1
    have h2 : cur[j]? = some (enc zs[j]) := by
      rw [← Array.getElem?_toList, h1]; simp [hj']
    simp [World.cell?, hh, h2, getElem!_pos zs.toArray j hj]
theorem wn_holds {α : Type} [Inhabited α] {enc : α → Value} {w : World} {g T : Nat} {fz : Nat × Nat} {rest : List Value} {zs : List α} (hg : w.heap[g]? = some (.cells ⟨zs.map enc ++ rest⟩ T fz)) (hf : fz = (0, 0) ∨ (zs.map enc).length ≤ fz.1) : Holds enc w g 0 zs.toArray := fun j hj => by
  have hj' : j < zs.length := by simpa using hj
  rw [Nat.zero_add]
  refine ⟨?_, ?_⟩
  · have : (zs.map enc ++ rest)[j]? = some (enc zs[j]) := by
      rw [List.getElem?_append_left (by simpa using hj')]; simp [hj']
    simp [World.cell?, hg, this, getElem!_pos zs.toArray j hj]
  · simp only [World.frozen?, hg]
    rcases hf with rfl | hf
    · simp
    · rw [List.length_map] at hf; simp; omega
theorem el_int {m : List Nat} {w : World} {l : List Int} {xs : List Value} (h : El (cInt .i64) m w l xs) : xs = l.map (Value.int .i64) := el_ints h
theorem mk_int (m : List Nat) (w : World) : ∀ (l : List Int), El (cInt .i64) m w l (l.map (Value.int .i64))
  | [] => El.nil _ _ _
  | n :: l => El.cons (cs := [.int .i64 n]) rfl (mk_int m w l)
end Go.Lv
namespace Go.Proofs.YtfcemnnlmlggoaaGreat
open Go.Vc Go.Lv Go.Ty Go.Proofs Go.Sort
theorem sort_int (l : List Int) (hl : l.length < 1000000) (K : List Int → Prop) (h : K (l.mergeSort fun x y => decide (x ≤ y))) : V_sort_Ints l K := by
  intro m w hm A C xs rest T fz hin hle hwn hel
  have hxs := el_int hel
  subst hxs
  rcases hwn with ⟨rfl, he⟩ | ⟨g, rfl, hg, hfz⟩
  · have hl0 : l = [] := by simpa using he
    subst hl0
    have hn := Any.sort_Ints_none Tryz.lays191 none C w
    change Calls Tryz.prog 11 _ _ _ at hn
    refine hn.mono ?_
    rintro e w' ⟨rfl, rfl⟩
    exact ⟨[], by simpa using h, trivial, ⟨_, .inl ⟨rfl, rfl⟩, rfl, hel⟩, Keep.refl _ _⟩
  · have hcon := Any.sort_Ints Tryz.lays191 g 0 C l w (wn_holds hg hfz) (Array.getElem?_eq_some_iff.1 hg).1 (by omega)
    change Calls Tryz.prog 11 _ _ _ at hcon
    refine hcon.mono ?_
    rintro e w' ⟨rfl, n, os, rfl⟩
    have hml : (l.mergeSort fun x y => decide (x ≤ y)).length = l.length := List.length_mergeSort _
    generalize (l.mergeSort fun x y => decide (x ≤ y)) = s at h hml
    refine ⟨s, h, trivial, ⟨s.map (Value.int .i64), .inr ⟨g, rfl, ?_, ?_⟩, ?_, mk_int _ _ _⟩, sw_keep⟩
    · have := sw_at (enc := (Value.int .i64)) (n := n) (d := s.toArray) (os := os) hg
      rw [put_all (by simp [hml])] at this
      exact this
    · rcases hfz with hf | hf
      · exact .inl hf
      · right; rw [List.length_map] at hf ⊢; omega
    · simp [hml]
theorem compact_int (l : List Int) (hl : l.length < 1000000) (K : List Int → Prop) (h : K (Lib.compact l)) : V_slices_Compact_Slint_int l K := by
  intro m w hm A C xs hin hrw hel
  have hxs := el_int hel
  subst hxs
  cases A with
  | none =>
    have hl0 : l = [] := by
      rcases hrw.2 with ⟨_, hn⟩ | ⟨g, cap, cur, hv, _⟩
      · exact List.length_eq_zero_iff.1 hn
      · cases hv
    subst hl0
    have hn := Any.slices_Compact_int_empty Tryz.laysNm220 none C w
    change Calls Tryz.prog 12 _ _ _ at hn
    refine hn.mono ?_
    rintro e w' ⟨rfl, rfl⟩
    exact ⟨[], h, ⟨none, C, [], rfl, hrw, El.nil _ _ _, fun b hb => by cases hb⟩, Keep.refl _ _⟩
  | some p =>
    obtain ⟨g, rfl⟩ : ∃ g, p = ⟨g, 0, none⟩ := by
      rcases hrw.2 with ⟨hv, _⟩ | ⟨g, cap, cur, hv, _⟩
      · cases hv
      · cases hv; exact ⟨g, rfl⟩
    obtain ⟨hH, hlt, _, hc, _⟩ := rw_holds hrw
    have hcon := Any.slices_Compact_int Tryz.laysNm220 g 0 C l w hH (by omega) hc
    change Calls Tryz.prog 12 _ _ _ at hcon
    refine hcon.mono ?_
    rintro e w' ⟨rfl, q, rfl⟩
    have hcl := Lib.compact_length_le l
    rw [put_sort]
    have hr := rw_put (enc := (Value.int .i64)) (q := q) (k := (Lib.compact l).length) (d := (Lib.compact l ++ List.replicate (l.length - (Lib.compact l).length) 0).toArray) (os := #[]) hrw (by simp; omega) hcl
    have ht : (((Lib.compact l ++ List.replicate (l.length - (Lib.compact l).length) 0).toArray.toList.map (Value.int .i64)).take (Lib.compact l).length) = (Lib.compact l).map (Value.int .i64) := by
      rw [List.toList_toArray, List.map_append]
      exact List.take_left' (by simp)
    rw [ht] at hr
    exact ⟨_, h, ⟨_, _, _, rfl, hr, mk_int _ _ _, fun b hb => .inl hb⟩, sw_keep⟩
end Go.Proofs.YtfcemnnlmlggoaaGreat
