/- Rows behind calls of the library: slices.Insert, Delete, Compact, Sort, in the words of rows. -/
import Derived.Test.YtcbpdageojenjaaSortG
import Derived.Shelf.Spec.SlicesInsert
import Derived.Shelf.Spec.SlicesInsertGrow
namespace Go.Lv
open Go.Vc Go.Proofs Go.Sort

theorem over_eq : ∀ (vs l : List Value) (i : Nat), i + vs.length ≤ l.length → over l i vs = l.take i ++ vs ++ l.drop (i + vs.length)
  | [], l, i, _ => by simp [over]
  | v :: vs, l, i, h => by
    rw [over, over_eq vs (l.set i v) (i + 1) (by simp at h ⊢; omega)]
    have hi : i < l.length := by simp at h; omega
    have e1 : (l.set i v).take (i + 1) = l.take i ++ [v] := by
      have e0 : (l.set i v).take i = l.take i := by
        apply List.ext_getElem?
        intro j
        rw [List.getElem?_take, List.getElem?_take]
        split
        · rw [List.getElem?_set_ne (by omega)]
        · rfl
      rw [List.take_add_one, List.getElem?_set, e0]
      simp [hi]
    have e2 : (l.set i v).drop (i + 1 + vs.length) = l.drop (i + (v :: vs).length) := by
      rw [List.drop_set_of_lt (by omega)]
      congr 1
      simp; omega
    rw [e1, e2]; simp
theorem setC_at {b T : Nat} {fz : Nat × Nat} : ∀ (vs : List Value) (w : World) (o : Nat) (l : List Value), w.heap[b]? = some (.cells ⟨l⟩ T fz) → (w.setCells b o vs).heap[b]? = some (.cells ⟨over l o vs⟩ T fz)
  | [], w, o, l, h => h
  | v :: vs, w, o, l, h => by
    show ((w.setCell ⟨b, o, none⟩ v).setCells b (o + 1) vs).heap[b]? = _
    rw [over]
    refine setC_at vs _ _ _ ?_
    rw [heap_setCell, if_pos rfl, h]
    simp
theorem setC_keep {b : Nat} : ∀ (vs : List Value) (w : World) (o : Nat), Keep [b] w (w.setCells b o vs)
  | [], w, o => Keep.refl _ _
  | v :: vs, w, o => by
    have h1 : Keep [b] w (w.setCell ⟨b, o, none⟩ v) := keep_set rfl
    exact h1.trans (setC_keep vs _ _)
theorem drew_keep (w : World) (m : List Nat) : Keep m w w.drew := (keep_drew rfl).mono (by simp)
theorem new_keep {m : List Nat} {w u u' : World} (h : Keep m w u) (h' : Keep [w.heap.size] u u') : Keep m w u' :=
  ⟨h'.os.trans h.os, h'.tape.trans h.tape, h'.output.trans h.output, Nat.le_trans h.size h'.size, fun j hj hm => (h'.block j (Nat.lt_of_lt_of_le hj h.size) (by simp; omega)).trans (h.block j hj hm)⟩
/-- a row with one more in its middle, in place -/
theorem rw_shift {w w' : World} {e g n c i : Nat} {cur : Array Value} {xs : List Value} {v : Value} (hh : w.heap[g]? = some (.cells cur e (0, 0))) (hc : c ≤ maxLen) (hsz : cur.size = c * 1) (ht : cur.toList.take (n * 1) = xs) (hn : n + 1 ≤ c) (hi : i ≤ n)
    (hw : w' = (w.drew.setCells g (0 + (i + 1)) (xs.drop i)).setCells g (0 + i) [v]) : Rw w' 0 e 1 (some ⟨g, 0, none⟩) (n + 1) c (xs.take i ++ [v] ++ xs.drop i) ∧ Keep [g] w w' := by
  rw [Nat.mul_one] at hsz ht
  have hxl : xs.length = n := by rw [← ht, List.length_take, Array.length_toList]; omega
  have hcl : cur.toList.length = c := by rw [Array.length_toList]; exact hsz
  have h1 : w.drew.heap[g]? = some (.cells ⟨cur.toList⟩ e (0, 0)) := hh
  have h2 := setC_at [v] _ (0 + i) _ (setC_at (xs.drop i) _ (0 + (i + 1)) _ h1)
  rw [← hw, Nat.zero_add, Nat.zero_add, over_eq (xs.drop i) _ _ (by rw [List.length_drop]; omega)] at h2
  have hA : (cur.toList.take (i + 1) ++ xs.drop i ++ cur.toList.drop (i + 1 + (xs.drop i).length)).length = c := by simp; omega
  rw [over_eq [v] _ i (by rw [hA, List.length_singleton]; omega)] at h2
  have e1 : (cur.toList.take (i + 1) ++ xs.drop i ++ cur.toList.drop (i + 1 + (xs.drop i).length)).take i = xs.take i := by
    rw [List.append_assoc, List.take_append_of_le_length (by rw [List.length_take]; omega), List.take_take, Nat.min_eq_left (by omega), ← ht, List.take_take, Nat.min_eq_left hi]
  have e2 : (cur.toList.take (i + 1) ++ xs.drop i ++ cur.toList.drop (i + 1 + (xs.drop i).length)).drop (i + [v].length) = xs.drop i ++ cur.toList.drop (i + 1 + (xs.drop i).length) := by
    rw [List.append_assoc, List.length_singleton, List.drop_append_of_le_length (by rw [List.length_take]; omega), List.drop_of_length_le (by rw [List.length_take]; omega), List.nil_append]
  rw [e1, e2] at h2
  have hlen : (xs.take i ++ [v] ++ xs.drop i).length = (n + 1) * 1 := by simp; omega
  refine ⟨⟨hlen, .inr ⟨g, c, _, rfl, Nat.zero_le _, h2, hn, hc, ?_, ?_⟩⟩, ?_⟩
  · show (_ : List Value).length = _
    simp; omega
  · show List.take _ (xs.take i ++ [v] ++ (xs.drop i ++ _)) = _
    rw [← List.append_assoc, ← hlen, List.take_left]
  · rw [hw]
    exact (drew_keep w _).trans ((setC_keep _ _ _).trans (setC_keep _ _ _))
theorem rw_end {w w' : World} {e g n c : Nat} {cur : Array Value} {xs : List Value} {v : Value} (hh : w.heap[g]? = some (.cells cur e (0, 0))) (hc : c ≤ maxLen) (hsz : cur.size = c * 1) (ht : cur.toList.take (n * 1) = xs) (hn : n + 1 ≤ c)
    (hw : w' = w.setCells g (0 + n) [v]) : Rw w' 0 e 1 (some ⟨g, 0, none⟩) (n + 1) c (xs ++ [v]) ∧ Keep [g] w w' := by
  rw [Nat.mul_one] at hsz ht
  have hxl : xs.length = n := by rw [← ht, List.length_take, Array.length_toList]; omega
  have hcl : cur.toList.length = c := by rw [Array.length_toList]; exact hsz
  have h1 : w.heap[g]? = some (.cells ⟨cur.toList⟩ e (0, 0)) := hh
  have h2 := setC_at [v] _ (0 + n) _ h1
  rw [← hw, Nat.zero_add, over_eq [v] _ _ (by rw [List.length_singleton]; omega), ht] at h2
  have hlen : (xs ++ [v]).length = (n + 1) * 1 := by simp; omega
  refine ⟨⟨hlen, .inr ⟨g, c, _, rfl, Nat.zero_le _, h2, hn, hc, ?_, ?_⟩⟩, by rw [hw]; exact setC_keep _ _ _⟩
  · show (_ : List Value).length = _
    simp; omega
  · show List.take _ (xs ++ [v] ++ _) = _
    rw [← hlen, List.take_left]
theorem rw_new {w w' : World} {e k C : Nat} {ys : List Value} {Z : Array Value} (hk : ys.length = k) (hC : k ≤ C) (hM : C ≤ maxLen) (hZ : Z.size = C - k) (hg : w'.heap[w.heap.size]? = some (.cells (ys.toArray ++ Z) e (0, 0))) : Rw w' 0 e 1 (some ⟨w.heap.size, 0, none⟩) k C ys := by
  refine ⟨by omega, .inr ⟨w.heap.size, C, _, rfl, Nat.zero_le _, hg, hC, hM, by simp; omega, ?_⟩⟩
  rw [Nat.mul_one, Array.toList_append]
  show (ys ++ _).take k = ys
  rw [← hk, List.take_left]
/-- a row whose cells are put anew -/
theorem rw_put {α : Type} [Inhabited α] {enc : α → Value} {w : World} {e g n c q k : Nat} {xs : List Value} {d : Array α} {os : Array Obj} (h : Rw w 0 e 1 (some ⟨g, 0, none⟩) n c xs) (hd : d.size = n) (hk : k ≤ n) : Rw (sortWorld enc w g 0 q d os) 0 e 1 (some ⟨g, 0, none⟩) k c ((d.toList.map enc).take k) := by
  obtain ⟨rest, hw, hback⟩ := h.win
  have hxl : xs.length = n := by have := h.len; omega
  rcases hw with ⟨hx, _⟩ | ⟨g', hx, hh, _⟩
  · cases hx
  · cases hx
    have h2 := hback (sortWorld enc w g 0 q d os) (d.toList.map enc) (.inr ⟨g, rfl, by rw [sw_at hh, put_all (by omega)], .inl rfl⟩) (by simp; omega)
    have := h2.take hk
    rwa [Nat.mul_one] at this
theorem put_sort {α : Type} [Inhabited α] (enc : α → Value) (w : World) (g q : Nat) (d : Array α) : putRow enc (Sort.ahead w q) g 0 d = sortWorld enc w g 0 q d #[] := (grow_empty _).symm
theorem rw_holds {α : Type} [Inhabited α] {enc : α → Value} {w : World} {e g n c : Nat} {zs : List α} (h : Rw w 0 e 1 (some ⟨g, 0, none⟩) n c (zs.map enc)) : Holds enc w g 0 zs.toArray ∧ g < w.heap.size ∧ zs.length = n ∧ n ≤ c ∧ c ≤ maxLen := by
  have hl : zs.length = n := by have := h.len; simpa using this
  rcases h.2 with ⟨hv, _⟩ | ⟨g', cap, cur, hv, _, hh, hnc, hcap, hsz, ht⟩
  · cases hv
  · cases hv
    refine ⟨fun j hj => ?_, (Array.getElem?_eq_some_iff.1 hh).1, hl, hnc, hcap⟩
    have hj' : j < zs.length := by simpa using hj
    rw [Nat.zero_add]
    refine ⟨?_, by simp [World.frozen?, hh]⟩
    have h1 : (cur.toList.take (n * 1))[j]? = (zs.map enc)[j]? := by rw [ht]
    rw [List.getElem?_take_of_lt (by omega)] at h1
    have h2 : cur[j]? = some (enc zs[j]) := by
      rw [← Array.getElem?_toList, h1]; simp [hj']
    simp [World.cell?, hh, h2, getElem!_pos zs.toArray j hj]
theorem wn_holds {α : Type} [Inhabited α] {enc : α → Value} {w : World} {g T : Nat} {fz : Nat × Nat} {rest : List Value} {zs : List α} (hg : w.heap[g]? = some (.cells ⟨zs.map enc ++ rest⟩ T fz)) (hf : fz = (0, 0) ∨ (zs.map enc).length ≤ fz.1) : Holds enc w g 0 zs.toArray := fun j hj => by
  have hj' : j < zs.length := by simpa using hj
  rw [Nat.zero_add]
  refine ⟨?_, ?_⟩
  · have : (zs.map enc ++ rest)[j]? = some (enc zs[j]) := by
      rw [List.getElem?_append_left (by simpa using hj')]; simp [hj']
    simp [World.cell?, hg, this, getElem!_pos zs.toArray j hj]
  · simp only [World.frozen?, hg]
    rcases hf with rfl | hf
    · simp
    · rw [List.length_map] at hf; simp; omega
theorem el_str {m : List Nat} {w : World} : ∀ {l : List (List UInt8)} {xs : List Value}, El cStr m w l xs → xs = l.map encStr
  | [], _, ⟨css, rfl, h⟩ => by cases css with | nil => rfl | cons => exact h.elim
  | n :: l, _, ⟨css, rfl, h⟩ => by
    cases css with
    | nil => exact h.elim
    | cons cs css =>
      have h1 : cs = [.string (mkS n)] := h.1
      have := el_str (l := l) ⟨css, rfl, h.2⟩
      rw [List.flatten_cons, this, h1]; rfl
theorem el_int {m : List Nat} {w : World} {l : List Int} {xs : List Value} (h : El (cInt .i64) m w l xs) : xs = l.map (Value.int .i64) := el_ints h
theorem mk_int (m : List Nat) (w : World) : ∀ (l : List Int), El (cInt .i64) m w l (l.map (Value.int .i64))
  | [] => El.nil _ _ _
  | n :: l => El.cons (cs := [.int .i64 n]) rfl (mk_int m w l)
theorem mk_str (m : List Nat) (w : World) : ∀ (l : List (List UInt8)), El cStr m w l (l.map encStr)
  | [] => El.nil _ _ _
  | n :: l => El.cons (cs := [.string (mkS n)]) rfl (mk_str m w l)
end Go.Lv
