/- slices.Sort, Compact, Insert at []int, by the kit's contracts. -/
import Derived.Test.YtcbpdageojenjaaLtE
import Derived.Test.YtcbpdageojenjaaRowG
import Derived.Test.YtcbpdageojenjaaShSet
namespace Go.Proofs.Ytcbpdageojenjaa
open Go.Vc Go.Lv Go.Ty Go.Proofs Go.Sort

theorem sort_int (l : List Int) (hl : l.length < 1000000) (K : List Int → Prop) (h : K (l.mergeSort fun x y => decide (x ≤ y))) : V_slices_Sort_Slint_int l K := by
  intro m w hm A C xs rest T fz hin hle hwn hel
  have hxs := el_int hel
  subst hxs
  rcases hwn with ⟨rfl, he⟩ | ⟨g, rfl, hg, hfz⟩
  · have hl0 : l = [] := by simpa using he
    subst hl0
    have hn := Any.slices_Sort_int_none Try.lays189 none C w
    change Calls Try.prog 94 _ _ _ at hn
    refine hn.mono ?_
    rintro e w' ⟨rfl, rfl⟩
    exact ⟨[], by simpa using h, trivial, ⟨_, .inl ⟨rfl, rfl⟩, rfl, hel⟩, Keep.refl _ _⟩
  · have hcon := Any.slices_Sort_int Try.lays189 g 0 C l w (wn_holds hg hfz) (Array.getElem?_eq_some_iff.1 hg).1 (by omega)
    change Calls Try.prog 94 _ _ _ at hcon
    refine hcon.mono ?_
    rintro e w' ⟨rfl, n, os, rfl⟩
    have hml : (l.mergeSort fun x y => decide (x ≤ y)).length = l.length := List.length_mergeSort _
    generalize (l.mergeSort fun x y => decide (x ≤ y)) = s at h hml
    refine ⟨s, h, trivial, ⟨s.map (Value.int .i64), .inr ⟨g, rfl, ?_, ?_⟩, ?_, mk_int _ _ _⟩, sw_keep⟩
    · have := sw_at (enc := (Value.int .i64)) (n := n) (d := s.toArray) (os := os) hg
      rw [put_all (by simp [hml])] at this
      exact this
    · rcases hfz with hf | hf
      · exact .inl hf
      · right; rw [List.length_map] at hf ⊢; omega
    · simp [hml]
theorem compact_int (l : List Int) (hl : l.length < 1000000) (K : List Int → Prop) (h : K (Lib.compact l)) : V_slices_Compact_Slint_int l K := by
  intro m w hm A C xs hin hrw hel
  have hxs := el_int hel
  subst hxs
  cases A with
  | none =>
    have hl0 : l = [] := by
      rcases hrw.2 with ⟨_, hn⟩ | ⟨g, cap, cur, hv, _⟩
      · exact List.length_eq_zero_iff.1 hn
      · cases hv
    subst hl0
    have hn := Any.slices_Compact_int_empty Try.laysNm220 none C w
    change Calls Try.prog 95 _ _ _ at hn
    refine hn.mono ?_
    rintro e w' ⟨rfl, rfl⟩
    exact ⟨[], h, ⟨none, C, [], rfl, hrw, El.nil _ _ _, fun b hb => by cases hb⟩, Keep.refl _ _⟩
  | some p =>
    obtain ⟨g, rfl⟩ : ∃ g, p = ⟨g, 0, none⟩ := by
      rcases hrw.2 with ⟨hv, _⟩ | ⟨g, cap, cur, hv, _⟩
      · cases hv
      · cases hv; exact ⟨g, rfl⟩
    obtain ⟨hH, hlt, _, hc, _⟩ := rw_holds hrw
    have hcon := Any.slices_Compact_int Try.laysNm220 g 0 C l w hH (by omega) hc
    change Calls Try.prog 95 _ _ _ at hcon
    refine hcon.mono ?_
    rintro e w' ⟨rfl, q, rfl⟩
    have hcl := Lib.compact_length_le l
    rw [put_sort]
    have hr := rw_put (enc := (Value.int .i64)) (q := q) (k := (Lib.compact l).length) (d := (Lib.compact l ++ List.replicate (l.length - (Lib.compact l).length) 0).toArray) (os := #[]) hrw (by simp; omega) hcl
    have ht : (((Lib.compact l ++ List.replicate (l.length - (Lib.compact l).length) 0).toArray.toList.map (Value.int .i64)).take (Lib.compact l).length) = (Lib.compact l).map (Value.int .i64) := by
      rw [List.toList_toArray, List.map_append]
      exact List.take_left' (by simp)
    rw [ht] at hr
    exact ⟨_, h, ⟨_, _, _, rfl, hr, mk_int _ _ _, fun b hb => .inl hb⟩, sw_keep⟩
theorem insert_int (l : List Int) (a : Nat) (x : Int) (ha : a ≤ l.length) (hl : l.length < 1000000) (K : List Int → Prop) (h : K (l.take a ++ x :: l.drop a)) : V_slices_Insert_Slint_int l a [x] K := by
  intro m w hm A C xs hin hrw hel vA vC vxs hdif hvrw hvel
  have hxs := el_int hel
  subst hxs
  have hvxs := el_int hvel
  subst hvxs
  obtain ⟨vg, rfl, hvlt⟩ : ∃ g, vA = some ⟨g, 0, none⟩ ∧ True := by
    rcases hvrw.2 with ⟨_, hn⟩ | ⟨g, cap, cur, hv, _⟩
    · simp at hn
    · cases hv; exact ⟨g, rfl, trivial⟩
  obtain ⟨hvH, hvl, _, _, _⟩ := rw_holds hvrw
  have hvs : ∀ j v, [(Value.int .i64) x][j]? = some v → w.cell? ⟨vg, 0 + j, none⟩ = some v := fun j v hj => by
    cases j with
    | zero => simp at hj; subst hj; exact (hvH 0 (by simp)).1
    | succ j => simp at hj
  have hvsh : ∃ tA kA, w.shape? vg = some (tA, kA) ∧ w.frozen? ⟨vg, kA, none⟩ = false := by
    rcases hvrw.2 with ⟨hv, _⟩ | ⟨g, cap, cur, hv, _, hh, _⟩
    · cases hv
    · cases hv; exact ⟨3, cur.size, by simp [World.shape?, hh], by simp [World.frozen?, hh]⟩
  have hfa : w.frozen? ⟨vg, 0, none⟩ = false := (hvH 0 (by simp)).2
  have h1v : ∀ v ∈ [(Value.int .i64) x], v.oneCell' = true := fun v hv => by simp at hv; subst hv; rfl
  have hE : ∀ w', El (cInt .i64) (m) w' (l.take a ++ x :: l.drop a) ((l.map (Value.int .i64)).take a ++ [(Value.int .i64) x] ++ (l.map (Value.int .i64)).drop a) := fun w' => by
    have := mk_int m w' (l.take a ++ x :: l.drop a)
    rwa [show (l.take a ++ x :: l.drop a).map (Value.int .i64) = (l.map (Value.int .i64)).take a ++ [(Value.int .i64) x] ++ (l.map (Value.int .i64)).drop a by simp [List.map_take, List.map_drop]] at this
  have hE' : ∀ q w', El (cInt .i64) (q ++ m) w' (l.take a ++ x :: l.drop a) ((l.map (Value.int .i64)).take a ++ [(Value.int .i64) x] ++ (l.map (Value.int .i64)).drop a) := fun q w' => by
    have := mk_int (q ++ m) w' (l.take a ++ x :: l.drop a)
    rwa [show (l.take a ++ x :: l.drop a).map (Value.int .i64) = (l.map (Value.int .i64)).take a ++ [(Value.int .i64) x] ++ (l.map (Value.int .i64)).drop a by simp [List.map_take, List.map_drop]] at this
  have hrl : (l.take a ++ x :: l.drop a).length = l.length + 1 := by simp; omega
  have hbytes : (l.length + 1) * 8 ≤ 140737488355328 := by omega
  have hgm : grownCap w (l.length + 1) C 3 ≤ maxLen := grownCap_le_maxLen w _ _ _ (by unfold maxLen; omega)
  have hge := grownCap_ge w (l.length + 1) C 3
  have zsz : ∀ k, (Builtin.zeroCells (Value.int .i64 0).cells k).size = k := fun k => by simp [size_zeroCells, Value.cells]
  cases A with
  | none =>
    have hl0 : l = [] := by
      rcases hrw.2 with ⟨_, hn⟩ | ⟨g, cap, cur, hv, _⟩
      · exact List.length_eq_zero_iff.1 hn
      · cases hv
    have hC : C = 0 := by
      rcases hrw.2 with ⟨hv, _⟩ | ⟨g, cap, cur, hv, _⟩
      · simp at hv; exact hv.2
      · cases hv
    subst hl0 hC
    have ha0 : a = 0 := by simpa using ha
    subst ha0
    have hcon := Any2.slices_Insert_int_end_grow Try.laysNm221 none 0 0 vg 0 1 vC [] [(Value.int .i64) x] w (by omega) (by omega) (by omega) (by decide) rfl rfl (fun _ => rfl) (fun a ha => by cases ha) hvs h1v
    change Calls Try.prog 98 _ _ _ at hcon
    refine hcon.mono ?_
    rintro e w' ⟨rfl, hw'⟩
    refine ⟨_, h, ⟨some ⟨w.heap.size, 0, none⟩, _, _, rfl, rw_new (w := w) (ys := [(Value.int .i64) x]) (Z := Builtin.zeroCells (Value.int .i64 0).cells (grownCap w (0 + 1) 0 3 - (0 + 1))) rfl hge hgm (zsz _) (by rw [hw']; exact heap_alloc_new w.drew _), hE' _ _, fun b hb => .inr (by cases hb; exact Nat.le_refl _)⟩, ?_⟩
    rw [hw']
    exact (drew_keep w _).trans ((keep_alloc rfl).mono (by simp))
  | some p =>
    obtain ⟨g, cap, cur, hv, _, hh, hnc, hcap, hsz, ht⟩ := hrw.2.resolve_left (fun h => by cases h.1)
    cases hv
    have hgv : vg ≠ g := fun e => hdif vg rfl (by rw [e]; rfl)
    have hcell : ∀ j v, (l.map (Value.int .i64))[j]? = some v → w.cell? ⟨g, 0 + j, none⟩ = some v := fun j v hj => by
      obtain ⟨hH, _⟩ := rw_holds hrw
      have hj' : j < l.length := by have := (List.getElem?_eq_some_iff.1 hj).1; simpa using this
      have h2 := (hH j (by simpa using hj')).1
      rw [getElem!_pos l.toArray j (by simpa using hj')] at h2
      rw [h2]
      simpa [hj'] using hj
    have h1c : ∀ v ∈ l.map (Value.int .i64), v.oneCell' = true := fun v hv => by
      obtain ⟨y, _, rfl⟩ := List.mem_map.1 hv; rfl
    have hcs : cur.size = C := by rw [hsz, Nat.mul_one]
    have hsome : ∀ j, j < C → (w.cell? ⟨g, 0 + j, none⟩).isSome = true ∧ w.frozen? ⟨g, 0 + j, none⟩ = false := fun j hj => by
      rw [Nat.zero_add]
      exact ⟨by simp [World.cell?, hh, hcs, hj], by simp [World.frozen?, hh]⟩
    have h63 : C ≤ 9223372036854775807 := by unfold maxLen at hcap; omega
    by_cases hroom : l.length + 1 ≤ C
    · by_cases hend : a = l.length
      · subst hend
        have hcon := Any2.slices_Insert_int_end_room Try.laysNm221 g 0 l.length C vg 0 1 vC [(Value.int .i64) x] w (by omega) hroom h63 rfl (fun j hj => by have := (hsome (l.length + j) (by omega)).1; rwa [← Nat.add_assoc] at this) (fun j hj => by have := (hsome (l.length + j) (by omega)).2; rwa [← Nat.add_assoc] at this) hvs h1v
        change Calls Try.prog 98 _ _ _ at hcon
        refine hcon.mono ?_
        rintro e w' ⟨rfl, hw'⟩
        obtain ⟨hr, hk⟩ := rw_end hh hcap hsz ht hroom hw'
        have e1 : (l.map (Value.int .i64)).take l.length ++ [(Value.int .i64) x] ++ (l.map (Value.int .i64)).drop l.length = l.map (Value.int .i64) ++ [(Value.int .i64) x] := by rw [List.take_of_length_le (by simp), List.drop_of_length_le (by simp), List.append_nil]
        refine ⟨_, h, ⟨_, C, _, by rw [hrl], by rw [hrl, e1]; exact hr, hE' _ _, fun b hb => .inl hb⟩, hk⟩
      · obtain ⟨tA, kA, hsa, hfe⟩ := hvsh
        have hcon := Any2.slices_Insert_int_shift Try.laysNm221 g 0 l.length C a vg 0 1 vC (l.map (Value.int .i64)) [(Value.int .i64) x] w (by omega) (by omega) hroom h63 hgv (by simp) rfl hcell (fun j hj => (hsome j (by omega)).1) (fun j hj => (hsome j (by omega)).2) hvs h1c h1v tA 3 kA cur.size hsa (by simp [World.shape?, hh]) (by omega) hfa hfe
        change Calls Try.prog 98 _ _ _ at hcon
        refine hcon.mono ?_
        rintro e w' ⟨rfl, hw'⟩
        obtain ⟨hr, hk⟩ := rw_shift hh hcap hsz ht hroom ha hw'
        exact ⟨_, h, ⟨_, C, _, by rw [hrl], by rw [hrl]; exact hr, hE' _ _, fun b hb => .inl hb⟩, hk⟩
    · by_cases hend : a = l.length
      · subst hend
        have hcon := Any2.slices_Insert_int_end_grow Try.laysNm221 (some ⟨g, 0, none⟩) l.length C vg 0 1 vC (l.map (Value.int .i64)) [(Value.int .i64) x] w (by omega) hnc (by omega) hbytes (by simp) rfl (fun h => by cases h) (fun p hp j v hj => by cases hp; rw [add_mk]; exact hcell j v hj) hvs h1v
        change Calls Try.prog 98 _ _ _ at hcon
        refine hcon.mono ?_
        rintro e w' ⟨rfl, hw'⟩
        have e1 : (l.map (Value.int .i64)).take l.length ++ [(Value.int .i64) x] ++ (l.map (Value.int .i64)).drop l.length = l.map (Value.int .i64) ++ [(Value.int .i64) x] := by rw [List.take_of_length_le (by simp), List.drop_of_length_le (by simp), List.append_nil]
        refine ⟨_, h, ⟨some ⟨w.heap.size, 0, none⟩, _, _, by rw [hrl], ?_, hE' _ _, fun b hb => .inr (by cases hb; exact Nat.le_refl _)⟩, ?_⟩
        · rw [hrl, e1]
          exact rw_new (w := w) (by simp) hge hgm (zsz _) (by rw [hw']; exact heap_alloc_new w.drew _)
        · rw [hw']
          exact (drew_keep w _).trans ((keep_alloc rfl).mono (by simp))
      · have hcon := Any2.slices_Insert_int_grow Try.laysNm221 g 0 l.length C a vg 0 1 vC (l.map (Value.int .i64)) [(Value.int .i64) x] w (by omega) (by omega) hnc (by omega) hbytes (by simp) rfl hcell hvs h1c h1v
        change Calls Try.prog 98 _ _ _ at hcon
        refine hcon.mono ?_
        rintro e w' ⟨rfl, hw'⟩
        refine ⟨_, h, ⟨some ⟨w.heap.size, 0, none⟩, _, _, by rw [hrl], ?_, hE' _ _, fun b hb => .inr (by cases hb; exact Nat.le_refl _)⟩, ?_⟩
        · rw [hrl]
          refine rw_new (w := w) (Z := Builtin.zeroCells (Value.int .i64 0).cells (grownCap w (l.length + 1) C 3 - (l.length + 1))) (by simp; omega) hge hgm (zsz _) ?_
          rw [hw']
          have g0 : (w.alloc (.cells (((l.map (Value.int .i64)).take a).toArray ++ Builtin.zeroCells (Value.int .i64 0).cells (l.length + 1 - a) ++ Builtin.zeroCells (Value.int .i64 0).cells (grownCap w (l.length + 1) C 3 - (l.length + 1))) 3)).drew.heap[w.heap.size]? = some (.cells ⟨(l.map (Value.int .i64)).take a ++ (Builtin.zeroCells (Value.int .i64 0).cells (l.length + 1 - a)).toList ++ (Builtin.zeroCells (Value.int .i64 0).cells (grownCap w (l.length + 1) C 3 - (l.length + 1))).toList⟩ 3 (0, 0)) := by
            refine (heap_alloc_new w _).trans ?_
            congr 2
            apply Array.ext'
            simp
          have zl := fun k => (Array.length_toList (xs := Builtin.zeroCells (Value.int .i64 0).cells k)).trans (zsz k)
          have g1 := setC_at [(Value.int .i64) x] _ a _ g0
          have gd : ∀ (u : World) (X : Option Obj), u.heap[w.heap.size]? = X → u.drew.heap[w.heap.size]? = X := fun u X h => h
          have g2 := setC_at ((l.map (Value.int .i64)).drop a) _ (a + 1) _ (gd _ _ g1)
          refine g2.trans ?_
          congr 2
          apply Array.ext'
          have hta : ((l.map (Value.int .i64)).take a).length = a := by simp; omega
          generalize hT : (Builtin.zeroCells (Value.int .i64 0).cells (l.length + 1 - a)).toList = Z1 at *
          have hz1 : Z1.length = l.length + 1 - a := by rw [← hT]; exact zl _
          generalize (Builtin.zeroCells (Value.int .i64 0).cells (grownCap w (l.length + 1) C 3 - (l.length + 1))) = Z2
          generalize hxsA : (l.map (Value.int .i64)).take a = P at *
          have hdl : ((l.map (Value.int .i64)).drop a).length = l.length - a := by simp
          generalize (l.map (Value.int .i64)).drop a = D at *
          rw [over_eq [(Value.int .i64) x] _ a (by simp; omega)]
          have e1 : (P ++ Z1 ++ Z2.toList).take a = P := by rw [List.append_assoc, ← hta, List.take_left]
          have e2 : (P ++ Z1 ++ Z2.toList).drop (a + [(Value.int .i64) x].length) = Z1.drop 1 ++ Z2.toList := by
            rw [List.append_assoc, ← List.drop_drop, ← hta, List.drop_left, List.drop_append_of_le_length (by simp; omega)]; rfl
          rw [e1, e2, over_eq D _ (a + 1) (by simp; omega)]
          have e3 : (P ++ [(Value.int .i64) x] ++ (Z1.drop 1 ++ Z2.toList)).take (a + 1) = P ++ [(Value.int .i64) x] := by
            rw [show a + 1 = (P ++ [(Value.int .i64) x]).length by simp [hta], List.take_left]
          have e4 : (P ++ [(Value.int .i64) x] ++ (Z1.drop 1 ++ Z2.toList)).drop (a + 1 + D.length) = Z2.toList := by
            rw [← List.append_assoc, show a + 1 + D.length = (P ++ [(Value.int .i64) x] ++ Z1.drop 1).length by simp [hta, hz1, hdl]; omega, List.drop_left]
          rw [e3, e4]
          simp
        · rw [hw']
          have k0 : Keep ((Vc.blk (some (⟨g, 0, none⟩ : Addr))).toList) w (w.alloc (.cells (((l.map (Value.int .i64)).take a).toArray ++ Builtin.zeroCells (Value.int .i64 0).cells (l.length + 1 - a) ++ Builtin.zeroCells (Value.int .i64 0).cells (grownCap w (l.length + 1) C 3 - (l.length + 1))) 3)) := (keep_alloc rfl).mono (by simp)
          exact new_keep k0 ((drew_keep _ _).trans ((setC_keep _ _ _).trans ((drew_keep _ _).trans (setC_keep _ _ _))))
end Go.Proofs.Ytcbpdageojenjaa
