/- The sort of cover.Hot. -/
import Derived.Test.YtcbpdageojenjaaCovA
import Derived.Test.YtcbpdageojenjaaSortG
import Derived.Test.YtcbpdageojenjaaShSort
namespace Go.Proofs.Ytcbpdageojenjaa
open Go.Vc Go.Lv Go.Ty Go.Proofs Go.Sort

def cmpI (x y : Int) : Int := if x < y then -1 else if x > y then 1 else 0
theorem compare_spec (x y : Int) (w : World) : Calls Try.prog 92 #[.int .i64 x, .int .i64 y] w (Ret fun v w' => v = .int .i64 (cmpI x y) ∧ w = w') := by
  have hn : ∀ z : Int, (z != z) = false := fun z => by simp
  refine cmp_Compare_int_ok _ _ _ _ (cmp_isNaN_int_ok _ _ _ ⟨_, rfl, cmp_isNaN_int_ok _ _ _ ⟨_, rfl, ?_⟩⟩)
  refine cond_f (hn x) (cond_f (hn y) (cond_intro (fun h => ?_) fun h => cond_intro (fun h2 => ?_) fun h2 => ?_))
  · exact ⟨by unfold cmpI; rw [if_pos (by simpa using h)], rfl⟩
  · exact ⟨by unfold cmpI; rw [if_neg (by simpa using h), if_pos (by simpa using h2)], rfl⟩
  · exact ⟨by unfold cmpI; rw [if_neg (by simpa using h), if_neg (by simpa using h2)], rfl⟩
theorem or_spec (b : Nat) (x y : Int) (w : World) (hb : Box w b [.int .i64 x, .int .i64 y]) : Calls Try.prog 91 #[.slice (some ⟨b, 0, none⟩) 2 2] w (Ret fun v w' => v = .int .i64 (if x ≠ 0 then x else y) ∧ w = w') := by
  refine cmp_Or_int_ok _ _ _ _ _ ⟨fun i w' => w = w' ∧ ((i = 0) ∨ (i = 1 ∧ x = 0) ∨ (i = 2 ∧ x = 0 ∧ y = 0)), fun i _ => (2 - i).toNat, ⟨rfl, .inl rfl⟩, ?_⟩
  rintro _ _ _ ⟨rfl, rfl | ⟨rfl, rfl⟩ | ⟨rfl, rfl, rfl⟩⟩
  · refine cond_t rfl ⟨by decide, ?_⟩
    refine ⟨x, by rw [add_mk]; exact hb.cell rfl, cond_intro (fun h => ?_) fun h => ?_⟩
    · exact ⟨by rw [if_pos (by simpa using h)], rfl⟩
    · exact ⟨⟨rfl, .inr (.inl ⟨by decide, by simpa using h⟩)⟩, by show ((2 : Int) - IntKind.i64.wrap (0 + 1)).toNat < ((2 : Int) - 0).toNat; decide⟩
  · refine cond_t rfl ⟨by decide, ?_⟩
    refine ⟨y, by rw [add_mk]; exact hb.cell rfl, cond_intro (fun h => ?_) fun h => ?_⟩
    · exact ⟨by simp, rfl⟩
    · exact ⟨⟨rfl, .inr (.inr ⟨by decide, rfl, by simpa using h⟩)⟩, by show ((2 : Int) - IntKind.i64.wrap (1 + 1)).toNat < ((2 : Int) - 1).toNat; decide⟩
  · exact cond_f rfl ⟨by simp, rfl⟩
/-- who stands ahead: who was done oftener; else the lower number -/
def cfH (counts : List Int) (a b : Nat) : Int := if cmpI (counts.getD b 0) (counts.getD a 0) ≠ 0 then cmpI (counts.getD b 0) (counts.getD a 0) else cmpI a b
def ltH (counts : List Int) (a b : Nat) : Prop := counts.getD b 0 < counts.getD a 0 ∨ (counts.getD b 0 = counts.getD a 0 ∧ a < b)
theorem cfH_lt (counts : List Int) (a b : Nat) : cfH counts a b < 0 ↔ ltH counts a b := by
  unfold cfH ltH cmpI
  generalize counts.getD a 0 = x
  generalize counts.getD b 0 = y
  repeat' split
  all_goals omega
theorem hot2_spec (counts : List Int) (a b : Nat) (ha : a < counts.length) (hb : b < counts.length) (p : Nat) (q : Addr) (C : Nat) (w : World) (h0 : w.cell? ⟨p, 0, none⟩ = some (.slice (some q) counts.length C)) (hq : ∀ i (h : i < counts.length), w.cell? (q.add (i * 1)) = some (.int .i64 counts[i])) :
    Calls Try.prog 90 #[.int .i64 (a : Int), .int .i64 (b : Int), .pointer (some ⟨p, 0, none⟩)] w (Ret fun v w' => v = .int .i64 (cfH counts a b) ∧ ∃ o, w' = w.drew.alloc o) := by
  refine cover_Hot_2_ok _ _ _ _ _ ?_
  intro w1 hw1
  subst hw1
  refine ⟨fun u => ∀ c v, w.cell? c = some v → u.cell? c = some v, fun c v h => h, some q, counts.length, C, fun u hu => hu _ _ h0, by omega, ?_⟩
  refine ⟨counts[b], fun u hu => hu _ _ (by rw [Int.toNat_natCast]; exact hq b hb), some q, counts.length, C, fun u hu => hu _ _ h0, by omega, ?_⟩
  refine ⟨counts[a], fun u hu => hu _ _ (by rw [Int.toNat_natCast]; exact hq a ha), call_then (compare_spec _ _ _) ?_⟩
  rintro _ _ ⟨rfl, rfl⟩
  refine ⟨_, rfl, fun c v h => h, call_then (compare_spec _ _ _) ?_⟩
  rintro _ _ ⟨rfl, rfl⟩
  refine ⟨_, rfl, fun c v h => h, fun b1 w4 hb1 hw4 => ?_⟩
  have c4 : ∀ c v, w.cell? c = some v → w4.cell? c = some v := fun c v h => by
    have hlt := cell_lt h
    have : w4.heap[c.block]? = w.heap[c.block]? := by
      rw [hw4]
      show (w.heap.push _)[c.block]? = _
      rw [Array.getElem?_push_lt hlt]
      exact (Array.getElem?_eq_getElem hlt).symm
    unfold World.cell? at h ⊢
    rw [this]; exact h
  refine ⟨c4, call_then (or_spec b1 _ _ w4 (Box.new hb1 hw4)) ?_⟩
  rintro _ _ ⟨rfl, rfl⟩
  refine ⟨_, rfl, c4, ?_, _, hw4⟩
  unfold cfH
  have e1 : counts.getD a 0 = counts[a] := by simp [List.getD_eq_getElem?_getD, ha]
  have e2 : counts.getD b 0 = counts[b] := by simp [List.getD_eq_getElem?_getD, hb]
  rw [e1, e2]
theorem el_i64 (m : List Nat) (w : World) : ∀ (l : List Int), El (cInt .i64) m w l (l.map fun n => .int .i64 n)
  | [] => El.nil _ _ _
  | n :: l => El.cons (cs := [.int .i64 n]) rfl (el_i64 m w l)
theorem alloc_grow (w : World) (o : Obj) : w.drew.alloc o = Sort.grow (w.drewN 1) #[o] := by
  have e : w.heap.push o = w.heap ++ #[o] := by simp
  exact congrArg (fun h => ({ w.drew with heap := h } : World)) e
theorem sort_v (out counts : List Int) (hr : ∀ x ∈ out, 0 ≤ x ∧ x < (counts.length : Int)) (hlen : out.length < 1000000) (K : List Int → Prop)
    (h : ∀ l1 : List Int, l1.Perm out → l1.Pairwise (fun a b => ¬ ltH counts b.toNat a.toNat) → K l1) : V_slices_SortFunc_Slint_int_cover_Hot_2 out counts K := by
  intro m w hm A C xs rest T fz hin hle hwn hel p cs hat hrep
  cases out with
  | nil =>
    have hn := AnyF.slices_SortFunc_none { Try.laysSlF6_f89 with } A C (.func (.func 90) #[] #[.pointer (some ⟨p, 0, none⟩)]) w
    change Calls Try.prog 89 _ _ _ at hn
    refine hn.mono ?_
    rintro e w' ⟨rfl, rfl⟩
    exact ⟨[], h [] (List.Perm.refl _) List.Pairwise.nil, trivial, ⟨xs, hwn, rfl, hel⟩, Keep.refl _ _⟩
  | cons x0 out0 =>
    generalize hout : x0 :: out0 = out at hr hlen h hel hle
    have hxs := el_ints hel
    have hxl : xs.length = out.length := by rw [hxs]; simp
    have hcl : 0 < counts.length := by have := hr x0 (by rw [← hout]; simp); omega
    obtain ⟨a, c, rfl, hac, hsl⟩ := hrep
    rcases hwn with ⟨_, he⟩ | ⟨g, rfl, hg, hfz⟩
    · rw [he, ← hout] at hxl; simp at hxl
    have hgm : g ∈ m := hin g rfl
    rcases hsl with he | ⟨q, ys, rfl, hqm, hqc, hqe⟩
    · rw [he] at hcl; simp at hcl
    have hys := el_ints hqe
    have hpc : w.cell? ⟨p, 0, none⟩ = some (.slice (some q) counts.length c) := CellsAt.head hat.2
    have hpg : p ≠ g := fun e => hat.1.1 (e ▸ hgm)
    have hqg : q.block ≠ g := fun e => hqm (e ▸ hgm)
    have hqcell : ∀ i (hi : i < counts.length), w.cell? (q.add (i * 1)) = some (.int .i64 counts[i]) := fun i hi => by
      have := hqc i (by rw [hys]; simpa using hi)
      rw [Nat.mul_one, this]; simp [hys]
    haveI : Inhabited (Fin counts.length) := ⟨⟨0, hcl⟩⟩
    let enc : Fin counts.length → Value := fun i => .int .i64 ((i.1 : Nat) : Int)
    have hfin : ∀ x ∈ out, x.toNat < counts.length := fun x hx => by have := hr x hx; omega
    let d : Array (Fin counts.length) := ⟨out.pmap (fun x (hx : x.toNat < counts.length) => (⟨x.toNat, hx⟩ : Fin counts.length)) hfin⟩
    have hdl : d.toList.map (fun i => ((i.1 : Nat) : Int)) = out := by
      show (out.pmap _ hfin).map _ = out
      rw [List.map_pmap]
      apply List.ext_getElem
      · simp
      · intro j h1 h2
        simp only [List.getElem_pmap]
        have := hr out[j] (List.getElem_mem h2)
        omega
    have hds : d.size = out.length := by show (out.pmap _ hfin).length = _; simp
    have hde : ∀ j (hj : j < d.size), enc d[j]! = .int .i64 (out[j]'(by omega)) := fun j hj => by
      rw [getElem!_pos d j hj]
      show Value.int .i64 _ = _
      congr 1
      have h1 : (d.toList.map (fun i => ((i.1 : Nat) : Int)))[j]'(by simpa using hj) = out[j]'(by omega) := by
        congr 1
      simpa using h1
    have hH : Holds enc w g 0 d := fun j hj => by
      rw [Nat.zero_add, hde j hj]
      have hjx : j < xs.length := by omega
      refine ⟨?_, ?_⟩
      · have hjo : j < out.length := by omega
        have : (xs ++ rest)[j]? = some (.int .i64 (out[j]'hjo)) := by
          rw [List.getElem?_append_left hjx]
          have e := congrArg (fun z : List Value => z[j]?) hxs
          simp only [List.getElem?_map, List.getElem?_eq_getElem hjo] at e
          exact e
        simp [World.cell?, hg, this]
      · simp only [World.frozen?, hg]
        rcases hfz with rfl | hf
        · simp
        · simp; omega
    have hcon := Any.slices_SortFunc Try.laysSlF6_f89 enc (fun _ => rfl) (fun i j => cfH counts i.1 j.1) ⟨fun x => ?_, fun x y z => ?_, fun x y z => ?_⟩ 90 #[.pointer (some ⟨p, 0, none⟩)] g 0 C d w
      (enters_of Try.func90 (by kernel_rfl) rfl) (fun mm os dk hdk x y => ?_) hH (Array.getElem?_eq_some_iff.1 hg).1 (by omega)
    · change Calls Try.prog 89 _ _ _ at hcon
      rw [hds] at hcon
      refine hcon.mono ?_
      rintro e w' ⟨rfl, d', n, os, hperm, hsort, rfl⟩
      have hsz : d'.size = d.size := hperm.1
      have hpp : d'.toList.Perm d.toList := by
        have := hperm.2.2
        rw [Array.toList_extract, Array.toList_extract] at this
        simp only [List.extract, Nat.sub_zero, List.drop_zero] at this
        rwa [List.take_of_length_le (by simp; omega), List.take_of_length_le (by rw [Array.length_toList]; omega)] at this
      refine ⟨d'.toList.map (fun i => ((i.1 : Nat) : Int)), h _ (by rw [← hdl]; exact hpp.map _) ?_, trivial, ⟨d'.toList.map enc, .inr ⟨g, rfl, ?_, ?_⟩, ?_, ?_⟩, ?_⟩
      · rw [List.pairwise_map, List.pairwise_iff_getElem]
        intro i j hi hj hij
        have hi' : i < d'.size := by simpa using hi
        have hj' : j < d'.size := by simpa using hj
        have := hsort i j (Nat.zero_le _) hij (by omega)
        rw [getElem!_pos d' i hi', getElem!_pos d' j hj'] at this
        intro hlt
        have h2 := (cfH_lt counts _ _).2 hlt
        simp only [Int.toNat_natCast, Array.getElem_toList] at h2
        simp only [ltOf, decide_eq_false_iff_not] at this
        exact this h2
      · rw [sw_at hg, put_all (by omega)]
      · rcases hfz with hf | hf
        · exact .inl hf
        · exact .inr (by simp; omega)
      · simp; omega
      · have : d'.toList.map enc = (d'.toList.map (fun i => ((i.1 : Nat) : Int))).map fun n => Value.int .i64 n := by rw [List.map_map]; rfl
        rw [this]
        exact el_i64 _ _ _
      · exact sw_keep
    · simp only [ltOf, decide_eq_false_iff_not, cfH_lt, ltH]; omega
    · simp only [ltOf, decide_eq_true_iff, cfH_lt, ltH]; omega
    · simp only [ltOf, decide_eq_false_iff_not, cfH_lt, ltH]; omega
    · refine (hot2_spec counts x.1 y.1 x.2 y.2 p q c _ (sw_cell hpc hpg) (fun i hi => sw_cell (hqcell i hi) (by rw [add_block]; exact hqg))).mono ?_
      intro e w' he
      cases e with
      | returned v =>
        obtain ⟨rfl, o, rfl⟩ := he
        exact ⟨rfl, 1, #[o], alloc_grow _ _⟩
      | panicked c => exact he.elim
      | outgrown => exact he.elim
end Go.Proofs.Ytcbpdageojenjaa
