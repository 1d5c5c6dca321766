/- Layer 10: Sign of the program and of the reference; live. -/
import Derived.Test.YtahppcghgmhkiaaTermJ
import Derived.Test.YtahppcghgmhkiaaTokK
import Derived.Maps.RangeRun
namespace Go.Proofs.Ytahppcghgmhkiaa
open Go.Vc Go.Tk Go.Tm
open Go.ChangeMaps (setBlock)

def sgnL : List (List UInt8) := [[45], [33], [43], [45], [42], [47], [37], [61, 61], [33, 61], [60], [60, 61], [62], [62, 61], [38, 38], [124, 124]]
def signS (op : Int) : List UInt8 := if op < 3 ∨ 17 < op then [] else sgnL.getD (op - 3).toNat []
def ents : Array MapEntry := (entsFrom 0 binKvs).toArray
theorem ents_sign : ∀ e ∈ ents.toList, ∃ k : Int, ∃ s : List UInt8, e.val = .int .i64 k ∧ e.key = .string (mkS s) ∧ 5 ≤ k ∧ k ≤ 17 ∧ s = signS k := by
  intro e he
  simp only [ents, entsFrom, binKvs, List.mem_cons, List.not_mem_nil, or_false] at he
  rcases he with rfl | rfl | rfl | rfl | rfl | rfl | rfl | rfl | rfl | rfl | rfl | rfl | rfl <;> exact ⟨_, _, rfl, rfl, by decide, by decide, rfl⟩
theorem ents_all : ∀ op : Int, 5 ≤ op → op ≤ 17 → ∃ e ∈ ents.toList, e.val = .int .i64 op := by
  intro op h1 h2
  have : op = 5 ∨ op = 6 ∨ op = 7 ∨ op = 8 ∨ op = 9 ∨ op = 10 ∨ op = 11 ∨ op = 12 ∨ op = 13 ∨ op = 14 ∨ op = 15 ∨ op = 16 ∨ op = 17 := by omega
  simp only [ents, entsFrom, binKvs, List.mem_cons, List.not_mem_nil, or_false]
  rcases this with rfl | rfl | rfl | rfl | rfl | rfl | rfl | rfl | rfl | rfl | rfl | rfl | rfl <;> simp
theorem below_of_grown {n : Nat} {w0 w w' : World} {b : Nat} (h : Go.RowKit.Below n w0 w) (hn : n ≤ w.heap.size) (hb : n ≤ b) (hg : w.grownBy w' (some b)) : Go.RowKit.Below n w0 w' :=
  ⟨hg.os.trans h.os, hg.tape.trans h.tape, hg.output.trans h.output, Nat.le_trans h.size hg.size, fun k hk => (hg.block k (by omega) (fun e => by cases e; omega)).trans (h.block k hk)⟩
theorem setBlock_heap (w : World) (r k : Nat) (o : Obj) (hr : r < w.heap.size) : (setBlock w r o).heap[k]? = if r = k then some o else w.heap[k]? := by
  simp only [setBlock, Array.getElem?_setIfInBounds]
  split
  · rename_i h; subst h; simp
  · rfl

theorem Sign_spec (op : Int) (w : World) : Calls Try.prog 20 #[.int .i64 op] w (Ret fun v w' => v = .string (mkS (signS op)) ∧ Ext w w') := by
  refine term_Sign_ok _ _ _ (cond_intro (fun h => ?_) fun h => ?_)
  · have h : op = 3 := by simpa using h
    subst h
    exact ⟨rfl, Ext.refl _⟩
  have h3 : op ≠ 3 := by simpa using h
  refine cond_intro (fun h => ?_) fun h => ?_
  · have h : op = 4 := by simpa using h
    subst h
    exact ⟨rfl, Ext.refl _⟩
  have h4 : op ≠ 4 := by simpa using h
  refine call_then (binary_spec w) ?_
  rintro _ w1 ⟨b, rfl, hm, hb, he1⟩
  refine ⟨_, rfl, _, _, run_range_map w1 _ _ _ b _ _ map_ty hm, _, rfl, ?_⟩
  have hbl : b < w1.heap.size := (Array.getElem?_eq_some_iff.1 hm).1
  have hs1 := he1.size
  generalize hr : w1.heap.size = r at *
  have hne : r ≠ b := by omega
  refine ⟨fun w3 => ∃ seen c0, w3.heap[r]? = some (.mapIter (some b) 13 seen c0) ∧ 13 ≤ c0 ∧ w3.heap[b]? = some (.map ents 13) ∧ Ext w w3 ∧ ∀ e ∈ ents.toList, seen.contains e.born = true → e.val ≠ .int .i64 op,
    fun w3 => (leftOf ents (w3.iterSeen r)).size, ⟨#[], 13, ?_, by omega, ?_, he1.trans (.alloc rfl), fun e _ h => by simp at h⟩, ?_⟩
  · rw [← hr]; show (w1.heap.push _)[w1.heap.size]? = _; simp; rfl
  · exact (Ext.alloc rfl).block hm
  · rintro _ w3 ⟨seen, c0, hi, hc, hm3, he3, hseen⟩
    have hrl : r < w3.heap.size := (Array.getElem?_eq_some_iff.1 hi).1
    have hmes : (leftOf ents (w3.iterSeen r)).size = (leftOf ents seen).size := by unfold World.iterSeen; rw [hi]
    refine ⟨fun x w5 => (x = false ∧ (leftOf ents seen).size = 0 ∧ Ext w w5) ∨ (x = true ∧ ∃ e ∈ (leftOf ents seen).toList, w5.heap[r]? = some (.mapIter (some b) 13 (seen.push e.born) 13) ∧ w5.heap[b]? = some (.map ents 13) ∧ Ext w w5), ?_, ?_⟩
    · have hold : ∀ x ∈ ents.toList, x.born < 13 := by decide
      rcases run_next_at (P := Try.prog) w3 0 r b 13 c0 seen ents 13 hi hm3 hold hc with ⟨h0, hrun⟩ | ⟨e, he, w1', hw1', hrun⟩
      · exact ⟨_, _, hrun, .inl ⟨rfl, .inl ⟨rfl, h0, he3⟩⟩⟩
      · have hw1h : w1'.heap = w3.heap := by rcases hw1' with rfl | rfl <;> rfl
        have ex : Ext w w1' := by
          rcases hw1' with rfl | rfl
          · exact he3
          · exact he3.trans (.drew rfl)
        refine ⟨_, _, hrun, .inr ⟨_, _, rfl, .inr ⟨rfl, e, he, ?_, ?_, ?_⟩⟩⟩
        · rw [setBlock_heap _ _ _ _ (by rw [hw1h]; exact hrl), if_pos rfl]
        · rw [setBlock_heap _ _ _ _ (by rw [hw1h]; exact hrl), if_neg hne, hw1h]; exact hm3
        · refine ⟨ex.os, ex.tape, ex.output, ?_, fun k hk => ?_⟩
          · show _ ≤ (Array.setIfInBounds _ _ _).size
            rw [Array.size_setIfInBounds]
            exact ex.size
          · rw [setBlock_heap _ _ _ _ (by rw [hw1h]; exact hrl), if_neg (by omega)]
            exact Go.RowKit.Below.block ex k hk
    · rintro _ x w5 (⟨rfl, h0, he5⟩ | ⟨rfl, e, he, hi5, hm5, he5⟩)
      · refine ⟨?_, he5⟩
        congr 2
        unfold signS
        split
        · rfl
        · rename_i hc
          exfalso
          obtain ⟨e, hme, hv⟩ := ents_all op (by omega) (by omega)
          have hs : seen.contains e.born = true := by
            cases hcc : seen.contains e.born with
            | true => rfl
            | false =>
              exfalso
              have : e ∈ leftOf ents seen := Array.mem_filter.2 ⟨Array.mem_toList_iff.1 hme, by rw [hcc]; rfl⟩
              rw [Array.eq_empty_of_size_eq_zero h0] at this
              simp at this
          exact hseen e hme hs hv
      · have hml := mem_left he
        obtain ⟨k, s, hv, hk, h5, h17, hs⟩ := ents_sign e hml.1
        have hnd : (ents.toList.map (·.born)).Nodup := by decide
        refine ⟨_, _, run_entry_at (P := Try.prog) w5 r b 13 seen ents 13 e hi5 hm5 hml.1 hnd, s, k, by rw [hv, hk], cond_intro (fun hx => ?_) fun hx => ?_⟩
        · have hx : k = op := by simpa using hx
          exact ⟨by rw [hs, hx], he5⟩
        · have hx : k ≠ op := by simpa using hx
          refine ⟨⟨_, 13, hi5, Nat.le_refl _, hm5, he5, fun e' he' hc' => ?_⟩, ?_⟩
          · rw [contains_push] at hc'
            rcases Bool.or_eq_true_iff.1 hc' with h | h
            · exact hseen e' he' h
            · have hborn : e'.born = e.born := by simpa using h
              have : e' = e := by
                have f1 := find_born e' ents.toList hnd he'
                have f2 := find_born e ents.toList hnd hml.1
                rw [hborn] at f1
                rw [f1] at f2
                exact Option.some.inj f2
              rw [this, hv]
              intro hh
              cases hh
              exact hx rfl
          · show (leftOf ents (w5.iterSeen r)).size < (leftOf ents (w3.iterSeen r)).size
            rw [hmes]
            have : w5.iterSeen r = seen.push e.born := by unfold World.iterSeen; rw [hi5]
            rw [this]
            exact left_shrinks ents seen e he

theorem rSign_spec (op : Int) (w : World) : Calls Try.prog 21 #[.int .i64 op] w (Ret fun v w' => v = .string (mkS (signS op)) ∧ Ext w w') := by
  refine R10_Sign_ok _ _ _ ?_
  intro b w1 hb hw1
  have o := (Own.start w).alloc hb hw1
  intro _
  unfold signS
  refine cond_intro (fun h => ?_) fun h => ?_
  · rw [if_pos (by simp at h; omega)]; exact ⟨rfl, o.done⟩
  · have h : ¬ (op < 3 ∨ 17 < op) := by simp at h; omega
    rw [if_neg h, wrap_in (by omega) (by omega)]
    obtain ⟨k, hk⟩ : ∃ k : Nat, op = k + 3 := ⟨(op - 3).toNat, by omega⟩
    subst hk
    have hk : k < 15 := by omega
    have hk' : k < sgnL.length := hk
    refine ⟨⟨by omega, by omega⟩, sgnL.getD k [], ?_, ?_, o.done⟩
    · rw [show ((k : Int) + 3 - 3).toNat * 1 = k by omega, add_mk, Nat.zero_add]
      refine (o.at 0 rfl).cell ?_
      show (sgnL.map fun s => Value.string (mkS s))[k]? = _
      rw [List.getElem?_map, List.getElem?_eq_getElem hk', List.getD_eq_getElem?_getD, List.getElem?_eq_getElem hk']
      rfl
    · rw [show ((k : Int) + 3 - 3).toNat = k by omega]

theorem nd_cell {w : World} {a : Option Addr} {l : List Nd} (h : SlAt w a (flat ndC l)) {i : Nat} (hi : i < l.length) : ∃ p, a = some p ∧ w.cell? (p.add (i * 5)) = some (.int .i64 l[i].op) := by
  obtain ⟨p, hp, hc⟩ := h.elem ndC_len (by decide) hi
  refine ⟨p, hp, ?_⟩
  have := hc 0 (by rw [ndC_len]; omega)
  simpa [Addr.add, ndC] using this

theorem lv1 : (allS [97, 45, 49, 45, 98, 42, 50]).1.length < 2 ^ 30 := by decide +kernel
theorem lv2 : (allS [97, 43]).1.length < 2 ^ 30 := by decide +kernel
theorem lv3 : (parseOf (allS [97, 45, 49, 45, 98, 42, 50]).1 0).l.map (·.op) = [6, 6, 2, 1, 7, 2, 1] ∧ (parseOf (allS [97, 45, 49, 45, 98, 42, 50]).1 0).at_ = 7 ∧ (parseOf (allS [97, 45, 49, 45, 98, 42, 50]).1 0).e = 0 ∧ (parseOf (allS [97, 43]).1 0).e = 11 := by decide +kernel
theorem live10_spec (w : World) : Calls Try.prog 15 #[] w (Ret fun v w' => v = .bool true ∧ Ext w w') := by
  refine L10_live_ok _ _ (call_then (rAll_spec _ w) ?_)
  rintro _ w1 ⟨a1, c1, rfl, hs1, he1⟩
  refine ⟨_, _, _, _, _, rfl, call_then (Parse_spec _ lv1 a1 c1 0 w1 hs1) ?_⟩
  rintro _ w2 ⟨a2, c2, rfl, hs2, he2⟩
  refine ⟨_, _, _, _, _, rfl, call_then (rAll_spec _ w2) ?_⟩
  rintro _ w3 ⟨a3, c3, rfl, hs3, he3⟩
  refine ⟨_, _, _, _, _, rfl, call_then (Parse_spec _ lv2 a3 c3 0 w3 hs3) ?_⟩
  rintro _ w4 ⟨a4, c4, rfl, hs4, he4⟩
  refine ⟨_, _, _, _, _, rfl, ?_⟩
  obtain ⟨h1, h2, h3, h4⟩ := lv3
  have hs2 := (hs2.ext he3).ext he4
  generalize parseOf (allS [97, 45, 49, 45, 98, 42, 50]).1 0 = r at h1 h2 h3 hs2 ⊢
  have hlen : r.l.length = 7 := by have := congrArg List.length h1; simpa using this
  have hop : ∀ i (hi : i < r.l.length), r.l[i].op = (r.l.map (·.op)).getD i 0 := fun i hi => by simp [List.getD, hi]
  refine cond_t (by rw [hlen]; rfl) ⟨⟨by omega, by omega⟩, ?_⟩
  obtain ⟨p, hp, hc⟩ := nd_cell hs2 (i := 0) (by omega)
  refine ptrOr_some hp ⟨_, hc, cond_t (by rw [hop, h1]; rfl) ⟨⟨by omega, by omega⟩, ?_⟩⟩
  obtain ⟨p, hp, hc⟩ := nd_cell hs2 (i := 1) (by omega)
  refine ptrOr_some hp ⟨_, hc, cond_t (by rw [hop, h1]; rfl) ⟨⟨by omega, by omega⟩, ?_⟩⟩
  obtain ⟨p, hp, hc⟩ := nd_cell hs2 (i := 4) (by omega)
  refine ptrOr_some hp ⟨_, hc, cond_t (by rw [hop, h1]; rfl) (cond_t (by rw [h2]; rfl) (cond_t (by rw [h3]; rfl) (cond_t (by rw [h4]; rfl) (call_then (Sign_spec 5 w4) ?_))))⟩
  rintro _ w5 ⟨rfl, he5⟩
  refine ⟨_, rfl, cond_t rfl (call_then (Level_spec 2 w5) ?_)⟩
  rintro _ w6 ⟨rfl, rfl⟩
  exact ⟨_, rfl, rfl, (((he1.trans he2).trans he3).trans he4).trans he5⟩

theorem parse_len (toks : List Tok) (at_ : Int) (h : toks.length < 2 ^ 30) : (parseOf toks at_).l.length < 2 ^ 60 := by
  by_cases he : (parseOf toks at_).e = 0
  · by_cases h0 : at_ < 0
    · unfold parseOf; rw [if_pos h0]; decide
    · have := ((P_ok toks _).2.1 _ _ _ _ (parseOf_pos toks at_ h0)).1 he
      omega
  · rw [parseOf_nil toks at_ he]; decide

theorem TermParses_spec (toks : List Tok) (ta : Option Addr) (tc : Nat) (at_ : Int) (w : World) (hs : SlAt w ta (flat tokC toks)) :
    Calls Try.prog 3 #[.slice ta toks.length tc, .int .i64 at_] w (Ret fun v w' => v = .bool true ∧ Ext w w') := by
  refine L10_TermParses_ok _ _ _ _ _ _ (cond_intro (fun h => ?_) fun h => ?_)
  · refine call_then (live10_spec w) ?_
    rintro _ w1 ⟨rfl, he⟩
    exact ⟨_, rfl, rfl, he⟩
  · have h : toks.length ≤ 200 := by have : ¬ (200 < (toks.length : Int)) := (by simpa using h); omega
    refine call_then (Parse_spec toks (by omega) ta tc at_ w hs) ?_
    rintro _ w2 ⟨a2, c2, rfl, hs2, he2⟩
    refine ⟨_, _, _, _, _, rfl, call_then (rParse_spec toks (by omega) ta tc at_ w2 (hs.ext he2)) ?_⟩
    rintro _ w3 ⟨a3, c3, rfl, hs3, he3⟩
    refine ⟨_, _, _, _, _, rfl, call_then (same_spec _ _ (parse_len toks at_ (by omega)) a2 a3 c2 c3 _ _ _ _ w3 (hs2.ext he3) hs3) ?_⟩
    rintro _ w4 ⟨rfl, he4⟩
    refine ⟨_, rfl, cond_t (decide_eq_true ⟨rfl, rfl, rfl⟩) (call_then (live10_spec w4) ?_)⟩
    rintro _ w5 ⟨rfl, he5⟩
    exact ⟨_, rfl, rfl, ((he2.trans he3).trans he4).trans he5⟩

theorem TermTexts_spec (s : List UInt8) (w : World) :
    Calls Try.prog 4 #[.string (mkS s)] w (Ret fun v w' => v = .bool true ∧ Ext w w') := by
  refine L10_TermTexts_ok _ _ _ (cond_intro (fun h => ?_) fun h => ?_)
  · refine call_then (live10_spec w) ?_
    rintro _ w1 ⟨rfl, he⟩
    exact ⟨_, rfl, rfl, he⟩
  · have h : s.length ≤ 300 := by have : ¬ (300 < (s.length : Int)) := (by simpa using h); omega
    refine call_then (rAll_spec s w) ?_
    rintro _ w1 ⟨a1, c1, rfl, hs1, he1⟩
    have hlen := allS_len s
    refine ⟨_, _, _, _, _, rfl, call_then (Parse_spec _ (by omega) a1 c1 0 w1 hs1) ?_⟩
    rintro _ w2 ⟨a2, c2, rfl, hs2, he2⟩
    refine ⟨_, _, _, _, _, rfl, call_then (rParse_spec _ (by omega) a1 c1 0 w2 (hs1.ext he2)) ?_⟩
    rintro _ w3 ⟨a3, c3, rfl, hs3, he3⟩
    refine ⟨_, _, _, _, _, rfl, call_then (same_spec _ _ (parse_len _ 0 (by omega)) a2 a3 c2 c3 _ _ _ _ w3 (hs2.ext he3) hs3) ?_⟩
    rintro _ w4 ⟨rfl, he4⟩
    refine ⟨_, rfl, cond_t (decide_eq_true ⟨rfl, rfl, rfl⟩) (call_then (live10_spec w4) ?_)⟩
    rintro _ w5 ⟨rfl, he5⟩
    exact ⟨_, rfl, rfl, (((he1.trans he2).trans he3).trans he4).trans he5⟩

theorem TermSigns_spec (op : Int) (w : World) :
    Calls Try.prog 6 #[.int .i64 op] w (Ret fun v w' => v = .bool true ∧ Ext w w') := by
  refine L10_TermSigns_ok _ _ _ (call_then (Sign_spec op w) ?_)
  rintro _ w1 ⟨rfl, he1⟩
  refine ⟨_, rfl, call_then (rSign_spec op w1) ?_⟩
  rintro _ w2 ⟨rfl, he2⟩
  refine ⟨_, rfl, cond_t (by simp) (call_then (Level_spec op w2) ?_)⟩
  rintro _ w3 ⟨rfl, rfl⟩
  refine ⟨_, rfl, call_then (rLevel_spec op w2) ?_⟩
  rintro _ w4 ⟨rfl, he4⟩
  refine ⟨_, rfl, cond_t (by simp) (call_then (live10_spec w4) ?_)⟩
  rintro _ w5 ⟨rfl, he5⟩
  exact ⟨_, rfl, rfl, ((he1.trans he2).trans he4).trans he5⟩
end Go.Proofs.Ytahppcghgmhkiaa
