/- Breakpoints as numbers: plain. -/
import Derived.Test.YtcbpdageojenjaaSetA
namespace Go.Proofs.Ytcbpdageojenjaa
open Go.Vc Go.Lv Go.Ty Go.St Go.Proofs Go.Sort

def IsB (b : GBreak) : Prop := 1 ≤ b.kind ∧ b.kind ≤ 3 ∧ 0 ≤ b.n ∧ b.n < 1048576
instance (b : GBreak) : Decidable (IsB b) := by unfold IsB; infer_instance
def encB (b : GBreak) : Int := b.kind * 1048576 + b.n
def decB (c : Int) : GBreak := ⟨c.tdiv 1048576, c.tmod 1048576⟩
/-- numbers of breakpoints, in order -/
structure Nums (sl : List Int) : Prop where
  asc : Asc ltI sl
  rng : ∀ c ∈ sl, 1048576 ≤ c ∧ c < 4194304
theorem dec_enc {b : GBreak} (h : IsB b) : decB (encB b) = b := by
  obtain ⟨h1, h2, h3, h4⟩ := h
  obtain ⟨k, n⟩ := b
  simp only at h1 h2 h3 h4
  have e0 : 0 ≤ k * 1048576 + n := by omega
  simp only [decB, encB, GBreak.mk.injEq]
  rw [Int.tdiv_eq_ediv_of_nonneg e0, Int.tmod_eq_emod_of_nonneg e0]
  omega
theorem enc_dec {c : Int} (h : 1048576 ≤ c ∧ c < 4194304) : encB (decB c) = c ∧ IsB (decB c) := by
  have e0 : 0 ≤ c := by omega
  simp only [decB, encB, IsB]
  rw [Int.tdiv_eq_ediv_of_nonneg e0, Int.tmod_eq_emod_of_nonneg e0]
  omega
theorem enc_rng {b : GBreak} (h : IsB b) : 1048576 ≤ encB b ∧ encB b < 4194304 := by
  obtain ⟨h1, h2, h3, h4⟩ := h
  unfold encB; omega
theorem dec_eq {c : Int} (h : 1048576 ≤ c ∧ c < 4194304) {b : GBreak} (hb : IsB b) : decB c = b ↔ c = encB b := by
  constructor
  · intro e; rw [← e, (enc_dec h).1]
  · intro e; rw [e, dec_enc hb]
/-- does one stand ahead of another one? -/
def lessB (a b : GBreak) : Bool := decide (a.kind < b.kind) || (a.kind == b.kind && decide (a.n < b.n))
theorem less_enc {a b : GBreak} (ha : IsB a) (hb : IsB b) : lessB a b = decide (encB a < encB b) := by
  obtain ⟨h1, h2, h3, h4⟩ := ha
  obtain ⟨g1, g2, g3, g4⟩ := hb
  rw [Bool.eq_iff_iff, decide_eq_true_iff]
  simp only [lessB, Bool.or_eq_true, Bool.and_eq_true, decide_eq_true_eq, beq_iff_eq]
  unfold encB
  constructor
  · rintro (h | ⟨h, h'⟩) <;> omega
  · intro h
    rcases Int.lt_trichotomy a.kind b.kind with h' | h' | h'
    · exact .inl h'
    · exact .inr ⟨h', by omega⟩
    · omega
theorem mem_dec {sl : List Int} (hs : Nums sl) {b : GBreak} (hb : IsB b) : b ∈ sl.map decB ↔ encB b ∈ sl := by
  rw [List.mem_map]
  constructor
  · rintro ⟨c, hc, e⟩
    rwa [← (dec_eq (hs.rng c hc) hb).1 e]
  · intro h; exact ⟨_, h, dec_enc hb⟩
def addS (sl : List Int) (b : GBreak) : List Int := if IsB b then addF ltI sl (encB b) else sl
def addE (sl : List Int) (b : GBreak) : Int := if IsB b then (if encB b ∈ sl then 8 else 0) else 1
def delS (sl : List Int) (b : GBreak) : List Int := if IsB b then delF sl (encB b) else sl
def delE (sl : List Int) (b : GBreak) : Int := if IsB b then (if encB b ∈ sl then 0 else 7) else 1
theorem addS_nums {sl : List Int} (hs : Nums sl) (b : GBreak) : Nums (addS sl b) := by
  unfold addS
  split
  · rename_i hb
    refine ⟨addF_asc ordI hs.asc _, fun c hc => ?_⟩
    rcases (addF_mem ordI _ _ _).1 hc with rfl | hc
    · exact enc_rng hb
    · exact hs.rng c hc
  · exact hs
theorem delS_nums {sl : List Int} (hs : Nums sl) (b : GBreak) : Nums (delS sl b) := by
  unfold delS
  split
  · exact ⟨delF_asc hs.asc _, fun c hc => hs.rng c ((delF_mem _ _ _).1 hc).1⟩
  · exact hs
theorem addS_len {sl : List Int} (hs : Nums sl) (b : GBreak) : (addS sl b).length ≤ sl.length + 1 := by
  unfold addS
  split
  · exact addF_len sl ordI hs.asc _
  · omega
theorem delS_len (sl : List Int) (b : GBreak) : (delS sl b).length ≤ sl.length := by
  unfold delS delF
  split
  · exact List.length_filter_le _ _
  · omega
theorem map_filter_dec {sl : List Int} {p : Int → Bool} {q : GBreak → Bool} (h : ∀ c ∈ sl, q (decB c) = p c) : (sl.map decB).filter q = (sl.filter p).map decB := by
  rw [List.filter_map]
  congr 1
  exact List.filter_congr fun c hc => h c hc
theorem add_dec {sl : List Int} (hs : Nums sl) {b : GBreak} (hb : IsB b) (hm : ¬ encB b ∈ sl) :
    (sl.map decB).filter (fun x => lessB x b) ++ [b] ++ (sl.map decB).filter (fun x => lessB b x) = (addS sl b).map decB := by
  unfold addS addF
  rw [if_pos hb, if_neg hm, List.map_append, List.map_cons, dec_enc hb]
  rw [map_filter_dec (p := fun y => decide (ltI y (encB b))) (fun c hc => by rw [less_enc (enc_dec (hs.rng c hc)).2 hb, (enc_dec (hs.rng c hc)).1]),
    map_filter_dec (p := fun y => decide (ltI (encB b) y)) (fun c hc => by rw [less_enc hb (enc_dec (hs.rng c hc)).2, (enc_dec (hs.rng c hc)).1])]
  simp
theorem del_dec {sl : List Int} (hs : Nums sl) {b : GBreak} (hb : IsB b) : (sl.map decB).filter (fun x => decide (x ≠ b)) = (delS sl b).map decB := by
  unfold delS delF
  rw [if_pos hb]
  exact map_filter_dec fun c hc => by
    rw [Bool.eq_iff_iff]
    simp only [decide_eq_true_eq, ne_eq, dec_eq (hs.rng c hc) hb]
/-- does what happened hit a breakpoint? -/
def hitB (b : GBreak) (h : GHappen) : Bool := if b.kind = 1 then h.stmt == b.n else if b.kind = 2 then h.chan == b.n else if b.kind = 3 then h.who == b.n else false
/-- those that are hit, by kinds -/
def three (h : GHappen) : List GBreak := [⟨1, h.stmt⟩, ⟨2, h.chan⟩, ⟨3, h.who⟩]
def whichS (sl : List Int) (h : GHappen) : List GBreak := (three h).filter fun b => decide (IsB b ∧ encB b ∈ sl)
theorem hit_three (b : GBreak) (h : GHappen) : hitB b h = true ↔ b ∈ three h := by
  obtain ⟨k, n⟩ := b
  simp only [hitB, three, List.mem_cons, GBreak.mk.injEq, List.not_mem_nil, or_false]
  split
  · rename_i e; subst e; rw [beq_iff_eq]
    constructor
    · intro e; exact .inl ⟨rfl, e.symm⟩
    · rintro (⟨_, e⟩ | ⟨e, _⟩ | ⟨e, _⟩)
      · exact e.symm
      · omega
      · omega
  · split
    · rename_i e; subst e; rw [beq_iff_eq]
      constructor
      · intro e; exact .inr (.inl ⟨rfl, e.symm⟩)
      · rintro (⟨e, _⟩ | ⟨_, e⟩ | ⟨e, _⟩)
        · omega
        · exact e.symm
        · omega
    · split
      · rename_i e; subst e; rw [beq_iff_eq]
        constructor
        · intro e; exact .inr (.inr ⟨rfl, e.symm⟩)
        · rintro (⟨e, _⟩ | ⟨e, _⟩ | ⟨_, e⟩)
          · omega
          · omega
          · exact e.symm
      · rename_i h1 h2 h3; simp [h1, h2, h3]
theorem which_eq {sl : List Int} (hs : Nums sl) (h : GHappen) : whichS sl h = (sl.map decB).filter fun b => hitB b h := by
  have h1 : (whichS sl h).map encB = sl.filter fun c => hitB (decB c) h := by
    refine asc_ext ordI ?_ (List.Pairwise.filter _ hs.asc) fun c => ?_
    · have hp : (whichS sl h).Pairwise fun a b => ltI (encB a) (encB b) := by
        have : (three h).Pairwise fun a b => IsB a → IsB b → ltI (encB a) (encB b) := by
          simp only [three, List.pairwise_cons, List.mem_cons, List.not_mem_nil, or_false, forall_eq_or_imp, forall_eq, IsB, encB, List.Pairwise.nil, and_true, false_implies, implies_true]
          refine ⟨⟨?_, ?_⟩, ?_⟩ <;> (intro h1 h2; show (_ : Int) < _; omega)
        refine List.Pairwise.imp_of_mem (fun {a b} ha hb hab => ?_) (this.filter _)
        have ha := (List.mem_filter.1 ha).2
        have hb := (List.mem_filter.1 hb).2
        exact hab (of_decide_eq_true ha).1 (of_decide_eq_true hb).1
      exact List.pairwise_map.2 hp
    · rw [List.mem_map, List.mem_filter]
      constructor
      · rintro ⟨b, hb, rfl⟩
        obtain ⟨h2, h3⟩ := List.mem_filter.1 hb
        obtain ⟨h4, h5⟩ := of_decide_eq_true h3
        exact ⟨h5, by rw [dec_enc h4]; exact (hit_three _ _).2 h2⟩
      · rintro ⟨h2, h3⟩
        obtain ⟨h4, h5⟩ := enc_dec (hs.rng c h2)
        exact ⟨decB c, List.mem_filter.2 ⟨(hit_three _ _).1 h3, decide_eq_true ⟨h5, by rw [h4]; exact h2⟩⟩, h4⟩
  have h2 : whichS sl h = ((whichS sl h).map encB).map decB := by
    rw [List.map_map]
    conv => lhs; rw [← List.map_id (whichS sl h)]
    refine List.map_congr_left fun b hb => ?_
    have := (of_decide_eq_true (List.mem_filter.1 hb).2).1
    exact (dec_enc this).symm
  rw [h2, h1, map_filter_dec (p := fun c => hitB (decB c) h) fun c _ => rfl]
theorem which_some {sl : List Int} (hs : Nums sl) (h : GHappen) : 0 < (whichS sl h).length ↔ ∃ c ∈ sl, hitB (decB c) h = true := by
  rw [which_eq hs, List.length_pos_iff, ne_eq, List.filter_eq_nil_iff]
  constructor
  · intro h1
    have := Classical.not_forall.1 h1
    obtain ⟨b, hb⟩ := this
    obtain ⟨h2, h3⟩ := Classical.not_imp.1 hb
    obtain ⟨c, hc, rfl⟩ := List.mem_map.1 h2
    exact ⟨c, hc, Classical.not_not.1 h3⟩
  · rintro ⟨c, hc, h2⟩ h1
    exact h1 _ (List.mem_map.2 ⟨c, hc, rfl⟩) h2
end Go.Proofs.Ytcbpdageojenjaa
