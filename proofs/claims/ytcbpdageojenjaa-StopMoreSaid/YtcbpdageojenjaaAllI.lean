/- Going over a set of numbers: All reads the set once, ahead of the first round. -/
import Derived.Test.YtcbpdageojenjaaSetA
import Derived.Test.YtcbpdageojenjaaWall
namespace Go.Proofs.Ytcbpdageojenjaa
open Go.Vc Go.Lv Go.Ty Go.St Go.Proofs Go.Sort

theorem box_el {w w1 : World} {b : Nat} {cs : Array Value} {T : TypeId} {m : List Nat} (hm : ∀ k ∈ m, k < w.heap.size) (hb : b = w.heap.size) (e : w1 = w.alloc (.cells cs T)) : ElAt m w1 ⟨b, 0, none⟩ cs.toList ∧ Keep [] w w1 := by
  have hbx := Box.new hb e
  refine ⟨⟨⟨fun h => by have := hm _ h; simp only [hb] at this; omega, ?_⟩, hbx.whole⟩, ?_⟩
  · obtain ⟨T', hT⟩ := hbx; exact ⟨_, hT, rfl⟩
  · have := (Grown.of (B := w.heap.size) (World.grownBy_alloc w (.cells cs T) none) (fun r e => by cases e)).keep0 []
    rw [e]; exact this
theorem all_call : V_sorted_Set_int_All := by
  intro m w hm p
  cases p with
  | none =>
    refine all0n_ok _ _ fun b w1 hb e => ?_
    obtain ⟨h1, h2⟩ := box_el hm hb e
    exact ⟨b, rfl, h1, h2⟩
  | some a =>
    refine all0_ok _ _ _ fun b w1 hb e => ?_
    obtain ⟨h1, h2⟩ := box_el hm hb e
    exact ⟨b, rfl, h1, h2⟩
theorem all_nil : It_sorted_Set_int_All_1_nil [] := by
  intro m w hm b0 hel
  refine ⟨hm, fun l J Jx W hG _ _ _ h0 => ?_⟩
  have hc := hel.held (hG.keep0 []) (by simp)
  exact all1_ok l b0 _ W ⟨none, Lv.CellsAt.head hc, cond_t rfl ⟨marks0 _, .inl ⟨m, h0⟩⟩⟩
/-- numbers with their places -/
def prs (l : List Int) : List (Int × Int) := l.zipIdx.map fun p => ((p.2 : Int), p.1)
theorem prs_len (l : List Int) : (prs l).length = l.length := by simp [prs]
theorem prs_get (l : List Int) (k : Nat) : (prs l)[k]? = l[k]?.map fun x => ((k : Int), x) := by
  simp [prs, Function.comp_def]
theorem prs_snoc {l : List Int} {k : Nat} {x : Int} (h : l[k]? = some x) : (prs l).take (k + 1) = (prs l).take k ++ [((k : Int), x)] := by
  rw [List.take_add_one, prs_get, h]; rfl
theorem prs_pre {l : List Int} {pre : List (Int × Int)} {i x : Int} (h : (pre ++ [(i, x)]) <+: prs l) : i = pre.length ∧ l[pre.length]? = some x := by
  have h1 := prefix_get h
  rw [prs_get] at h1
  cases h2 : l[pre.length]? with
  | none => rw [h2] at h1; cases h1
  | some y => rw [h2] at h1; cases h1; exact ⟨rfl, rfl⟩
theorem el_any {m m' : List Nat} {w w' : World} {l : List Int} {xs : List Value} (h : El (cInt .i64) m w l xs) : El (cInt .i64) m' w' l xs := h
theorem all_seq (s : Gsorted_Set_int) (hs : s.l.length < 1000000) : It_sorted_Set_int_All_1 s (prs s.l) := by
  intro m w hm b0 b cs hel hb hrep
  obtain ⟨A, C, rfl, hle, hsl⟩ := Gsorted_Set_int_out hrep
  refine ⟨hm, fun l J Jx W hG hJ hX hY h0 => ?_⟩
  have k0 : Keep [] w W := hG.keep0 []
  have hc := hel.held k0 (by simp)
  have hb1 := hb.keep k0 (by simp)
  refine all1_ok l b0 _ W ⟨_, Lv.CellsAt.head hc, cond_f rfl ⟨_, Lv.CellsAt.head hc, ?_⟩⟩
  refine ⟨A, _, C, hb1.cell rfl, ?_⟩
  refine call_then (clone_int s.l hs (· = s.l) rfl [] W nofun A C hle (hsl.st k0.stw)) ?_
  rintro _ W1 ⟨r0, rfl, ⟨a0, c0, xs0, rfl, hrw, hel0, hnew⟩, keep1⟩
  have hrd : SlR (cInt .i64) m W1 a0 s.l := by
    rcases row_rd hrw hel0 with h | ⟨p, xs, rfl, _, h1, h2⟩
    · exact .inl h
    · refine .inr ⟨p, xs, rfl, fun h => ?_, h1, el_any h2⟩
      have h3 := hnew p.block rfl
      have h4 := hm _ h
      have h5 := hG.size
      omega
  refine ⟨a0, _, c0, rfl, fun i W2 => ∃ k : Nat, i = k ∧ k ≤ s.l.length ∧ ∃ F, J F ((prs s.l).take k) W2 ∧ SlR (cInt .i64) F W2 a0 s.l, fun i _ => s.l.length - i.toNat, ⟨0, rfl, by omega, m, hJ _ _ _ _ h0 keep1.by, hrd⟩, ?_⟩
  rintro _ _ W2 ⟨k, rfl, hk, F, hJ2, hsl2⟩
  refine cond_intro (fun hd => ?_) fun hd => ?_
  · have hk2 : k < s.l.length := by simp at hd; omega
    refine ⟨by omega, ?_⟩
    obtain ⟨p, x, cs, rfl, hx, hat, hr⟩ := hsl2.elem (i := (k : Int)) (by omega)
    obtain rfl : cs = [.int .i64 x] := hr
    refine ⟨x, Lv.CellsAt.head hat.2, ?_⟩
    rw [Int.toNat_natCast] at hx
    have hp := prs_snoc hx
    have hpre : ((prs s.l).take k ++ [((k : Int), x)]) <+: prs s.l := by rw [← hp]; exact List.take_prefix _ _
    refine YieldC.mono (hY F _ ((k : Int), x) W2 hJ2 hpre) fun go W3 h3 => ?_
    cases go with
    | false => exact ⟨marks0 _, .inr ⟨_, hpre, h3⟩⟩
    | true =>
      obtain ⟨F', h4, h5⟩ := h3
      rw [wrap_in (by omega) (by omega)]
      refine ⟨⟨k + 1, by omega, by omega, F', ?_, hsl2.st ⟨h5.kp.d, h5.sub⟩⟩, ?_⟩
      · exact Eq.mpr (congrArg (fun z : List (Int × Int) => J F' z W3) hp) h4
      · show s.l.length - ((k : Int) + 1).toNat < s.l.length - (k : Int).toNat
        omega
  · have hk2 : k = s.l.length := by simp at hd; omega
    refine ⟨marks0 _, .inl ⟨F, ?_⟩⟩
    have e : (prs s.l).take k = prs s.l := by rw [hk2, ← prs_len, List.take_length]
    exact Eq.mp (congrArg (fun z : List (Int × Int) => J F z W2) e) hJ2
end Go.Proofs.Ytcbpdageojenjaa
