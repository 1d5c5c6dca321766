/- Arguments that are structs of numbers, as the claim's form hands them over. -/
import Derived.Test.YtfcemnnlmlggoaaGreatAmS
import GoSem.ClaimWide
namespace Go.Am
open Go.Vc

theorem okWide_one {P : Program} {w : World} {r : Reach} {base : Nat} {t : TypeId} {v : Value} (h : Cell.okWide P w r base t v) : v.oneCell' = true := by
  cases v <;> first | rfl | (exfalso; unfold Cell.okWide at h; split at h <;> first | (simp_all; done) | (unfold Cell.ok at h; split at h <;> simp_all))
theorem row_ones {P : Program} {w : World} {r : Reach} {base : Nat} {t : TypeId} {cs : Array Value} (h : Row.okWide P w r base t cs) : ∀ x ∈ cs.toList, x.oneCell' = true := by
  obtain ⟨ts, _, _, h⟩ := h
  intro x hx
  obtain ⟨i, hi⟩ := List.getElem?_of_mem hx
  obtain ⟨u, _, hu⟩ := h i x (by simpa using hi)
  exact okWide_one hu
theorem int_cell {P : Program} {w : World} {r : Reach} {base : Nat} {t : TypeId} {k : IntKind} {v : Value} (hu : P.underlying t = some (.int k)) (h : Cell.okWide P w r base t v) : ∃ n, v = .int k n ∧ k.has n := by
  unfold Cell.okWide at h
  rw [hu] at h
  cases v <;> simp only [Cell.ok, hu] at h
  obtain ⟨rfl, h⟩ := h
  exact ⟨_, rfl, h⟩
theorem list_ints {k : IntKind} : ∀ {l : List Value}, (∀ x ∈ l, ∃ n, x = .int k n ∧ k.has n) → ∃ ns : List Int, ns.length = l.length ∧ l = ns.map (.int k) ∧ ∀ n ∈ ns, k.has n
  | [], _ => ⟨[], rfl, rfl, by simp⟩
  | x :: l, h => by
    obtain ⟨n, rfl, hn⟩ := h x (by simp)
    obtain ⟨ns, g1, g2, g3⟩ := list_ints (l := l) fun y hy => h y (by simp [hy])
    exact ⟨n :: ns, by simp [g1], by rw [List.map_cons, ← g2], fun z hz => by rcases List.mem_cons.1 hz with rfl | hz; exact hn; exact g3 z hz⟩
theorem row_ints {P : Program} {w : World} {r : Reach} {base : Nat} {T t : TypeId} {k : IntKind} {cs : Array Value} {m : Nat} (hu : P.underlying t = some (.int k)) (hT : P.cellTypes P.depth T = some (List.replicate m t)) (hz : cs.size = m) (h : Row.okWide P w r base T cs) : ∃ ns : List Int, ns.length = m ∧ cs.toList = ns.map (.int k) ∧ ∀ n ∈ ns, k.has n := by
  obtain ⟨ts, h1, _, h2⟩ := h
  rw [hT] at h1
  cases h1
  have h2 : ∀ x ∈ cs.toList, ∃ n, x = .int k n ∧ k.has n := by
    intro x hx
    obtain ⟨i, hi⟩ := List.getElem?_of_mem hx
    obtain ⟨u, h3, h4⟩ := h2 i x (by simpa using hi)
    have hu' : u = t := by
      have := List.mem_of_getElem? h3
      exact (List.mem_replicate.1 this).2
    subst hu'
    exact int_cell hu h4
  obtain ⟨ns, g1, g2, g3⟩ := list_ints h2
  exact ⟨ns, by rw [g1]; simpa using hz, g2, g3⟩
end Go.Am
