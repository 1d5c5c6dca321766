/- Layer 10, plain: how far terms reach; that reading them ends. -/
import Derived.Test.YtahppcghgmhkiaaTermA
namespace Go.Tm
open Go.Vc Go.Tk

theorem T_end {toks : List Tok} {p : Nat} (h : toks.length ≤ p) : T toks p = Tok.zero := by
  unfold T; rw [List.getD_eq_getElem?_getD, List.getElem?_eq_none h]; rfl
theorem T_lt {toks : List Tok} {p : Nat} (h : (T toks p).kind ≠ 0) : p < toks.length := by
  rcases Nat.lt_or_ge p toks.length with h1 | h1
  · exact h1
  · rw [T_end h1] at h; exact absurd rfl h
theorem mine_lt {toks : List Tok} {p : Nat} (h : mine toks p ≠ 0) : p < toks.length := by
  refine T_lt fun e => h ?_
  unfold mine; rw [e]; rfl
/-- what is known of a term that was read from a place on -/
def Ok (toks : List Tok) (p : Nat) (r : Res) : Prop := (r.e = 0 → p < r.at_ ∧ r.at_ ≤ toks.length ∧ r.l.length ≤ r.at_ - p) ∧ (r.e ≠ 0 → r.l = [])
theorem oneStep_ok {toks : List Tok} {r1 rl : Nat → Nat → Option Res} (h1 : ∀ p d r, r1 p d = some r → Ok toks p r) (hl : ∀ p d r, rl p d = some r → Ok toks p r) {p d : Nat} {r : Res}
    (h : oneStep toks r1 rl p d = some r) : Ok toks p r := by
  unfold oneStep at h
  split at h
  · rename_i c
    have := T_lt (toks := toks) (p := p) (by rw [c]; decide)
    cases h; exact ⟨fun _ => ⟨by simp, this, by simp⟩, fun h => absurd rfl h⟩
  · split at h
    · rename_i c
      have := T_lt (toks := toks) (p := p) (by rw [c]; decide)
      cases h; exact ⟨fun _ => ⟨by simp, this, by simp⟩, fun h => absurd rfl h⟩
    · split at h
      · rename_i c
        have := T_lt (toks := toks) (p := p) (by rw [c.1]; decide)
        split at h
        · cases h; exact ⟨fun h => by simp at h, fun _ => rfl⟩
        · obtain ⟨x, hx, rfl⟩ := Option.map_eq_some_iff.1 h
          have hk := h1 _ _ _ hx
          split
          · rename_i he
            have := hk.1 he
            exact ⟨fun _ => ⟨by simp; omega, by simp; omega, by simp; omega⟩, fun h => absurd rfl h⟩
          · rename_i he
            exact ⟨fun h => absurd h he, hk.2⟩
      · split at h
        · rename_i c
          have := T_lt (toks := toks) (p := p) (by rw [c.1]; decide)
          split at h
          · cases h; exact ⟨fun h => by simp at h, fun _ => rfl⟩
          · obtain ⟨x, hx, rfl⟩ := Option.map_eq_some_iff.1 h
            have hk := hl _ _ _ hx
            split
            · rename_i he
              exact ⟨fun h => absurd h he, hk.2⟩
            · rename_i he
              have he : x.e = 0 := by simpa using he
              have hh := hk.1 he
              split
              · rename_i c
                have := T_lt (toks := toks) (p := x.at_) (by rw [c.1]; decide)
                exact ⟨fun _ => ⟨by simp; omega, by simp; omega, by simp; omega⟩, fun h => absurd rfl h⟩
              · exact ⟨fun h => by simp at h, fun _ => rfl⟩
        · cases h; exact ⟨fun h => by simp at h, fun _ => rfl⟩
/-- .. and of what a loop makes of a term -/
def OkL (toks : List Tok) (x r : Res) : Prop := (r.e = 0 → x.at_ ≤ r.at_ ∧ r.at_ ≤ toks.length ∧ r.l.length ≤ x.l.length + (r.at_ - x.at_)) ∧ (r.e ≠ 0 → r.l = [])
theorem join_ok {toks : List Tok} {x y : Res} (h : Ok toks (x.at_ + 1) y) (hy : y.e = 0) : x.at_ ≤ (join toks x y).at_ ∧ (join toks x y).at_ ≤ toks.length ∧ (join toks x y).l.length ≤ x.l.length + ((join toks x y).at_ - x.at_) := by
  have := h.1 hy
  simp only [join, List.length_append, List.length_cons]
  omega
theorem P_ok (toks : List Tok) : ∀ (f : Nat), (∀ p d r, P toks f (.one p d) = some r → Ok toks p r) ∧ (∀ n p d r, P toks f (.lev n p d) = some r → Ok toks p r) ∧
    (∀ n m d x r, (x.e = 0 → x.at_ ≤ toks.length) → (x.e ≠ 0 → x.l = []) → P toks f (.loop n m d x) = some r → OkL toks x r ∧ (x.e ≠ 0 → r = x)) := by
  intro f
  induction f with
  | zero => exact ⟨fun _ _ _ h => by simp [P] at h, fun _ _ _ _ h => by simp [P] at h, fun _ _ _ _ _ _ _ h => by simp [P] at h⟩
  | succ f ih =>
    obtain ⟨ih1, ih2, ih3⟩ := ih
    refine ⟨fun p d r h => ?_, fun n p d r h => ?_, fun n m d x r hx hx0 h => ?_⟩
    · simp only [P] at h
      exact oneStep_ok (fun p d r h => ih1 p d r h) (fun p d r h => ih2 1 p d r h) h
    · rw [P] at h
      obtain ⟨x, hx, hr⟩ := Option.bind_eq_some_iff.1 h
      have hk := ih1 _ _ _ hx
      have hl := ih3 _ _ _ _ _ (fun h => (hk.1 h).2.1) hk.2 hr
      by_cases he : x.e = 0
      · have := hk.1 he
        refine ⟨fun h0 => ?_, hl.1.2⟩
        have := hl.1.1 h0
        omega
      · rw [hl.2 he]; exact hk
    · rw [P] at h
      split at h
      · rename_i he; cases h; exact ⟨⟨fun h => absurd h he, hx0⟩, fun _ => rfl⟩
      · rename_i he
        have he : x.e = 0 := by simpa using he
        split at h
        · cases h; exact ⟨⟨fun _ => ⟨Nat.le_refl _, hx he, by omega⟩, fun h => absurd he h⟩, fun h => absurd he h⟩
        · obtain ⟨y, hy, hr⟩ := Option.bind_eq_some_iff.1 h
          have hk := ih2 _ _ _ _ hy
          refine ⟨?_, fun h => absurd he h⟩
          split at hr
          · rename_i hye
            cases hr
            exact ⟨fun h => absurd h hye, hk.2⟩
          · rename_i hye
            have hye : y.e = 0 := by simpa using hye
            have hj := join_ok hk hye
            have := (ih3 _ _ _ _ _ (fun _ => hj.2.1) (fun h => absurd rfl h) hr).1
            refine ⟨fun h0 => ?_, this.2⟩
            have := this.1 h0
            omega
theorem R_ok (toks : List Tok) : ∀ (f : Nat), (∀ p d r, R toks f (.one p d) = some r → Ok toks p r) ∧ (∀ n p d r, R toks f (.lev n p d) = some r → Ok toks p r) ∧
    (∀ n m d x r, (x.e = 0 → x.at_ ≤ toks.length) → (x.e ≠ 0 → x.l = []) → R toks f (.loop n m d x) = some r → OkL toks x r ∧ (x.e ≠ 0 → r = x)) := by
  intro f
  induction f with
  | zero => exact ⟨fun _ _ _ h => by simp [R] at h, fun _ _ _ _ h => by simp [R] at h, fun _ _ _ _ _ _ _ h => by simp [R] at h⟩
  | succ f ih =>
    obtain ⟨ih1, ih2, ih3⟩ := ih
    refine ⟨fun p d r h => ?_, fun n p d r h => ?_, fun n m d x r hx hx0 h => ?_⟩
    · simp only [R] at h
      exact oneStep_ok (fun p d r h => ih1 p d r h) (fun p d r h => ih2 1 p d r h) h
    · rw [R] at h
      split at h
      · exact ih1 _ _ _ h
      · obtain ⟨x, hx, hr⟩ := Option.bind_eq_some_iff.1 h
        have hk := ih2 _ _ _ _ hx
        have hl := ih3 _ _ _ _ _ (fun h => (hk.1 h).2.1) hk.2 hr
        by_cases he : x.e = 0
        · have := hk.1 he
          refine ⟨fun h0 => ?_, hl.1.2⟩
          have := hl.1.1 h0
          omega
        · rw [hl.2 he]; exact hk
    · rw [R] at h
      split at h
      · rename_i he; cases h; exact ⟨⟨fun h => absurd h he, hx0⟩, fun _ => rfl⟩
      · rename_i he
        have he : x.e = 0 := by simpa using he
        split at h
        · cases h; exact ⟨⟨fun _ => ⟨Nat.le_refl _, hx he, by omega⟩, fun h => absurd he h⟩, fun h => absurd he h⟩
        · obtain ⟨y, hy, hr⟩ := Option.bind_eq_some_iff.1 h
          have hk := ih2 _ _ _ _ hy
          refine ⟨?_, fun h => absurd he h⟩
          split at hr
          · rename_i hye
            cases hr
            exact ⟨fun h => absurd h hye, hk.2⟩
          · rename_i hye
            have hye : y.e = 0 := by simpa using hye
            have hj := join_ok hk hye
            split at hr
            · cases hr
              exact ⟨fun _ => hj, fun h => absurd rfl h⟩
            · have := (ih3 _ _ _ _ _ (fun _ => hj.2.1) (fun h => absurd rfl h) hr).1
              refine ⟨fun h0 => ?_, this.2⟩
              have := this.1 h0
              omega
theorem P_total (toks : List Tok) : ∀ (f : Nat), (∀ p d, 3 * (toks.length - p) + 1 ≤ f → ∃ r, P toks f (.one p d) = some r) ∧ (∀ n p d, 3 * (toks.length - p) + 2 ≤ f → ∃ r, P toks f (.lev n p d) = some r) ∧
    (∀ n m d x, 1 ≤ f → (x.e = 0 → 3 * (toks.length - x.at_) + 1 ≤ f) → ∃ r, P toks f (.loop n m d x) = some r) := by
  intro f
  induction f with
  | zero => exact ⟨fun _ _ h => by omega, fun _ _ _ h => by omega, fun _ _ _ _ h => by omega⟩
  | succ f ih =>
    obtain ⟨ih1, ih2, ih3⟩ := ih
    obtain ⟨k1, k2, k3⟩ := P_ok toks f
    refine ⟨fun p d h => ?_, fun n p d h => ?_, fun n m d x _ h => ?_⟩
    · simp only [P]
      unfold oneStep
      split
      · exact ⟨_, rfl⟩
      · split
        · exact ⟨_, rfl⟩
        · split
          · rename_i c
            have := T_lt (toks := toks) (p := p) (by rw [c.1]; decide)
            split
            · exact ⟨_, rfl⟩
            · obtain ⟨x, hx⟩ := ih1 (p + 1) (d + 1) (by omega)
              exact ⟨_, Option.map_eq_some_iff.2 ⟨x, hx, rfl⟩⟩
          · split
            · rename_i c
              have := T_lt (toks := toks) (p := p) (by rw [c.1]; decide)
              split
              · exact ⟨_, rfl⟩
              · obtain ⟨x, hx⟩ := ih2 1 (p + 1) (d + 1) (by omega)
                exact ⟨_, Option.map_eq_some_iff.2 ⟨x, hx, rfl⟩⟩
            · exact ⟨_, rfl⟩
    · rw [P]
      obtain ⟨x, hx⟩ := ih1 p d (by omega)
      obtain ⟨r, hr⟩ := ih3 n 6 d x (by omega) (fun he => by have := (k1 _ _ _ hx).1 he; omega)
      exact ⟨r, by rw [hx]; exact hr⟩
    · rw [P]
      split
      · exact ⟨_, rfl⟩
      · rename_i he
        have he : x.e = 0 := by simpa using he
        have h := h he
        split
        · exact ⟨_, rfl⟩
        · rename_i hm
          have hlt := mine_lt (toks := toks) (p := x.at_) (by omega)
          obtain ⟨y, hy⟩ := ih2 (mine toks x.at_ + 1) (x.at_ + 1) d (by omega)
          rw [hy]
          show ∃ r, (if y.e ≠ 0 then some y else _) = some r
          split
          · exact ⟨_, rfl⟩
          · rename_i hye
            have hye : y.e = 0 := by simpa using hye
            have := (k2 _ _ _ _ hy).1 hye
            exact ih3 _ _ _ _ (by omega) (fun _ => by simp only [join]; omega)
end Go.Tm
