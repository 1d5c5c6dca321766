/- slices.overlaps, of which the model has an entry of its own, as the machine knows it. -/
import Derived.Test.YtnnifojbanocgaaGreatAmI
import Derived.Lib.Overlaps
namespace Go.Am
open Go.Vc
variable {R : Type}

structure OverOk (P : Program) (g : FuncId) (tS tR el : TypeId) (size : Nat) : Prop where
  run : ∀ args w, (callFunc g args).run P w = ((Extern.SlicesOverlaps.overlaps #[tS, tS] #[tR] args).run P w).andThen fun v w => .ok (.value v) w
  ht : P.underlying tS = some (.slice el)
  hz : ∀ w, (sizeOf el).run P w = .ok size w
/-- do they certainly not overlap? -/
def overB (M : Tr Blk) : List AV → Bool
  | [.slice b _ l1 _ _ _, .slice b' _ l2 _ _ _] => ifB (ifB (Nat.beq l1 0) true (Nat.beq l2 0)) true (match M.get b, M.get b' with
    | some (.cells _ true), some (.cells (_ :: _) _) => no (Nat.beq b b')
    | _, _ => false)
  | [.lit (.slice none _ _), .slice ..] => true
  | [.slice .., .lit (.slice none _ _)] => true
  | [.lit (.slice none _ _), .lit (.slice none _ _)] => true
  | _ => false
def overE (g : FuncId) : CallK R → CallK R := fun call g' args M n K => ifK (Nat.beq g g') (ifK (overB M args) (K (.lit (.bool false)) M n) none) (call g' args M n K)
theorem over_none {P : Program} {tS tR el : TypeId} {size : Nat} (ht : P.underlying tS = some (.slice el)) (hz : ∀ w, (sizeOf el).run P w = .ok size w) (a b : Option Addr) (la ca lb cb : Nat) (h : a = none ∨ b = none ∨ la = 0 ∨ lb = 0) (w : World) :
    (Extern.SlicesOverlaps.overlaps #[tS, tS] #[tR] #[.slice a la ca, .slice b lb cb]).run P w = .ok (.bool false) w := by
  show Sem.run P (underlying tS >>= _) w = _
  rw [Sem.run_bind, run_underlying ht, Result.andThen_ok]
  show Sem.run P (sizeOf el >>= _) w = _
  rw [Sem.run_bind, hz, Result.andThen_ok]
  cases a with
  | none => rfl
  | some a =>
    cases b with
    | none => rfl
    | some b =>
      have h : la = 0 ∨ lb = 0 ∨ size = 0 := by
        rcases h with h | h | h | h
        · cases h
        · cases h
        · exact .inl h
        · exact .inr (.inl h)
      exact congrArg (fun s => Sem.run P s w) (if_pos h)
theorem overB_ok {P : Program} {tS tR el : TypeId} {size : Nat} (ht : P.underlying tS = some (.slice el)) (hz0 : ∀ w, (sizeOf el).run P w = .ok size w) {M : Tr Blk} {args : List AV} (hr : overB M args = true) {b0 : Base} {e : Env} {n : Nat} {w : World} {vs : List Value} (hM : MemR b0 e M.get n w) (hvs : AV.repL e args vs) :
    (Extern.SlicesOverlaps.overlaps #[tS, tS] #[tR] ⟨vs⟩).run P w = .ok (.bool false) w := by
  unfold overB at hr
  split at hr
  · rename_i b o l1 sz c x b' o' l2 sz' c' x'
    simp only [AV.repL, AV.rep] at hvs
    obtain ⟨v1, _, rfl, ⟨B, t, k, A, he, rfl, hA, hk, _⟩, v2, _, rfl, ⟨B', t', k', A', he', rfl, hA', hk', _⟩, rfl⟩ := hvs
    cases hz : ifB (Nat.beq l1 0) true (Nat.beq l2 0) with
    | true =>
      refine over_none ht hz0 _ _ _ _ _ _ ?_ w
      rw [ifB_eq] at hz
      cases h0 : Nat.beq l1 0 with
      | true => exact .inr (.inr (.inl (Nat.eq_of_beq_eq_true h0)))
      | false => rw [h0] at hz; exact .inr (.inr (.inr (Nat.eq_of_beq_eq_true hz)))
    | false =>
      rw [hz] at hr
      simp only [ifB_eq, cond_false] at hr
      split at hr
      case h_2 => cases hr
      rename_i l a2 l2' rw2 hb hb'
      rw [no_eq, Bool.not_eq_true'] at hr
      have hne : b ≠ b' := fun e => by subst e; rw [Nat.beq_refl] at hr; cases hr
      have hl0 : l1 ≠ 0 ∧ l2 ≠ 0 := by
        rw [ifB_eq] at hz
        cases h0 : Nat.beq l1 0 with
        | true => rw [h0] at hz; cases hz
        | false =>
          rw [h0] at hz
          refine ⟨?_, ?_⟩
          · intro e9; rw [e9] at h0; cases h0
          · intro e9; rw [e9] at hz; cases hz
      have hA : A = ⟨B, o, none⟩ := hA.resolve_right (by omega)
      have hA' : A' = ⟨B', o', none⟩ := hA'.resolve_right (by omega)
      subst hA hA'
      have hBB := hM.dif b b' _ _ hne hb hb' B B' t t' he he'
      obtain ⟨C, tt, vs, rest, g1, ⟨T, fr, g2, g3⟩, g4, _, _⟩ := hM.blk b _ hb
      rw [he] at g1; cases g1
      have g3 := g3 rfl
      subst g3
      obtain ⟨C', tt', vs', rest', k1, ⟨T', fr', k2, _⟩, k4, k5, _⟩ := hM.blk b' _ hb'
      rw [he'] at k1; cases k1
      have hlen : (vs' ++ rest').length ≠ 0 := by
        have := repL_length k5
        simp only [List.length_cons] at this
        simp only [List.length_append]; omega
      exact Lib.run_overlaps_apart w tS tR el ht size hz0 ⟨B, o, none⟩ ⟨B', o', none⟩ l1 k l2 k' hBB T T' (⟨vs ++ rest⟩ : Array Value).size (⟨vs' ++ rest'⟩ : Array Value).size (by simp [World.shape?, g2]) (by simp [World.shape?, k2]) (by simpa using hlen) (by simp [World.frozen?, g2]) (by simp [World.frozen?, g2])
  · simp only [AV.repL, AV.rep] at hvs
    obtain ⟨v1, _, rfl, rfl, v2, _, rfl, ⟨B', t', k', A', _, rfl, _⟩, rfl⟩ := hvs
    exact over_none ht hz0 _ _ _ _ _ _ (.inl rfl) w
  · simp only [AV.repL, AV.rep] at hvs
    obtain ⟨v1, _, rfl, ⟨B', t', k', A', _, rfl, _⟩, v2, _, rfl, rfl, rfl⟩ := hvs
    exact over_none ht hz0 _ _ _ _ _ _ (.inr (.inl rfl)) w
  · simp only [AV.repL, AV.rep] at hvs
    obtain ⟨v1, _, rfl, rfl, v2, _, rfl, rfl, rfl⟩ := hvs
    exact over_none ht hz0 _ _ _ _ _ _ (.inl rfl) w
  · cases hr
theorem overE_ok {P : Program} {g : FuncId} {tS tR el : TypeId} {size : Nat} (hg : Nat.ble (Nat.succ g) YB = true) (ho : OverOk P g tS tR el size) : ExtOk P (overE (R := R) g) := by
  intro call hcall g' args M n K r hr
  unfold overE at hr
  cases hc : Nat.beq g g' with
  | false => rw [hc] at hr; exact hcall _ _ _ _ _ _ hr
  | true =>
    rw [hc] at hr
    have h1 := Nat.eq_of_beq_eq_true hc
    subst h1
    have hlt : g < YB := Nat.le_of_ble_eq_true hg
    obtain ⟨hb, hk⟩ := ifK_some (show ifK (overB M args) (K (.lit (.bool false)) M n) none = some r from hr)
    refine ⟨_, M, n, hk, fun _ b0 e w vs hM hvs next hn => ?_, fun b hb => absurd hlt (by rw [hb]; exact Nat.not_lt.2 (Nat.le_add_right _ _))⟩
    rw [ho.run, overB_ok ho.ht ho.hz hb hM hvs]
    exact hn e (.bool false) w (Later.refl e) hM (by simp only [AV.rep])
end Go.Am
