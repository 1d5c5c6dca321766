/- Instructions read from bytes. -/
import Derived.Test.YtknpbkajonmaoaaDoorInsI
namespace Go.Proofs.YtknpbkajonmaoaaDoor
open Go.Vc Go.Lv Go.Ty Go.Iv

/-- an instruction at the front of bytes -/
def one16 : List UInt8 → Except Int (GIns × List UInt8)
  | [] => .error 2
  | c :: s =>
    let op : Int := (c.toNat : Int)
    let fin (x : GIns) (t : List UInt8) : Except Int (GIns × List UInt8) := if rightB x then .ok (x, t) else .error 3
    if 0 < nz op then match dec 0 0 s with
      | .error e => .error e
      | .ok (a, s1) => if 1 < nz op then match dec 0 0 s1 with
          | .error e => .error e
          | .ok (b, s2) => fin ⟨op, zagN a, zagN b⟩ s2
        else fin ⟨op, zagN a, 0⟩ s1
    else fin ⟨op, 0, 0⟩ s
theorem one_len {s t : List UInt8} {x : GIns} (h : one16 s = .ok (x, t)) : t.length < s.length := by
  cases s with
  | nil => simp [one16] at h
  | cons c s =>
    simp only [one16] at h
    rw [List.length_cons]
    split at h
    · split at h
      · cases h
      · rename_i a s1 h1
        have l1 := dec_len _ _ _ _ _ h1
        split at h
        · split at h
          · cases h
          · rename_i b s2 h2
            have l2 := dec_len _ _ _ _ _ h2
            split at h
            · cases h; omega
            · cases h
        · split at h
          · cases h; omega
          · cases h
    · split at h
      · cases h; omega
      · cases h
/-- all instructions of bytes, behind those that were read -/
def all16 : Nat → List GIns → List UInt8 → Except Int (List GIns)
  | 0, _, _ => .error 0
  | n + 1, l, s => if s = [] then .ok l else match one16 s with
    | .error e => .error e
    | .ok (x, t) => all16 n (l ++ [x]) t
theorem all_fuel : ∀ (n m : Nat) (l : List GIns) (s : List UInt8), s.length < n → s.length < m → all16 n l s = all16 m l s
  | 0, _, _, _, h, _ => by omega
  | _, 0, _, _, _, h => by omega
  | n + 1, m + 1, l, s, h1, h2 => by
    simp only [all16]
    split
    · rfl
    · cases ho : one16 s with
      | error e => rfl
      | ok v =>
        obtain ⟨x, t⟩ := v
        have := one_len ho
        exact all_fuel n m _ _ (by omega) (by omega)
/-- what is got of bytes -/
def get16 (s : List UInt8) : Except Int (List GIns) := all16 (s.length + 1) [] s
theorem one_err {s : List UInt8} {e : Int} (h : one16 s = .error e) : e ≠ 0 := by
  cases s with
  | nil => simp only [one16] at h; cases h; decide
  | cons c s =>
    simp only [one16] at h
    split at h
    · split at h
      · rename_i e' h1
        cases h
        exact dec_err _ _ _ _ h1
      · split at h
        · split at h
          · rename_i e' h2
            cases h
            exact dec_err _ _ _ _ h2
          · split at h
            · cases h
            · cases h; decide
        · split at h
          · cases h
          · cases h; decide
    · split at h
      · cases h
      · cases h; decide
theorem one_j {s t : List UInt8} {x : GIns} (h : one16 s = .ok (x, t)) : JIns x ∧ rightB x = true ∧ s = bytesF x ++ t := by
  cases s with
  | nil => simp [one16] at h
  | cons c s =>
    have hc : UInt8.ofNat ((c.toNat : Int)).toNat = c := by simp
    have z : J64 0 := ⟨by decide, by decide⟩
    simp only [one16] at h
    split at h
    · rename_i h0
      split at h
      · cases h
      · rename_i a s1 h1
        obtain ⟨b1, b2⟩ := dec_back0 h1
        split at h
        · rename_i h01
          split at h
          · cases h
          · rename_i b s2 h2
            obtain ⟨b3, b4⟩ := dec_back0 h2
            split at h
            · rename_i hr
              cases h
              refine ⟨⟨zag_j64 b2, zag_j64 b4⟩, hr, ?_⟩
              unfold bytesF
              rw [if_pos hr, if_pos h0, if_pos h01, hc, zig_zag, zig_zag, List.cons_append, List.append_assoc, ← b3, ← b1]
            · cases h
        · rename_i h01
          split at h
          · rename_i hr
            cases h
            refine ⟨⟨zag_j64 b2, z⟩, hr, ?_⟩
            unfold bytesF
            rw [if_pos hr, if_pos h0, if_neg h01, hc, zig_zag, List.append_nil, List.cons_append, ← b1]
          · cases h
    · rename_i h0
      split at h
      · rename_i hr
        cases h
        refine ⟨⟨z, z⟩, hr, ?_⟩
        unfold bytesF
        have : ¬ 1 < nz (c.toNat : Int) := by omega
        rw [if_pos hr, if_neg h0, if_neg this, hc]; rfl
      · cases h
theorem one_put {x : GIns} (hx : JIns x) (hr : rightB x = true) (t : List UInt8) : one16 (bytesF x ++ t) = .ok (x, t) := by
  have ho := right_op hr
  have hop : (((UInt8.ofNat x.op.toNat).toNat : Nat) : Int) = x.op := by
    rw [ofNat_toNat (by omega)]; omega
  have hbad : badB x = false := by unfold rightB at hr; cases hb : badB x <;> simp_all
  unfold bytesF
  rw [if_pos hr, List.cons_append]
  simp only [one16]
  rw [hop]
  unfold badB at hbad
  simp only [Bool.or_eq_false_iff, Bool.and_eq_false_iff, decide_eq_false_iff_not, bne_eq_false_iff_eq] at hbad
  by_cases h0 : 0 < nz x.op
  · rw [if_pos h0, if_pos h0, List.append_assoc, dec_num0 (zig_lt hx.1)]
    simp only
    by_cases h1 : 1 < nz x.op
    · rw [if_pos h1, if_pos h1, dec_num0 (zig_lt hx.2)]
      simp only
      rw [zag_zig, zag_zig, if_pos hr]
    · have hb : x.b = 0 := hbad.2.2.resolve_left (by omega)
      rw [if_neg h1, if_neg h1, zag_zig, List.nil_append, show (⟨x.op, x.a, 0⟩ : GIns) = x by rw [← hb], if_pos hr]
  · have ha : x.a = 0 := hbad.2.1.resolve_left (by omega)
    have hb : x.b = 0 := hbad.2.2.resolve_left (by omega)
    rw [if_neg h0, if_neg h0, if_neg (by omega : ¬ 1 < nz x.op), show (⟨x.op, 0, 0⟩ : GIns) = x by conv => rhs; rw [show x = ⟨x.op, x.a, x.b⟩ from rfl, ha, hb]]
    rw [if_pos hr]; rfl
theorem all_put : ∀ (m : List GIns) (n : Nat) (l : List GIns), (∀ x ∈ m, JIns x) → (m.flatMap bytesF).length < n → all16 n l (m.flatMap bytesF) = .ok (l ++ m.filter rightB)
  | [], n, l, _, h => by
    obtain ⟨k, rfl⟩ : ∃ k, n = k + 1 := ⟨n - 1, by simp at h; omega⟩
    simp [all16]
  | x :: m, n, l, hm, h => by
    have hx := hm x (by simp)
    have hm' : ∀ y ∈ m, JIns y := fun y hy => hm y (by simp [hy])
    rw [List.flatMap_cons] at h ⊢
    cases hr : rightB x with
    | false =>
      have hb : bytesF x = [] := by unfold bytesF; rw [if_neg (by rw [hr]; decide)]
      rw [hb, List.nil_append] at h ⊢
      rw [all_put m n l hm' h, List.filter_cons_of_neg (by rw [hr]; decide)]
    | true =>
      obtain ⟨k, rfl⟩ : ∃ k, n = k + 1 := ⟨n - 1, by omega⟩
      have hb : bytesF x ≠ [] := by unfold bytesF; rw [if_pos hr]; simp
      have hp : 0 < (bytesF x).length := List.length_pos_iff.2 hb
      rw [List.length_append] at h
      simp only [all16]
      rw [if_neg (by simp [hb]), one_put hx hr]
      simp only
      rw [all_put m k _ hm' (by omega), List.filter_cons_of_pos hr, List.append_assoc]; rfl
theorem get_put (m : List GIns) (hm : ∀ x ∈ m, JIns x) : get16 (m.flatMap bytesF) = .ok (m.filter rightB) := all_put m _ [] hm (by omega)
/-- what is got was so put -/
theorem all_back : ∀ (n : Nat) (l m : List GIns) (s : List UInt8), all16 n l s = .ok m → ∃ k, m = l ++ k ∧ s = k.flatMap bytesF ∧ ∀ x ∈ k, JIns x
  | 0, _, _, _, h => by simp [all16] at h
  | n + 1, l, m, s, h => by
    simp only [all16] at h
    split at h
    · rename_i hs
      cases h
      exact ⟨[], by simp, by simp [hs], by simp⟩
    · split at h
      · cases h
      · rename_i x t ho
        obtain ⟨h1, h2, h3⟩ := one_j ho
        obtain ⟨k, rfl, rfl, g⟩ := all_back n _ m t h
        exact ⟨x :: k, by simp, by rw [h3, List.flatMap_cons], fun y hy => by
          rcases List.mem_cons.1 hy with rfl | hy
          · exact h1
          · exact g y hy⟩
end Go.Proofs.YtknpbkajonmaoaaDoor
