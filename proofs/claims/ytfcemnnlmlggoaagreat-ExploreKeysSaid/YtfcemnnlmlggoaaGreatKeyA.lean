/- Keys of states: what they tell apart, and ranks. Plain. -/
import Derived.Test.YtfcemnnlmlggoaaGreatInsV
import Derived.Test.YtfcemnnlmlggoaaGreatSetP
import Derived.Test.YtfcemnnlmlggoaaGreatTyX
namespace Go.Ky
open Go.Vc Go.Lv Go.Iv Go.Ty

/-- what is put behind one another is told apart -/
theorem u8_inj {a b : Nat} (ha : a < 256) (hb : b < 256) (h : UInt8.ofNat a = UInt8.ofNat b) : a = b := by
  have := congrArg UInt8.toNat h
  simp at this
  omega
theorem num_inj : ∀ (n u v : Nat) (s t : List UInt8), u < n → numF u ++ s = numF v ++ t → u = v ∧ s = t
  | 0, _, _, _, _, h, _ => absurd h (Nat.not_lt_zero _)
  | n + 1, u, v, s, t, hn, h => by
    by_cases hu : u < 128
    · by_cases hv : v < 128
      · rw [numF_lt hu, numF_lt hv] at h
        simp only [List.cons_append, List.nil_append, List.cons.injEq] at h
        exact ⟨u8_inj (by omega) (by omega) h.1, h.2⟩
      · rw [numF_lt hu, numF_ge hv] at h
        simp only [List.cons_append, List.nil_append, List.cons.injEq] at h
        have := u8_inj (by omega) (by omega) h.1
        omega
    · by_cases hv : v < 128
      · rw [numF_ge hu, numF_lt hv] at h
        simp only [List.cons_append, List.nil_append, List.cons.injEq] at h
        have := u8_inj (by omega) (by omega) h.1
        omega
      · rw [numF_ge hu, numF_ge hv] at h
        simp only [List.cons_append, List.cons.injEq] at h
        have h1 := u8_inj (by omega) (by omega) h.1
        obtain ⟨h2, h3⟩ := num_inj n (u / 128) (v / 128) s t (by omega) h.2
        exact ⟨by omega, h3⟩
/-- a code whose words are told apart -/
def PF {α : Type} (f : α → List UInt8) : Prop := ∀ x y s t, f x ++ s = f y ++ t → x = y ∧ s = t
theorem pf_num : PF numF := fun u v s t h => num_inj (u + 1) u v s t (by omega) h
def intF (n : Int) : List UInt8 := numF (zigN n)
theorem pf_int : PF intF := fun x y s t h => by
  obtain ⟨h1, h2⟩ := pf_num _ _ _ _ h
  exact ⟨by rw [← zag_zig (n := x), h1, zag_zig], h2⟩
def rowF {α : Type} (f : α → List UInt8) (l : List α) : List UInt8 := numF l.length ++ l.flatMap f
theorem pf_flat {α : Type} {f : α → List UInt8} (hf : PF f) : ∀ (l m : List α) (s t : List UInt8), l.length = m.length → l.flatMap f ++ s = m.flatMap f ++ t → l = m ∧ s = t
  | [], [], _, _, _, h => ⟨rfl, h⟩
  | [], _ :: _, _, _, h, _ => by simp at h
  | _ :: _, [], _, _, h, _ => by simp at h
  | x :: l, y :: m, s, t, hl, h => by
    rw [List.flatMap_cons, List.flatMap_cons, List.append_assoc, List.append_assoc] at h
    obtain ⟨rfl, h2⟩ := hf _ _ _ _ h
    obtain ⟨rfl, h3⟩ := pf_flat hf l m s t (by simpa using hl) h2
    exact ⟨rfl, h3⟩
theorem pf_row {α : Type} {f : α → List UInt8} (hf : PF f) : PF (rowF f) := fun l m s t h => by
  unfold rowF at h
  rw [List.append_assoc, List.append_assoc] at h
  obtain ⟨h1, h2⟩ := pf_num _ _ _ _ h
  exact pf_flat hf l m s t h1 h2
def altF (a : GAlt) : List UInt8 := intF a.kind ++ (intF a.chan ++ (intF a.val ++ (intF a.slot ++ intF a.goto)))
def procF (p : GProc) : List UInt8 := intF p.def_ ++ (intF p.at_ ++ (rowF intF p.vars ++ (intF p.fuel ++ (intF p.mode ++ (intF p.chan ++ (intF p.val ++ (intF p.slot ++ (intF p.until_ ++ (intF p.since ++ rowF altF p.alts)))))))))
def stateF (s : GState) : List UInt8 := intF s.now ++ (intF s.since ++ (intF s.halt ++ (intF s.fault ++ (intF s.who ++ (rowF procF s.procs ++ rowF intF s.out)))))
theorem pf_alt : PF altF := fun x y s t h => by
  unfold altF at h
  simp only [List.append_assoc] at h
  obtain ⟨h1, h⟩ := pf_int _ _ _ _ h
  obtain ⟨h2, h⟩ := pf_int _ _ _ _ h
  obtain ⟨h3, h⟩ := pf_int _ _ _ _ h
  obtain ⟨h4, h⟩ := pf_int _ _ _ _ h
  obtain ⟨h5, h⟩ := pf_int _ _ _ _ h
  cases x; cases y; simp_all
theorem pf_proc : PF procF := fun x y s t h => by
  unfold procF at h
  simp only [List.append_assoc] at h
  obtain ⟨h1, h⟩ := pf_int _ _ _ _ h
  obtain ⟨h2, h⟩ := pf_int _ _ _ _ h
  obtain ⟨h3, h⟩ := pf_row pf_int _ _ _ _ h
  obtain ⟨h4, h⟩ := pf_int _ _ _ _ h
  obtain ⟨h5, h⟩ := pf_int _ _ _ _ h
  obtain ⟨h6, h⟩ := pf_int _ _ _ _ h
  obtain ⟨h7, h⟩ := pf_int _ _ _ _ h
  obtain ⟨h8, h⟩ := pf_int _ _ _ _ h
  obtain ⟨h9, h⟩ := pf_int _ _ _ _ h
  obtain ⟨h10, h⟩ := pf_int _ _ _ _ h
  obtain ⟨h11, h⟩ := pf_row pf_alt _ _ _ _ h
  cases x; cases y; simp_all
theorem stateF_inj {a b : GState} (h : stateF a = stateF b) : a = b := by
  have h : stateF a ++ [] = stateF b ++ [] := by rw [h]
  unfold stateF at h
  simp only [List.append_assoc] at h
  obtain ⟨h1, h⟩ := pf_int _ _ _ _ h
  obtain ⟨h2, h⟩ := pf_int _ _ _ _ h
  obtain ⟨h3, h⟩ := pf_int _ _ _ _ h
  obtain ⟨h4, h⟩ := pf_int _ _ _ _ h
  obtain ⟨h5, h⟩ := pf_int _ _ _ _ h
  obtain ⟨h6, h⟩ := pf_row pf_proc _ _ _ _ h
  obtain ⟨h7, h⟩ := pf_row pf_int _ _ _ _ h
  cases a; cases b; simp_all
/-! ## ranks -/
theorem nodup_len {α : Type} [DecidableEq α] : ∀ {a b : List α}, a.Nodup → (∀ x ∈ a, x ∈ b) → a.length ≤ b.length
  | [], _, _, _ => Nat.zero_le _
  | x :: a, b, hn, hs => by
    have hx : x ∈ b := hs x (by simp)
    have h := nodup_len (a := a) (b := b.erase x) (List.nodup_cons.1 hn).2 (fun y hy => by
      have hy2 := hs y (by simp [hy])
      have hne : y ≠ x := fun e => (List.nodup_cons.1 hn).1 (e ▸ hy)
      exact (List.mem_erase_of_ne hne).2 hy2)
    rw [List.length_erase_of_mem hx] at h
    have := List.length_pos_of_mem hx
    simp only [List.length_cons]; omega
/-- those below a number, each once -/
def seenF (n : Int) (l : List Int) : List Int := l.foldl (fun seen x => if x < n ∧ x ∉ seen then seen ++ [x] else seen) []
theorem seen_go (n : Int) : ∀ (l s : List Int), s.Nodup → (∀ x ∈ s, x < n) →
    (l.foldl (fun seen x => if x < n ∧ x ∉ seen then seen ++ [x] else seen) s).Nodup ∧ ∀ x, x ∈ l.foldl (fun seen x => if x < n ∧ x ∉ seen then seen ++ [x] else seen) s ↔ x ∈ s ∨ (x ∈ l ∧ x < n)
  | [], s, hs, hn => ⟨hs, fun x => by simp⟩
  | y :: l, s, hs, hn => by
    rw [List.foldl_cons]
    by_cases h : y < n ∧ y ∉ s
    · rw [if_pos h]
      have := seen_go n l (s ++ [y]) (by
        rw [List.nodup_append]
        exact ⟨hs, by simp, fun a ha b hb => by simp at hb; subst hb; exact fun e => h.2 (e ▸ ha)⟩) (fun x hx => by
        rcases List.mem_append.1 hx with hx | hx
        · exact hn x hx
        · simp at hx; subst hx; exact h.1)
      refine ⟨this.1, fun x => (this.2 x).trans ?_⟩
      simp only [List.mem_append, List.mem_cons, List.not_mem_nil, or_false]
      constructor
      · rintro ((h1 | rfl) | h1)
        · exact .inl h1
        · exact .inr ⟨.inl rfl, h.1⟩
        · exact .inr ⟨.inr h1.1, h1.2⟩
      · rintro (h1 | ⟨rfl | h1, h2⟩)
        · exact .inl (.inl h1)
        · exact .inl (.inr rfl)
        · exact .inr ⟨h1, h2⟩
    · rw [if_neg h]
      have := seen_go n l s hs hn
      refine ⟨this.1, fun x => (this.2 x).trans ?_⟩
      simp only [List.mem_cons]
      constructor
      · rintro (h1 | h1)
        · exact .inl h1
        · exact .inr ⟨.inr h1.1, h1.2⟩
      · rintro (h1 | ⟨rfl | h1, h2⟩)
        · exact .inl h1
        · by_cases h3 : x ∈ s
          · exact .inl h3
          · exact absurd ⟨h2, h3⟩ h
        · exact .inr ⟨h1, h2⟩
theorem seenF_nodup (n : Int) (l : List Int) : (seenF n l).Nodup := (seen_go n l [] (by simp) (by simp)).1
theorem seenF_mem (n : Int) (l : List Int) (x : Int) : x ∈ seenF n l ↔ x ∈ l ∧ x < n := by
  refine ((seen_go n l [] (by simp) (by simp)).2 x).trans ?_
  simp
/-- the rank: how many of a list, each once, are below a number -/
def rk (l : List Int) (n : Int) : Nat := (seenF n l).length
/-- in a list in order, each once, the rank is the place of the first one that is not below -/
theorem rk_sorted {l L : List Int} (hs : L.Pairwise (· < ·)) (hm : ∀ x, x ∈ L ↔ x ∈ l) (n : Int) : (L.filter (· < n)).length = rk l n := by
  have hnd : (L.filter (fun x => decide (x < n))).Nodup := (hs.imp (fun h => by omega)).filter _
  apply Nat.le_antisymm
  · exact nodup_len hnd fun x hx => (seenF_mem n l x).2 (by
      rw [List.mem_filter] at hx
      exact ⟨(hm x).1 hx.1, by simpa using hx.2⟩)
  · exact nodup_len (seenF_nodup n l) fun x hx => by
      rw [seenF_mem] at hx
      rw [List.mem_filter]
      exact ⟨(hm x).2 hx.1, by simpa using hx.2⟩
theorem rk_le (l : List Int) (n : Int) : rk l n ≤ l.length := nodup_len (seenF_nodup n l) fun x hx => ((seenF_mem n l x).1 hx).1

/-! ## a state as it counts -/
abbrev wr (n : Int) : Int := IntKind.i64.wrap n
/-- does a process wait for another one? -/
def qd (p : GProc) : Bool := p.mode == 1 || p.mode == 2 || p.mode == 3
/-- the Sinces that count -/
def sinL (s : GState) : List Int := s.since :: ((s.procs.filter qd).map (·.since))
/-- in order, each once -/
def srtL (s : GState) : List Int := Lib.compact ((sinL s).mergeSort fun x y => decide (x ≤ y))
def altP (now : Int) (a : GAlt) : GAlt := if a.kind = 3 then { a with val := wr (a.val - now) } else a
def procP (rk : Int → Int) (now : Int) (p : GProc) : GProc :=
  { p with since := if qd p then rk p.since else p.since, until_ := if p.mode = 4 then wr (p.until_ - now) else p.until_, alts := p.alts.map (altP now) }
def plainP (rk : Int → Int) (s : GState) : GState := { s with procs := s.procs.map (procP rk s.now), since := rk s.since, now := 0 }
/-- the place of the first one that is not below -/
def rkL (L : List Int) (n : Int) : Int := ((L.filter (· < n)).length : Nat)
def keyS (s : GState) : GState := plainP (rkL (srtL s)) s
def refS (s : GState) : GState := plainP (fun n => ((rk (sinL s) n : Nat) : Int)) s
theorem ltI_ord : Go.St.Ord (fun a b : Int => a < b) := ⟨fun a => by omega, fun a b c => by omega, fun a b => by omega⟩
theorem srtL_ok (s : GState) : (srtL s).Pairwise (· < ·) ∧ ∀ x, x ∈ srtL s ↔ x ∈ sinL s := by
  have hp := List.pairwise_mergeSort (le := fun x y : Int => decide (x ≤ y)) (fun a b c => by simp; omega) (fun a b => by simp; omega) (sinL s)
  generalize hm : (sinL s).mergeSort (fun x y => decide (x ≤ y)) = m at hp
  have h := Go.St.compact_asc ltI_ord m.toArray (fun i j hi hj hij => by
    have := List.pairwise_iff_getElem.1 hp i j (by simpa using hi) (by simpa using hj) hij
    have h2 : m[i]'(by simpa using hi) ≤ m[j]'(by simpa using hj) := by simpa using this
    simpa using h2) m.toArray.size (Nat.le_refl _)
  unfold srtL
  rw [hm]
  unfold Lib.compact
  refine ⟨h.1, fun x => (h.2 x).trans ?_⟩
  rw [show x ∈ sinL s ↔ x ∈ m by rw [← hm]; exact (List.mem_mergeSort (le := fun x y => decide (x ≤ y))).symm]
  constructor
  · rintro ⟨j, hj, _, rfl⟩; simp
  · intro hx
    obtain ⟨j, hj, rfl⟩ := List.getElem_of_mem hx
    exact ⟨j, by simpa using hj, by simpa using hj, by simp⟩
theorem key_ref (s : GState) : keyS s = refS s := by
  unfold keyS refS
  congr 1
  funext n
  unfold rkL
  rw [rk_sorted (srtL_ok s).1 (srtL_ok s).2]
theorem key_eq (a b : GState) : stateF (keyS a) = stateF (keyS b) ↔ refS a = refS b := by
  rw [key_ref, key_ref]
  exact ⟨stateF_inj, fun h => by rw [h]⟩
end Go.Ky
