/- Running conditions over plain values: laws. -/
import Derived.Test.YtpigkempbnmioaaDoorLv
namespace Go.Ex
variable {R α β γ δ ε ζ : Type}
theorem exc {b : Bool} {x y : Option R} {r : R} {A B : Prop} (h : (bif b then x else y) = some r) (ha : x = some r → A) (hb : y = some r → B) : cond b A B := by
  cases b
  · exact hb h
  · exact ha h
theorem exa {P : Prop} [Decidable P] {x : Option R} {r : R} {A : Prop} (h : (if P then x else none) = some r) (ha : x = some r → A) : P ∧ A := by
  by_cases hp : P
  · rw [if_pos hp] at h; exact ⟨hp, ha h⟩
  · rw [if_neg hp] at h; cases h
def bnd0 (o : Option Unit) (x : Option R) : Option R := match o with | some _ => x | none => none
def bnd1 (o : Option α) (f : α → Option R) : Option R := match o with | some a => f a | none => none
def bnd2 (o : Option (α × β)) (f : α → β → Option R) : Option R := match o with | some (a, b) => f a b | none => none
def bnd3 (o : Option (α × β × γ)) (f : α → β → γ → Option R) : Option R := match o with | some (a, b, c) => f a b c | none => none
def bnd4 (o : Option (α × β × γ × δ)) (f : α → β → γ → δ → Option R) : Option R := match o with | some (a, b, c, d) => f a b c d | none => none
def bnd5 (o : Option (α × β × γ × δ × ε)) (f : α → β → γ → δ → ε → Option R) : Option R := match o with | some (a, b, c, d, e) => f a b c d e | none => none
theorem exb0 {o : Option Unit} {x : Option R} {r : R} (h : bnd0 o x = some r) : o = some () ∧ x = some r := by
  cases o with
  | none => cases h
  | some a => exact ⟨rfl, h⟩
theorem exb1 {o : Option α} {f : α → Option R} {r : R} (h : bnd1 o f = some r) : ∃ a, o = some a ∧ f a = some r := by
  cases o with
  | none => cases h
  | some a => exact ⟨a, rfl, h⟩
theorem exb2 {o : Option (α × β)} {f : α → β → Option R} {r : R} (h : bnd2 o f = some r) : ∃ a b, o = some (a, b) ∧ f a b = some r := by
  cases o with
  | none => cases h
  | some a => exact ⟨_, _, rfl, h⟩
theorem exb3 {o : Option (α × β × γ)} {f : α → β → γ → Option R} {r : R} (h : bnd3 o f = some r) : ∃ a b c, o = some (a, b, c) ∧ f a b c = some r := by
  cases o with
  | none => cases h
  | some a => exact ⟨_, _, _, rfl, h⟩
theorem exb4 {o : Option (α × β × γ × δ)} {f : α → β → γ → δ → Option R} {r : R} (h : bnd4 o f = some r) : ∃ a b c d, o = some (a, b, c, d) ∧ f a b c d = some r := by
  cases o with
  | none => cases h
  | some a => exact ⟨_, _, _, _, rfl, h⟩
theorem exb5 {o : Option (α × β × γ × δ × ε)} {f : α → β → γ → δ → ε → Option R} {r : R} (h : bnd5 o f = some r) : ∃ a b c d e, o = some (a, b, c, d, e) ∧ f a b c d e = some r := by
  cases o with
  | none => cases h
  | some a => exact ⟨_, _, _, _, _, rfl, h⟩
theorem exg {o : Option α} {f : α → Option R} {r : R} {A : α → Prop} (h : bnd1 o f = some r) (ha : ∀ e, f e = some r → A e) : ∀ e, o = some e → A e := fun e he => ha e (by subst he; exact h)
def exnil [DecidableEq R] (L : List α) (f : Bool → Option R) : Option R := match L with | [] => if f true = f false then f false else none | _ => f false
theorem exn [DecidableEq R] {L : List α} {f : Bool → Option R} {r : R} {A : Bool → Prop} (h : exnil L f = some r) (ha : ∀ z, f z = some r → A z) : ∀ z : Bool, (z = true → L = []) → A z := by
  intro z hz
  cases L with
  | nil =>
    unfold exnil at h
    by_cases e : f true = f false
    · simp only [e, if_true] at h
      cases z
      · exact ha _ h
      · exact ha _ (e ▸ h)
    · simp only [e, if_false] at h; cases h
  | cons x L =>
    cases z
    · exact ha _ h
    · exact absurd (hz rfl) (by simp)
def exboth [DecidableEq R] (x y : Option R) : Option R := if x = y then x else none
theorem exd [DecidableEq R] {x y : Option R} {r : R} {A B : Prop} (h : exboth x y = some r) (ha : x = some r → A) (hb : y = some r → B) : A ∧ B := by
  unfold exboth at h
  by_cases e : x = y
  · rw [if_pos e] at h; exact ⟨ha h, hb (e ▸ h)⟩
  · rw [if_neg e] at h; cases h
/-! ## where ways meet -/
def joinX {κ : Type} (X : κ → Option R) (k : κ) : Option R := X k
theorem exj0 {R : Type} {X : (Option R) → Option R} {Y : Option R} {r : R} {VX : (Prop) → Prop} {VY : Prop} (h : joinX X Y = some r) (h1 : X Y = some r → VX (Y  = some r)) (h2 : Y  = some r → VY ) : ∃ J : Prop, VX J ∧ (J → VY) := ⟨_, h1 h, h2⟩
theorem exj1 {R : Type} {α : Type} {X : (α → Option R) → Option R} {Y : α → Option R} {r : R} {VX : (α → Prop) → Prop} {VY : α → Prop} (h : joinX X Y = some r) (h1 : X Y = some r → VX (fun x0 => Y x0 = some r)) (h2 : ∀ x0, Y x0 = some r → VY x0) : ∃ J : α → Prop, VX J ∧ ∀ x0, J x0 → VY x0 := ⟨_, h1 h, h2⟩
theorem exj2 {R : Type} {α β : Type} {X : (α → β → Option R) → Option R} {Y : α → β → Option R} {r : R} {VX : (α → β → Prop) → Prop} {VY : α → β → Prop} (h : joinX X Y = some r) (h1 : X Y = some r → VX (fun x0 x1 => Y x0 x1 = some r)) (h2 : ∀ x0 x1, Y x0 x1 = some r → VY x0 x1) : ∃ J : α → β → Prop, VX J ∧ ∀ x0 x1, J x0 x1 → VY x0 x1 := ⟨_, h1 h, h2⟩
theorem exj3 {R : Type} {α β γ : Type} {X : (α → β → γ → Option R) → Option R} {Y : α → β → γ → Option R} {r : R} {VX : (α → β → γ → Prop) → Prop} {VY : α → β → γ → Prop} (h : joinX X Y = some r) (h1 : X Y = some r → VX (fun x0 x1 x2 => Y x0 x1 x2 = some r)) (h2 : ∀ x0 x1 x2, Y x0 x1 x2 = some r → VY x0 x1 x2) : ∃ J : α → β → γ → Prop, VX J ∧ ∀ x0 x1 x2, J x0 x1 x2 → VY x0 x1 x2 := ⟨_, h1 h, h2⟩
theorem exj4 {R : Type} {α β γ δ : Type} {X : (α → β → γ → δ → Option R) → Option R} {Y : α → β → γ → δ → Option R} {r : R} {VX : (α → β → γ → δ → Prop) → Prop} {VY : α → β → γ → δ → Prop} (h : joinX X Y = some r) (h1 : X Y = some r → VX (fun x0 x1 x2 x3 => Y x0 x1 x2 x3 = some r)) (h2 : ∀ x0 x1 x2 x3, Y x0 x1 x2 x3 = some r → VY x0 x1 x2 x3) : ∃ J : α → β → γ → δ → Prop, VX J ∧ ∀ x0 x1 x2 x3, J x0 x1 x2 x3 → VY x0 x1 x2 x3 := ⟨_, h1 h, h2⟩
theorem exj5 {R : Type} {α β γ δ ε : Type} {X : (α → β → γ → δ → ε → Option R) → Option R} {Y : α → β → γ → δ → ε → Option R} {r : R} {VX : (α → β → γ → δ → ε → Prop) → Prop} {VY : α → β → γ → δ → ε → Prop} (h : joinX X Y = some r) (h1 : X Y = some r → VX (fun x0 x1 x2 x3 x4 => Y x0 x1 x2 x3 x4 = some r)) (h2 : ∀ x0 x1 x2 x3 x4, Y x0 x1 x2 x3 x4 = some r → VY x0 x1 x2 x3 x4) : ∃ J : α → β → γ → δ → ε → Prop, VX J ∧ ∀ x0 x1 x2 x3 x4, J x0 x1 x2 x3 x4 → VY x0 x1 x2 x3 x4 := ⟨_, h1 h, h2⟩
theorem exj6 {R : Type} {α β γ δ ε ζ : Type} {X : (α → β → γ → δ → ε → ζ → Option R) → Option R} {Y : α → β → γ → δ → ε → ζ → Option R} {r : R} {VX : (α → β → γ → δ → ε → ζ → Prop) → Prop} {VY : α → β → γ → δ → ε → ζ → Prop} (h : joinX X Y = some r) (h1 : X Y = some r → VX (fun x0 x1 x2 x3 x4 x5 => Y x0 x1 x2 x3 x4 x5 = some r)) (h2 : ∀ x0 x1 x2 x3 x4 x5, Y x0 x1 x2 x3 x4 x5 = some r → VY x0 x1 x2 x3 x4 x5) : ∃ J : α → β → γ → δ → ε → ζ → Prop, VX J ∧ ∀ x0 x1 x2 x3 x4 x5, J x0 x1 x2 x3 x4 x5 → VY x0 x1 x2 x3 x4 x5 := ⟨_, h1 h, h2⟩
theorem exj7 {R : Type} {α β γ δ ε ζ η : Type} {X : (α → β → γ → δ → ε → ζ → η → Option R) → Option R} {Y : α → β → γ → δ → ε → ζ → η → Option R} {r : R} {VX : (α → β → γ → δ → ε → ζ → η → Prop) → Prop} {VY : α → β → γ → δ → ε → ζ → η → Prop} (h : joinX X Y = some r) (h1 : X Y = some r → VX (fun x0 x1 x2 x3 x4 x5 x6 => Y x0 x1 x2 x3 x4 x5 x6 = some r)) (h2 : ∀ x0 x1 x2 x3 x4 x5 x6, Y x0 x1 x2 x3 x4 x5 x6 = some r → VY x0 x1 x2 x3 x4 x5 x6) : ∃ J : α → β → γ → δ → ε → ζ → η → Prop, VX J ∧ ∀ x0 x1 x2 x3 x4 x5 x6, J x0 x1 x2 x3 x4 x5 x6 → VY x0 x1 x2 x3 x4 x5 x6 := ⟨_, h1 h, h2⟩
theorem exj8 {R : Type} {α β γ δ ε ζ η θ : Type} {X : (α → β → γ → δ → ε → ζ → η → θ → Option R) → Option R} {Y : α → β → γ → δ → ε → ζ → η → θ → Option R} {r : R} {VX : (α → β → γ → δ → ε → ζ → η → θ → Prop) → Prop} {VY : α → β → γ → δ → ε → ζ → η → θ → Prop} (h : joinX X Y = some r) (h1 : X Y = some r → VX (fun x0 x1 x2 x3 x4 x5 x6 x7 => Y x0 x1 x2 x3 x4 x5 x6 x7 = some r)) (h2 : ∀ x0 x1 x2 x3 x4 x5 x6 x7, Y x0 x1 x2 x3 x4 x5 x6 x7 = some r → VY x0 x1 x2 x3 x4 x5 x6 x7) : ∃ J : α → β → γ → δ → ε → ζ → η → θ → Prop, VX J ∧ ∀ x0 x1 x2 x3 x4 x5 x6 x7, J x0 x1 x2 x3 x4 x5 x6 x7 → VY x0 x1 x2 x3 x4 x5 x6 x7 := ⟨_, h1 h, h2⟩
theorem exj9 {R : Type} {α β γ δ ε ζ η θ ι : Type} {X : (α → β → γ → δ → ε → ζ → η → θ → ι → Option R) → Option R} {Y : α → β → γ → δ → ε → ζ → η → θ → ι → Option R} {r : R} {VX : (α → β → γ → δ → ε → ζ → η → θ → ι → Prop) → Prop} {VY : α → β → γ → δ → ε → ζ → η → θ → ι → Prop} (h : joinX X Y = some r) (h1 : X Y = some r → VX (fun x0 x1 x2 x3 x4 x5 x6 x7 x8 => Y x0 x1 x2 x3 x4 x5 x6 x7 x8 = some r)) (h2 : ∀ x0 x1 x2 x3 x4 x5 x6 x7 x8, Y x0 x1 x2 x3 x4 x5 x6 x7 x8 = some r → VY x0 x1 x2 x3 x4 x5 x6 x7 x8) : ∃ J : α → β → γ → δ → ε → ζ → η → θ → ι → Prop, VX J ∧ ∀ x0 x1 x2 x3 x4 x5 x6 x7 x8, J x0 x1 x2 x3 x4 x5 x6 x7 x8 → VY x0 x1 x2 x3 x4 x5 x6 x7 x8 := ⟨_, h1 h, h2⟩
theorem exj10 {R : Type} {α β γ δ ε ζ η θ ι κ : Type} {X : (α → β → γ → δ → ε → ζ → η → θ → ι → κ → Option R) → Option R} {Y : α → β → γ → δ → ε → ζ → η → θ → ι → κ → Option R} {r : R} {VX : (α → β → γ → δ → ε → ζ → η → θ → ι → κ → Prop) → Prop} {VY : α → β → γ → δ → ε → ζ → η → θ → ι → κ → Prop} (h : joinX X Y = some r) (h1 : X Y = some r → VX (fun x0 x1 x2 x3 x4 x5 x6 x7 x8 x9 => Y x0 x1 x2 x3 x4 x5 x6 x7 x8 x9 = some r)) (h2 : ∀ x0 x1 x2 x3 x4 x5 x6 x7 x8 x9, Y x0 x1 x2 x3 x4 x5 x6 x7 x8 x9 = some r → VY x0 x1 x2 x3 x4 x5 x6 x7 x8 x9) : ∃ J : α → β → γ → δ → ε → ζ → η → θ → ι → κ → Prop, VX J ∧ ∀ x0 x1 x2 x3 x4 x5 x6 x7 x8 x9, J x0 x1 x2 x3 x4 x5 x6 x7 x8 x9 → VY x0 x1 x2 x3 x4 x5 x6 x7 x8 x9 := ⟨_, h1 h, h2⟩
theorem exj11 {R : Type} {α β γ δ ε ζ η θ ι κ μ : Type} {X : (α → β → γ → δ → ε → ζ → η → θ → ι → κ → μ → Option R) → Option R} {Y : α → β → γ → δ → ε → ζ → η → θ → ι → κ → μ → Option R} {r : R} {VX : (α → β → γ → δ → ε → ζ → η → θ → ι → κ → μ → Prop) → Prop} {VY : α → β → γ → δ → ε → ζ → η → θ → ι → κ → μ → Prop} (h : joinX X Y = some r) (h1 : X Y = some r → VX (fun x0 x1 x2 x3 x4 x5 x6 x7 x8 x9 x10 => Y x0 x1 x2 x3 x4 x5 x6 x7 x8 x9 x10 = some r)) (h2 : ∀ x0 x1 x2 x3 x4 x5 x6 x7 x8 x9 x10, Y x0 x1 x2 x3 x4 x5 x6 x7 x8 x9 x10 = some r → VY x0 x1 x2 x3 x4 x5 x6 x7 x8 x9 x10) : ∃ J : α → β → γ → δ → ε → ζ → η → θ → ι → κ → μ → Prop, VX J ∧ ∀ x0 x1 x2 x3 x4 x5 x6 x7 x8 x9 x10, J x0 x1 x2 x3 x4 x5 x6 x7 x8 x9 x10 → VY x0 x1 x2 x3 x4 x5 x6 x7 x8 x9 x10 := ⟨_, h1 h, h2⟩
theorem exj12 {R : Type} {α β γ δ ε ζ η θ ι κ μ ν : Type} {X : (α → β → γ → δ → ε → ζ → η → θ → ι → κ → μ → ν → Option R) → Option R} {Y : α → β → γ → δ → ε → ζ → η → θ → ι → κ → μ → ν → Option R} {r : R} {VX : (α → β → γ → δ → ε → ζ → η → θ → ι → κ → μ → ν → Prop) → Prop} {VY : α → β → γ → δ → ε → ζ → η → θ → ι → κ → μ → ν → Prop} (h : joinX X Y = some r) (h1 : X Y = some r → VX (fun x0 x1 x2 x3 x4 x5 x6 x7 x8 x9 x10 x11 => Y x0 x1 x2 x3 x4 x5 x6 x7 x8 x9 x10 x11 = some r)) (h2 : ∀ x0 x1 x2 x3 x4 x5 x6 x7 x8 x9 x10 x11, Y x0 x1 x2 x3 x4 x5 x6 x7 x8 x9 x10 x11 = some r → VY x0 x1 x2 x3 x4 x5 x6 x7 x8 x9 x10 x11) : ∃ J : α → β → γ → δ → ε → ζ → η → θ → ι → κ → μ → ν → Prop, VX J ∧ ∀ x0 x1 x2 x3 x4 x5 x6 x7 x8 x9 x10 x11, J x0 x1 x2 x3 x4 x5 x6 x7 x8 x9 x10 x11 → VY x0 x1 x2 x3 x4 x5 x6 x7 x8 x9 x10 x11 := ⟨_, h1 h, h2⟩
/-! ## loops -/
theorem len_sn {α : Type} (l : List α) (x : α) : (l ++ [x]).length = l.length + 1 := by simp
theorem drop_pre {α : Type} {pre xs : List α} {x : α} (h : (pre ++ [x]) <+: xs) : xs.drop pre.length = x :: xs.drop (pre.length + 1) := by
  obtain ⟨t, rfl⟩ := h
  rw [List.append_assoc, List.drop_left, show pre.length + 1 = (pre ++ [x]).length by simp, ← List.append_assoc, List.drop_left]; rfl
def loop0 {R : Type} (F : (Option R) → Option R) : Nat → Option R
  | 0 => none
  | n + 1 => F (loop0 F n)
theorem exl0 {R : Type} {F : (Option R) → Option R} {r : R} {n : Nat} {VB : (Nat → Prop) → Nat → Prop} (h : loop0 F n = some r) (hs : ∀ n, F (loop0 F n) = some r → VB (fun n => loop0 F n = some r) (n + 1)) : ∃ I : Nat → Prop, (∃ n, I n) ∧ ∀ n, I n → VB I n :=
 ⟨fun n => loop0 F n = some r, ⟨_, h⟩, fun n h => by
  cases n with
  | zero => cases h
  | succ n => exact hs n h⟩
def loop1 {R : Type} {α : Type} (F : (α → Option R) → α → Option R) : Nat → α → Option R
  | 0 => fun _ => none
  | n + 1 => F (loop1 F n)
theorem exl1 {R : Type} {α : Type} {F : (α → Option R) → α → Option R} {r : R} {n : Nat} {x00 : α} {VB : (α → Nat → Prop) → α → Nat → Prop} (h : loop1 F n x00 = some r) (hs : ∀ x0 n, F (loop1 F n) x0 = some r → VB (fun x0 n => loop1 F n x0 = some r) x0 (n + 1)) : ∃ I : α → Nat → Prop, (∃ n, I x00 n) ∧ ∀ x0 n, I x0 n → VB I x0 n :=
 ⟨fun x0 n => loop1 F n x0 = some r, ⟨_, h⟩, fun x0 n h => by
  cases n with
  | zero => cases h
  | succ n => exact hs x0 n h⟩
def loop2 {R : Type} {α β : Type} (F : (α → β → Option R) → α → β → Option R) : Nat → α → β → Option R
  | 0 => fun _ _ => none
  | n + 1 => F (loop2 F n)
theorem exl2 {R : Type} {α β : Type} {F : (α → β → Option R) → α → β → Option R} {r : R} {n : Nat} {x00 : α} {x10 : β} {VB : (α → β → Nat → Prop) → α → β → Nat → Prop} (h : loop2 F n x00 x10 = some r) (hs : ∀ x0 x1 n, F (loop2 F n) x0 x1 = some r → VB (fun x0 x1 n => loop2 F n x0 x1 = some r) x0 x1 (n + 1)) : ∃ I : α → β → Nat → Prop, (∃ n, I x00 x10 n) ∧ ∀ x0 x1 n, I x0 x1 n → VB I x0 x1 n :=
 ⟨fun x0 x1 n => loop2 F n x0 x1 = some r, ⟨_, h⟩, fun x0 x1 n h => by
  cases n with
  | zero => cases h
  | succ n => exact hs x0 x1 n h⟩
def loop3 {R : Type} {α β γ : Type} (F : (α → β → γ → Option R) → α → β → γ → Option R) : Nat → α → β → γ → Option R
  | 0 => fun _ _ _ => none
  | n + 1 => F (loop3 F n)
theorem exl3 {R : Type} {α β γ : Type} {F : (α → β → γ → Option R) → α → β → γ → Option R} {r : R} {n : Nat} {x00 : α} {x10 : β} {x20 : γ} {VB : (α → β → γ → Nat → Prop) → α → β → γ → Nat → Prop} (h : loop3 F n x00 x10 x20 = some r) (hs : ∀ x0 x1 x2 n, F (loop3 F n) x0 x1 x2 = some r → VB (fun x0 x1 x2 n => loop3 F n x0 x1 x2 = some r) x0 x1 x2 (n + 1)) : ∃ I : α → β → γ → Nat → Prop, (∃ n, I x00 x10 x20 n) ∧ ∀ x0 x1 x2 n, I x0 x1 x2 n → VB I x0 x1 x2 n :=
 ⟨fun x0 x1 x2 n => loop3 F n x0 x1 x2 = some r, ⟨_, h⟩, fun x0 x1 x2 n h => by
  cases n with
  | zero => cases h
  | succ n => exact hs x0 x1 x2 n h⟩
def loop4 {R : Type} {α β γ δ : Type} (F : (α → β → γ → δ → Option R) → α → β → γ → δ → Option R) : Nat → α → β → γ → δ → Option R
  | 0 => fun _ _ _ _ => none
  | n + 1 => F (loop4 F n)
theorem exl4 {R : Type} {α β γ δ : Type} {F : (α → β → γ → δ → Option R) → α → β → γ → δ → Option R} {r : R} {n : Nat} {x00 : α} {x10 : β} {x20 : γ} {x30 : δ} {VB : (α → β → γ → δ → Nat → Prop) → α → β → γ → δ → Nat → Prop} (h : loop4 F n x00 x10 x20 x30 = some r) (hs : ∀ x0 x1 x2 x3 n, F (loop4 F n) x0 x1 x2 x3 = some r → VB (fun x0 x1 x2 x3 n => loop4 F n x0 x1 x2 x3 = some r) x0 x1 x2 x3 (n + 1)) : ∃ I : α → β → γ → δ → Nat → Prop, (∃ n, I x00 x10 x20 x30 n) ∧ ∀ x0 x1 x2 x3 n, I x0 x1 x2 x3 n → VB I x0 x1 x2 x3 n :=
 ⟨fun x0 x1 x2 x3 n => loop4 F n x0 x1 x2 x3 = some r, ⟨_, h⟩, fun x0 x1 x2 x3 n h => by
  cases n with
  | zero => cases h
  | succ n => exact hs x0 x1 x2 x3 n h⟩
def loop5 {R : Type} {α β γ δ ε : Type} (F : (α → β → γ → δ → ε → Option R) → α → β → γ → δ → ε → Option R) : Nat → α → β → γ → δ → ε → Option R
  | 0 => fun _ _ _ _ _ => none
  | n + 1 => F (loop5 F n)
theorem exl5 {R : Type} {α β γ δ ε : Type} {F : (α → β → γ → δ → ε → Option R) → α → β → γ → δ → ε → Option R} {r : R} {n : Nat} {x00 : α} {x10 : β} {x20 : γ} {x30 : δ} {x40 : ε} {VB : (α → β → γ → δ → ε → Nat → Prop) → α → β → γ → δ → ε → Nat → Prop} (h : loop5 F n x00 x10 x20 x30 x40 = some r) (hs : ∀ x0 x1 x2 x3 x4 n, F (loop5 F n) x0 x1 x2 x3 x4 = some r → VB (fun x0 x1 x2 x3 x4 n => loop5 F n x0 x1 x2 x3 x4 = some r) x0 x1 x2 x3 x4 (n + 1)) : ∃ I : α → β → γ → δ → ε → Nat → Prop, (∃ n, I x00 x10 x20 x30 x40 n) ∧ ∀ x0 x1 x2 x3 x4 n, I x0 x1 x2 x3 x4 n → VB I x0 x1 x2 x3 x4 n :=
 ⟨fun x0 x1 x2 x3 x4 n => loop5 F n x0 x1 x2 x3 x4 = some r, ⟨_, h⟩, fun x0 x1 x2 x3 x4 n h => by
  cases n with
  | zero => cases h
  | succ n => exact hs x0 x1 x2 x3 x4 n h⟩
def loop6 {R : Type} {α β γ δ ε ζ : Type} (F : (α → β → γ → δ → ε → ζ → Option R) → α → β → γ → δ → ε → ζ → Option R) : Nat → α → β → γ → δ → ε → ζ → Option R
  | 0 => fun _ _ _ _ _ _ => none
  | n + 1 => F (loop6 F n)
theorem exl6 {R : Type} {α β γ δ ε ζ : Type} {F : (α → β → γ → δ → ε → ζ → Option R) → α → β → γ → δ → ε → ζ → Option R} {r : R} {n : Nat} {x00 : α} {x10 : β} {x20 : γ} {x30 : δ} {x40 : ε} {x50 : ζ} {VB : (α → β → γ → δ → ε → ζ → Nat → Prop) → α → β → γ → δ → ε → ζ → Nat → Prop} (h : loop6 F n x00 x10 x20 x30 x40 x50 = some r) (hs : ∀ x0 x1 x2 x3 x4 x5 n, F (loop6 F n) x0 x1 x2 x3 x4 x5 = some r → VB (fun x0 x1 x2 x3 x4 x5 n => loop6 F n x0 x1 x2 x3 x4 x5 = some r) x0 x1 x2 x3 x4 x5 (n + 1)) : ∃ I : α → β → γ → δ → ε → ζ → Nat → Prop, (∃ n, I x00 x10 x20 x30 x40 x50 n) ∧ ∀ x0 x1 x2 x3 x4 x5 n, I x0 x1 x2 x3 x4 x5 n → VB I x0 x1 x2 x3 x4 x5 n :=
 ⟨fun x0 x1 x2 x3 x4 x5 n => loop6 F n x0 x1 x2 x3 x4 x5 = some r, ⟨_, h⟩, fun x0 x1 x2 x3 x4 x5 n h => by
  cases n with
  | zero => cases h
  | succ n => exact hs x0 x1 x2 x3 x4 x5 n h⟩
def loop7 {R : Type} {α β γ δ ε ζ η : Type} (F : (α → β → γ → δ → ε → ζ → η → Option R) → α → β → γ → δ → ε → ζ → η → Option R) : Nat → α → β → γ → δ → ε → ζ → η → Option R
  | 0 => fun _ _ _ _ _ _ _ => none
  | n + 1 => F (loop7 F n)
theorem exl7 {R : Type} {α β γ δ ε ζ η : Type} {F : (α → β → γ → δ → ε → ζ → η → Option R) → α → β → γ → δ → ε → ζ → η → Option R} {r : R} {n : Nat} {x00 : α} {x10 : β} {x20 : γ} {x30 : δ} {x40 : ε} {x50 : ζ} {x60 : η} {VB : (α → β → γ → δ → ε → ζ → η → Nat → Prop) → α → β → γ → δ → ε → ζ → η → Nat → Prop} (h : loop7 F n x00 x10 x20 x30 x40 x50 x60 = some r) (hs : ∀ x0 x1 x2 x3 x4 x5 x6 n, F (loop7 F n) x0 x1 x2 x3 x4 x5 x6 = some r → VB (fun x0 x1 x2 x3 x4 x5 x6 n => loop7 F n x0 x1 x2 x3 x4 x5 x6 = some r) x0 x1 x2 x3 x4 x5 x6 (n + 1)) : ∃ I : α → β → γ → δ → ε → ζ → η → Nat → Prop, (∃ n, I x00 x10 x20 x30 x40 x50 x60 n) ∧ ∀ x0 x1 x2 x3 x4 x5 x6 n, I x0 x1 x2 x3 x4 x5 x6 n → VB I x0 x1 x2 x3 x4 x5 x6 n :=
 ⟨fun x0 x1 x2 x3 x4 x5 x6 n => loop7 F n x0 x1 x2 x3 x4 x5 x6 = some r, ⟨_, h⟩, fun x0 x1 x2 x3 x4 x5 x6 n h => by
  cases n with
  | zero => cases h
  | succ n => exact hs x0 x1 x2 x3 x4 x5 x6 n h⟩
def loop8 {R : Type} {α β γ δ ε ζ η θ : Type} (F : (α → β → γ → δ → ε → ζ → η → θ → Option R) → α → β → γ → δ → ε → ζ → η → θ → Option R) : Nat → α → β → γ → δ → ε → ζ → η → θ → Option R
  | 0 => fun _ _ _ _ _ _ _ _ => none
  | n + 1 => F (loop8 F n)
theorem exl8 {R : Type} {α β γ δ ε ζ η θ : Type} {F : (α → β → γ → δ → ε → ζ → η → θ → Option R) → α → β → γ → δ → ε → ζ → η → θ → Option R} {r : R} {n : Nat} {x00 : α} {x10 : β} {x20 : γ} {x30 : δ} {x40 : ε} {x50 : ζ} {x60 : η} {x70 : θ} {VB : (α → β → γ → δ → ε → ζ → η → θ → Nat → Prop) → α → β → γ → δ → ε → ζ → η → θ → Nat → Prop} (h : loop8 F n x00 x10 x20 x30 x40 x50 x60 x70 = some r) (hs : ∀ x0 x1 x2 x3 x4 x5 x6 x7 n, F (loop8 F n) x0 x1 x2 x3 x4 x5 x6 x7 = some r → VB (fun x0 x1 x2 x3 x4 x5 x6 x7 n => loop8 F n x0 x1 x2 x3 x4 x5 x6 x7 = some r) x0 x1 x2 x3 x4 x5 x6 x7 (n + 1)) : ∃ I : α → β → γ → δ → ε → ζ → η → θ → Nat → Prop, (∃ n, I x00 x10 x20 x30 x40 x50 x60 x70 n) ∧ ∀ x0 x1 x2 x3 x4 x5 x6 x7 n, I x0 x1 x2 x3 x4 x5 x6 x7 n → VB I x0 x1 x2 x3 x4 x5 x6 x7 n :=
 ⟨fun x0 x1 x2 x3 x4 x5 x6 x7 n => loop8 F n x0 x1 x2 x3 x4 x5 x6 x7 = some r, ⟨_, h⟩, fun x0 x1 x2 x3 x4 x5 x6 x7 n h => by
  cases n with
  | zero => cases h
  | succ n => exact hs x0 x1 x2 x3 x4 x5 x6 x7 n h⟩
def loop9 {R : Type} {α β γ δ ε ζ η θ ι : Type} (F : (α → β → γ → δ → ε → ζ → η → θ → ι → Option R) → α → β → γ → δ → ε → ζ → η → θ → ι → Option R) : Nat → α → β → γ → δ → ε → ζ → η → θ → ι → Option R
  | 0 => fun _ _ _ _ _ _ _ _ _ => none
  | n + 1 => F (loop9 F n)
theorem exl9 {R : Type} {α β γ δ ε ζ η θ ι : Type} {F : (α → β → γ → δ → ε → ζ → η → θ → ι → Option R) → α → β → γ → δ → ε → ζ → η → θ → ι → Option R} {r : R} {n : Nat} {x00 : α} {x10 : β} {x20 : γ} {x30 : δ} {x40 : ε} {x50 : ζ} {x60 : η} {x70 : θ} {x80 : ι} {VB : (α → β → γ → δ → ε → ζ → η → θ → ι → Nat → Prop) → α → β → γ → δ → ε → ζ → η → θ → ι → Nat → Prop} (h : loop9 F n x00 x10 x20 x30 x40 x50 x60 x70 x80 = some r) (hs : ∀ x0 x1 x2 x3 x4 x5 x6 x7 x8 n, F (loop9 F n) x0 x1 x2 x3 x4 x5 x6 x7 x8 = some r → VB (fun x0 x1 x2 x3 x4 x5 x6 x7 x8 n => loop9 F n x0 x1 x2 x3 x4 x5 x6 x7 x8 = some r) x0 x1 x2 x3 x4 x5 x6 x7 x8 (n + 1)) : ∃ I : α → β → γ → δ → ε → ζ → η → θ → ι → Nat → Prop, (∃ n, I x00 x10 x20 x30 x40 x50 x60 x70 x80 n) ∧ ∀ x0 x1 x2 x3 x4 x5 x6 x7 x8 n, I x0 x1 x2 x3 x4 x5 x6 x7 x8 n → VB I x0 x1 x2 x3 x4 x5 x6 x7 x8 n :=
 ⟨fun x0 x1 x2 x3 x4 x5 x6 x7 x8 n => loop9 F n x0 x1 x2 x3 x4 x5 x6 x7 x8 = some r, ⟨_, h⟩, fun x0 x1 x2 x3 x4 x5 x6 x7 x8 n h => by
  cases n with
  | zero => cases h
  | succ n => exact hs x0 x1 x2 x3 x4 x5 x6 x7 x8 n h⟩
def loop10 {R : Type} {α β γ δ ε ζ η θ ι κ : Type} (F : (α → β → γ → δ → ε → ζ → η → θ → ι → κ → Option R) → α → β → γ → δ → ε → ζ → η → θ → ι → κ → Option R) : Nat → α → β → γ → δ → ε → ζ → η → θ → ι → κ → Option R
  | 0 => fun _ _ _ _ _ _ _ _ _ _ => none
  | n + 1 => F (loop10 F n)
theorem exl10 {R : Type} {α β γ δ ε ζ η θ ι κ : Type} {F : (α → β → γ → δ → ε → ζ → η → θ → ι → κ → Option R) → α → β → γ → δ → ε → ζ → η → θ → ι → κ → Option R} {r : R} {n : Nat} {x00 : α} {x10 : β} {x20 : γ} {x30 : δ} {x40 : ε} {x50 : ζ} {x60 : η} {x70 : θ} {x80 : ι} {x90 : κ} {VB : (α → β → γ → δ → ε → ζ → η → θ → ι → κ → Nat → Prop) → α → β → γ → δ → ε → ζ → η → θ → ι → κ → Nat → Prop} (h : loop10 F n x00 x10 x20 x30 x40 x50 x60 x70 x80 x90 = some r) (hs : ∀ x0 x1 x2 x3 x4 x5 x6 x7 x8 x9 n, F (loop10 F n) x0 x1 x2 x3 x4 x5 x6 x7 x8 x9 = some r → VB (fun x0 x1 x2 x3 x4 x5 x6 x7 x8 x9 n => loop10 F n x0 x1 x2 x3 x4 x5 x6 x7 x8 x9 = some r) x0 x1 x2 x3 x4 x5 x6 x7 x8 x9 (n + 1)) : ∃ I : α → β → γ → δ → ε → ζ → η → θ → ι → κ → Nat → Prop, (∃ n, I x00 x10 x20 x30 x40 x50 x60 x70 x80 x90 n) ∧ ∀ x0 x1 x2 x3 x4 x5 x6 x7 x8 x9 n, I x0 x1 x2 x3 x4 x5 x6 x7 x8 x9 n → VB I x0 x1 x2 x3 x4 x5 x6 x7 x8 x9 n :=
 ⟨fun x0 x1 x2 x3 x4 x5 x6 x7 x8 x9 n => loop10 F n x0 x1 x2 x3 x4 x5 x6 x7 x8 x9 = some r, ⟨_, h⟩, fun x0 x1 x2 x3 x4 x5 x6 x7 x8 x9 n h => by
  cases n with
  | zero => cases h
  | succ n => exact hs x0 x1 x2 x3 x4 x5 x6 x7 x8 x9 n h⟩
def loop11 {R : Type} {α β γ δ ε ζ η θ ι κ μ : Type} (F : (α → β → γ → δ → ε → ζ → η → θ → ι → κ → μ → Option R) → α → β → γ → δ → ε → ζ → η → θ → ι → κ → μ → Option R) : Nat → α → β → γ → δ → ε → ζ → η → θ → ι → κ → μ → Option R
  | 0 => fun _ _ _ _ _ _ _ _ _ _ _ => none
  | n + 1 => F (loop11 F n)
theorem exl11 {R : Type} {α β γ δ ε ζ η θ ι κ μ : Type} {F : (α → β → γ → δ → ε → ζ → η → θ → ι → κ → μ → Option R) → α → β → γ → δ → ε → ζ → η → θ → ι → κ → μ → Option R} {r : R} {n : Nat} {x00 : α} {x10 : β} {x20 : γ} {x30 : δ} {x40 : ε} {x50 : ζ} {x60 : η} {x70 : θ} {x80 : ι} {x90 : κ} {x100 : μ} {VB : (α → β → γ → δ → ε → ζ → η → θ → ι → κ → μ → Nat → Prop) → α → β → γ → δ → ε → ζ → η → θ → ι → κ → μ → Nat → Prop} (h : loop11 F n x00 x10 x20 x30 x40 x50 x60 x70 x80 x90 x100 = some r) (hs : ∀ x0 x1 x2 x3 x4 x5 x6 x7 x8 x9 x10 n, F (loop11 F n) x0 x1 x2 x3 x4 x5 x6 x7 x8 x9 x10 = some r → VB (fun x0 x1 x2 x3 x4 x5 x6 x7 x8 x9 x10 n => loop11 F n x0 x1 x2 x3 x4 x5 x6 x7 x8 x9 x10 = some r) x0 x1 x2 x3 x4 x5 x6 x7 x8 x9 x10 (n + 1)) : ∃ I : α → β → γ → δ → ε → ζ → η → θ → ι → κ → μ → Nat → Prop, (∃ n, I x00 x10 x20 x30 x40 x50 x60 x70 x80 x90 x100 n) ∧ ∀ x0 x1 x2 x3 x4 x5 x6 x7 x8 x9 x10 n, I x0 x1 x2 x3 x4 x5 x6 x7 x8 x9 x10 n → VB I x0 x1 x2 x3 x4 x5 x6 x7 x8 x9 x10 n :=
 ⟨fun x0 x1 x2 x3 x4 x5 x6 x7 x8 x9 x10 n => loop11 F n x0 x1 x2 x3 x4 x5 x6 x7 x8 x9 x10 = some r, ⟨_, h⟩, fun x0 x1 x2 x3 x4 x5 x6 x7 x8 x9 x10 n h => by
  cases n with
  | zero => cases h
  | succ n => exact hs x0 x1 x2 x3 x4 x5 x6 x7 x8 x9 x10 n h⟩
def loop12 {R : Type} {α β γ δ ε ζ η θ ι κ μ ν : Type} (F : (α → β → γ → δ → ε → ζ → η → θ → ι → κ → μ → ν → Option R) → α → β → γ → δ → ε → ζ → η → θ → ι → κ → μ → ν → Option R) : Nat → α → β → γ → δ → ε → ζ → η → θ → ι → κ → μ → ν → Option R
  | 0 => fun _ _ _ _ _ _ _ _ _ _ _ _ => none
  | n + 1 => F (loop12 F n)
theorem exl12 {R : Type} {α β γ δ ε ζ η θ ι κ μ ν : Type} {F : (α → β → γ → δ → ε → ζ → η → θ → ι → κ → μ → ν → Option R) → α → β → γ → δ → ε → ζ → η → θ → ι → κ → μ → ν → Option R} {r : R} {n : Nat} {x00 : α} {x10 : β} {x20 : γ} {x30 : δ} {x40 : ε} {x50 : ζ} {x60 : η} {x70 : θ} {x80 : ι} {x90 : κ} {x100 : μ} {x110 : ν} {VB : (α → β → γ → δ → ε → ζ → η → θ → ι → κ → μ → ν → Nat → Prop) → α → β → γ → δ → ε → ζ → η → θ → ι → κ → μ → ν → Nat → Prop} (h : loop12 F n x00 x10 x20 x30 x40 x50 x60 x70 x80 x90 x100 x110 = some r) (hs : ∀ x0 x1 x2 x3 x4 x5 x6 x7 x8 x9 x10 x11 n, F (loop12 F n) x0 x1 x2 x3 x4 x5 x6 x7 x8 x9 x10 x11 = some r → VB (fun x0 x1 x2 x3 x4 x5 x6 x7 x8 x9 x10 x11 n => loop12 F n x0 x1 x2 x3 x4 x5 x6 x7 x8 x9 x10 x11 = some r) x0 x1 x2 x3 x4 x5 x6 x7 x8 x9 x10 x11 (n + 1)) : ∃ I : α → β → γ → δ → ε → ζ → η → θ → ι → κ → μ → ν → Nat → Prop, (∃ n, I x00 x10 x20 x30 x40 x50 x60 x70 x80 x90 x100 x110 n) ∧ ∀ x0 x1 x2 x3 x4 x5 x6 x7 x8 x9 x10 x11 n, I x0 x1 x2 x3 x4 x5 x6 x7 x8 x9 x10 x11 n → VB I x0 x1 x2 x3 x4 x5 x6 x7 x8 x9 x10 x11 n :=
 ⟨fun x0 x1 x2 x3 x4 x5 x6 x7 x8 x9 x10 x11 n => loop12 F n x0 x1 x2 x3 x4 x5 x6 x7 x8 x9 x10 x11 = some r, ⟨_, h⟩, fun x0 x1 x2 x3 x4 x5 x6 x7 x8 x9 x10 x11 n h => by
  cases n with
  | zero => cases h
  | succ n => exact hs x0 x1 x2 x3 x4 x5 x6 x7 x8 x9 x10 x11 n h⟩
def foldR0 {R : Type} {α : Type} (F : (Option R) → α → Option R) (D : Option R) : List α → Option R
  | [] => D
  | x :: xs => F (foldR0 F D xs) x
theorem exr0 {R : Type} {α : Type} {F : (Option R) → α → Option R} {D : Option R} {r : R} {xs : List α} {It : List α → Prop} {VB : (List α → Prop) → List α → α → Prop} {VD : Prop} (hIt : It xs) (h : foldR0 F D xs = some r) (hb : ∀ pre x , (pre ++ [x]) <+: xs → F (foldR0 F D (xs.drop (pre.length + 1))) x = some r → VB (fun pre => foldR0 F D (xs.drop pre.length) = some r) pre x ) (hd : D = some r → VD ) : ∃ xs, It xs ∧ ∃ I : List α → Prop, I [] ∧ (∀ pre x , (pre ++ [x]) <+: xs → I pre → VB I pre x ) ∧ (I xs → VD) := by
  refine ⟨xs, hIt, fun pre => foldR0 F D (xs.drop pre.length) = some r, h, fun pre x hp h => hb pre x hp ?_, fun h => hd ?_⟩
  · have e := drop_pre hp
    dsimp only at h
    rw [e] at h
    exact h
  · dsimp only at h
    rw [List.drop_length] at h
    exact h
def foldR1 {R : Type} {α β : Type} (F : (β → Option R) → α → β → Option R) (D : β → Option R) : List α → β → Option R
  | [] => D
  | x :: xs => F (foldR1 F D xs) x
theorem exr1 {R : Type} {α β : Type} {F : (β → Option R) → α → β → Option R} {D : β → Option R} {r : R} {s00 : β} {xs : List α} {It : List α → Prop} {VB : (List α → β → Prop) → List α → α → β → Prop} {VD : β → Prop} (hIt : It xs) (h : foldR1 F D xs s00 = some r) (hb : ∀ pre x s0, (pre ++ [x]) <+: xs → F (foldR1 F D (xs.drop (pre.length + 1))) x s0 = some r → VB (fun pre s0 => foldR1 F D (xs.drop pre.length) s0 = some r) pre x s0) (hd : ∀ s0, D s0 = some r → VD s0) : ∃ xs, It xs ∧ ∃ I : List α → β → Prop, I [] s00 ∧ (∀ pre x s0, (pre ++ [x]) <+: xs → I pre s0 → VB I pre x s0) ∧ ∀ s0, I xs s0 → VD s0 := by
  refine ⟨xs, hIt, fun pre s0 => foldR1 F D (xs.drop pre.length) s0 = some r, h, fun pre x s0 hp h => hb pre x s0 hp ?_, fun s0 h => hd s0 ?_⟩
  · have e := drop_pre hp
    dsimp only at h
    rw [e] at h
    exact h
  · dsimp only at h
    rw [List.drop_length] at h
    exact h
def foldR2 {R : Type} {α β γ : Type} (F : (β → γ → Option R) → α → β → γ → Option R) (D : β → γ → Option R) : List α → β → γ → Option R
  | [] => D
  | x :: xs => F (foldR2 F D xs) x
theorem exr2 {R : Type} {α β γ : Type} {F : (β → γ → Option R) → α → β → γ → Option R} {D : β → γ → Option R} {r : R} {s00 : β} {s10 : γ} {xs : List α} {It : List α → Prop} {VB : (List α → β → γ → Prop) → List α → α → β → γ → Prop} {VD : β → γ → Prop} (hIt : It xs) (h : foldR2 F D xs s00 s10 = some r) (hb : ∀ pre x s0 s1, (pre ++ [x]) <+: xs → F (foldR2 F D (xs.drop (pre.length + 1))) x s0 s1 = some r → VB (fun pre s0 s1 => foldR2 F D (xs.drop pre.length) s0 s1 = some r) pre x s0 s1) (hd : ∀ s0 s1, D s0 s1 = some r → VD s0 s1) : ∃ xs, It xs ∧ ∃ I : List α → β → γ → Prop, I [] s00 s10 ∧ (∀ pre x s0 s1, (pre ++ [x]) <+: xs → I pre s0 s1 → VB I pre x s0 s1) ∧ ∀ s0 s1, I xs s0 s1 → VD s0 s1 := by
  refine ⟨xs, hIt, fun pre s0 s1 => foldR2 F D (xs.drop pre.length) s0 s1 = some r, h, fun pre x s0 s1 hp h => hb pre x s0 s1 hp ?_, fun s0 s1 h => hd s0 s1 ?_⟩
  · have e := drop_pre hp
    dsimp only at h
    rw [e] at h
    exact h
  · dsimp only at h
    rw [List.drop_length] at h
    exact h
def foldR3 {R : Type} {α β γ δ : Type} (F : (β → γ → δ → Option R) → α → β → γ → δ → Option R) (D : β → γ → δ → Option R) : List α → β → γ → δ → Option R
  | [] => D
  | x :: xs => F (foldR3 F D xs) x
theorem exr3 {R : Type} {α β γ δ : Type} {F : (β → γ → δ → Option R) → α → β → γ → δ → Option R} {D : β → γ → δ → Option R} {r : R} {s00 : β} {s10 : γ} {s20 : δ} {xs : List α} {It : List α → Prop} {VB : (List α → β → γ → δ → Prop) → List α → α → β → γ → δ → Prop} {VD : β → γ → δ → Prop} (hIt : It xs) (h : foldR3 F D xs s00 s10 s20 = some r) (hb : ∀ pre x s0 s1 s2, (pre ++ [x]) <+: xs → F (foldR3 F D (xs.drop (pre.length + 1))) x s0 s1 s2 = some r → VB (fun pre s0 s1 s2 => foldR3 F D (xs.drop pre.length) s0 s1 s2 = some r) pre x s0 s1 s2) (hd : ∀ s0 s1 s2, D s0 s1 s2 = some r → VD s0 s1 s2) : ∃ xs, It xs ∧ ∃ I : List α → β → γ → δ → Prop, I [] s00 s10 s20 ∧ (∀ pre x s0 s1 s2, (pre ++ [x]) <+: xs → I pre s0 s1 s2 → VB I pre x s0 s1 s2) ∧ ∀ s0 s1 s2, I xs s0 s1 s2 → VD s0 s1 s2 := by
  refine ⟨xs, hIt, fun pre s0 s1 s2 => foldR3 F D (xs.drop pre.length) s0 s1 s2 = some r, h, fun pre x s0 s1 s2 hp h => hb pre x s0 s1 s2 hp ?_, fun s0 s1 s2 h => hd s0 s1 s2 ?_⟩
  · have e := drop_pre hp
    dsimp only at h
    rw [e] at h
    exact h
  · dsimp only at h
    rw [List.drop_length] at h
    exact h
def foldR4 {R : Type} {α β γ δ ε : Type} (F : (β → γ → δ → ε → Option R) → α → β → γ → δ → ε → Option R) (D : β → γ → δ → ε → Option R) : List α → β → γ → δ → ε → Option R
  | [] => D
  | x :: xs => F (foldR4 F D xs) x
theorem exr4 {R : Type} {α β γ δ ε : Type} {F : (β → γ → δ → ε → Option R) → α → β → γ → δ → ε → Option R} {D : β → γ → δ → ε → Option R} {r : R} {s00 : β} {s10 : γ} {s20 : δ} {s30 : ε} {xs : List α} {It : List α → Prop} {VB : (List α → β → γ → δ → ε → Prop) → List α → α → β → γ → δ → ε → Prop} {VD : β → γ → δ → ε → Prop} (hIt : It xs) (h : foldR4 F D xs s00 s10 s20 s30 = some r) (hb : ∀ pre x s0 s1 s2 s3, (pre ++ [x]) <+: xs → F (foldR4 F D (xs.drop (pre.length + 1))) x s0 s1 s2 s3 = some r → VB (fun pre s0 s1 s2 s3 => foldR4 F D (xs.drop pre.length) s0 s1 s2 s3 = some r) pre x s0 s1 s2 s3) (hd : ∀ s0 s1 s2 s3, D s0 s1 s2 s3 = some r → VD s0 s1 s2 s3) : ∃ xs, It xs ∧ ∃ I : List α → β → γ → δ → ε → Prop, I [] s00 s10 s20 s30 ∧ (∀ pre x s0 s1 s2 s3, (pre ++ [x]) <+: xs → I pre s0 s1 s2 s3 → VB I pre x s0 s1 s2 s3) ∧ ∀ s0 s1 s2 s3, I xs s0 s1 s2 s3 → VD s0 s1 s2 s3 := by
  refine ⟨xs, hIt, fun pre s0 s1 s2 s3 => foldR4 F D (xs.drop pre.length) s0 s1 s2 s3 = some r, h, fun pre x s0 s1 s2 s3 hp h => hb pre x s0 s1 s2 s3 hp ?_, fun s0 s1 s2 s3 h => hd s0 s1 s2 s3 ?_⟩
  · have e := drop_pre hp
    dsimp only at h
    rw [e] at h
    exact h
  · dsimp only at h
    rw [List.drop_length] at h
    exact h
def foldR5 {R : Type} {α β γ δ ε ζ : Type} (F : (β → γ → δ → ε → ζ → Option R) → α → β → γ → δ → ε → ζ → Option R) (D : β → γ → δ → ε → ζ → Option R) : List α → β → γ → δ → ε → ζ → Option R
  | [] => D
  | x :: xs => F (foldR5 F D xs) x
theorem exr5 {R : Type} {α β γ δ ε ζ : Type} {F : (β → γ → δ → ε → ζ → Option R) → α → β → γ → δ → ε → ζ → Option R} {D : β → γ → δ → ε → ζ → Option R} {r : R} {s00 : β} {s10 : γ} {s20 : δ} {s30 : ε} {s40 : ζ} {xs : List α} {It : List α → Prop} {VB : (List α → β → γ → δ → ε → ζ → Prop) → List α → α → β → γ → δ → ε → ζ → Prop} {VD : β → γ → δ → ε → ζ → Prop} (hIt : It xs) (h : foldR5 F D xs s00 s10 s20 s30 s40 = some r) (hb : ∀ pre x s0 s1 s2 s3 s4, (pre ++ [x]) <+: xs → F (foldR5 F D (xs.drop (pre.length + 1))) x s0 s1 s2 s3 s4 = some r → VB (fun pre s0 s1 s2 s3 s4 => foldR5 F D (xs.drop pre.length) s0 s1 s2 s3 s4 = some r) pre x s0 s1 s2 s3 s4) (hd : ∀ s0 s1 s2 s3 s4, D s0 s1 s2 s3 s4 = some r → VD s0 s1 s2 s3 s4) : ∃ xs, It xs ∧ ∃ I : List α → β → γ → δ → ε → ζ → Prop, I [] s00 s10 s20 s30 s40 ∧ (∀ pre x s0 s1 s2 s3 s4, (pre ++ [x]) <+: xs → I pre s0 s1 s2 s3 s4 → VB I pre x s0 s1 s2 s3 s4) ∧ ∀ s0 s1 s2 s3 s4, I xs s0 s1 s2 s3 s4 → VD s0 s1 s2 s3 s4 := by
  refine ⟨xs, hIt, fun pre s0 s1 s2 s3 s4 => foldR5 F D (xs.drop pre.length) s0 s1 s2 s3 s4 = some r, h, fun pre x s0 s1 s2 s3 s4 hp h => hb pre x s0 s1 s2 s3 s4 hp ?_, fun s0 s1 s2 s3 s4 h => hd s0 s1 s2 s3 s4 ?_⟩
  · have e := drop_pre hp
    dsimp only at h
    rw [e] at h
    exact h
  · dsimp only at h
    rw [List.drop_length] at h
    exact h
end Go.Ex
