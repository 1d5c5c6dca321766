/- Running conditions over plain values: laws. -/
import Derived.Test.YtldcgfpcnemhpaaGreatLv
namespace Go.Ex
variable {R α β γ δ ε ζ : Type}
theorem exc {b : Bool} {x y : Option R} {r : R} {A B : Prop} (h : (bif b then x else y) = some r) (ha : x = some r → A) (hb : y = some r → B) : cond b A B := by
  cases b
  · exact hb h
  · exact ha h
theorem exa {P : Prop} [Decidable P] {x : Option R} {r : R} {A : Prop} (h : (if P then x else none) = some r) (ha : x = some r → A) : P ∧ A := by
  by_cases hp : P
  · rw [if_pos hp] at h; exact ⟨hp, ha h⟩
  · rw [if_neg hp] at h; cases h
def bnd1 (o : Option α) (f : α → Option R) : Option R := match o with | some a => f a | none => none
def bnd2 (o : Option (α × β)) (f : α → β → Option R) : Option R := match o with | some (a, b) => f a b | none => none
theorem exb1 {o : Option α} {f : α → Option R} {r : R} (h : bnd1 o f = some r) : ∃ a, o = some a ∧ f a = some r := by
  cases o with
  | none => cases h
  | some a => exact ⟨a, rfl, h⟩
theorem exb2 {o : Option (α × β)} {f : α → β → Option R} {r : R} (h : bnd2 o f = some r) : ∃ a b, o = some (a, b) ∧ f a b = some r := by
  cases o with
  | none => cases h
  | some a => exact ⟨_, _, rfl, h⟩
theorem exg {o : Option α} {f : α → Option R} {r : R} {A : α → Prop} (h : bnd1 o f = some r) (ha : ∀ e, f e = some r → A e) : ∀ e, o = some e → A e := fun e he => ha e (by subst he; exact h)
def joinX {κ : Type} (X : κ → Option R) (k : κ) : Option R := X k
theorem exj1 {R : Type} {α : Type} {X : (α → Option R) → Option R} {Y : α → Option R} {r : R} {VX : (α → Prop) → Prop} {VY : α → Prop} (h : joinX X Y = some r) (h1 : X Y = some r → VX (fun x0 => Y x0 = some r)) (h2 : ∀ x0, Y x0 = some r → VY x0) : ∃ J : α → Prop, VX J ∧ ∀ x0, J x0 → VY x0 := ⟨_, h1 h, h2⟩
theorem exj2 {R : Type} {α β : Type} {X : (α → β → Option R) → Option R} {Y : α → β → Option R} {r : R} {VX : (α → β → Prop) → Prop} {VY : α → β → Prop} (h : joinX X Y = some r) (h1 : X Y = some r → VX (fun x0 x1 => Y x0 x1 = some r)) (h2 : ∀ x0 x1, Y x0 x1 = some r → VY x0 x1) : ∃ J : α → β → Prop, VX J ∧ ∀ x0 x1, J x0 x1 → VY x0 x1 := ⟨_, h1 h, h2⟩
theorem exj3 {R : Type} {α β γ : Type} {X : (α → β → γ → Option R) → Option R} {Y : α → β → γ → Option R} {r : R} {VX : (α → β → γ → Prop) → Prop} {VY : α → β → γ → Prop} (h : joinX X Y = some r) (h1 : X Y = some r → VX (fun x0 x1 x2 => Y x0 x1 x2 = some r)) (h2 : ∀ x0 x1 x2, Y x0 x1 x2 = some r → VY x0 x1 x2) : ∃ J : α → β → γ → Prop, VX J ∧ ∀ x0 x1 x2, J x0 x1 x2 → VY x0 x1 x2 := ⟨_, h1 h, h2⟩
theorem exj4 {R : Type} {α β γ δ : Type} {X : (α → β → γ → δ → Option R) → Option R} {Y : α → β → γ → δ → Option R} {r : R} {VX : (α → β → γ → δ → Prop) → Prop} {VY : α → β → γ → δ → Prop} (h : joinX X Y = some r) (h1 : X Y = some r → VX (fun x0 x1 x2 x3 => Y x0 x1 x2 x3 = some r)) (h2 : ∀ x0 x1 x2 x3, Y x0 x1 x2 x3 = some r → VY x0 x1 x2 x3) : ∃ J : α → β → γ → δ → Prop, VX J ∧ ∀ x0 x1 x2 x3, J x0 x1 x2 x3 → VY x0 x1 x2 x3 := ⟨_, h1 h, h2⟩
theorem len_sn {α : Type} (l : List α) (x : α) : (l ++ [x]).length = l.length + 1 := by simp
theorem drop_pre {α : Type} {pre xs : List α} {x : α} (h : (pre ++ [x]) <+: xs) : xs.drop pre.length = x :: xs.drop (pre.length + 1) := by
  obtain ⟨t, rfl⟩ := h
  rw [List.append_assoc, List.drop_left, show pre.length + 1 = (pre ++ [x]).length by simp, ← List.append_assoc, List.drop_left]; rfl
def loop1 {R : Type} {α : Type} (F : (α → Option R) → α → Option R) : Nat → α → Option R
  | 0 => fun _ => none
  | n + 1 => F (loop1 F n)
theorem exl1 {R : Type} {α : Type} {F : (α → Option R) → α → Option R} {r : R} {n : Nat} {x00 : α} {VB : (α → Nat → Prop) → α → Nat → Prop} (h : loop1 F n x00 = some r) (hs : ∀ x0 n, F (loop1 F n) x0 = some r → VB (fun x0 n => loop1 F n x0 = some r) x0 (n + 1)) : ∃ I : α → Nat → Prop, (∃ n, I x00 n) ∧ ∀ x0 n, I x0 n → VB I x0 n :=
 ⟨fun x0 n => loop1 F n x0 = some r, ⟨_, h⟩, fun x0 n h => by
  cases n with
  | zero => cases h
  | succ n => exact hs x0 n h⟩
def loop2 {R : Type} {α β : Type} (F : (α → β → Option R) → α → β → Option R) : Nat → α → β → Option R
  | 0 => fun _ _ => none
  | n + 1 => F (loop2 F n)
theorem exl2 {R : Type} {α β : Type} {F : (α → β → Option R) → α → β → Option R} {r : R} {n : Nat} {x00 : α} {x10 : β} {VB : (α → β → Nat → Prop) → α → β → Nat → Prop} (h : loop2 F n x00 x10 = some r) (hs : ∀ x0 x1 n, F (loop2 F n) x0 x1 = some r → VB (fun x0 x1 n => loop2 F n x0 x1 = some r) x0 x1 (n + 1)) : ∃ I : α → β → Nat → Prop, (∃ n, I x00 x10 n) ∧ ∀ x0 x1 n, I x0 x1 n → VB I x0 x1 n :=
 ⟨fun x0 x1 n => loop2 F n x0 x1 = some r, ⟨_, h⟩, fun x0 x1 n h => by
  cases n with
  | zero => cases h
  | succ n => exact hs x0 x1 n h⟩
def loop3 {R : Type} {α β γ : Type} (F : (α → β → γ → Option R) → α → β → γ → Option R) : Nat → α → β → γ → Option R
  | 0 => fun _ _ _ => none
  | n + 1 => F (loop3 F n)
theorem exl3 {R : Type} {α β γ : Type} {F : (α → β → γ → Option R) → α → β → γ → Option R} {r : R} {n : Nat} {x00 : α} {x10 : β} {x20 : γ} {VB : (α → β → γ → Nat → Prop) → α → β → γ → Nat → Prop} (h : loop3 F n x00 x10 x20 = some r) (hs : ∀ x0 x1 x2 n, F (loop3 F n) x0 x1 x2 = some r → VB (fun x0 x1 x2 n => loop3 F n x0 x1 x2 = some r) x0 x1 x2 (n + 1)) : ∃ I : α → β → γ → Nat → Prop, (∃ n, I x00 x10 x20 n) ∧ ∀ x0 x1 x2 n, I x0 x1 x2 n → VB I x0 x1 x2 n :=
 ⟨fun x0 x1 x2 n => loop3 F n x0 x1 x2 = some r, ⟨_, h⟩, fun x0 x1 x2 n h => by
  cases n with
  | zero => cases h
  | succ n => exact hs x0 x1 x2 n h⟩
def loop4 {R : Type} {α β γ δ : Type} (F : (α → β → γ → δ → Option R) → α → β → γ → δ → Option R) : Nat → α → β → γ → δ → Option R
  | 0 => fun _ _ _ _ => none
  | n + 1 => F (loop4 F n)
theorem exl4 {R : Type} {α β γ δ : Type} {F : (α → β → γ → δ → Option R) → α → β → γ → δ → Option R} {r : R} {n : Nat} {x00 : α} {x10 : β} {x20 : γ} {x30 : δ} {VB : (α → β → γ → δ → Nat → Prop) → α → β → γ → δ → Nat → Prop} (h : loop4 F n x00 x10 x20 x30 = some r) (hs : ∀ x0 x1 x2 x3 n, F (loop4 F n) x0 x1 x2 x3 = some r → VB (fun x0 x1 x2 x3 n => loop4 F n x0 x1 x2 x3 = some r) x0 x1 x2 x3 (n + 1)) : ∃ I : α → β → γ → δ → Nat → Prop, (∃ n, I x00 x10 x20 x30 n) ∧ ∀ x0 x1 x2 x3 n, I x0 x1 x2 x3 n → VB I x0 x1 x2 x3 n :=
 ⟨fun x0 x1 x2 x3 n => loop4 F n x0 x1 x2 x3 = some r, ⟨_, h⟩, fun x0 x1 x2 x3 n h => by
  cases n with
  | zero => cases h
  | succ n => exact hs x0 x1 x2 x3 n h⟩
def loop5 {R : Type} {α β γ δ ε : Type} (F : (α → β → γ → δ → ε → Option R) → α → β → γ → δ → ε → Option R) : Nat → α → β → γ → δ → ε → Option R
  | 0 => fun _ _ _ _ _ => none
  | n + 1 => F (loop5 F n)
theorem exl5 {R : Type} {α β γ δ ε : Type} {F : (α → β → γ → δ → ε → Option R) → α → β → γ → δ → ε → Option R} {r : R} {n : Nat} {x00 : α} {x10 : β} {x20 : γ} {x30 : δ} {x40 : ε} {VB : (α → β → γ → δ → ε → Nat → Prop) → α → β → γ → δ → ε → Nat → Prop} (h : loop5 F n x00 x10 x20 x30 x40 = some r) (hs : ∀ x0 x1 x2 x3 x4 n, F (loop5 F n) x0 x1 x2 x3 x4 = some r → VB (fun x0 x1 x2 x3 x4 n => loop5 F n x0 x1 x2 x3 x4 = some r) x0 x1 x2 x3 x4 (n + 1)) : ∃ I : α → β → γ → δ → ε → Nat → Prop, (∃ n, I x00 x10 x20 x30 x40 n) ∧ ∀ x0 x1 x2 x3 x4 n, I x0 x1 x2 x3 x4 n → VB I x0 x1 x2 x3 x4 n :=
 ⟨fun x0 x1 x2 x3 x4 n => loop5 F n x0 x1 x2 x3 x4 = some r, ⟨_, h⟩, fun x0 x1 x2 x3 x4 n h => by
  cases n with
  | zero => cases h
  | succ n => exact hs x0 x1 x2 x3 x4 n h⟩
def loop6 {R : Type} {α β γ δ ε ζ : Type} (F : (α → β → γ → δ → ε → ζ → Option R) → α → β → γ → δ → ε → ζ → Option R) : Nat → α → β → γ → δ → ε → ζ → Option R
  | 0 => fun _ _ _ _ _ _ => none
  | n + 1 => F (loop6 F n)
theorem exl6 {R : Type} {α β γ δ ε ζ : Type} {F : (α → β → γ → δ → ε → ζ → Option R) → α → β → γ → δ → ε → ζ → Option R} {r : R} {n : Nat} {x00 : α} {x10 : β} {x20 : γ} {x30 : δ} {x40 : ε} {x50 : ζ} {VB : (α → β → γ → δ → ε → ζ → Nat → Prop) → α → β → γ → δ → ε → ζ → Nat → Prop} (h : loop6 F n x00 x10 x20 x30 x40 x50 = some r) (hs : ∀ x0 x1 x2 x3 x4 x5 n, F (loop6 F n) x0 x1 x2 x3 x4 x5 = some r → VB (fun x0 x1 x2 x3 x4 x5 n => loop6 F n x0 x1 x2 x3 x4 x5 = some r) x0 x1 x2 x3 x4 x5 (n + 1)) : ∃ I : α → β → γ → δ → ε → ζ → Nat → Prop, (∃ n, I x00 x10 x20 x30 x40 x50 n) ∧ ∀ x0 x1 x2 x3 x4 x5 n, I x0 x1 x2 x3 x4 x5 n → VB I x0 x1 x2 x3 x4 x5 n :=
 ⟨fun x0 x1 x2 x3 x4 x5 n => loop6 F n x0 x1 x2 x3 x4 x5 = some r, ⟨_, h⟩, fun x0 x1 x2 x3 x4 x5 n h => by
  cases n with
  | zero => cases h
  | succ n => exact hs x0 x1 x2 x3 x4 x5 n h⟩
def loop7 {R : Type} {α β γ δ ε ζ η : Type} (F : (α → β → γ → δ → ε → ζ → η → Option R) → α → β → γ → δ → ε → ζ → η → Option R) : Nat → α → β → γ → δ → ε → ζ → η → Option R
  | 0 => fun _ _ _ _ _ _ _ => none
  | n + 1 => F (loop7 F n)
theorem exl7 {R : Type} {α β γ δ ε ζ η : Type} {F : (α → β → γ → δ → ε → ζ → η → Option R) → α → β → γ → δ → ε → ζ → η → Option R} {r : R} {n : Nat} {x00 : α} {x10 : β} {x20 : γ} {x30 : δ} {x40 : ε} {x50 : ζ} {x60 : η} {VB : (α → β → γ → δ → ε → ζ → η → Nat → Prop) → α → β → γ → δ → ε → ζ → η → Nat → Prop} (h : loop7 F n x00 x10 x20 x30 x40 x50 x60 = some r) (hs : ∀ x0 x1 x2 x3 x4 x5 x6 n, F (loop7 F n) x0 x1 x2 x3 x4 x5 x6 = some r → VB (fun x0 x1 x2 x3 x4 x5 x6 n => loop7 F n x0 x1 x2 x3 x4 x5 x6 = some r) x0 x1 x2 x3 x4 x5 x6 (n + 1)) : ∃ I : α → β → γ → δ → ε → ζ → η → Nat → Prop, (∃ n, I x00 x10 x20 x30 x40 x50 x60 n) ∧ ∀ x0 x1 x2 x3 x4 x5 x6 n, I x0 x1 x2 x3 x4 x5 x6 n → VB I x0 x1 x2 x3 x4 x5 x6 n :=
 ⟨fun x0 x1 x2 x3 x4 x5 x6 n => loop7 F n x0 x1 x2 x3 x4 x5 x6 = some r, ⟨_, h⟩, fun x0 x1 x2 x3 x4 x5 x6 n h => by
  cases n with
  | zero => cases h
  | succ n => exact hs x0 x1 x2 x3 x4 x5 x6 n h⟩
def foldR1 {R : Type} {α β : Type} (F : (β → Option R) → α → β → Option R) (D : β → Option R) : List α → β → Option R
  | [] => D
  | x :: xs => F (foldR1 F D xs) x
theorem exr1 {R : Type} {α β : Type} {F : (β → Option R) → α → β → Option R} {D : β → Option R} {r : R} {s00 : β} {xs : List α} {It : List α → Prop} {VB : (List α → β → Prop) → List α → α → β → Prop} {VD : β → Prop} (hIt : It xs) (h : foldR1 F D xs s00 = some r) (hb : ∀ pre x s0, (pre ++ [x]) <+: xs → F (foldR1 F D (xs.drop (pre.length + 1))) x s0 = some r → VB (fun pre s0 => foldR1 F D (xs.drop pre.length) s0 = some r) pre x s0) (hd : ∀ s0, D s0 = some r → VD s0) : ∃ xs, It xs ∧ ∃ I : List α → β → Prop, I [] s00 ∧ (∀ pre x s0, (pre ++ [x]) <+: xs → I pre s0 → VB I pre x s0) ∧ ∀ s0, I xs s0 → VD s0 := by
  refine ⟨xs, hIt, fun pre s0 => foldR1 F D (xs.drop pre.length) s0 = some r, h, fun pre x s0 hp h => hb pre x s0 hp ?_, fun s0 h => hd s0 ?_⟩
  · have e := drop_pre hp
    dsimp only at h
    rw [e] at h
    exact h
  · dsimp only at h
    rw [List.drop_length] at h
    exact h
def foldR2 {R : Type} {α β γ : Type} (F : (β → γ → Option R) → α → β → γ → Option R) (D : β → γ → Option R) : List α → β → γ → Option R
  | [] => D
  | x :: xs => F (foldR2 F D xs) x
theorem exr2 {R : Type} {α β γ : Type} {F : (β → γ → Option R) → α → β → γ → Option R} {D : β → γ → Option R} {r : R} {s00 : β} {s10 : γ} {xs : List α} {It : List α → Prop} {VB : (List α → β → γ → Prop) → List α → α → β → γ → Prop} {VD : β → γ → Prop} (hIt : It xs) (h : foldR2 F D xs s00 s10 = some r) (hb : ∀ pre x s0 s1, (pre ++ [x]) <+: xs → F (foldR2 F D (xs.drop (pre.length + 1))) x s0 s1 = some r → VB (fun pre s0 s1 => foldR2 F D (xs.drop pre.length) s0 s1 = some r) pre x s0 s1) (hd : ∀ s0 s1, D s0 s1 = some r → VD s0 s1) : ∃ xs, It xs ∧ ∃ I : List α → β → γ → Prop, I [] s00 s10 ∧ (∀ pre x s0 s1, (pre ++ [x]) <+: xs → I pre s0 s1 → VB I pre x s0 s1) ∧ ∀ s0 s1, I xs s0 s1 → VD s0 s1 := by
  refine ⟨xs, hIt, fun pre s0 s1 => foldR2 F D (xs.drop pre.length) s0 s1 = some r, h, fun pre x s0 s1 hp h => hb pre x s0 s1 hp ?_, fun s0 s1 h => hd s0 s1 ?_⟩
  · have e := drop_pre hp
    dsimp only at h
    rw [e] at h
    exact h
  · dsimp only at h
    rw [List.drop_length] at h
    exact h
end Go.Ex
