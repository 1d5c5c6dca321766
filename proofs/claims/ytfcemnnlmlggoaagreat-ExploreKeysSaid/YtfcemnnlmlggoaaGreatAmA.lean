/- A machine of its own that runs code over memory without choices: values, blocks, and how they lie in a world. -/
import Derived.Test.YtfcemnnlmlggoaaGreatMem
namespace Go.Am
open Go.Vc
open Go.RowKit (Below)

/-! ## rows of eight; a box keeps what was decoded -/
structure Bx (α : Type) where
  get : α
def onB {α R : Type} (b : Bx α) (f : α → Option R) : Option R := Bx.casesOn (motive := fun _ => Option R) b f
theorem onB_eq {α R : Type} (b : Bx α) (f : α → Option R) : onB b f = f b.get := rfl
structure N8 (α : Type) where
  a0 : α
  a1 : α
  a2 : α
  a3 : α
  a4 : α
  a5 : α
  a6 : α
  a7 : α
def N8.pr {α : Type} : Nat → Bx (N8 α → α)
  | 0 => ⟨N8.a0⟩
  | 1 => ⟨N8.a1⟩
  | 2 => ⟨N8.a2⟩
  | 3 => ⟨N8.a3⟩
  | 4 => ⟨N8.a4⟩
  | 5 => ⟨N8.a5⟩
  | 6 => ⟨N8.a6⟩
  | _ => ⟨N8.a7⟩
def N8.put {α : Type} (t : N8 α) (x : α) : Nat → N8 α
  | 0 => ⟨x, t.a1, t.a2, t.a3, t.a4, t.a5, t.a6, t.a7⟩
  | 1 => ⟨t.a0, x, t.a2, t.a3, t.a4, t.a5, t.a6, t.a7⟩
  | 2 => ⟨t.a0, t.a1, x, t.a3, t.a4, t.a5, t.a6, t.a7⟩
  | 3 => ⟨t.a0, t.a1, t.a2, x, t.a4, t.a5, t.a6, t.a7⟩
  | 4 => ⟨t.a0, t.a1, t.a2, t.a3, x, t.a5, t.a6, t.a7⟩
  | 5 => ⟨t.a0, t.a1, t.a2, t.a3, t.a4, x, t.a6, t.a7⟩
  | 6 => ⟨t.a0, t.a1, t.a2, t.a3, t.a4, t.a5, x, t.a7⟩
  | _ => ⟨t.a0, t.a1, t.a2, t.a3, t.a4, t.a5, t.a6, x⟩
def N8.up {α R : Type} : Nat → Bx (N8 α → (α → (α → Option R) → Option R) → (N8 α → Option R) → Option R)
  | 0 => ⟨fun t f K => N8.casesOn (motive := fun _ => Option R) t fun a0 a1 a2 a3 a4 a5 a6 a7 => f a0 fun x => K ⟨x, a1, a2, a3, a4, a5, a6, a7⟩⟩
  | 1 => ⟨fun t f K => N8.casesOn (motive := fun _ => Option R) t fun a0 a1 a2 a3 a4 a5 a6 a7 => f a1 fun x => K ⟨a0, x, a2, a3, a4, a5, a6, a7⟩⟩
  | 2 => ⟨fun t f K => N8.casesOn (motive := fun _ => Option R) t fun a0 a1 a2 a3 a4 a5 a6 a7 => f a2 fun x => K ⟨a0, a1, x, a3, a4, a5, a6, a7⟩⟩
  | 3 => ⟨fun t f K => N8.casesOn (motive := fun _ => Option R) t fun a0 a1 a2 a3 a4 a5 a6 a7 => f a3 fun x => K ⟨a0, a1, a2, x, a4, a5, a6, a7⟩⟩
  | 4 => ⟨fun t f K => N8.casesOn (motive := fun _ => Option R) t fun a0 a1 a2 a3 a4 a5 a6 a7 => f a4 fun x => K ⟨a0, a1, a2, a3, x, a5, a6, a7⟩⟩
  | 5 => ⟨fun t f K => N8.casesOn (motive := fun _ => Option R) t fun a0 a1 a2 a3 a4 a5 a6 a7 => f a5 fun x => K ⟨a0, a1, a2, a3, a4, x, a6, a7⟩⟩
  | 6 => ⟨fun t f K => N8.casesOn (motive := fun _ => Option R) t fun a0 a1 a2 a3 a4 a5 a6 a7 => f a6 fun x => K ⟨a0, a1, a2, a3, a4, a5, x, a7⟩⟩
  | _ => ⟨fun t f K => N8.casesOn (motive := fun _ => Option R) t fun a0 a1 a2 a3 a4 a5 a6 a7 => f a7 fun x => K ⟨a0, a1, a2, a3, a4, a5, a6, x⟩⟩
theorem N8.up_eq {α R : Type} (i : Nat) (t : N8 α) (f : α → (α → Option R) → Option R) (K : N8 α → Option R) : (N8.up i).get t f K = f ((N8.pr i).get t) fun x => K (t.put x i) := by
  match i with
  | 0 | 1 | 2 | 3 | 4 | 5 | 6 | _ + 7 => rfl
theorem N8.put_get {α : Type} (t : N8 α) (x : α) : ∀ (i j : Nat), i < 8 → j < 8 → (N8.pr j).get (t.put x i) = if j = i then x else (N8.pr j).get t

  | 0, 0, _, _ => rfl
  | 0, 1, _, _ => rfl
  | 0, 2, _, _ => rfl
  | 0, 3, _, _ => rfl
  | 0, 4, _, _ => rfl
  | 0, 5, _, _ => rfl
  | 0, 6, _, _ => rfl
  | 0, 7, _, _ => rfl
  | 1, 0, _, _ => rfl
  | 1, 1, _, _ => rfl
  | 1, 2, _, _ => rfl
  | 1, 3, _, _ => rfl
  | 1, 4, _, _ => rfl
  | 1, 5, _, _ => rfl
  | 1, 6, _, _ => rfl
  | 1, 7, _, _ => rfl
  | 2, 0, _, _ => rfl
  | 2, 1, _, _ => rfl
  | 2, 2, _, _ => rfl
  | 2, 3, _, _ => rfl
  | 2, 4, _, _ => rfl
  | 2, 5, _, _ => rfl
  | 2, 6, _, _ => rfl
  | 2, 7, _, _ => rfl
  | 3, 0, _, _ => rfl
  | 3, 1, _, _ => rfl
  | 3, 2, _, _ => rfl
  | 3, 3, _, _ => rfl
  | 3, 4, _, _ => rfl
  | 3, 5, _, _ => rfl
  | 3, 6, _, _ => rfl
  | 3, 7, _, _ => rfl
  | 4, 0, _, _ => rfl
  | 4, 1, _, _ => rfl
  | 4, 2, _, _ => rfl
  | 4, 3, _, _ => rfl
  | 4, 4, _, _ => rfl
  | 4, 5, _, _ => rfl
  | 4, 6, _, _ => rfl
  | 4, 7, _, _ => rfl
  | 5, 0, _, _ => rfl
  | 5, 1, _, _ => rfl
  | 5, 2, _, _ => rfl
  | 5, 3, _, _ => rfl
  | 5, 4, _, _ => rfl
  | 5, 5, _, _ => rfl
  | 5, 6, _, _ => rfl
  | 5, 7, _, _ => rfl
  | 6, 0, _, _ => rfl
  | 6, 1, _, _ => rfl
  | 6, 2, _, _ => rfl
  | 6, 3, _, _ => rfl
  | 6, 4, _, _ => rfl
  | 6, 5, _, _ => rfl
  | 6, 6, _, _ => rfl
  | 6, 7, _, _ => rfl
  | 7, 0, _, _ => rfl
  | 7, 1, _, _ => rfl
  | 7, 2, _, _ => rfl
  | 7, 3, _, _ => rfl
  | 7, 4, _, _ => rfl
  | 7, 5, _, _ => rfl
  | 7, 6, _, _ => rfl
  | 7, 7, _, _ => rfl
  | i + 8, j, hi, _ => by omega
  | i, j + 8, _, hj => by omega
theorem dm1 (a b : Nat) : Nat.div a b = a / b := rfl
theorem dm2 (a b : Nat) : Nat.mod a b = a % b := rfl
/-! ## trees by number -/
abbrev Tr (α : Type) : Type := N8 (N8 (N8 (N8 (N8 (N8 (Option α))))))
def Tr.gB {α : Type} (k : Nat) : Bx (Tr α → Option α) := cond (Nat.ble k 262143) (match N8.pr (Nat.div k 32768), N8.pr (Nat.mod (Nat.div k 4096) 8), N8.pr (Nat.mod (Nat.div k 512) 8), N8.pr (Nat.mod (Nat.div k 64) 8), N8.pr (Nat.mod (Nat.div k 8) 8), N8.pr (Nat.mod k 8) with | ⟨p1⟩, ⟨p2⟩, ⟨p3⟩, ⟨p4⟩, ⟨p5⟩, ⟨p6⟩ => ⟨fun t => p6 (p5 (p4 (p3 (p2 (p1 t)))))⟩) ⟨fun _ => none⟩
def Tr.get {α : Type} (t : Tr α) (k : Nat) : Option α := (Tr.gB k).get t
def Tr.sB {α R : Type} (k : Nat) : Bx (Tr α → Option α → (Tr α → Option R) → Option R) := cond (Nat.ble k 262143) (match N8.up (R := R) (Nat.div k 32768), N8.up (R := R) (Nat.mod (Nat.div k 4096) 8), N8.up (R := R) (Nat.mod (Nat.div k 512) 8), N8.up (R := R) (Nat.mod (Nat.div k 64) 8), N8.up (R := R) (Nat.mod (Nat.div k 8) 8), N8.up (R := R) (Nat.mod k 8) with | ⟨u1⟩, ⟨u2⟩, ⟨u3⟩, ⟨u4⟩, ⟨u5⟩, ⟨u6⟩ => ⟨fun t x K => u1 t (fun t K => u2 t (fun t K => u3 t (fun t K => u4 t (fun t K => u5 t (fun t K => u6 t (fun _ K => K x) K) K) K) K) K) K⟩) ⟨fun _ _ _ => none⟩
theorem Tr.get_eq {α : Type} (t : Tr α) (k : Nat) : Tr.get t k = cond (Nat.ble k 262143) ((N8.pr (Nat.mod k 8)).get ((N8.pr (Nat.mod (Nat.div k 8) 8)).get ((N8.pr (Nat.mod (Nat.div k 64) 8)).get ((N8.pr (Nat.mod (Nat.div k 512) 8)).get ((N8.pr (Nat.mod (Nat.div k 4096) 8)).get ((N8.pr (Nat.div k 32768)).get t)))))) none := by unfold Tr.get Tr.gB; cases Nat.ble k 262143 <;> rfl
theorem Tr.sB_eq {α R : Type} (k : Nat) (hk : Nat.ble k 262143 = true) (t : Tr α) (x : Option α) (K : Tr α → Option R) : (Tr.sB k).get t x K = K (N8.put t (N8.put ((N8.pr (Nat.div k 32768)).get t) (N8.put ((N8.pr (Nat.mod (Nat.div k 4096) 8)).get ((N8.pr (Nat.div k 32768)).get t)) (N8.put ((N8.pr (Nat.mod (Nat.div k 512) 8)).get ((N8.pr (Nat.mod (Nat.div k 4096) 8)).get ((N8.pr (Nat.div k 32768)).get t))) (N8.put ((N8.pr (Nat.mod (Nat.div k 64) 8)).get ((N8.pr (Nat.mod (Nat.div k 512) 8)).get ((N8.pr (Nat.mod (Nat.div k 4096) 8)).get ((N8.pr (Nat.div k 32768)).get t)))) (N8.put ((N8.pr (Nat.mod (Nat.div k 8) 8)).get ((N8.pr (Nat.mod (Nat.div k 64) 8)).get ((N8.pr (Nat.mod (Nat.div k 512) 8)).get ((N8.pr (Nat.mod (Nat.div k 4096) 8)).get ((N8.pr (Nat.div k 32768)).get t))))) x (Nat.mod k 8)) (Nat.mod (Nat.div k 8) 8)) (Nat.mod (Nat.div k 64) 8)) (Nat.mod (Nat.div k 512) 8)) (Nat.mod (Nat.div k 4096) 8)) (Nat.div k 32768)) := by unfold Tr.sB; rw [hk]; simp only [cond_true, N8.up_eq]
theorem Tr.set_get {α : Type} (k j : Nat) (hk : Nat.ble k 262143 = true) (t : Tr α) (x : Option α) : Tr.get (N8.put t (N8.put ((N8.pr (Nat.div k 32768)).get t) (N8.put ((N8.pr (Nat.mod (Nat.div k 4096) 8)).get ((N8.pr (Nat.div k 32768)).get t)) (N8.put ((N8.pr (Nat.mod (Nat.div k 512) 8)).get ((N8.pr (Nat.mod (Nat.div k 4096) 8)).get ((N8.pr (Nat.div k 32768)).get t))) (N8.put ((N8.pr (Nat.mod (Nat.div k 64) 8)).get ((N8.pr (Nat.mod (Nat.div k 512) 8)).get ((N8.pr (Nat.mod (Nat.div k 4096) 8)).get ((N8.pr (Nat.div k 32768)).get t)))) (N8.put ((N8.pr (Nat.mod (Nat.div k 8) 8)).get ((N8.pr (Nat.mod (Nat.div k 64) 8)).get ((N8.pr (Nat.mod (Nat.div k 512) 8)).get ((N8.pr (Nat.mod (Nat.div k 4096) 8)).get ((N8.pr (Nat.div k 32768)).get t))))) x (Nat.mod k 8)) (Nat.mod (Nat.div k 8) 8)) (Nat.mod (Nat.div k 64) 8)) (Nat.mod (Nat.div k 512) 8)) (Nat.mod (Nat.div k 4096) 8)) (Nat.div k 32768)) j = if j = k then x else Tr.get t j := by
  rw [Tr.get_eq, Tr.get_eq]
  have hk' := Nat.le_of_ble_eq_true hk
  cases hj : Nat.ble j 262143 with
  | false =>
    have : j ≠ k := fun e => by subst e; rw [hk] at hj; cases hj
    simp [this]
  | true =>
    have hj' := Nat.le_of_ble_eq_true hj
    simp only [cond_true, dm1, dm2]
    by_cases e0 : (j / 32768) = (k / 32768)
    case neg =>
      have : j ≠ k := fun e => by subst e; exact e0 rfl
      rw [N8.put_get _ _ _ _ (by omega) (by omega), if_neg e0, if_neg this]
    rw [N8.put_get _ _ _ _ (by omega) (by omega), if_pos e0]
    by_cases e1 : (j / 4096 % 8) = (k / 4096 % 8)
    case neg =>
      have : j ≠ k := fun e => by subst e; exact e1 rfl
      rw [N8.put_get _ _ _ _ (by omega) (by omega), if_neg e1, if_neg this]
      simp only [e0]
    rw [N8.put_get _ _ _ _ (by omega) (by omega), if_pos e1]
    by_cases e2 : (j / 512 % 8) = (k / 512 % 8)
    case neg =>
      have : j ≠ k := fun e => by subst e; exact e2 rfl
      rw [N8.put_get _ _ _ _ (by omega) (by omega), if_neg e2, if_neg this]
      simp only [e0, e1]
    rw [N8.put_get _ _ _ _ (by omega) (by omega), if_pos e2]
    by_cases e3 : (j / 64 % 8) = (k / 64 % 8)
    case neg =>
      have : j ≠ k := fun e => by subst e; exact e3 rfl
      rw [N8.put_get _ _ _ _ (by omega) (by omega), if_neg e3, if_neg this]
      simp only [e0, e1, e2]
    rw [N8.put_get _ _ _ _ (by omega) (by omega), if_pos e3]
    by_cases e4 : (j / 8 % 8) = (k / 8 % 8)
    case neg =>
      have : j ≠ k := fun e => by subst e; exact e4 rfl
      rw [N8.put_get _ _ _ _ (by omega) (by omega), if_neg e4, if_neg this]
      simp only [e0, e1, e2, e3]
    rw [N8.put_get _ _ _ _ (by omega) (by omega), if_pos e4]
    by_cases e5 : (j % 8) = (k % 8)
    case neg =>
      have : j ≠ k := fun e => by subst e; exact e5 rfl
      rw [N8.put_get _ _ _ _ (by omega) (by omega), if_neg e5, if_neg this]
      simp only [e0, e1, e2, e3, e4]
    rw [N8.put_get _ _ _ _ (by omega) (by omega), if_pos e5]
    rw [if_pos (by omega)]
def Tr.n1 {α : Type} : N8 (Option α) := ⟨none, none, none, none, none, none, none, none⟩
def Tr.n2 {α : Type} : N8 (N8 (Option α)) := ⟨Tr.n1, Tr.n1, Tr.n1, Tr.n1, Tr.n1, Tr.n1, Tr.n1, Tr.n1⟩
def Tr.n3 {α : Type} : N8 (N8 (N8 (Option α))) := ⟨Tr.n2, Tr.n2, Tr.n2, Tr.n2, Tr.n2, Tr.n2, Tr.n2, Tr.n2⟩
def Tr.n4 {α : Type} : N8 (N8 (N8 (N8 (Option α)))) := ⟨Tr.n3, Tr.n3, Tr.n3, Tr.n3, Tr.n3, Tr.n3, Tr.n3, Tr.n3⟩
def Tr.n5 {α : Type} : N8 (N8 (N8 (N8 (N8 (Option α))))) := ⟨Tr.n4, Tr.n4, Tr.n4, Tr.n4, Tr.n4, Tr.n4, Tr.n4, Tr.n4⟩
def Tr.nil {α : Type} : Tr α := (⟨Tr.n5, Tr.n5, Tr.n5, Tr.n5, Tr.n5, Tr.n5, Tr.n5, Tr.n5⟩ : N8 _)
theorem N8.pr_same {α : Type} (x : α) (i : Nat) : (N8.pr i).get ⟨x, x, x, x, x, x, x, x⟩ = x := by
  match i with
  | 0 | 1 | 2 | 3 | 4 | 5 | 6 | _ + 7 => rfl
theorem Tr.get_nil {α : Type} (k : Nat) : (Tr.nil : Tr α).get k = none := by
  rw [Tr.get_eq]
  simp only [Tr.nil, Tr.n5, Tr.n4, Tr.n3, Tr.n2, Tr.n1, N8.pr_same]
  cases Nat.ble k 262143 <;> rfl
/-- puts, and goes on with what came of it -/
def Tr.setK {α R : Type} (_f : Nat) (t : Tr α) (k : Nat) (x : Option α) (K : Tr α → Option R) : Option R := onB (Tr.sB k) fun s => s t x K
theorem Tr.setK_some {α R : Type} {r : R} {f : Nat} {t : Tr α} {k : Nat} {x : Option α} {K : Tr α → Option R} (h : Tr.setK f t k x K = some r) :
    ∃ t', K t' = some r ∧ ∀ j, t'.get j = if j = k then x else t.get j := by
  unfold Tr.setK at h
  rw [onB_eq] at h
  cases hk : Nat.ble k 262143 with
  | false => simp only [Tr.sB, hk, cond_false] at h; cases h
  | true =>
    rw [Tr.sB_eq k hk] at h
    exact ⟨_, h, fun j => Tr.set_get k j hk t x⟩

/-! ## values -/
inductive AV where
  | lit (v : Value)
  /-- a cell of a block -/
  | ptr (b o : Nat)
  /-- n elements of sz cells from a cell of a block on; there is room for c at least, for c just if x -/
  | slice (b o n sz c : Nat) (x : Bool)
  | agg (l : List AV)
  | tuple (l : List AV)
  | func (f : FuncId) (first captured : List AV)
  | map (b : Nat)
  /-- a value behind an interface -/
  | iface (t : TypeId) (x : AV)
  /-- a round of a range over a function -/
  | yield (b : Nat)
  /-- some number from lo to hi -/
  | ival (k : IntKind) (lo hi : Int)
  /-- anything that lies in one cell -/
  | unk
  /-- the number of place i of the environment, from lo to hi -/
  | same (i : Nat) (k : IntKind) (lo hi : Int)
instance : Inhabited AV := ⟨.lit default⟩


/-! ## places -/
abbrev Tm : Type := N8 (N8 (N8 (Option AV)))
def Tm.gB (k : Nat) : Bx (Tm → Option AV) := cond (Nat.ble k 511) (match N8.pr (Nat.div k 64), N8.pr (Nat.mod (Nat.div k 8) 8), N8.pr (Nat.mod k 8) with | ⟨p1⟩, ⟨p2⟩, ⟨p3⟩ => ⟨fun t => p3 (p2 (p1 t))⟩) ⟨fun _ => none⟩
def Tm.get (t : Tm) (k : Nat) : Option AV := (Tm.gB k).get t
def Tm.sB {R : Type} (k : Nat) : Bx (Tm → Option AV → (Tm → Option R) → Option R) := cond (Nat.ble k 511) (match N8.up (R := R) (Nat.div k 64), N8.up (R := R) (Nat.mod (Nat.div k 8) 8), N8.up (R := R) (Nat.mod k 8) with | ⟨u1⟩, ⟨u2⟩, ⟨u3⟩ => ⟨fun t x K => u1 t (fun t K => u2 t (fun t K => u3 t (fun _ K => K x) K) K) K⟩) ⟨fun _ _ _ => none⟩
theorem Tm.get_eq (t : Tm) (k : Nat) : Tm.get t k = cond (Nat.ble k 511) ((N8.pr (Nat.mod k 8)).get ((N8.pr (Nat.mod (Nat.div k 8) 8)).get ((N8.pr (Nat.div k 64)).get t))) none := by unfold Tm.get Tm.gB; cases Nat.ble k 511 <;> rfl
theorem Tm.sB_eq {R : Type} (k : Nat) (hk : Nat.ble k 511 = true) (t : Tm) (x : Option AV) (K : Tm → Option R) : (Tm.sB k).get t x K = K (N8.put t (N8.put ((N8.pr (Nat.div k 64)).get t) (N8.put ((N8.pr (Nat.mod (Nat.div k 8) 8)).get ((N8.pr (Nat.div k 64)).get t)) x (Nat.mod k 8)) (Nat.mod (Nat.div k 8) 8)) (Nat.div k 64)) := by unfold Tm.sB; rw [hk]; simp only [cond_true, N8.up_eq]
theorem Tm.set_get (k j : Nat) (hk : Nat.ble k 511 = true) (t : Tm) (x : Option AV) : Tm.get (N8.put t (N8.put ((N8.pr (Nat.div k 64)).get t) (N8.put ((N8.pr (Nat.mod (Nat.div k 8) 8)).get ((N8.pr (Nat.div k 64)).get t)) x (Nat.mod k 8)) (Nat.mod (Nat.div k 8) 8)) (Nat.div k 64)) j = if j = k then x else Tm.get t j := by
  rw [Tm.get_eq, Tm.get_eq]
  have hk' := Nat.le_of_ble_eq_true hk
  cases hj : Nat.ble j 511 with
  | false =>
    have : j ≠ k := fun e => by subst e; rw [hk] at hj; cases hj
    simp [this]
  | true =>
    have hj' := Nat.le_of_ble_eq_true hj
    simp only [cond_true, dm1, dm2]
    by_cases e0 : (j / 64) = (k / 64)
    case neg =>
      have : j ≠ k := fun e => by subst e; exact e0 rfl
      rw [N8.put_get _ _ _ _ (by omega) (by omega), if_neg e0, if_neg this]
    rw [N8.put_get _ _ _ _ (by omega) (by omega), if_pos e0]
    by_cases e1 : (j / 8 % 8) = (k / 8 % 8)
    case neg =>
      have : j ≠ k := fun e => by subst e; exact e1 rfl
      rw [N8.put_get _ _ _ _ (by omega) (by omega), if_neg e1, if_neg this]
      simp only [e0]
    rw [N8.put_get _ _ _ _ (by omega) (by omega), if_pos e1]
    by_cases e2 : (j % 8) = (k % 8)
    case neg =>
      have : j ≠ k := fun e => by subst e; exact e2 rfl
      rw [N8.put_get _ _ _ _ (by omega) (by omega), if_neg e2, if_neg this]
      simp only [e0, e1]
    rw [N8.put_get _ _ _ _ (by omega) (by omega), if_pos e2]
    rw [if_pos (by omega)]
def Tm.nil : Tm := (⟨Tr.n2, Tr.n2, Tr.n2, Tr.n2, Tr.n2, Tr.n2, Tr.n2, Tr.n2⟩ : N8 _)
theorem Tm.get_nil (k : Nat) : Tm.nil.get k = none := by
  rw [Tm.get_eq]
  simp only [Tm.nil, Tr.n2, Tr.n1, N8.pr_same]
  cases Nat.ble k 511 <;> rfl
theorem Tm.sB_some {R : Type} {r : R} {t : Tm} {k : Nat} {x : Option AV} {K : Tm → Option R} (h : (Tm.sB k).get t x K = some r) :
    ∃ t', K t' = some r ∧ ∀ j, t'.get j = if j = k then x else t.get j := by
  cases hk : Nat.ble k 511 with
  | false => simp only [Tm.sB, hk, cond_false] at h; cases h
  | true =>
    rw [Tm.sB_eq k hk] at h
    exact ⟨_, h, fun j => Tm.set_get k j hk t x⟩

/-- blocks, and how many cells they have in the world -/
abbrev Env : Type := Nat → Option (Nat × Nat)

/-- a number, told by two natural ones -/
def decI (B t : Nat) : Int := match t with
  | 0 => Int.ofNat B
  | _ => Int.negSucc B
theorem decI_all (n : Int) : ∃ B t, decI B t = n := by
  cases n with
  | ofNat m => exact ⟨m, 0, rfl⟩
  | negSucc m => exact ⟨m, 1, rfl⟩
mutual
def AV.rep (e : Env) : AV → Value → Prop
  | .lit u, v => v = u
  | .ptr b o, v => ∃ B t, e b = some (B, t) ∧ v = .pointer (some ⟨B, o, none⟩)
  | .slice b o n sz c x, v => ∃ B t k A, e b = some (B, t) ∧ v = .slice (some A) n k ∧ (A = ⟨B, o, none⟩ ∨ k = 0) ∧ n ≤ k ∧ c ≤ k ∧ (x = true → k = c) ∧ o + k * sz ≤ t
  | .agg l, v => ∃ vs, v = .agg ⟨vs⟩ ∧ AV.repL e l vs
  | .tuple l, v => ∃ vs, v = .tuple ⟨vs⟩ ∧ AV.repL e l vs
  | .func f l m, v => ∃ vs us, v = .func (.func f) ⟨vs⟩ ⟨us⟩ ∧ AV.repL e l vs ∧ AV.repL e m us
  | .map b, v => ∃ B t, e b = some (B, t) ∧ v = .map (some B)
  | .iface t x, v => ∃ u, v = .iface t u ∧ AV.rep e x u
  | .yield b, v => ∃ B t, e b = some (B, t) ∧ v = .func (.yield B) #[] #[]
  | .ival k lo hi, v => ∃ n, v = .int k n ∧ lo ≤ n ∧ n ≤ hi
  | .unk, v => v.oneCell' = true
  | .same i k lo hi, v => ∃ B t, e i = some (B, t) ∧ v = .int k (decI B t) ∧ lo ≤ decI B t ∧ decI B t ≤ hi
def AV.repL (e : Env) : List AV → List Value → Prop
  | [], vs => vs = []
  | a :: l, vs => ∃ x xs, vs = x :: xs ∧ AV.rep e a x ∧ AV.repL e l xs
end

/-- later: more blocks -/
def Later (e e' : Env) : Prop := ∀ (b : Nat) (x : Nat × Nat), e b = some x → e' b = some x
theorem Later.refl (e : Env) : Later e e := fun _ _ h => h
theorem Later.trans {e e' e'' : Env} (h : Later e e') (k : Later e' e'') : Later e e'' := fun b x hb => k b x (h b x hb)
def Env.put (e : Env) (n : Nat) (x : Nat × Nat) : Env := fun b => if b = n then some x else e b
theorem put_at (e : Env) (n : Nat) (x : Nat × Nat) : e.put n x n = some x := if_pos rfl
theorem put_ne {e : Env} {n b : Nat} (h : b ≠ n) (x : Nat × Nat) : e.put n x b = e b := if_neg h
theorem Later.put {e : Env} {n : Nat} (h : e n = none) (x : Nat × Nat) : Later e (e.put n x) := fun b y hb => by
  by_cases hbn : b = n
  · subst hbn; rw [h] at hb; cases hb
  · rw [put_ne hbn]; exact hb

mutual
theorem rep_later {e e' : Env} (h : Later e e') : ∀ {a : AV} {v : Value}, a.rep e v → a.rep e' v
  | .lit _, _, hr => by simp only [AV.rep] at hr ⊢; exact hr
  | .ptr _ _, _, hr => by simp only [AV.rep] at hr ⊢; obtain ⟨B, t, h1, h2⟩ := hr; exact ⟨B, t, h _ _ h1, h2⟩
  | .slice .., _, hr => by simp only [AV.rep] at hr ⊢; obtain ⟨B, t, k, A, h1, h2⟩ := hr; exact ⟨B, t, k, A, h _ _ h1, h2⟩
  | .agg _, _, hr => by simp only [AV.rep] at hr ⊢; obtain ⟨vs, h1, h2⟩ := hr; exact ⟨vs, h1, repL_later h h2⟩
  | .tuple _, _, hr => by simp only [AV.rep] at hr ⊢; obtain ⟨vs, h1, h2⟩ := hr; exact ⟨vs, h1, repL_later h h2⟩
  | .func .., _, hr => by simp only [AV.rep] at hr ⊢; obtain ⟨vs, us, h1, h2, h3⟩ := hr; exact ⟨vs, us, h1, repL_later h h2, repL_later h h3⟩
  | .map _, _, hr => by simp only [AV.rep] at hr ⊢; obtain ⟨B, t, h1, h2⟩ := hr; exact ⟨B, t, h _ _ h1, h2⟩
  | .iface _ _, _, hr => by simp only [AV.rep] at hr ⊢; obtain ⟨u, h1, h2⟩ := hr; exact ⟨u, h1, rep_later h h2⟩
  | .yield _, _, hr => by simp only [AV.rep] at hr ⊢; obtain ⟨B, t, h1, h2⟩ := hr; exact ⟨B, t, h _ _ h1, h2⟩
  | .ival .., _, hr => by simp only [AV.rep] at hr ⊢; exact hr
  | .unk, _, hr => by simp only [AV.rep] at hr ⊢; exact hr
  | .same .., _, hr => by simp only [AV.rep] at hr ⊢; obtain ⟨B, t, h1, h2⟩ := hr; exact ⟨B, t, h _ _ h1, h2⟩
theorem repL_later {e e' : Env} (h : Later e e') : ∀ {l : List AV} {vs : List Value}, AV.repL e l vs → AV.repL e' l vs
  | [], _, hr => by simp only [AV.repL] at hr ⊢; exact hr
  | _ :: _, _, hr => by simp only [AV.repL] at hr ⊢; obtain ⟨x, xs, h1, h2, h3⟩ := hr; exact ⟨x, xs, h1, rep_later h h2, repL_later h h3⟩
end

theorem repL_length {e : Env} : ∀ {l : List AV} {vs : List Value}, AV.repL e l vs → vs.length = l.length
  | [], _, h => by simp only [AV.repL] at h; subst h; rfl
  | _ :: l, _, h => by simp only [AV.repL] at h; obtain ⟨x, xs, rfl, _, h⟩ := h; simp [repL_length h]
theorem repL_get {e : Env} : ∀ {l : List AV} {vs : List Value} {i : Nat} {a : AV}, AV.repL e l vs → l[i]? = some a → ∃ v, vs[i]? = some v ∧ a.rep e v
  | [], _, _, _, _, hi => by simp at hi
  | _ :: l, _, i, a, h, hi => by
    simp only [AV.repL] at h
    obtain ⟨x, xs, rfl, h1, h2⟩ := h
    cases i with
    | zero => simp at hi; subst hi; exact ⟨x, by simp, h1⟩
    | succ i => simp at hi; obtain ⟨v, hv, hr⟩ := repL_get h2 hi; exact ⟨v, by simpa using hv, hr⟩
theorem repL_of {e : Env} : ∀ {l : List AV} {vs : List Value}, vs.length = l.length → (∀ (i : Nat) (a : AV), l[i]? = some a → ∃ v, vs[i]? = some v ∧ AV.rep e a v) → AV.repL e l vs
  | [], vs, hl, _ => by simp only [AV.repL]; exact List.eq_nil_of_length_eq_zero (by simpa using hl)
  | a :: l, vs, hl, h => by
    cases vs with
    | nil => simp at hl
    | cons v vs =>
      simp only [AV.repL]
      obtain ⟨v', hv, hr⟩ := h 0 a (by simp)
      simp at hv; subst hv
      exact ⟨v, vs, rfl, hr, repL_of (by simpa using hl) fun i b hb => by have := h (i + 1) b (by simpa using hb); simpa using this⟩
theorem repL_append {e : Env} : ∀ {l m : List AV} {vs us : List Value}, AV.repL e l vs → AV.repL e m us → AV.repL e (l ++ m) (vs ++ us)
  | [], _, _, _, h, k => by simp only [AV.repL] at h; subst h; exact k
  | _ :: l, _, _, _, h, k => by
    simp only [AV.repL] at h
    obtain ⟨x, xs, rfl, h1, h2⟩ := h
    simp only [List.cons_append, AV.repL]
    exact ⟨x, _, rfl, h1, repL_append h2 k⟩
theorem repL_take {e : Env} : ∀ {n : Nat} {l : List AV} {vs : List Value}, AV.repL e l vs → AV.repL e (l.take n) (vs.take n)
  | 0, _, _, _ => by simp [AV.repL]
  | n + 1, [], _, h => by simp only [AV.repL] at h; subst h; simp [AV.repL]
  | n + 1, _ :: l, _, h => by
    simp only [AV.repL] at h
    obtain ⟨x, xs, rfl, h1, h2⟩ := h
    simp only [List.take_succ_cons, AV.repL]
    exact ⟨x, _, rfl, h1, repL_take h2⟩
theorem repL_drop {e : Env} : ∀ {n : Nat} {l : List AV} {vs : List Value}, AV.repL e l vs → AV.repL e (l.drop n) (vs.drop n)
  | 0, _, _, h => by simpa using h
  | n + 1, [], _, h => by simp only [AV.repL] at h; subst h; simp [AV.repL]
  | n + 1, _ :: l, _, h => by
    simp only [AV.repL] at h
    obtain ⟨x, xs, rfl, h1, h2⟩ := h
    simpa using repL_drop h2
theorem repL_set {e : Env} {l : List AV} {vs : List Value} (h : AV.repL e l vs) (i : Nat) {a : AV} {v : Value} (hr : a.rep e v) : AV.repL e (l.set i a) (vs.set i v) := by
  refine repL_of (by simp [repL_length h]) fun j b hb => ?_
  rw [List.getElem?_set] at hb
  split at hb
  · rename_i hij
    subst hij
    split at hb
    · rename_i hlt
      cases hb
      exact ⟨v, by rw [List.getElem?_set]; simp [repL_length h, hlt], hr⟩
    · cases hb
  · rename_i hij
    obtain ⟨u, hu, hru⟩ := repL_get h hb
    exact ⟨u, by rw [List.getElem?_set, if_neg hij]; exact hu, hru⟩

mutual
/-- a value without addresses -/
def AV.val? : AV → Option Value
  | .lit v => some v
  | .agg l => match AV.vals? l with | some vs => some (.agg ⟨vs⟩) | none => none
  | .tuple l => match AV.vals? l with | some vs => some (.tuple ⟨vs⟩) | none => none
  | .iface t x => match AV.val? x with | some v => some (.iface t v) | none => none
  | _ => none
def AV.vals? : List AV → Option (List Value)
  | [] => some []
  | a :: l => match AV.val? a, AV.vals? l with | some v, some vs => some (v :: vs) | _, _ => none
end
mutual
theorem val_rep {e : Env} : ∀ {a : AV} {u v : Value}, a.val? = some u → a.rep e v → v = u
  | .lit _, _, _, h, hr => by simp only [AV.val?] at h; cases h; simpa only [AV.rep] using hr
  | .agg l, _, _, h, hr => by
    simp only [AV.val?] at h
    split at h
    · rename_i vs hvs
      cases h
      simp only [AV.rep] at hr
      obtain ⟨us, rfl, hus⟩ := hr
      rw [vals_rep hvs hus]
    · cases h
  | .tuple l, _, _, h, hr => by
    simp only [AV.val?] at h
    split at h
    · rename_i vs hvs
      cases h
      simp only [AV.rep] at hr
      obtain ⟨us, rfl, hus⟩ := hr
      rw [vals_rep hvs hus]
    · cases h
  | .iface t x, _, _, h, hr => by
    simp only [AV.val?] at h
    split at h
    · rename_i v hv
      cases h
      simp only [AV.rep] at hr
      obtain ⟨u, rfl, hu⟩ := hr
      rw [val_rep hv hu]
    · cases h
  | .ptr .., _, _, h, _ => by simp [AV.val?] at h
  | .slice .., _, _, h, _ => by simp [AV.val?] at h
  | .func .., _, _, h, _ => by simp [AV.val?] at h
  | .map .., _, _, h, _ => by simp [AV.val?] at h
  | .yield .., _, _, h, _ => by simp [AV.val?] at h
  | .ival .., _, _, h, _ => by simp [AV.val?] at h
  | .unk, _, _, h, _ => by simp [AV.val?] at h
  | .same .., _, _, h, _ => by simp [AV.val?] at h
theorem vals_rep {e : Env} : ∀ {l : List AV} {us vs : List Value}, AV.vals? l = some us → AV.repL e l vs → vs = us
  | [], _, _, h, hr => by simp only [AV.vals?] at h; cases h; simpa only [AV.repL] using hr
  | _ :: _, _, _, h, hr => by
    simp only [AV.vals?] at h
    split at h
    · rename_i v vs hv hvs
      cases h
      simp only [AV.repL] at hr
      obtain ⟨x, xs, rfl, h1, h2⟩ := hr
      rw [val_rep hv h1, vals_rep hvs h2]
    · cases h
end
/-- the cells of a value -/
def AV.cells : AV → List AV
  | .agg l => l
  | .lit (.agg cs) => cs.toList.map .lit
  | a => [a]
theorem lits_rep {e : Env} : ∀ (vs : List Value), AV.repL e (vs.map .lit) vs
  | [] => by simp [AV.repL]
  | v :: vs => by simp only [List.map_cons, AV.repL]; exact ⟨v, vs, rfl, by simp [AV.rep], lits_rep vs⟩
theorem cells_rep {e : Env} {a : AV} {v : Value} (h : a.rep e v) : AV.repL e a.cells v.cells.toList := by
  have one : ∀ {b : AV} {x : Value}, b.rep e x → AV.repL e [b] [x] := fun hb => by simp only [AV.repL]; exact ⟨_, [], rfl, hb, rfl⟩
  cases a with
  | lit u =>
    have hu : v = u := by simpa only [AV.rep] using h
    subst hu
    cases v with
    | agg cs => exact lits_rep cs.toList
    | _ => exact one h
  | agg l => simp only [AV.rep] at h; obtain ⟨vs, rfl, h⟩ := h; exact h
  | ptr b o => have h' := h; simp only [AV.rep] at h; obtain ⟨_, _, _, rfl⟩ := h; exact one h'
  | slice b o n sz c x => have h' := h; simp only [AV.rep] at h; obtain ⟨_, _, _, _, _, rfl, _⟩ := h; exact one h'
  | tuple l => have h' := h; simp only [AV.rep] at h; obtain ⟨_, rfl, _⟩ := h; exact one h'
  | func f l m => have h' := h; simp only [AV.rep] at h; obtain ⟨_, _, rfl, _⟩ := h; exact one h'
  | map b => have h' := h; simp only [AV.rep] at h; obtain ⟨_, _, _, rfl⟩ := h; exact one h'
  | iface t x => have h' := h; simp only [AV.rep] at h; obtain ⟨_, rfl, _⟩ := h; exact one h'
  | yield b => have h' := h; simp only [AV.rep] at h; obtain ⟨_, _, _, rfl⟩ := h; exact one h'
  | ival k lo hi => have h' := h; simp only [AV.rep] at h; obtain ⟨_, rfl, _⟩ := h; exact one h'
  | unk => have h' := h; simp only [AV.rep] at h; cases v <;> first | exact one h' | cases h
  | same i k lo hi => have h' := h; simp only [AV.rep] at h; obtain ⟨_, _, _, rfl, _⟩ := h; exact one h'
/-- may it lie in one cell? -/
def AV.one : AV → Bool
  | .lit v => v.oneCell'
  | .agg _ | .tuple _ => false
  | _ => true
theorem one_rep {e : Env} {a : AV} {v : Value} (h : a.one = true) (hr : a.rep e v) : v.oneCell' = true := by
  cases a with
  | lit u => have hu : v = u := by simpa only [AV.rep] using hr
             subst hu; exact h
  | agg l => cases h
  | tuple l => cases h
  | ptr b o => simp only [AV.rep] at hr; obtain ⟨_, _, _, rfl⟩ := hr; rfl
  | slice b o n sz c x => simp only [AV.rep] at hr; obtain ⟨_, _, _, _, _, rfl, _⟩ := hr; rfl
  | func f l m => simp only [AV.rep] at hr; obtain ⟨_, _, rfl, _⟩ := hr; rfl
  | map b => simp only [AV.rep] at hr; obtain ⟨_, _, _, rfl⟩ := hr; rfl
  | iface t x => simp only [AV.rep] at hr; obtain ⟨_, rfl, _⟩ := hr; rfl
  | yield b => simp only [AV.rep] at hr; obtain ⟨_, _, _, rfl⟩ := hr; rfl
  | ival k lo hi => simp only [AV.rep] at hr; obtain ⟨_, rfl, _⟩ := hr; rfl
  | unk => simpa only [AV.rep] using hr
  | same i k lo hi => simp only [AV.rep] at hr; obtain ⟨_, _, _, rfl, _⟩ := hr; rfl

/-! ## memory -/
/-- how code is left -/
inductive AEx where
  | normal | ret | exit (id : Nat)
def AEx.toExit : AEx → Exit
  | .normal => .normal
  | .ret => .ret
  | .exit id => .exit id
def AEx.jump : AEx → Option Code
  | .normal => none
  | .ret => some .ret
  | .exit id => some (.exit id)
/-- a range over a function; st: 0 ready, 1 busy, 2 done -/
structure LoopA where
  tm : Tm
  sz : Nat
  ps : List Nat
  assign : Code
  body : Code
  st : Nat
  pend : AEx
def stA : Nat → LoopState
  | 0 => .ready
  | 1 => .busy
  | 2 => .done
  | _ => .exhausted
inductive Blk where
  /-- cells of variables; rw: they may be written -/
  | cells (l : List AV) (rw : Bool)
  | map (es : List (Value × AV)) (clock : Nat)
  | loop (r : LoopA)

/-- a map's entries -/
def entriesR (e : Env) : List (Value × AV) → List MapEntry → Prop
  | [], ms => ms = []
  | (k, a) :: es, ms => ∃ m ms', ms = m :: ms' ∧ m.key = k ∧ a.rep e m.val ∧ entriesR e es ms'

/-- since w the blocks of X have not changed -/
structure Base where
  w : World
  X : Nat → Prop
  lt : ∀ k, X k → k < w.heap.size
  /-- numbers of blocks that are kept for others -/
  R : Nat → Prop
structure Kept (b : Base) (w : World) : Prop where
  os : w.os = b.w.os
  tape : w.tape = b.w.tape
  output : w.output = b.w.output
  size : b.w.heap.size ≤ w.heap.size
  block : ∀ k, b.X k → w.heap[k]? = b.w.heap[k]?
/-- cells of a block of the world, none of them frozen; with rw nothing behind them is, either -/
def BoxW (w : World) (b : Nat) (rw : Bool) (l : List Value) : Prop := ∃ T fr, w.heap[b]? = some (.cells ⟨l⟩ T fr) ∧ (fr = (0, 0) ∨ (rw = false ∧ l.length ≤ fr.1))
theorem BoxW.lt {w : World} {b : Nat} {rw : Bool} {l : List Value} (h : BoxW w b rw l) : b < w.heap.size := by
  obtain ⟨T, fr, h, _⟩ := h; exact (Array.getElem?_eq_some_iff.1 h).1
theorem boxW {w : World} {b : Nat} {rw : Bool} {l : List Value} (h : Box w b l) : BoxW w b rw l := by
  obtain ⟨T, h, _⟩ := h; exact ⟨T, _, h, .inl rfl⟩
theorem BoxW.frozen {w : World} {b : Nat} {rw : Bool} {l : List Value} (h : BoxW w b rw l) {i : Nat} (hi : i < l.length) : w.frozen? ⟨b, i, none⟩ = false := by
  obtain ⟨T, fr, h, hf⟩ := h
  rcases hf with rfl | ⟨_, hf⟩
  · simp [World.frozen?, h]
  · simp [World.frozen?, h]; omega
theorem BoxW.set {w w' : World} {b i : Nat} {rw : Bool} {l : List Value} {v : Value} (h : BoxW w b rw l) (e : w' = w.setCell ⟨b, i, none⟩ v) : BoxW w' b rw (l.set i v) := by
  subst e
  obtain ⟨T, fr, h, hf⟩ := h
  exact ⟨T, fr, by rw [heap_setCell, if_pos rfl, h]; simp, by simpa using hf⟩
theorem BoxW.cell {w : World} {b : Nat} {rw : Bool} {l : List Value} (h : BoxW w b rw l) {i : Nat} {v : Value} (hv : l[i]? = some v) : w.cell? ⟨b, i, none⟩ = some v := by
  obtain ⟨T, fr, h, _⟩ := h
  simp [World.cell?, h, hv]
theorem BoxW.cells {w : World} {b : Nat} {rw : Bool} {l : List Value} (h : BoxW w b rw l) (i : Nat) {m : List Value} (hm : ∀ j (hj : j < m.length), l[i + j]? = some m[j]) : CellsAt w ⟨b, i, none⟩ m := by
  intro j hj
  rw [add_mk]
  exact h.cell (hm j hj)
/-- a loop's record -/
structure LoopR (e : Env) (r : LoopA) (R : Loop) : Prop where
  state : R.state = stA r.st
  pending : R.pending = r.pend.jump
  size : R.tmps.size = r.sz
  tmps : ∀ t av, r.tm.get t = some av → t < R.tmps.size ∧ av.rep e (R.tmps.getD t undef)
  params : R.params = ⟨r.ps⟩
  assign : R.assign = r.assign
  body : R.body = r.body
theorem LoopR.later {e e' : Env} {r : LoopA} {R : Loop} (h : LoopR e r R) (k : Later e e') : LoopR e' r R :=
  ⟨h.state, h.pending, h.size, fun t av ht => ⟨(h.tmps t av ht).1, rep_later k (h.tmps t av ht).2⟩, h.params, h.assign, h.body⟩
/-- a block of the machine is a block of the world -/
def BlkR (e : Env) (b0 : Base) (w : World) (b : Nat) : Blk → Prop
  | .cells l rw => ∃ B t vs rest, e b = some (B, t) ∧ BoxW w B rw (vs ++ rest) ∧ (vs ++ rest).length = t ∧ AV.repL e l vs ∧ ¬ b0.X B
  | .map es clock => ∃ B t ms, e b = some (B, t) ∧ w.heap[B]? = some (.map ⟨ms⟩ clock) ∧ entriesR e es ms ∧ ¬ b0.X B
  | .loop r => ∃ B t R, e b = some (B, t) ∧ w.heap[B]? = some (.loop R) ∧ LoopR e r R ∧ ¬ b0.X B

theorem entriesR_later {e e' : Env} (h : Later e e') : ∀ {es : List (Value × AV)} {ms : List MapEntry}, entriesR e es ms → entriesR e' es ms
  | [], _, hr => hr
  | (_, _) :: _, _, hr => by
    obtain ⟨m, ms', h1, h2, h3, h4⟩ := hr
    exact ⟨m, ms', h1, h2, rep_later h h3, entriesR_later h h4⟩
theorem BlkR.at {e : Env} {b0 : Base} {w : World} {b : Nat} {x : Blk} (h : BlkR e b0 w b x) : ∃ B t, e b = some (B, t) ∧ B < w.heap.size ∧ ¬ b0.X B := by
  cases x with
  | cells l rw => obtain ⟨B, t, vs, rest, h1, h2, _, _, h5⟩ := h; exact ⟨B, t, h1, h2.lt, h5⟩
  | map es c => obtain ⟨B, t, ms, h1, h2, _, h4⟩ := h; exact ⟨B, t, h1, (Array.getElem?_eq_some_iff.1 h2).1, h4⟩
  | loop r => obtain ⟨B, t, R, h1, h2, _, h4⟩ := h; exact ⟨B, t, h1, (Array.getElem?_eq_some_iff.1 h2).1, h4⟩
/-- the block stays as it is where its block of the world does -/
theorem BlkR.keep {e e' : Env} {b0 b1 : Base} {w w' : World} {b : Nat} {x : Blk} (h : BlkR e b0 w b x) (he : Later e e') (hX : ∀ B t, e b = some (B, t) → ¬ b0.X B → ¬ b1.X B) (hw : ∀ B t, e b = some (B, t) → w'.heap[B]? = w.heap[B]?) : BlkR e' b1 w' b x := by
  cases x with
  | cells l rw =>
    obtain ⟨B, t, vs, rest, h1, ⟨T, fr, h2, hf⟩, h3, h4, h5⟩ := h
    exact ⟨B, t, vs, rest, he _ _ h1, ⟨T, fr, (hw B t h1).trans h2, hf⟩, h3, repL_later he h4, hX B t h1 h5⟩
  | map es c =>
    obtain ⟨B, t, ms, h1, h2, h3, h4⟩ := h
    exact ⟨B, t, ms, he _ _ h1, (hw B t h1).trans h2, entriesR_later he h3, hX B t h1 h4⟩
  | loop r =>
    obtain ⟨B, t, R, h1, h2, h3, h4⟩ := h
    exact ⟨B, t, R, he _ _ h1, (hw B t h1).trans h2, h3.later he, hX B t h1 h4⟩

/-- what lies in the blocks -/
abbrev Mm : Type := Nat → Option Blk
/-- the machine's memory (blocks below n) in a world; no two blocks are one; what the base keeps is kept -/
structure MemR (b0 : Base) (e : Env) (M : Mm) (n : Nat) (w : World) : Prop where
  new : ∀ b, n ≤ b ∨ b0.R b → e b = none
  res : ∀ b, b0.R b → b < n
  blk : ∀ b x, M b = some x → BlkR e b0 w b x
  dif : ∀ b b' x x', b ≠ b' → M b = some x → M b' = some x' → ∀ B B' t t', e b = some (B, t) → e b' = some (B', t') → B ≠ B'
  kept : Kept b0 w

def base (w : World) : Base := ⟨w, fun k => k < w.heap.size, fun _ h => h, fun _ => False⟩
theorem MemR.start (w : World) : MemR (base w) (fun _ => none) (Tr.nil : Tr Blk).get 0 w := ⟨fun _ _ => rfl, fun _ h => h.elim, fun _ _ h => (by rw [Tr.get_nil] at h; cases h), fun _ _ _ _ _ h => (by rw [Tr.get_nil] at h; cases h), ⟨rfl, rfl, rfl, Nat.le_refl _, fun _ _ => rfl⟩⟩
theorem MemR.below {w w' : World} {e : Env} {M : Mm} {n : Nat} (h : MemR (base w) e M n w') : Below w.heap.size w w' := ⟨h.kept.os, h.kept.tape, h.kept.output, h.kept.size, h.kept.block⟩
theorem MemR.drew {b0 : Base} {w : World} {e : Env} {M : Mm} {n : Nat} (h : MemR b0 e M n w) (k : Nat) : MemR b0 e M n { w with drawn := k } :=
  ⟨h.new, h.res, fun b x hx => (h.blk b x hx).keep (Later.refl e) (fun _ _ _ h => h) fun _ _ _ => rfl, h.dif, ⟨h.kept.os, h.kept.tape, h.kept.output, h.kept.size, h.kept.block⟩⟩
theorem MemR.sub {b0 : Base} {w : World} {e : Env} {M M' : Mm} {n : Nat} (h : MemR b0 e M n w) (hs : ∀ j x, M' j = some x → M j = some x) : MemR b0 e M' n w :=
  ⟨h.new, h.res, fun b x hx => h.blk b x (hs b x hx), fun b b' x x' hb hx hx' => h.dif b b' x x' hb (hs b x hx) (hs b' x' hx'), h.kept⟩
theorem MemR.more {b0 : Base} {w : World} {e : Env} {M : Mm} {n n' : Nat} (h : MemR b0 e M n w) (hn : n ≤ n') : MemR b0 e M n' w :=
  ⟨fun b hb => h.new b (hb.imp (fun hb => Nat.le_trans hn hb) id), fun b hb => Nat.lt_of_lt_of_le (h.res b hb) hn, h.blk, h.dif, h.kept⟩
theorem MemR.same {b0 : Base} {w : World} {e : Env} {M M' : Mm} {n : Nat} (h : MemR b0 e M n w) (hs : ∀ j, M' j = M j) : MemR b0 e M' n w := h.sub fun j x hx => by rw [← hs]; exact hx
/-- a block more -/
theorem MemR.pushG {b0 : Base} {w w' : World} {e : Env} {M M' : Mm} {n n' i t : Nat} {x : Blk} (h : MemR b0 e M n w) (hE : w.grownBy w' none) (hi : e i = none) (hR : ¬ b0.R i) (hn : n ≤ n') (hin : i < n')
    (hM : ∀ j, M' j = if j = i then some x else M j) (hx : BlkR (e.put i (w.heap.size, t)) b0 w' i x) : MemR b0 (e.put i (w.heap.size, t)) M' n' w' := by
  have old : ∀ {c z C s}, c ≠ i → M' c = some z → (e.put i (w.heap.size, t)) c = some (C, s) → M c = some z ∧ e c = some (C, s) ∧ C < w.heap.size := by
    intro c z C s hc hz hce
    rw [hM, if_neg hc] at hz
    rw [put_ne hc] at hce
    obtain ⟨C', s', h1, h2, _⟩ := (h.blk c z hz).at
    rw [hce] at h1; cases h1
    exact ⟨hz, hce, h2⟩
  have new : ∀ {C s}, (e.put i (w.heap.size, t)) i = some (C, s) → C = w.heap.size := by
    intro C s hc
    rw [put_at] at hc; cases hc; rfl
  refine ⟨fun b hb => ?_, fun b hb => Nat.lt_of_lt_of_le (h.res b hb) hn, fun b y hy => ?_, fun b b' y y' hb hy hy' B B' s s' he he' => ?_, ⟨hE.os.trans h.kept.os, hE.tape.trans h.kept.tape, hE.output.trans h.kept.output, Nat.le_trans h.kept.size hE.size, fun k hk => ?_⟩⟩
  · have hbi : b ≠ i := by
      rintro rfl
      rcases hb with hb | hb
      · omega
      · exact hR hb
    rw [put_ne hbi]
    exact h.new b (hb.imp (fun hb => by omega) id)
  · rw [hM] at hy
    split at hy
    · rename_i hb; subst hb; cases hy; exact hx
    · have hb := h.blk b y hy
      refine hb.keep (Later.put hi _) (fun _ _ _ h => h) fun B s he => ?_
      obtain ⟨B', s', h1, h2, _⟩ := hb.at
      rw [he] at h1; cases h1
      exact hE.block B h2 (by simp)
  · by_cases hn : b = i
    · subst hn
      obtain ⟨_, _, h3⟩ := old (Ne.symm hb) hy' he'
      have := new he
      omega
    · obtain ⟨g1, g2, g3⟩ := old hn hy he
      by_cases hn' : b' = i
      · subst hn'
        have := new he'
        omega
      · obtain ⟨k1, k2, _⟩ := old hn' hy' he'
        exact h.dif b b' y y' hb g1 k1 B B' s s' g2 k2
  · rw [hE.block k (Nat.lt_of_lt_of_le (b0.lt k hk) h.kept.size) (by simp)]
    exact h.kept.block k hk
theorem MemR.push {b0 : Base} {w w' : World} {e : Env} {M M' : Mm} {n n' i t : Nat} {x : Blk} {ob : Obj} (h : MemR b0 e M n w) (hw : w' = w.alloc ob) (hi : e i = none) (hR : ¬ b0.R i) (hn : n ≤ n') (hin : i < n')
    (hM : ∀ j, M' j = if j = i then some x else M j) (hx : BlkR (e.put i (w.heap.size, t)) b0 w' i x) : MemR b0 (e.put i (w.heap.size, t)) M' n' w' :=
  h.pushG (hw ▸ World.grownBy_alloc w ob none) hi hR hn hin hM hx
/-- a block that becomes another -/
theorem kept_upd {b0 : Base} {w w' : World} {B : Nat} (h : Kept b0 w) (hB : ¬ b0.X B) (hw : w.grownBy w' (some B)) : Kept b0 w' :=
  ⟨hw.os.trans h.os, hw.tape.trans h.tape, hw.output.trans h.output, Nat.le_trans h.size hw.size, fun j hj => by
    rw [hw.block j (Nat.lt_of_lt_of_le (b0.lt j hj) h.size) (fun hh => by have := Option.some.inj hh; subst this; exact hB hj)]
    exact h.block j hj⟩
theorem MemR.upd {b0 : Base} {w w' : World} {e : Env} {M M' : Mm} {n b B t : Nat} {x y : Blk} (h : MemR b0 e M n w) (hx : M b = some x) (he : e b = some (B, t)) (hB : ¬ b0.X B)
    (hw : w.grownBy w' (some B)) (hM : ∀ j, M' j = if j = b then some y else M j) (hy : BlkR e b0 w' b y) : MemR b0 e M' n w' := by
  refine ⟨h.new, h.res, fun c z hz => ?_, fun c c' z z' hc hz hz' C C' s s' k k' => ?_, kept_upd h.kept hB hw⟩
  · rw [hM] at hz
    split at hz
    · rename_i hc; subst hc; cases hz; exact hy
    · rename_i hc
      refine (h.blk c z hz).keep (Later.refl e) (fun _ _ _ h => h) fun C s hC => ?_
      obtain ⟨C', s', h1, h2, _⟩ := (h.blk c z hz).at
      rw [hC] at h1; cases h1
      exact hw.block C h2 fun hh => h.dif c b z x hc hz hx C B s t hC he (Option.some.inj hh)
  · have : ∀ {d u}, M' d = some u → ∃ u', M d = some u' := by
      intro d u hd
      rw [hM] at hd
      split at hd
      · rename_i hdb; subst hdb; exact ⟨x, hx⟩
      · exact ⟨u, hd⟩
    obtain ⟨_, g⟩ := this hz
    obtain ⟨_, g'⟩ := this hz'
    exact h.dif c c' _ _ hc g g' C C' s s' k k'
/-- a block that is forgotten -/
theorem MemR.drop {b0 : Base} {w : World} {e : Env} {M M' : Mm} {n b : Nat} (h : MemR b0 e M n w) (hM : ∀ j, M' j = if j = b then none else M j) : MemR b0 e M' n w := h.sub fun d u hd => by
  rw [hM] at hd
  split at hd
  · cases hd
  · exact hd
/-- a block that lies on under another number -/
theorem MemR.move {b0 : Base} {w w' : World} {e : Env} {M M' : Mm} {n b B t : Nat} {x y : Blk} (h : MemR b0 e M n w) (hx : M b = some x) (he : e b = some (B, t)) (hB : ¬ b0.X B)
    (hw : w.grownBy w' (some B)) (hM : ∀ j, M' j = if j = n then some y else if j = b then none else M j) (hy : BlkR (e.put n (B, t)) b0 w' n y) : MemR b0 (e.put n (B, t)) M' (n + 1) w' := by
  have hen : e n = none := h.new n (.inl (Nat.le_refl _))
  have old : ∀ {c z}, c ≠ n → M' c = some z → c ≠ b ∧ M c = some z := by
    intro c z hc hz
    rw [hM, if_neg hc] at hz
    split at hz
    · cases hz
    · rename_i hcb; exact ⟨hcb, hz⟩
  refine ⟨fun c hc => ?_, fun b hb => Nat.lt_succ_of_lt (h.res b hb), fun c z hz => ?_, fun c c' z z' hc hz hz' C C' s s' k k' => ?_, kept_upd h.kept hB hw⟩
  · have hcn : c ≠ n := by
      rintro rfl
      rcases hc with hc | hc
      · omega
      · exact Nat.lt_irrefl _ (h.res c hc)
    rw [put_ne hcn]
    exact h.new c (hc.imp (fun hc => by omega) id)
  · by_cases hcn : c = n
    · subst hcn; rw [hM, if_pos rfl] at hz; cases hz; exact hy
    · obtain ⟨hcb, hz⟩ := old hcn hz
      refine (h.blk c z hz).keep (Later.put hen _) (fun _ _ _ h => h) fun C s hC => ?_
      obtain ⟨C', s', h1, h2, _⟩ := (h.blk c z hz).at
      rw [hC] at h1; cases h1
      exact hw.block C h2 fun hh => h.dif c b z x hcb hz hx C B s t hC he (Option.some.inj hh)
  · have new : ∀ {C s}, (e.put n (B, t)) n = some (C, s) → C = B := by
      intro C s hc
      rw [put_at] at hc; cases hc; rfl
    by_cases hn : c = n
    · subst hn
      obtain ⟨hcb, g⟩ := old (Ne.symm hc) hz'
      have h1 := new k
      subst h1
      rw [put_ne (Ne.symm hc)] at k'
      exact fun hh => h.dif c' b z' x hcb g hx C' C s' t k' he hh.symm
    · obtain ⟨hcb, g⟩ := old hn hz
      rw [put_ne hn] at k
      by_cases hn' : c' = n
      · subst hn'
        have h1 := new k'
        subst h1
        exact h.dif c b z x hcb g hx C C' s t k he
      · obtain ⟨_, g'⟩ := old hn' hz'
        rw [put_ne hn'] at k'
        exact h.dif c c' z z' hc g g' C C' s s' k k'
/-- what a part of the memory does leaves the rest as it is -/
theorem MemR.frame {b0 : Base} {w : World} {e : Env} {F f : Mm} {n : Nat} (h : MemR b0 e F n w) (P : Nat → Prop) (R : Nat → Prop) (hR0 : ∀ b, b0.R b → R b) (hR : ∀ b, R b → b < n ∧ e b = none) (hsub : ∀ j x, f j = some x → F j = some x ∧ ¬ P j) :
    ∃ b1 : Base, b1.R = R ∧ MemR b1 e f n w ∧ ∀ e' f' n' w', Later e e' → MemR b1 e' f' n' w' → ∀ G : Mm, (∀ j x, G j = some x → (P j ∧ F j = some x) ∨ (¬ P j ∧ f' j = some x)) → MemR b0 e' G n' w' := by
  let b1 : Base := ⟨w, fun k => b0.X k ∨ ∃ j t x, P j ∧ F j = some x ∧ e j = some (k, t), fun k hk => by
    rcases hk with hk | ⟨j, t, x, _, h2, h3⟩
    · exact Nat.lt_of_lt_of_le (b0.lt k hk) h.kept.size
    · obtain ⟨B, t', g1, g2, _⟩ := (h.blk j x h2).at
      rw [h3] at g1; cases g1
      exact g2, R⟩
  refine ⟨b1, rfl, ⟨fun b hb => hb.elim (fun hb => h.new b (.inl hb)) (fun hb => (hR b hb).2), fun b hb => (hR b hb).1, fun b x hx => ?_, fun b b' x x' hb hx hx' => h.dif b b' x x' hb (hsub b x hx).1 (hsub b' x' hx').1, ⟨rfl, rfl, rfl, Nat.le_refl _, fun _ _ => rfl⟩⟩, fun e' f' n' w' hl hf' G hG => ?_⟩
  · obtain ⟨g1, g2⟩ := hsub b x hx
    refine (h.blk b x g1).keep (Later.refl e) (fun B t hB hX hc => ?_) fun _ _ _ => rfl
    rcases hc with hc | ⟨j, t', x', k1, k2, k3⟩
    · exact hX hc
    · exact h.dif b j x x' (fun e => g2 (e ▸ k1)) g1 k2 B B t t' hB k3 rfl
  · have inX : ∀ {j x B t}, P j → F j = some x → e j = some (B, t) → b1.X B := fun {j x B t} h1 h2 h3 => .inr ⟨j, t, x, h1, h2, h3⟩
    refine ⟨fun b hb => hf'.new b (hb.imp id (hR0 b)), fun b hb => hf'.res b (hR0 b hb), fun b x hx => ?_, fun b b' x x' hb hx hx' B B' t t' he he' => ?_, ⟨hf'.kept.os.trans h.kept.os, hf'.kept.tape.trans h.kept.tape, hf'.kept.output.trans h.kept.output, Nat.le_trans h.kept.size hf'.kept.size, fun k hk => ?_⟩⟩
    · rcases hG b x hx with ⟨g1, g2⟩ | ⟨g1, g2⟩
      · exact (h.blk b x g2).keep hl (fun _ _ _ h => h) fun B t hB => hf'.kept.block B (inX g1 g2 hB)
      · exact (hf'.blk b x g2).keep (Later.refl e') (fun B t _ hX hc => hX (.inl hc)) fun _ _ _ => rfl
    · have at' : ∀ {c z C s}, P c → F c = some z → e' c = some (C, s) → b1.X C ∧ e c = some (C, s) := by
        intro c z C s h1 h2 h3
        obtain ⟨D, u, k1, _, _⟩ := (h.blk c z h2).at
        have := hl _ _ k1
        rw [h3] at this; cases this
        exact ⟨inX h1 h2 k1, k1⟩
      have off : ∀ {c z C s}, f' c = some z → e' c = some (C, s) → ¬ b1.X C := by
        intro c z C s h2 h3
        obtain ⟨D, u, k1, _, k3⟩ := (hf'.blk c z h2).at
        rw [h3] at k1; cases k1
        exact k3
      rcases hG b x hx with ⟨g1, g2⟩ | ⟨g1, g2⟩ <;> rcases hG b' x' hx' with ⟨k1, k2⟩ | ⟨k1, k2⟩
      · exact h.dif b b' x x' hb g2 k2 B B' t t' (at' g1 g2 he).2 (at' k1 k2 he').2
      · exact fun hh => off k2 he' (hh ▸ (at' g1 g2 he).1)
      · exact fun hh => off g2 he (hh ▸ (at' k1 k2 he').1)
      · exact hf'.dif b b' x x' hb g2 k2 B B' t t' he he'
    · rw [hf'.kept.block k (.inl hk)]; exact h.kept.block k hk
end Go.Am
