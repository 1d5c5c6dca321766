/- The conditions of Go code: a library of this claim. -/
import Derived.Test.YtfcemnnlmlggoaaGreatVcB
namespace Go.Vc

theorem opVc_run {P : Program} {ρ : Operand → Value} {o : Oper} {next : Value → World → Prop} {w : World} (h : opVc P ρ o next w) : After P next ((execOp ρ o).run P w) := by
  unfold opVc at h
  split at h
  · rename_i p hp
    obtain ⟨v, h1, _, h2⟩ := pureOp_run hp h
    rw [h2 w]; exact h1
  · exact effVc_run h

theorem after_upon {P : Program} {o : Oper} {a : Act} {next : Act → World → Prop} {Q : Exit → Act → World → Prop} {r : Result Next}
    (h : After P (fun v w => next (a.put o.dst v) w) r) : o.upon P a next Q r := by
  cases r with
  | ok x w =>
    cases x with
    | value v => exact h
    | skip => exact h
    | enter f args =>
      refine Calls.mono (h : Calls P f args w _) fun e w' h => ?_
      cases e with
      | returned v => exact h
      | panicked c => exact (h : False).elim
      | outgrown => exact (h : False).elim
    | _ => exact (h : False).elim
  | halt x w => exact (h : False).elim

theorem after_mono {P : Program} {next next' : Value → World → Prop} {r : Result Next} (h : After P next r) (hk : ∀ v w, next v w → next' v w) : After P next' r := by
  cases r with
  | ok x w =>
    cases x with
    | value v => exact hk _ _ h
    | skip => exact hk _ _ h
    | enter f args =>
      refine Calls.mono (h : Calls P f args w _) fun e w' h => ?_
      cases e with
      | returned v => exact hk _ _ h
      | panicked c => exact h
      | outgrown => exact h
    | _ => exact h
  | halt x w => exact h

theorem opVc_wp {P : Program} {o : Oper} {a : Act} {w : World} {next : Act → World → Prop} {Q : Exit → Act → World → Prop}
    (h : opVc P a.eval o (fun v w => next (a.put o.dst v) w) w) : o.wp P a w next Q := after_upon (opVc_run h)

/-- some operation of the region is guarded by this one -/
def isGuard (ops : List Oper) (i : Nat) : Bool := ops.any fun o => match o.guard with | some (j, _) => j == i | none => false

/-- a guard's value is told apart at once -/
def parted (b : Bool) (next : Value → World → Prop) (v : Value) (w : World) : Prop :=
  match b, v with
  | true, .bool c => cond c (next (.bool true) w) (next (.bool false) w)
  | _, v => next v w

theorem parted_iff (b : Bool) (next : Value → World → Prop) (v : Value) (w : World) : parted b next v w ↔ next v w := by
  unfold parted
  split
  · rename_i c; cases c <;> exact Iff.rfl
  · exact Iff.rfl

/-- the type of the extract of a component -/
def extTy (ops : List Oper) (d i : Nat) : Nat :=
  match ops.find? fun o => match o.op with | .extract (.tmp t) j => t == d && j == i | _ => false with
  | some o => o.type
  | none => 0

def withEnt (ops : List Oper) (o : Oper) : Oper :=
  match o.op, o.dst with
  | .entry _, some d => { o with type := extTy ops d 0 * 100000 + extTy ops d 1 }
  | _, _ => o

theorem withEnt_dst (ops : List Oper) (o : Oper) : (withEnt ops o).dst = o.dst := by
  unfold withEnt; split <;> rfl

theorem withEnt_exec (ops : List Oper) (o : Oper) (ρ : Operand → Value) : execOp ρ (withEnt ops o) = execOp ρ o := by
  unfold withEnt
  split
  · rename_i h1 _; simp only [execOp, h1]
  · rfl

theorem withEnt_load (ops : List Oper) (o : Oper) (t : TypeId) (x : Operand) (h : o.op = .load t x) : withEnt ops o = o := by
  unfold withEnt; rw [h]

theorem withEnt_pure (P : Program) (ρ : Operand → Value) (ops : List Oper) (o : Oper) : pureOp P ρ (withEnt ops o) = pureOp P ρ o := by
  unfold withEnt
  split
  · rename_i h1 _; simp only [pureOp, h1]
  · rfl

/-- operations one behind the other -/
def listVc (P : Program) (ops : Array Oper) (Q : Act → World → Prop) : List Oper → Nat → Act → World → Prop
  | [], _, a, w => Q a w
  | o :: rest, i, a, w =>
    cond (Region.wanted o (yielded ops a.tmps))
      (opVc P a.eval (withEnt ops.toList o) (parted (isGuard ops.toList i) fun v w' => listVc P ops Q rest (i + 1) (a.put o.dst v) w') w)
      (listVc P ops Q rest (i + 1) (a.put o.dst undef) w)

theorem effVc_mono {P : Program} {ρ : Operand → Value} {o : Oper} {next next' : Value → World → Prop} {w : World} (h : effVc P ρ o next w) (hk : ∀ v w, next v w → next' v w) : effVc P ρ o next' w := by
  have sem : ∀ {α : Type} {s : Sem α} {K K' : α → World → Prop}, SemOk P s K w → (∀ v w, K v w → K' v w) → SemOk P s K' w := fun ⟨v, w', h1, h2⟩ hk => ⟨v, w', h1, hk _ _ h2⟩
  have cal : ∀ {g : FuncId} {args : Array Value} {t : TypeId}, Calls P g args w (Ret fun v w' => typedV P t v (next · w')) → Calls P g args w (Ret fun v w' => typedV P t v (next' · w')) := by
    intro g args t h
    refine h.mono fun e w' h => ?_
    cases e with
    | returned v => have h' : typedV P t v (next · w') := h; exact typedV_mono h' fun v h => hk _ _ h
    | panicked c => exact h
    | outgrown => exact h
  have swp : ∀ {s : Sem Next}, Swp P s (onNext next) w → Swp P s (onNext next') w := by
    intro s h
    refine Swp_mono h fun v w h => ?_
    cases v <;> first | exact hk _ _ h | exact h
  obtain ⟨dst, op, type, pos, after, guard⟩ := o
  cases op <;> simp only [effVc] at h ⊢
  case load t x =>
    split at h
    · rename_i q _ _ _
      obtain ⟨a, rfl⟩ : ∃ a, q = some a := by cases q with | none => exact h.elim | some a => exact ⟨a, rfl⟩
      simp only [ptrOr] at h ⊢
      split at h
      · exact CTy.ex_mono h fun v h => ⟨h.1, hk _ _ h.2⟩
      · revert h
        generalize (List.length _ == sizeP P t) = b
        intro h
        cases b
        · exact h
        · exact exCells_mono h fun l h => ⟨h.1, hk _ _ h.2⟩
    · exact h
  case store t x v =>
    split at h
    · rename_i q _
      obtain ⟨a, rfl⟩ : ∃ a, q = some a := by cases q with | none => exact h.elim | some a => exact ⟨a, rfl⟩
      simp only [ptrOr] at h ⊢
      split at h
      · revert h
        generalize (1 == sizeP P t) = b
        intro h
        cases b
        · exact h
        · exact storeOk_mono h fun h => ⟨h.1, fun w' hw => hk _ _ (h.2 w' hw)⟩
      · split at h
        · revert h
          generalize (List.length _ == sizeP P t) = b
          intro h
          cases b
          · exact h
          · exact storeOk_mono h fun h => ⟨h.1, fun w' hw => hk _ _ (h.2 w' hw)⟩
        · exact h
    · exact h
  case call c =>
    obtain ⟨callee, args, argTypes⟩ := c
    cases callee with
    | value f =>
      simp only [callV] at h ⊢
      split at h
      · revert h
        generalize callOk P _ = b
        intro h
        cases b
        · obtain ⟨v, w', h1, h2⟩ := h; exact ⟨v, w', h1, typedV_mono h2 fun v h => hk _ _ h⟩
        · exact cal h
      · exact h
    | builtin b =>
      cases b <;> simp only at h ⊢ <;> first
        | exact h
        | exact sem h fun v w h => typedV_mono h fun v h => hk _ _ h
        | exact sem h fun v w h => hk _ _ h
    | invoke r m =>
      simp only at h ⊢
      split at h
      · split at h
        · revert h
          generalize callOk P _ = b
          intro h
          cases b
          · exact h
          · exact cal h
        · exact h
      · exact h
  all_goals first
    | exact h
    | exact swp h
    | exact sem h fun v w h => typedV_mono h fun v h => hk _ _ h
    | exact sem h fun v w h => nextV_mono h fun v h => hk _ _ h
    | exact sem h fun v w h => entryV_mono h fun v h => hk _ _ h
    | exact sem h fun v w h => hk _ _ h
    | exact sem h fun v w ⟨a, h1, h2⟩ => ⟨a, h1, hk _ _ h2⟩

theorem opVc_mono {P : Program} {ρ : Operand → Value} {o : Oper} {next next' : Value → World → Prop} {w : World} (h : opVc P ρ o next w) (hk : ∀ v w, next v w → next' v w) : opVc P ρ o next' w := by
  unfold opVc at h ⊢
  split at h
  · exact Pur.then_mono h fun v h => hk _ _ h
  · exact effVc_mono h hk

theorem listVc_wp {P : Program} {ops : Array Oper} {Q : Exit → Act → World → Prop} : ∀ (l : List Oper) (i : Nat) (a : Act) (w : World),
    listVc P ops (Q .normal) l i a w → wpList P ops Q l a w := by
  intro l
  induction l with
  | nil => intro i a w h; exact h
  | cons o rest ih =>
    intro i a w h
    simp only [listVc] at h
    simp only [wpList]
    cases hw : Region.wanted o (yielded ops a.tmps) with
    | true =>
      rw [hw] at h
      simp only [if_true]
      refine .inl (after_upon ?_)
      have h1 := opVc_run (opVc_mono h fun v w' h => (parted_iff _ _ _ _).1 h)
      rw [withEnt_exec] at h1
      refine after_mono h1 fun v w' h => ih _ _ _ h
    | false =>
      rw [hw] at h
      simp only [Bool.false_eq_true, if_false]
      exact ih _ _ _ h

theorem region_wp {P : Program} {id : Nat} {ops : Array Oper} {Q : Exit → Act → World → Prop} {a : Act} {w : World}
    (h : listVc P ops (Q .normal) ops.toList 0 a w) : (Code.region id ops false).wp P Q a w := by
  refine wp_region ?_
  have := listVc_wp _ _ _ _ h
  have e := wpOps_eq_wpList (P := P) (ops := ops) (Q := Q) ops.toList 0 (fun j => by simp)
  rw [← e] at this
  rw [List.range_eq_range']
  simpa using this
end Go.Vc
