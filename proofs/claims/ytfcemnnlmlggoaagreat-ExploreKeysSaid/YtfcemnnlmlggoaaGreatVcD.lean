/- The conditions of Go code: a library of this claim. -/
import Derived.OrdersHeld
import Derived.Test.YtfcemnnlmlggoaaGreatVcC
import Derived.Deep.Quiet
namespace Go.Vc

def isNilConst : Operand → Bool
  | .const (.pointer none) => true
  | _ => false

/-- a comparison that looks at no memory -/
def plainCmp (P : Program) (t : TypeId) (x y : Operand) : Bool :=
  match P.underlying t with
  | some (.array _ _) => false
  | some (.interface _) => false
  | some (.struct fs) => fs.toList.all fun f => !(f.name == "_") && match P.underlying f.type with | some (.int _) => true | some .bool => true | some .string => true | _ => false
  | some (.pointer _) => isNilConst x || isNilConst y
  | _ => true

/-- an array's element at a place that is not told -/
def arrVar (P : Program) (t : TypeId) (i : Operand) : Bool := match P.underlying t with
  | some (.array _ e) => !(isConstOp i || isFuncTy P e)
  | _ => false
/-- operations that look at memory and leave the world alone -/
def calmOp (P : Program) (o : Oper) : Bool :=
  match o.op with
  | .binOp _ t x y _ => plainCmp P t x y
  | .index t _ i => !arrVar P t i
  | .move _ | .assign _ | .nilCheck _ | .indexAddr .. | .slice .. | .pick .. | .makeFunc .. | .unOp .. | .makeInterface .. | .fieldAddr .. | .field .. | .extract .. | .build .. => true
  | .load t _ => (P.underlying t).isSome
  | .call { callee := .builtin b, .. } => match b with | .len | .cap | .min | .max => true | _ => false
  | _ => false

def calmAll (P : Program) (l : List Oper) : Bool := l.all (calmOp P)

/-- no operation but pure ones and loads: whatever the order -/
theorem opVc_calm {P : Program} {ρ : Operand → Value} {o : Oper} {next : Value → World → Prop} {w : World} (hp : (pureOp P ρ o).isSome = true ∨ ∃ t x, o.op = .load t x) (h : opVc P ρ o next w) :
    ∃ v, next v w ∧ (execOp ρ o).run P w = .ok (.value v) w := by
  unfold opVc at h
  split at h
  · rename_i p hpp
    obtain ⟨v, h1, _, h2⟩ := pureOp_run hpp h
    exact ⟨v, h1, h2 w⟩
  · rename_i hn
    rcases hp with hp | ⟨t, x, hl⟩
    · rw [hn] at hp; cases hp
    · obtain ⟨dst, op, type, pos, after, guard⟩ := o
      simp only at hl
      subst hl
      simp only [effVc] at h
      split at h
      · rename_i q d ha hd
        obtain ⟨a, rfl⟩ : ∃ a, q = some a := by cases q with | none => exact h.elim | some a => exact ⟨a, rfl⟩
        obtain ⟨v, h1, h2⟩ := load_run h (by rw [hd]; simp)
        exact ⟨v, h2, by simp only [execOp, Instr.loadAt, ha, Instr.sureAddr, Sem.run_bind, Sem.run_pure, Result.andThen_ok, h1]⟩
      · exact h.elim

/-- one behind the other, each of them pure or a load -/
def calmVc (P : Program) (ops : Array Oper) (Q : Act → World → Prop) : List Oper → Nat → Act → World → Prop
  | [], _, a, w => Q a w
  | o :: rest, i, a, w =>
    cond (Region.wanted o (yielded ops a.tmps))
      (match pureOp P a.eval o with
        | some p => p.then fun v => parted (isGuard ops.toList i) (fun v w' => calmVc P ops Q rest (i + 1) (a.put o.dst v) w') v w
        | none => match o.op with
          | .load _ _ => effVc P a.eval o (parted (isGuard ops.toList i) fun v w' => calmVc P ops Q rest (i + 1) (a.put o.dst v) w') w
          | _ => False)
      (calmVc P ops Q rest (i + 1) (a.put o.dst undef) w)

theorem calmVc_quiet {P : Program} {ops : Array Oper} {Q : Act → World → Prop} {w : World} : ∀ (l : List Oper) (i : Nat) (a : Act),
    calmVc P ops Q l i a w → wpQuiet P ops (fun w' => w' = w) (fun a' => ∀ w', w' = w → Q a' w') l a := by
  intro l
  induction l with
  | nil => intro i a h w' hw; rw [hw]; exact h
  | cons o rest ih =>
    intro i a h
    simp only [calmVc] at h
    simp only [wpQuiet]
    cases hw : Region.wanted o (yielded ops a.tmps) with
    | false =>
      rw [hw] at h
      simp only [Bool.false_eq_true, if_false]
      exact ih _ _ h
    | true =>
      rw [hw] at h
      simp only [if_true]
      have fin : ∀ v, parted (isGuard ops.toList i) (fun v w' => calmVc P ops Q rest (i + 1) (a.put o.dst v) w') v w → (execOp a.eval o).run P w = .ok (.value v) w →
          o.quiet P a (fun w' => w' = w) (wpQuiet P ops (fun w' => w' = w) (fun a' => ∀ w', w' = w → Q a' w') rest) := by
        intro v h1 h2
        refine ⟨v, fun w' hw' => ?_, ih _ _ ((parted_iff _ _ _ _).1 h1)⟩
        subst hw'
        unfold Oper.quietAt
        rw [h2]
        exact ⟨rfl, rfl⟩
      simp only [cond_true] at h
      split at h
      · rename_i p hp
        obtain ⟨v, h1, _, h2⟩ := pureOp_run hp h
        exact fin v h1 (h2 w)
      · rename_i hn
        split at h
        · rename_i t x hl
          have hop : opVc P a.eval o (parted (isGuard ops.toList i) fun v w' => calmVc P ops Q rest (i + 1) (a.put o.dst v) w') w := by
            unfold opVc; rw [hn]; exact h
          obtain ⟨v, h1, h2⟩ := opVc_calm (.inr ⟨t, x, hl⟩) hop
          exact fin v h1 h2
        · exact h.elim

/-! ## Guarded operations that look at no memory: their values, without parting the ways -/
def mergeV (c : Bool) : Value → Value → Option Value
  | .bool x, .bool y => some (.bool (cond c x y))
  | .int k x, .int k' y => cond (decide (k = k')) (some (.int k (cond c x y))) none
  | _, _ => none

def mergeL (c : Bool) : List Value → List Value → Option (List Value)
  | [], [] => some []
  | x :: xs, y :: ys => match mergeV c x y, mergeL c xs ys with
    | some v, some l => some (v :: l)
    | _, _ => none
  | _, _ => none

theorem mergeV_true {x y v : Value} (h : mergeV true x y = some v) : v = x := by
  unfold mergeV at h
  split at h
  · cases h; rfl
  · rename_i k a k' b
    cases hk : decide (k = k') with
    | true => rw [hk] at h; cases h; rfl
    | false => rw [hk] at h; cases h
  · cases h

theorem mergeV_false {x y v : Value} (h : mergeV false x y = some v) : v = y := by
  unfold mergeV at h
  split at h
  · cases h; rfl
  · rename_i k a k' b
    cases hk : decide (k = k') with
    | true => rw [hk] at h; cases h; have := of_decide_eq_true hk; subst this; rfl
    | false => rw [hk] at h; cases h
  · cases h

theorem mergeL_true : ∀ {x y v : List Value}, mergeL true x y = some v → v = x
  | [], [], _, h => by cases h; rfl
  | x :: xs, y :: ys, v, h => by
    simp only [mergeL] at h
    split at h
    · rename_i u l h1 h2
      cases h
      rw [mergeV_true h1, mergeL_true h2]
    · cases h
  | [], _ :: _, _, h => by cases h
  | _ :: _, [], _, h => by cases h

theorem mergeL_false : ∀ {x y v : List Value}, mergeL false x y = some v → v = y
  | [], [], _, h => by cases h; rfl
  | x :: xs, y :: ys, v, h => by
    simp only [mergeL] at h
    split at h
    · rename_i u l h1 h2
      cases h
      rw [mergeV_false h1, mergeL_false h2]
    · cases h
  | [], _ :: _, _, h => by cases h
  | _ :: _, [], _, h => by cases h

def valsAt (a : Act) (live : List Nat) : List Value := live.map fun i => a.tmps.getD i undef

def under (c : Bool) (b : Bool) : List Prop → List Prop
  | [] => []
  | p :: l => (c = b → p) :: under c b l

def withAll : List Prop → Prop → Prop
  | [], K => K
  | p :: l, K => p ∧ withAll l K

theorem withAll_elim : ∀ {l : List Prop} {K : Prop}, withAll l K → (∀ p ∈ l, p) ∧ K
  | [], _, h => ⟨fun _ h => (by cases h), h⟩
  | p :: l, _, h => by
    obtain ⟨h1, h2⟩ := withAll_elim h.2
    refine ⟨fun q hq => ?_, h2⟩
    cases hq with
    | head => exact h.1
    | tail _ hq => exact h1 q hq

theorem withAll_mono : ∀ {l : List Prop} {K K' : Prop}, withAll l K → (K → K') → withAll l K'
  | [], _, _, h, hk => hk h
  | _ :: _, _, _, h, hk => ⟨h.1, withAll_mono h.2 hk⟩

theorem under_mem {c b : Bool} (hc : c = b) : ∀ {l : List Prop}, (∀ p ∈ under c b l, p) → ∀ p ∈ l, p
  | [], _, _, h => by cases h
  | p :: l, h, q, hq => by
    cases hq with
    | head => exact h (c = b → p) (by simp [under]) hc
    | tail _ hq => exact under_mem hc (fun r hr => h r (by simp [under, hr])) q hq

/-- the values of some slots behind operations that look at no memory, and what is owed -/
def merged (P : Program) (ops : Array Oper) (live : List Nat) : List Oper → Nat → Act → Option (List Prop × List Value)
  | [], _, a => some ([], valsAt a live)
  | o :: rest, i, a =>
    cond (Region.wanted o (yielded ops a.tmps))
      (match pureOp P a.eval o with
        | some (.val v) => cond (isGuard ops.toList i)
          (match v with
            | .bool c => match merged P ops live rest (i + 1) (a.put o.dst (.bool true)), merged P ops live rest (i + 1) (a.put o.dst (.bool false)) with
              | some (p1, l1), some (p2, l2) => match mergeL c l1 l2 with
                | some l => some (under c true p1 ++ under c false p2, l)
                | none => none
              | _, _ => none
            | _ => none)
          (merged P ops live rest (i + 1) (a.put o.dst v))
        | some (.when q v) => cond (isGuard ops.toList i) none
          (match merged P ops live rest (i + 1) (a.put o.dst v) with
            | some (p, l) => some (q :: p, l)
            | none => none)
        | _ => none)
      (merged P ops live rest (i + 1) (a.put o.dst undef))

theorem merged_calm {P : Program} {ops : Array Oper} {live : List Nat} {w : World} : ∀ (l : List Oper) (i : Nat) (a : Act) {ps : List Prop} {vs : List Value},
    merged P ops live l i a = some (ps, vs) → (∀ p ∈ ps, p) → calmVc P ops (fun a' w' => w' = w ∧ valsAt a' live = vs) l i a w := by
  intro l
  induction l with
  | nil => intro i a ps vs h _; simp only [merged] at h; cases h; exact ⟨rfl, rfl⟩
  | cons o rest ih =>
    intro i a ps vs h hp
    simp only [merged] at h
    simp only [calmVc]
    cases hw : Region.wanted o (yielded ops a.tmps) with
    | false => rw [hw] at h; exact ih _ _ h hp
    | true =>
      rw [hw] at h
      simp only [cond_true] at h ⊢
      split at h
      · rename_i v hv
        simp only [hv, Pur.then]
        rw [parted_iff]
        cases hg : isGuard ops.toList i with
        | false => rw [hg] at h; exact ih _ _ h hp
        | true =>
          rw [hg] at h
          simp only [cond_true] at h
          split at h
          · rename_i c
            split at h
            · rename_i p1 l1 p2 l2 h1 h2
              split at h
              · rename_i lm hm
                cases h
                cases c with
                | true => rw [mergeL_true hm]; exact ih _ _ h1 (under_mem rfl fun p hp' => hp p (List.mem_append_left _ hp'))
                | false => rw [mergeL_false hm]; exact ih _ _ h2 (under_mem rfl fun p hp' => hp p (List.mem_append_right _ hp'))
              · cases h
            · cases h
          · cases h
      · rename_i q v hv
        simp only [hv, Pur.then]
        rw [parted_iff]
        cases hg : isGuard ops.toList i with
        | true => rw [hg] at h; cases h
        | false =>
          rw [hg] at h
          simp only [cond_false] at h
          split at h
          · rename_i p l1 h1
            cases h
            exact ⟨hp q (by simp), ih _ _ h1 fun r hr => hp r (by simp [hr])⟩
          · cases h
      · cases h

theorem calmVc_list {P : Program} {ops : Array Oper} {Q : Act → World → Prop} : ∀ (l : List Oper) (i : Nat) (a : Act) (w : World), calmVc P ops Q l i a w → listVc P ops Q l i a w := by
  intro l
  induction l with
  | nil => intro i a w h; exact h
  | cons o rest ih =>
    intro i a w h
    simp only [calmVc] at h
    simp only [listVc]
    cases hw : Region.wanted o (yielded ops a.tmps) with
    | false => rw [hw] at h; exact ih _ _ _ h
    | true =>
      rw [hw] at h
      simp only [cond_true] at h ⊢
      unfold opVc
      rw [withEnt_pure]
      split at h
      · rename_i p hp
        rw [hp]
        refine Pur.then_mono h fun v h => ?_
        rw [parted_iff] at h ⊢
        exact ih _ _ _ h
      · rename_i hp
        rw [hp]
        split at h
        · rename_i t x hl
          rw [withEnt_load _ _ t x hl]
          refine effVc_mono h fun v w' h => ?_
          rw [parted_iff] at h ⊢
          exact ih _ _ _ h
        · exact h.elim

def allOf : List Nat → (Nat → Prop) → Prop
  | [], _ => True
  | [i], F => F i
  | i :: l, F => F i ∧ allOf l F

theorem allOf_mem : ∀ {l : List Nat} {F : Nat → Prop}, allOf l F → ∀ i ∈ l, F i
  | [], _, _, _, h => by cases h
  | [j], F, h, i, hi => by simp at hi; subst hi; exact h
  | j :: k :: l, F, h, i, hi => by
    cases hi with
    | head => exact h.1
    | tail _ hi => exact allOf_mem h.2 i hi

def isPureOp (P : Program) (o : Oper) : Bool :=
  match o.op with
  | .binOp _ t x y _ => plainCmp P t x y
  | .index t _ i => !arrVar P t i
  | .move _ | .assign _ | .nilCheck _ | .indexAddr .. | .slice .. | .pick .. | .makeFunc .. | .unOp .. | .makeInterface .. | .fieldAddr .. | .field .. | .extract .. | .build .. => true
  | .call { callee := .builtin b, .. } => match b with | .len | .cap | .min | .max => true | _ => false
  | _ => false

/-- the first operation that is ready, looks at no memory and may come ahead of all others -/
def firstFree (P : Program) (ops : Array Oper) (listed : Array Bool) : Option Nat :=
  (Region.ready .any ops listed).find? fun i => (match ops[i]? with | some o => isPureOp P o | none => false) && Region.free .any ops listed i

/-- whatever the order; what looks at no memory comes first -/
def anyVc (P : Program) (ops : Array Oper) (Q : Act → World → Prop) : Nat → Array Bool → Act → World → Prop
  | 0, listed, a, w => cond (Region.ready .any ops listed).isEmpty (Q a w) False
  | n + 1, listed, a, w =>
    match firstFree P ops listed with
    | some i => match ops[i]? with
      | some o => cond (Region.wanted o (yielded ops a.tmps))
          (match pureOp P a.eval o with
            | some p => p.then fun v => parted (isGuard ops.toList i) (fun v w' => anyVc P ops Q n (listed.setIfInBounds i true) (a.put o.dst v) w') v w
            | none => False)
          (anyVc P ops Q n (listed.setIfInBounds i true) (a.put o.dst undef) w)
      | none => False
    | none => match Region.ready .any ops listed with
      | [] => Q a w
      | l => allOf l fun i => match ops[i]? with
        | some o => cond (Region.wanted o (yielded ops a.tmps))
            (opVc P a.eval o (parted (isGuard ops.toList i) fun v w' => anyVc P ops Q n (listed.setIfInBounds i true) (a.put o.dst v) w') w)
            (anyVc P ops Q n (listed.setIfInBounds i true) (a.put o.dst undef) w)
        | none => False

def onlyNormal (Q : Act → World → Prop) : Exit → Act → World → Prop
  | .normal, a, w => Q a w
  | _, _, _ => False

theorem anyVc_wp {P : Program} {ops : Array Oper} {Q : Act → World → Prop} (hsel : Region.noSelect ops = true) : ∀ (n : Nat) (listed : Array Bool) (a : Act) (w : World),
    anyVc P ops Q n listed a w → wpAny P .any ops (onlyNormal Q) n listed a w := by
  intro n
  induction n with
  | zero =>
    intro listed a w h
    simp only [anyVc] at h
    cases hr : Region.ready .any ops listed with
    | nil => rw [hr] at h; exact ⟨hr, h⟩
    | cons x xs => rw [hr] at h; exact h.elim
  | succ n ih =>
    intro listed a w h
    simp only [anyVc] at h
    split at h
    · rename_i i hf
      have hmem := List.mem_of_find?_eq_some hf
      have hprop := List.find?_some hf
      simp only [Bool.and_eq_true] at hprop
      split at h
      · rename_i o ho
        have hfree := Region.free_spec (md := .any) ho hprop.2
        have fin : ∀ v, Yields P ops o v a → anyVc P ops Q n (listed.setIfInBounds i true) (a.put o.dst v) w → wpAny P .any ops (onlyNormal Q) (n + 1) listed a w := by
          intro v hy hh
          exact wpAny_first ho (fun j o cs b => Region.noSelect_spec hsel j o cs b) (fun c a w h => h) n listed a w hfree hmem hy (ih _ _ _ hh)
        cases hw : Region.wanted o (yielded ops a.tmps) with
        | false => rw [hw] at h; exact fin undef (.inr ⟨hw, rfl⟩) h
        | true =>
          rw [hw] at h
          simp only [cond_true] at h
          split at h
          · rename_i p hp
            obtain ⟨v, h1, _, h2⟩ := pureOp_run hp h
            exact fin v (.inl ⟨hw, h2⟩) ((parted_iff _ _ _ _).1 h1)
          · exact h.elim
      · exact h.elim
    · split at h
      · rename_i hr
        refine ⟨fun _ => h, fun i hi => ?_⟩
        rw [hr] at hi; cases hi
      · rename_i hne
        refine ⟨fun hr => absurd hr hne, fun i hi => ?_⟩
        have hi' := allOf_mem h i hi
        unfold wpOp
        split at hi'
        · rename_i o ho
          simp only [ho]
          cases hw : Region.wanted o (yielded ops a.tmps) with
          | false => rw [hw] at hi'; simp only [Bool.false_eq_true, if_false]; exact ih _ _ _ hi'
          | true =>
            rw [hw] at hi'
            simp only [if_true]
            exact .inl (opVc_wp (opVc_mono hi' fun v w' h => ih _ _ _ ((parted_iff _ _ _ _).1 h)))
        · exact hi'.elim

/-! loads first: while a condition on the world holds, which the prover chooses -/
def isLoadOp (o : Oper) : Bool := match o.op with | .load .. => true | _ => false
def firstLoad (ops : Array Oper) (listed : Array Bool) : Option Nat :=
  (Region.ready .any ops listed).find? fun i => (match ops[i]? with | some o => isLoadOp o | none => false) && Region.free .any ops listed i
/-- what is loaded in every world that meets S -/
def loadIf (P : Program) (ρ : Operand → Value) (o : Oper) (S : World → Prop) (next : Value → Prop) : Prop :=
  match o.op with
  | .load t x => match ρ x, P.underlying t with
    | .pointer p, some _ => ptrOr p fun a => match vtyOf P t with
      | .one c => c.ex fun v => (∀ w, S w → w.cell? a = some v) ∧ next v
      | .agg cs => cond (cs.length == sizeP P t) (exCells cs fun l => (∀ w, S w → CellsAt w a l) ∧ next (.agg ⟨l⟩)) False
    | _, _ => False
  | _ => False
theorem loadIf_run {P : Program} {ρ : Operand → Value} {o : Oper} {S : World → Prop} {next : Value → Prop} (h : loadIf P ρ o S next) :
    ∃ v, next v ∧ ∀ w, S w → (execOp ρ o).run P w = .ok (.value v) w := by
  unfold loadIf at h
  split at h
  · rename_i t x ho
    split at h
    · rename_i q d ha hd
      obtain ⟨a, rfl⟩ : ∃ a, q = some a := by cases q with | none => exact h.elim | some a => exact ⟨a, rfl⟩
      have fin : ∀ v w, (loadVar t a).run P w = .ok v w → (execOp ρ o).run P w = .ok (.value v) w := by
        intro v w hr
        obtain ⟨dst, op, type, pos, after, guard⟩ := o
        simp only at ho
        subst ho
        simp only [execOp, Instr.loadAt, ha, Instr.sureAddr, Sem.run_bind, Sem.run_pure, Result.andThen_ok, hr]
      simp only [ptrOr] at h
      split at h
      · rename_i c hc
        obtain ⟨v, h1, h2⟩ := CTy.ex_elim h
        refine ⟨v, h2, fun w hS => fin v w ?_⟩
        simp only [loadVar, Sem.run_bind, isAgg_run hd, vtyOf_one hc d hd, Result.andThen_ok, Bool.false_eq_true, if_false, run_load, h1 w hS]
      · rename_i cs hc
        obtain ⟨d', hd', hagg⟩ := vtyOf_agg hc
        obtain rfl : d = d' := Option.some.inj (hd.symm.trans hd')
        cases hs : (cs.length == sizeP P t) with
        | false => rw [hs] at h; exact h.elim
        | true =>
          rw [hs] at h
          obtain ⟨l, hl, h1, h2⟩ := exCells_elim h
          obtain ⟨i, hi⟩ := underlying_some hd
          have hsz : l.length = i.size := by
            have := eq_of_beq hs
            simp only [sizeP, hi] at this
            omega
          refine ⟨_, h2, fun w hS => fin _ w ?_⟩
          simp only [loadVar, Sem.run_bind, isAgg_run hd, hagg, Result.andThen_ok, if_true, sizeOf, typeInfo, run_program, hi, Sem.run_pure, loadCells]
          rw [← hsz, loadCells_run l 0 #[] (fun j hj => by simpa using h1 w hS j hj)]
          simp
    · exact h.elim
  · exact h.elim
theorem loadIf_mono {P : Program} {ρ : Operand → Value} {o : Oper} {S : World → Prop} {next next' : Value → Prop} (h : loadIf P ρ o S next) (hk : ∀ v, next v → next' v) : loadIf P ρ o S next' := by
  unfold loadIf at *
  split at h
  · split at h
    · rename_i q d ha hd
      cases q with
      | none => exact h.elim
      | some a =>
        simp only [ptrOr] at h ⊢
        split at h
        · exact CTy.ex_mono h fun v h => ⟨h.1, hk _ h.2⟩
        · rename_i cs hc
          cases hs : (cs.length == sizeP P _) with
          | false => rw [hs] at h; exact h.elim
          | true => rw [hs] at h; exact exCells_mono h fun v h => ⟨h.1, hk _ h.2⟩
    · exact h.elim
  · exact h.elim

def isStoreOp (o : Oper) : Bool := match o.op with | .store .. => true | _ => false
def waitsFor (o : Oper) (i : Nat) : Bool := o.after.any fun e => Region.binds .any e && e.on == i
/-- the operations that an operation waits for, as bits: each edge, and what is behind it -/
def ancM (acc : List Nat) : List Edge → Nat → Nat
  | [], m => m
  | e :: l, m => ancM acc l (cond (Region.binds .any e) ((m ||| (1 <<< e.on)) ||| acc.getD e.on 0) m)
def ancs : List Oper → List Nat → List Nat
  | [], acc => acc
  | o :: r, acc => ancs r (acc ++ [ancM acc o.after.toList 0])
/-- an operation that waits for all loads -/
def lateH (ops : Array Oper) (j : Nat) : Bool := (List.range ops.size).all fun i => match ops[i]? with
  | some q => !isLoadOp q || ((ancs ops.toList []).getD j 0).testBit i
  | none => true
def heldVc0 (P : Program) (ops : Array Oper) (Q : Act → World → Prop) (S : World → Prop) (late : Nat → Bool) : Nat → Array Bool → Bool → Act → World → Prop
  | 0, listed, _, a, w => cond (Region.ready .any ops listed).isEmpty (Q a w) False
  | n + 1, listed, early, a, w =>
    match firstFree P ops listed with
    | some i => match ops[i]? with
      | some o => cond (Region.wanted o (yielded ops a.tmps))
          (match pureOp P a.eval o with
            | some p => p.then fun v => parted (isGuard ops.toList i) (fun v w' => heldVc0 P ops Q S late n (listed.setIfInBounds i true) early (a.put o.dst v) w') v w
            | none => False)
          (heldVc0 P ops Q S late n (listed.setIfInBounds i true) early (a.put o.dst undef) w)
      | none => False
    | none => match cond early (firstLoad ops listed) none with
      | some i => match ops[i]? with
        | some o => cond (Region.wanted o (yielded ops a.tmps))
            (loadIf P a.eval o S fun v => parted (isGuard ops.toList i) (fun v w' => heldVc0 P ops Q S late n (listed.setIfInBounds i true) early (a.put o.dst v) w') v w)
            (heldVc0 P ops Q S late n (listed.setIfInBounds i true) early (a.put o.dst undef) w)
        | none => False
      | none => match Region.ready .any ops listed with
        | [] => Q a w
        | l => allOf l fun i => match ops[i]? with
          | some o => cond (Region.wanted o (yielded ops a.tmps))
              (opVc P a.eval o (fun v w' => cond (late i) (parted (isGuard ops.toList i) (fun v w' => heldVc0 P ops Q S late n (listed.setIfInBounds i true) false (a.put o.dst v) w') v w') (S w' ∧ parted (isGuard ops.toList i) (fun v w' => heldVc0 P ops Q S late n (listed.setIfInBounds i true) false (a.put o.dst v) w') v w')) w)
              (heldVc0 P ops Q S late n (listed.setIfInBounds i true) false (a.put o.dst undef) w)
          | none => False
def restCalm (P : Program) (ops : Array Oper) (listed : Array Bool) : Bool := (List.range ops.size).all fun j => listed.getD j true || (match ops[j]? with | some o => calmOp P o | none => true)
/-- loads that wait for a guard: many of them -/
def lateLoads (ops : Array Oper) : Bool := Nat.ble 3 (ops.toList.countP fun o => isLoadOp o && o.guard.isSome)
def heldVc (P : Program) (ops : Array Oper) (Q : Act → World → Prop) (S : World → Prop) (late : Nat → Bool) (kp : Bool) : Nat → Array Bool → Bool → Act → World → Prop
  | 0, listed, _, a, w => cond (Region.ready .any ops listed).isEmpty (Q a w) False
  | n + 1, listed, early, a, w =>
    match firstFree P ops listed with
    | some i => match ops[i]? with
      | some o => cond (Region.wanted o (yielded ops a.tmps))
          (match pureOp P a.eval o with
            | some p => p.then fun v => parted (isGuard ops.toList i) (fun v w' => heldVc P ops Q S late kp n (listed.setIfInBounds i true) early (a.put o.dst v) w') v w
            | none => False)
          (heldVc P ops Q S late kp n (listed.setIfInBounds i true) early (a.put o.dst undef) w)
      | none => False
    | none => match cond early (firstLoad ops listed) none with
      | some i => match ops[i]? with
        | some o => cond (Region.wanted o (yielded ops a.tmps))
            (loadIf P a.eval o S fun v => parted (isGuard ops.toList i) (fun v w' => heldVc P ops Q S late kp n (listed.setIfInBounds i true) early (a.put o.dst v) w') v w)
            (heldVc P ops Q S late kp n (listed.setIfInBounds i true) early (a.put o.dst undef) w)
        | none => False
      | none => cond (!early && restCalm P ops listed) (heldVc0 P ops Q (fun u => u = w) (fun _ => false) (n + 1) listed true a w) (match Region.ready .any ops listed with
        | [] => Q a w
        | l => allOf l fun i => match ops[i]? with
          | some o => cond (Region.wanted o (yielded ops a.tmps))
              (opVc P a.eval o (fun v w' => cond (late i) (parted (isGuard ops.toList i) (fun v w' => heldVc P ops Q S late kp n (listed.setIfInBounds i true) false (a.put o.dst v) w') v w') (S w' ∧ parted (isGuard ops.toList i) (fun v w' => heldVc P ops Q S late kp n (listed.setIfInBounds i true) (early && kp) (a.put o.dst v) w') v w')) w)
              (heldVc P ops Q S late kp n (listed.setIfInBounds i true) (early && kp) (a.put o.dst undef) w)
          | none => False)

/-! calm operations, and stores that wait for all of them -/
def isLate (P : Program) (o : Oper) : Bool := !calmOp P o
def lateB (P : Program) (ops : Array Oper) (j : Nat) : Bool := match ops[j]? with | some o => isLate P o | none => false
def tailOk (P : Program) (ops : Array Oper) : List Oper → Nat → Array Bool → Bool → Bool
  | [], _, listed, _ => (Region.ready .any ops listed).isEmpty
  | o :: rest, i, listed, st => cond (isLate P o) (Region.ready .any ops listed == [i] && tailOk P ops rest (i + 1) (listed.setIfInBounds i true) true)
      (calmOp P o && (Region.ready .any ops listed).contains i && Region.free .any ops listed i && (!isLoadOp o || (!st && (ops.toList.all fun q => !isLate P q || waitsFor q i))) && tailOk P ops rest (i + 1) (listed.setIfInBounds i true) st)
/-- a store through an address that is reckoned in the region -/
def elStore (ops : Array Oper) : Bool := ops.toList.any fun o => match o.op with
  | .store _ (.tmp t) _ => ops.toList.any fun q => (q.dst == some t) && (match q.op with | .indexAddr .. => true | .fieldAddr .. => true | _ => false)
  | _ => false
/-- a load, a store, and something else that is not calm -/
def mixStore (P : Program) (ops : Array Oper) : Bool := ops.toList.any isLoadOp && ops.toList.any isStoreOp && ops.toList.any fun o => isLate P o && !isStoreOp o
def tailB (P : Program) (ops : Array Oper) : Bool := (elStore ops || mixStore P ops) && Region.noSelect ops && tailOk P ops ops.toList 0 (Array.replicate ops.size false) false
def tailVc (P : Program) (ops : Array Oper) (Q : Act → World → Prop) : List Oper → Nat → Act → World → Prop
  | [], _, a, w => Q a w
  | o :: rest, i, a, w =>
    cond (Region.wanted o (yielded ops a.tmps))
      (match pureOp P a.eval o with
        | some p => p.then fun v => parted (isGuard ops.toList i) (fun v w' => tailVc P ops Q rest (i + 1) (a.put o.dst v) w') v w
        | none => cond (isLoadOp o || isLate P o) (effVc P a.eval o (parted (isGuard ops.toList i) fun v w' => tailVc P ops Q rest (i + 1) (a.put o.dst v) w') w) False)
      (tailVc P ops Q rest (i + 1) (a.put o.dst undef) w)
def wpAnyL (P : Program) (ops : Array Oper) (Q : Exit → Act → World → Prop) (S : World → Prop) (late : Nat → Bool) : Nat → Array Bool → Act → World → Prop
  | 0, listed, a, w => Region.ready .any ops listed = [] ∧ Q .normal a w
  | fuel + 1, listed, a, w =>
    (Region.ready .any ops listed = [] → Q .normal a w) ∧
    ∀ i ∈ Region.ready .any ops listed, wpOp P ops Q i (fun a' w' => (late i = false → S w → S w') ∧ wpAnyL P ops Q S late fuel (listed.setIfInBounds i true) a' w') a w
theorem wpAny_of_late {P : Program} {ops : Array Oper} {Q : Exit → Act → World → Prop} {S : World → Prop} {late : Nat → Bool} : ∀ (fuel : Nat) (listed : Array Bool) (a : Act) (w : World), wpAnyL P ops Q S late fuel listed a w → wpAny P .any ops Q fuel listed a w
  | 0, _, _, _, h => h
  | fuel + 1, _, _, _, h => ⟨h.1, fun i hi => wpOp_mono (fun a' w' h' => wpAny_of_late fuel _ a' w' h'.2) (h.2 i hi)⟩
/-- what is listed was ready: what it waits for is listed, too -/
def DC (ops : Array Oper) (listed : Array Bool) : Prop := ∀ (k : Nat) (ok : Oper), ops[k]? = some ok → listed.getD k false = true → ∀ e ∈ ok.after, Region.binds .any e = true → listed.getD e.on false = true
theorem DC.start (ops : Array Oper) (n : Nat) : DC ops (Array.replicate n false) := fun k ok _ h => by
  exfalso
  rw [Array.getD_eq_getD_getElem?] at h
  by_cases hk : k < n
  · simp [hk] at h
  · simp [hk] at h
theorem getD_set_true {listed : Array Bool} {j k : Nat} (h : listed.getD k false = true) : (listed.setIfInBounds j true).getD k false = true := by
  by_cases hjk : j = k
  · subst hjk
    rw [Array.getD_eq_getD_getElem?] at h ⊢
    by_cases hk : j < listed.size
    · simp [hk]
    · rw [Array.getElem?_eq_none (by omega)] at h; cases h
  · rw [Array.getD_eq_getD_getElem?] at h ⊢
    rw [Array.getElem?_setIfInBounds_ne hjk]; exact h
theorem DC.put {ops : Array Oper} {listed : Array Bool} {j : Nat} (h : DC ops listed) (hj : j ∈ Region.ready .any ops listed) : DC ops (listed.setIfInBounds j true) := fun k ok hk hl e he hb => by
  obtain ⟨_, oj, hoj, hall⟩ := mem_ready.1 hj
  by_cases hjk : j = k
  · subst hjk
    rw [hoj] at hk; cases hk
    exact getD_set_true (hall e he hb)
  · refine getD_set_true (h k ok hk ?_ e he hb)
    rw [Array.getD_eq_getD_getElem?] at hl ⊢
    rw [Array.getElem?_setIfInBounds_ne hjk] at hl; exact hl
theorem wpAnyL_first {P : Program} {ops : Array Oper} {Q : Exit → Act → World → Prop} {S : World → Prop} {late : Nat → Bool} {i : Nat} {oi : Oper} {v : Value} (hi : ops[i]? = some oi) (hsel : ∀ (j : Nat) (o : Oper) cs b, ops[j]? = some o → o.op ≠ .select cs b)
    (hQ : ∀ c a w, Q (.panic c) (a.put oi.dst v) w → Q (.panic c) a w) (hlate : ∀ j oj, ops[j]? = some oj → late j = true → j ≠ i → ∃ e ∈ oj.after, Region.binds .any e = true ∧ e.on = i) :
    ∀ (fuel : Nat) (listed : Array Bool) (a : Act) (w : World),
      (∀ j oj, ops[j]? = some oj → j ≠ i → listed.getD j true = false → (∀ e ∈ oj.after, Region.binds .any e = true → e.on ≠ i) → oi.apart ops oj = true) →
      i ∈ Region.ready .any ops listed → YieldsIf P ops S oi v a → S w →
      wpAnyL P ops Q S late fuel (listed.setIfInBounds i true) (a.put oi.dst v) w → wpAnyL P ops Q S late (fuel + 1) listed a w := by
  intro fuel
  induction fuel with
  | zero =>
    intro listed a w _ hr hy hS H
    refine ⟨fun h => (by rw [h] at hr; cases hr), fun j hj => ?_⟩
    by_cases hji : j = i
    · subst hji; exact hy.wpOp hi hS ⟨fun _ _ => hS, H⟩
    · have := ready_mono hj hji
      rw [H.1] at this
      cases this
  | succ fuel ih =>
    intro listed a w hfree hr hy hS H
    refine ⟨fun h => (by rw [h] at hr; cases hr), fun j hj => ?_⟩
    by_cases hji : j = i
    · subst hji; exact hy.wpOp hi hS ⟨fun _ _ => hS, H⟩
    · have h1 := H.2 j (ready_mono hj hji)
      obtain ⟨hjun, oj, hoj, hall⟩ := mem_ready.1 hj
      have hnot : ∀ e ∈ oj.after, Region.binds .any e = true → e.on ≠ i := fun e he hb heq => by
        have h1 := hall e he hb
        have h0 := (mem_ready.1 hr).1
        rw [heq] at h1
        rcases Nat.lt_or_ge i listed.size with h' | h'
        · simp [h'] at h0 h1; rw [h0] at h1; cases h1
        · simp [Array.getElem?_eq_none h'] at h1
      have hl : late j = false := by
        cases hb : late j with
        | false => rfl
        | true => obtain ⟨e, he, hb, ho⟩ := hlate j oj hoj hb hji; exact absurd ho (hnot e he hb)
      have h2 := wpOp_putIf hoj (hfree j oj hoj hji hjun hnot) (fun cs b => hsel i oi cs b hi) (fun cs b => hsel j oj cs b hoj) hQ hy h1
      have hfree' : ∀ k ok, ops[k]? = some ok → k ≠ i → (listed.setIfInBounds j true).getD k true = false →
          (∀ e ∈ ok.after, Region.binds .any e = true → e.on ≠ i) → oi.apart ops ok = true := fun k ok hk hki hun hno => by
        refine hfree k ok hk hki ?_ hno
        by_cases hjk : j = k
        · subst hjk; exact hjun
        · rw [getD_set_ne true hjk] at hun; exact hun
      refine wpOp_mono (fun a' w' h3 => ⟨h3.2.1, ih (listed.setIfInBounds j true) a' w' hfree' (ready_mono hr (Ne.symm hji)) h3.1 (h3.2.1 hl hS) ?_⟩) h2
      rw [Array.setIfInBounds_comm _ _ hji]
      exact h3.2.2
theorem wpAnyL_firstT {P : Program} {ops : Array Oper} {Q : Exit → Act → World → Prop} {S : World → Prop} {late : Nat → Bool} {i : Nat} {oi : Oper} {v : Value} (hi : ops[i]? = some oi) (hsel : ∀ (j : Nat) (o : Oper) cs b, ops[j]? = some o → o.op ≠ .select cs b)
    (hQ : ∀ c a w, Q (.panic c) (a.put oi.dst v) w → Q (.panic c) a w) (hlate : ∀ listed j, DC ops listed → i ∈ Region.ready .any ops listed → j ∈ Region.ready .any ops listed → late j = true → False) :
    ∀ (fuel : Nat) (listed : Array Bool) (a : Act) (w : World), DC ops listed →
      (∀ j oj, ops[j]? = some oj → j ≠ i → listed.getD j true = false → (∀ e ∈ oj.after, Region.binds .any e = true → e.on ≠ i) → oi.apart ops oj = true) →
      i ∈ Region.ready .any ops listed → YieldsIf P ops S oi v a → S w →
      wpAnyL P ops Q S late fuel (listed.setIfInBounds i true) (a.put oi.dst v) w → wpAnyL P ops Q S late (fuel + 1) listed a w := by
  intro fuel
  induction fuel with
  | zero =>
    intro listed a w _ _ hr hy hS H
    refine ⟨fun h => (by rw [h] at hr; cases hr), fun j hj => ?_⟩
    by_cases hji : j = i
    · subst hji; exact hy.wpOp hi hS ⟨fun _ _ => hS, H⟩
    · have := ready_mono hj hji
      rw [H.1] at this
      cases this
  | succ fuel ih =>
    intro listed a w hdc hfree hr hy hS H
    refine ⟨fun h => (by rw [h] at hr; cases hr), fun j hj => ?_⟩
    by_cases hji : j = i
    · subst hji; exact hy.wpOp hi hS ⟨fun _ _ => hS, H⟩
    · have h1 := H.2 j (ready_mono hj hji)
      obtain ⟨hjun, oj, hoj, hall⟩ := mem_ready.1 hj
      have hnot : ∀ e ∈ oj.after, Region.binds .any e = true → e.on ≠ i := fun e he hb heq => by
        have h1 := hall e he hb
        have h0 := (mem_ready.1 hr).1
        rw [heq] at h1
        rcases Nat.lt_or_ge i listed.size with h' | h'
        · simp [h'] at h0 h1; rw [h0] at h1; cases h1
        · simp [Array.getElem?_eq_none h'] at h1
      have hl : late j = false := by
        cases hb : late j with
        | false => rfl
        | true => exact (hlate listed j hdc hr hj hb).elim
      have h2 := wpOp_putIf hoj (hfree j oj hoj hji hjun hnot) (fun cs b => hsel i oi cs b hi) (fun cs b => hsel j oj cs b hoj) hQ hy h1
      have hfree' : ∀ k ok, ops[k]? = some ok → k ≠ i → (listed.setIfInBounds j true).getD k true = false →
          (∀ e ∈ ok.after, Region.binds .any e = true → e.on ≠ i) → oi.apart ops ok = true := fun k ok hk hki hun hno => by
        refine hfree k ok hk hki ?_ hno
        by_cases hjk : j = k
        · subst hjk; exact hjun
        · rw [getD_set_ne true hjk] at hun; exact hun
      refine wpOp_mono (fun a' w' h3 => ⟨h3.2.1, ih (listed.setIfInBounds j true) a' w' (hdc.put hj) hfree' (ready_mono hr (Ne.symm hji)) h3.1 (h3.2.1 hl hS) ?_⟩) h2
      rw [Array.setIfInBounds_comm _ _ hji]
      exact h3.2.2
theorem wpAnyL_pure {P : Program} {ops : Array Oper} {Q : Exit → Act → World → Prop} {S : World → Prop} {late : Nat → Bool} {i : Nat} {oi : Oper} {v : Value} (hi : ops[i]? = some oi) (hsel : ∀ (j : Nat) (o : Oper) cs b, ops[j]? = some o → o.op ≠ .select cs b)
    (hQ : ∀ c a w, Q (.panic c) (a.put oi.dst v) w → Q (.panic c) a w) :
    ∀ (fuel : Nat) (listed : Array Bool) (a : Act) (w : World),
      (∀ j oj, ops[j]? = some oj → j ≠ i → listed.getD j true = false → (∀ e ∈ oj.after, Region.binds .any e = true → e.on ≠ i) → oi.apart ops oj = true) →
      i ∈ Region.ready .any ops listed → YieldsIf P ops (fun _ => True) oi v a →
      wpAnyL P ops Q S late fuel (listed.setIfInBounds i true) (a.put oi.dst v) w → wpAnyL P ops Q S late (fuel + 1) listed a w := by
  intro fuel
  induction fuel with
  | zero =>
    intro listed a w _ hr hy H
    refine ⟨fun h => (by rw [h] at hr; cases hr), fun j hj => ?_⟩
    by_cases hji : j = i
    · subst hji; exact hy.wpOp hi trivial ⟨fun _ h => h, H⟩
    · have := ready_mono hj hji
      rw [H.1] at this
      cases this
  | succ fuel ih =>
    intro listed a w hfree hr hy H
    refine ⟨fun h => (by rw [h] at hr; cases hr), fun j hj => ?_⟩
    by_cases hji : j = i
    · subst hji; exact hy.wpOp hi trivial ⟨fun _ h => h, H⟩
    · have h1 := H.2 j (ready_mono hj hji)
      obtain ⟨hjun, oj, hoj, hall⟩ := mem_ready.1 hj
      have hnot : ∀ e ∈ oj.after, Region.binds .any e = true → e.on ≠ i := fun e he hb heq => by
        have h1 := hall e he hb
        have h0 := (mem_ready.1 hr).1
        rw [heq] at h1
        rcases Nat.lt_or_ge i listed.size with h' | h'
        · simp [h'] at h0 h1; rw [h0] at h1; cases h1
        · simp [Array.getElem?_eq_none h'] at h1
      have h2 := wpOp_putIf hoj (hfree j oj hoj hji hjun hnot) (fun cs b => hsel i oi cs b hi) (fun cs b => hsel j oj cs b hoj) hQ hy h1
      have hfree' : ∀ k ok, ops[k]? = some ok → k ≠ i → (listed.setIfInBounds j true).getD k true = false →
          (∀ e ∈ ok.after, Region.binds .any e = true → e.on ≠ i) → oi.apart ops ok = true := fun k ok hk hki hun hno => by
        refine hfree k ok hk hki ?_ hno
        by_cases hjk : j = k
        · subst hjk; exact hjun
        · rw [getD_set_ne true hjk] at hun; exact hun
      refine wpOp_mono (fun a' w' h3 => ⟨h3.2.1, ih (listed.setIfInBounds j true) a' w' hfree' (ready_mono hr (Ne.symm hji)) h3.1 ?_⟩) h2
      rw [Array.setIfInBounds_comm _ _ hji]
      exact h3.2.2
theorem tailVc_wp {P : Program} {ops : Array Oper} {Q : Act → World → Prop} {w0 : World} (hsel : Region.noSelect ops = true) : ∀ (l : List Oper) (i : Nat) (listed : Array Bool) (st : Bool) (a : Act) (w : World),
    ops.toList.drop i = l → tailOk P ops l i listed st = true → (st = false → w = w0) → tailVc P ops Q l i a w → wpAnyL P ops (onlyNormal Q) (fun u => u = w0) (lateB P ops) l.length listed a w := by
  intro l
  induction l with
  | nil =>
    intro i listed st a w _ hk _ h
    simp only [tailOk, List.isEmpty_iff] at hk
    exact ⟨hk, h⟩
  | cons o rest ih =>
    intro i listed st a w hd hk hst h
    have ho : ops[i]? = some o := by
      have := congrArg (·[0]?) hd
      simpa using this
    have hd' : ops.toList.drop (i + 1) = rest := by
      rw [← List.drop_drop, hd]; rfl
    have hop : Region.wanted o (yielded ops a.tmps) = true → opVc P a.eval o (parted (isGuard ops.toList i) fun v w' => tailVc P ops Q rest (i + 1) (a.put o.dst v) w') w ∧ ((pureOp P a.eval o).isSome = true ∨ (∃ t x, o.op = .load t x) ∨ isLate P o = true) := by
      intro hw
      simp only [tailVc, hw, cond_true] at h
      unfold opVc
      split at h
      · rename_i p hp
        rw [hp]
        exact ⟨h, .inl rfl⟩
      · rename_i hp
        rw [hp]
        cases hl : isLoadOp o with
        | true =>
          rw [hl] at h
          refine ⟨h, .inr (.inl ?_)⟩
          unfold isLoadOp at hl
          split at hl
          · rename_i t x he; exact ⟨t, x, he⟩
          · cases hl
        | false =>
          cases hq : isLate P o with
          | true => rw [hl, hq] at h; exact ⟨h, .inr (.inr rfl)⟩
          | false => rw [hl, hq] at h; exact h.elim
    simp only [tailOk] at hk
    cases hs : isLate P o with
    | true =>
      rw [hs] at hk
      simp only [cond_true, Bool.and_eq_true, beq_iff_eq] at hk
      refine ⟨fun hr => (by rw [hk.1] at hr; cases hr), fun j hj => ?_⟩
      rw [hk.1, List.mem_singleton] at hj
      subst hj
      unfold wpOp
      simp only [ho]
      have hlt : lateB P ops j = true := by unfold lateB; rw [ho]; exact hs
      cases hw : Region.wanted o (yielded ops a.tmps) with
      | false =>
        simp only [tailVc, hw, cond_false] at h
        simp only [Bool.false_eq_true, if_false]
        exact ⟨fun h' => (by rw [hlt] at h'; cases h'), ih _ _ true _ _ hd' hk.2 nofun h⟩
      | true =>
        simp only [if_true]
        exact .inl (opVc_wp (opVc_mono (hop hw).1 fun v w' h => ⟨fun h' => (by rw [hlt] at h'; cases h'), ih _ _ true _ _ hd' hk.2 nofun ((parted_iff _ _ _ _).1 h)⟩))
    | false =>
      rw [hs] at hk
      simp only [cond_false, Bool.and_eq_true] at hk
      obtain ⟨⟨⟨⟨h2, h3⟩, h4⟩, h5⟩, h6⟩ := hk
      have finp : ∀ v, YieldsIf P ops (fun _ => True) o v a → tailVc P ops Q rest (i + 1) (a.put o.dst v) w → wpAnyL P ops (onlyNormal Q) (fun u => u = w0) (lateB P ops) (rest.length + 1) listed a w := fun v hy hh =>
        wpAnyL_pure ho (fun j o cs b => Region.noSelect_spec hsel j o cs b) (fun c a w h => h) _ listed a w (Region.free_spec ho h4) (by simpa using h3) hy (ih _ _ st _ _ hd' h6 hst hh)
      cases hw : Region.wanted o (yielded ops a.tmps) with
      | false =>
        simp only [tailVc, hw, cond_false] at h
        exact finp undef (.inr ⟨hw, rfl⟩) h
      | true =>
        obtain ⟨g1, g2⟩ := hop hw
        rw [hs] at g2
        cases hp : pureOp P a.eval o with
        | some p =>
          unfold opVc at g1
          rw [hp] at g1
          obtain ⟨v, k1, _, k2⟩ := pureOp_run hp g1
          exact finp v (.inl ⟨hw, fun u _ => k2 u⟩) ((parted_iff _ _ _ _).1 k1)
        | none =>
          rw [hp] at g2
          obtain ⟨tt, xx, hl⟩ : ∃ t x, o.op = .load t x := by
            rcases g2 with g | g | g
            · cases g
            · exact g
            · cases g
          have hlo : isLoadOp o = true := by unfold isLoadOp; rw [hl]
          rw [hlo] at h5
          simp only [Bool.not_true, Bool.false_or, Bool.and_eq_true, Bool.not_eq_true'] at h5
          have hw0 : w = w0 := hst h5.1
          have hlate : ∀ j oj, ops[j]? = some oj → lateB P ops j = true → j ≠ i → ∃ e ∈ oj.after, Region.binds .any e = true ∧ e.on = i := by
            intro j oj hj hl _
            unfold lateB at hl
            rw [hj] at hl
            simp only at hl
            have := List.all_eq_true.1 h5.2 oj (by simpa using Array.mem_of_getElem? hj)
            rw [hl] at this
            simp only [Bool.not_true, Bool.false_or, waitsFor] at this
            obtain ⟨e, he, hb⟩ := Array.any_eq_true'.1 this
            simp only [Bool.and_eq_true, beq_iff_eq] at hb
            exact ⟨e, he, hb.1, hb.2⟩
          obtain ⟨v, k1, k2⟩ := opVc_calm (.inr ⟨tt, xx, hl⟩) g1
          exact wpAnyL_first ho (fun j o cs b => Region.noSelect_spec hsel j o cs b) (fun c a w h => h) hlate _ listed a w (Region.free_spec ho h4) (by simpa using h3) (.inl ⟨hw, fun u hu => by rw [hu, ← hw0]; exact k2⟩) hw0 (ih _ _ st _ _ hd' h6 hst ((parted_iff _ _ _ _).1 k1))


theorem ancM_bit {acc : List Nat} {i : Nat} : ∀ (l : List Edge) (m : Nat), (ancM acc l m).testBit i = true → m.testBit i = true ∨ ∃ e ∈ l, Region.binds .any e = true ∧ (e.on = i ∨ (acc.getD e.on 0).testBit i = true)
  | [], m, h => .inl h
  | e :: l, m, h => by
    simp only [ancM] at h
    rcases ancM_bit l _ h with h1 | ⟨e', he', h1⟩
    · cases hb : Region.binds .any e with
      | false => rw [hb] at h1; exact .inl h1
      | true =>
        rw [hb] at h1
        simp only [cond_true, Nat.testBit_or, Bool.or_eq_true] at h1
        rcases h1 with (h1 | h1) | h1
        · exact .inl h1
        · refine .inr ⟨e, by simp, hb, .inl ?_⟩
          rw [Nat.one_shiftLeft, Nat.testBit_two_pow] at h1
          simpa using h1
        · exact .inr ⟨e, by simp, hb, .inr h1⟩
    · exact .inr ⟨e', List.mem_cons_of_mem _ he', h1⟩
def AncOk (ops : Array Oper) (A : List Nat) : Prop := ∀ (k i : Nat) (ok : Oper), ops[k]? = some ok → (A.getD k 0).testBit i = true → ∀ listed, DC ops listed → (∀ e ∈ ok.after, Region.binds .any e = true → listed.getD e.on false = true) → listed.getD i false = true
theorem ancs_ok (ops : Array Oper) : ∀ (l : List Oper) (acc : List Nat), AncOk ops acc → ops.toList.drop acc.length = l → AncOk ops (ancs l acc)
  | [], acc, h, _ => h
  | o :: r, acc, h, hd => by
    have ho : ops[acc.length]? = some o := by
      rw [← Array.getElem?_toList, show acc.length = acc.length + 0 by omega, ← List.getElem?_drop, hd]; rfl
    refine ancs_ok ops r _ ?_ (by rw [List.length_append, List.length_singleton, ← List.drop_drop, hd]; rfl)
    intro k i ok hk hb listed hdc hall
    by_cases hlt : k < acc.length
    · refine h k i ok hk ?_ listed hdc hall
      rw [List.getD_eq_getElem?_getD, List.getElem?_append_left hlt, ← List.getD_eq_getElem?_getD] at hb
      exact hb
    · by_cases he : k = acc.length
      · subst he
        rw [ho] at hk; cases hk
        rw [List.getD_eq_getElem?_getD, List.getElem?_append_right (Nat.le_refl _)] at hb
        simp only [Nat.sub_self, List.getElem?_cons_zero, Option.getD_some] at hb
        rcases ancM_bit _ _ hb with h0 | ⟨e, he, hbi, h1⟩
        · rw [Nat.zero_testBit] at h0; cases h0
        · have hl := hall e (by simpa using he) hbi
          rcases h1 with rfl | h1
          · exact hl
          · have hlt : e.on < ops.size := by
              by_cases hx : e.on < ops.size
              · exact hx
              · exfalso
                have : acc.length ≤ ops.size := by have := (Array.getElem?_eq_some_iff.1 ho).1; omega
                rw [List.getD_eq_getElem?_getD, List.getElem?_eq_none (by omega)] at h1
                simp at h1
            exact h e.on i _ (Array.getElem?_eq_getElem hlt) h1 listed hdc (hdc e.on _ (Array.getElem?_eq_getElem hlt) hl)
      · exfalso
        rw [List.getD_eq_getElem?_getD, List.getElem?_eq_none (by rw [List.length_append, List.length_singleton]; omega)] at hb
        simp at hb
theorem lateH_out {ops : Array Oper} {j i : Nat} {oi : Oper} (hl : lateH ops j = true) (hi : ops[i]? = some oi) (hlo : isLoadOp oi = true) (listed : Array Bool) (hdc : DC ops listed) (ri : i ∈ Region.ready .any ops listed) (rj : j ∈ Region.ready .any ops listed) : False := by
  unfold lateH at hl
  have := List.all_eq_true.1 hl i (List.mem_range.2 (Array.getElem?_eq_some_iff.1 hi).1)
  rw [hi] at this
  simp only [hlo, Bool.not_true, Bool.false_or] at this
  obtain ⟨_, oj, hoj, hall⟩ := mem_ready.1 rj
  have h1 := ancs_ok ops ops.toList [] (fun k i ok _ hb => by simp at hb) rfl j i oj hoj this listed hdc hall
  have h0 := (mem_ready.1 ri).1
  rw [Array.getD_eq_getD_getElem?] at h0 h1
  cases hx : listed[i]? with
  | none => rw [hx] at h1; cases h1
  | some b => rw [hx] at h0 h1; simp at h0 h1; rw [h0] at h1; cases h1
theorem heldVc0_wp {P : Program} {ops : Array Oper} {Q : Act → World → Prop} {S : World → Prop} {late : Nat → Bool} (hsel : Region.noSelect ops = true) (hlw : ∀ j, late j = true → lateH ops j = true) : ∀ (n : Nat) (listed : Array Bool) (early : Bool) (a : Act) (w : World), DC ops listed →
    (early = true → S w) → heldVc0 P ops Q S late n listed early a w → wpAnyL P ops (onlyNormal Q) S late n listed a w := by
  intro n
  induction n with
  | zero =>
    intro listed early a w _ _ h
    simp only [heldVc0] at h
    cases hr : Region.ready .any ops listed with
    | nil => rw [hr] at h; exact ⟨hr, h⟩
    | cons x xs => rw [hr] at h; exact h.elim
  | succ n ih =>
    intro listed early a w hdc hS h
    simp only [heldVc0] at h
    split at h
    · rename_i i hf
      have hmem := List.mem_of_find?_eq_some hf
      have hprop := List.find?_some hf
      simp only [Bool.and_eq_true] at hprop
      split at h
      · rename_i o ho
        have hfree := Region.free_spec (md := .any) ho hprop.2
        have fin : ∀ v, YieldsIf P ops (fun _ => True) o v a → heldVc0 P ops Q S late n (listed.setIfInBounds i true) early (a.put o.dst v) w → wpAnyL P ops (onlyNormal Q) S late (n + 1) listed a w := fun v hy hh =>
          wpAnyL_pure ho (fun j o cs b => Region.noSelect_spec hsel j o cs b) (fun c a w h => h) _ listed a w hfree hmem hy (ih _ _ _ _ (hdc.put hmem) hS hh)
        cases hw : Region.wanted o (yielded ops a.tmps) with
        | false => rw [hw] at h; exact fin undef (.inr ⟨hw, rfl⟩) h
        | true =>
          rw [hw] at h
          simp only [cond_true] at h
          split at h
          · rename_i p hp
            obtain ⟨v, h1, _, h2⟩ := pureOp_run hp h
            exact fin v (.inl ⟨hw, fun u _ => h2 u⟩) ((parted_iff _ _ _ _).1 h1)
          · exact h.elim
      · exact h.elim
    · split at h
      · rename_i i hf
        have he : early = true := by cases early with | false => cases hf | true => rfl
        have hf : firstLoad ops listed = some i := by rw [he] at hf; exact hf
        have hmem := List.mem_of_find?_eq_some hf
        have hprop := List.find?_some hf
        simp only [Bool.and_eq_true] at hprop
        split at h
        · rename_i o ho
          have hfree := Region.free_spec (md := .any) ho hprop.2
          have hlo : isLoadOp o = true := by have := hprop.1; rw [ho] at this; exact this
          have fin : ∀ v, YieldsIf P ops S o v a → heldVc0 P ops Q S late n (listed.setIfInBounds i true) early (a.put o.dst v) w → wpAnyL P ops (onlyNormal Q) S late (n + 1) listed a w := fun v hy hh =>
            wpAnyL_firstT ho (fun j o cs b => Region.noSelect_spec hsel j o cs b) (fun c a w h => h) (fun listed j hdc ri rj hl => lateH_out (hlw j hl) ho hlo listed hdc ri rj) _ listed a w hdc hfree hmem hy (hS he) (ih _ _ _ _ (hdc.put hmem) hS hh)
          cases hw : Region.wanted o (yielded ops a.tmps) with
          | false => rw [hw] at h; exact fin undef (.inr ⟨hw, rfl⟩) h
          | true =>
            rw [hw] at h
            obtain ⟨v, h1, h2⟩ := loadIf_run h
            exact fin v (.inl ⟨hw, h2⟩) ((parted_iff _ _ _ _).1 h1)
        · exact h.elim
      · split at h
        · rename_i hr
          refine ⟨fun _ => h, fun i hi => ?_⟩
          rw [hr] at hi; cases hi
        · rename_i hne
          refine ⟨fun hr => absurd hr hne, fun i hi => ?_⟩
          have hi' := allOf_mem h i hi
          unfold wpOp
          split at hi'
          · rename_i o ho
            simp only [ho]
            cases hw : Region.wanted o (yielded ops a.tmps) with
            | false => rw [hw] at hi'; simp only [Bool.false_eq_true, if_false]; exact ⟨fun _ h => h, ih _ false _ _ (hdc.put hi) nofun hi'⟩
            | true =>
              rw [hw] at hi'
              simp only [cond_true] at hi'
              simp only [if_true]
              refine .inl (opVc_wp (opVc_mono hi' fun v w' h => ?_))
              cases hl : late i with
              | true => rw [hl] at h; simp only [cond_true] at h; exact ⟨nofun, ih _ false _ _ (hdc.put hi) nofun ((parted_iff _ _ _ _).1 h)⟩
              | false => rw [hl] at h; simp only [cond_false] at h; exact ⟨fun _ _ => h.1, ih _ false _ _ (hdc.put hi) nofun ((parted_iff _ _ _ _).1 h.2)⟩
          · exact hi'.elim
theorem wpAnyL_eq {P : Program} {ops : Array Oper} {Q : Exit → Act → World → Prop} {S : World → Prop} {late : Nat → Bool} {w0 : World} : ∀ (fuel : Nat) (listed : Array Bool) (a : Act) (w : World), w = w0 → wpAnyL P ops Q (fun u => u = w0) (fun _ => false) fuel listed a w → wpAnyL P ops Q S late fuel listed a w
  | 0, _, _, _, _, h => h
  | fuel + 1, _, _, w, e, h => ⟨h.1, fun i hi => wpOp_mono (fun a' w' h' => by
      have e' : w' = w0 := h'.1 rfl e
      exact ⟨fun _ hS => by rw [e', ← e]; exact hS, wpAnyL_eq fuel _ a' w' e' h'.2⟩) (h.2 i hi)⟩
theorem heldVc_wp {P : Program} {ops : Array Oper} {Q : Act → World → Prop} {S : World → Prop} {late : Nat → Bool} {kp : Bool} (hsel : Region.noSelect ops = true) (hlw : ∀ j, late j = true → lateH ops j = true) : ∀ (n : Nat) (listed : Array Bool) (early : Bool) (a : Act) (w : World), DC ops listed →
    (early = true → S w) → heldVc P ops Q S late kp n listed early a w → wpAnyL P ops (onlyNormal Q) S late n listed a w := by
  intro n
  induction n with
  | zero =>
    intro listed early a w _ _ h
    simp only [heldVc] at h
    cases hr : Region.ready .any ops listed with
    | nil => rw [hr] at h; exact ⟨hr, h⟩
    | cons x xs => rw [hr] at h; exact h.elim
  | succ n ih =>
    intro listed early a w hdc hS h
    simp only [heldVc] at h
    split at h
    · rename_i i hf
      have hmem := List.mem_of_find?_eq_some hf
      have hprop := List.find?_some hf
      simp only [Bool.and_eq_true] at hprop
      split at h
      · rename_i o ho
        have hfree := Region.free_spec (md := .any) ho hprop.2
        have fin : ∀ v, YieldsIf P ops (fun _ => True) o v a → heldVc P ops Q S late kp n (listed.setIfInBounds i true) early (a.put o.dst v) w → wpAnyL P ops (onlyNormal Q) S late (n + 1) listed a w := fun v hy hh =>
          wpAnyL_pure ho (fun j o cs b => Region.noSelect_spec hsel j o cs b) (fun c a w h => h) _ listed a w hfree hmem hy (ih _ _ _ _ (hdc.put hmem) hS hh)
        cases hw : Region.wanted o (yielded ops a.tmps) with
        | false => rw [hw] at h; exact fin undef (.inr ⟨hw, rfl⟩) h
        | true =>
          rw [hw] at h
          simp only [cond_true] at h
          split at h
          · rename_i p hp
            obtain ⟨v, h1, _, h2⟩ := pureOp_run hp h
            exact fin v (.inl ⟨hw, fun u _ => h2 u⟩) ((parted_iff _ _ _ _).1 h1)
          · exact h.elim
      · exact h.elim
    · split at h
      · rename_i i hf
        have he : early = true := by cases early with | false => cases hf | true => rfl
        have hf : firstLoad ops listed = some i := by rw [he] at hf; exact hf
        have hmem := List.mem_of_find?_eq_some hf
        have hprop := List.find?_some hf
        simp only [Bool.and_eq_true] at hprop
        split at h
        · rename_i o ho
          have hfree := Region.free_spec (md := .any) ho hprop.2
          have hlo : isLoadOp o = true := by have := hprop.1; rw [ho] at this; exact this
          have fin : ∀ v, YieldsIf P ops S o v a → heldVc P ops Q S late kp n (listed.setIfInBounds i true) early (a.put o.dst v) w → wpAnyL P ops (onlyNormal Q) S late (n + 1) listed a w := fun v hy hh =>
            wpAnyL_firstT ho (fun j o cs b => Region.noSelect_spec hsel j o cs b) (fun c a w h => h) (fun listed j hdc ri rj hl => lateH_out (hlw j hl) ho hlo listed hdc ri rj) _ listed a w hdc hfree hmem hy (hS he) (ih _ _ _ _ (hdc.put hmem) hS hh)
          cases hw : Region.wanted o (yielded ops a.tmps) with
          | false => rw [hw] at h; exact fin undef (.inr ⟨hw, rfl⟩) h
          | true =>
            rw [hw] at h
            obtain ⟨v, h1, h2⟩ := loadIf_run h
            exact fin v (.inl ⟨hw, h2⟩) ((parted_iff _ _ _ _).1 h1)
        · exact h.elim
      · cases hrc : (!early && restCalm P ops listed) with
        | true =>
          rw [hrc] at h
          simp only [cond_true] at h
          exact wpAnyL_eq (w0 := w) _ _ _ _ rfl (heldVc0_wp (S := fun u => u = w) (late := fun _ => false) hsel (fun _ h => by cases h) (n + 1) listed true a w hdc (fun _ => rfl) h)
        | false =>
        rw [hrc] at h
        simp only [cond_false] at h
        split at h
        · rename_i hr
          refine ⟨fun _ => h, fun i hi => ?_⟩
          rw [hr] at hi; cases hi
        · rename_i hne
          refine ⟨fun hr => absurd hr hne, fun i hi => ?_⟩
          have hi' := allOf_mem h i hi
          unfold wpOp
          split at hi'
          · rename_i o ho
            simp only [ho]
            cases hw : Region.wanted o (yielded ops a.tmps) with
            | false => rw [hw] at hi'; simp only [Bool.false_eq_true, if_false]; exact ⟨fun _ h => h, ih _ (early && kp) _ _ (hdc.put hi) (fun he => hS (Bool.and_eq_true_iff.1 he).1) hi'⟩
            | true =>
              rw [hw] at hi'
              simp only [cond_true] at hi'
              simp only [if_true]
              refine .inl (opVc_wp (opVc_mono hi' fun v w' h => ?_))
              cases hl : late i with
              | true => rw [hl] at h; simp only [cond_true] at h; exact ⟨nofun, ih _ false _ _ (hdc.put hi) nofun ((parted_iff _ _ _ _).1 h)⟩
              | false => rw [hl] at h; simp only [cond_false] at h; exact ⟨fun _ _ => h.1, ih _ (early && kp) _ _ (hdc.put hi) (fun _ => h.1) ((parted_iff _ _ _ _).1 h.2)⟩
          · exact hi'.elim
/-- which operations need not keep the condition -/
def lateOf (ops : Array Oper) : Nat → Bool := lateH ops
theorem lateOf_late {ops : Array Oper} (j : Nat) (h : lateOf ops j = true) : lateH ops j = true := by
  exact h
/-- a region that draws its order -/
def drawVc (P : Program) (ops : Array Oper) (Q : Act → World → Prop) (a : Act) (w : World) : Prop :=
  cond (P.follows .mixedOrders)
    (cond (calmAll P ops.toList && Region.lexB .any ops) (∀ w', w' = w.drew → calmVc P ops Q ops.toList 0 a w')
      (cond (tailB P ops) (∀ w', w' = w.drew → tailVc P ops Q ops.toList 0 a w')
      (cond (Region.noSelect ops)
        (cond (ops.toList.any isLoadOp) (∀ w', w' = w.drew → ∃ S : World → Prop, S w' ∧ heldVc P ops Q S (lateOf ops) (lateLoads ops) ops.size (Array.replicate ops.size false) true a w')
          (∀ w', w' = w.drew → anyVc P ops Q ops.size (Array.replicate ops.size false) a w')) False)))
    False
theorem tailB_any {P : Program} {ops : Array Oper} {Q : Act → World → Prop} {a : Act} {w : World} (ht : tailB P ops = true) (h : tailVc P ops Q ops.toList 0 a w) : wpAny P .any ops (onlyNormal Q) ops.size (Array.replicate ops.size false) a w := by
  simp only [tailB, Bool.and_eq_true] at ht
  have := tailVc_wp (w0 := w) ht.1.2 ops.toList 0 (Array.replicate ops.size false) false a w (by simp) ht.2 (fun _ => rfl) h
  simpa using wpAny_of_late _ _ _ _ this

theorem draw_wp {P : Program} {id : Nat} {ops : Array Oper} {Q : Exit → Act → World → Prop} {a : Act} {w : World}
    (h : drawVc P ops (Q .normal) a w) : (Code.region id ops true).wp P Q a w := by
  unfold drawVc at h
  cases hm : P.follows .mixedOrders with
  | false => rw [hm] at h; exact h.elim
  | true =>
    rw [hm] at h
    simp only [cond_true] at h
    cases hc : (calmAll P ops.toList && Region.lexB .any ops) with
    | true =>
      rw [hc] at h
      simp only [Bool.and_eq_true] at hc
      exact wp_region_quiet (C := fun w' => w' = w.drew) hm hc.2 rfl (calmVc_quiet _ _ _ (h _ rfl))
    | false =>
      rw [hc] at h
      simp only [cond_false] at h
      cases ht : tailB P ops with
      | true =>
        rw [ht] at h
        refine wp_mono (wp_region_any hm (tailB_any ht (h _ rfl))) fun e a w h => ?_
        cases e <;> first | exact h | exact (h : False).elim
      | false =>
      rw [ht] at h
      simp only [cond_false] at h
      cases hs : Region.noSelect ops with
      | false => rw [hs] at h; exact h.elim
      | true =>
        rw [hs] at h
        simp only [cond_true] at h
        cases hl : ops.toList.any isLoadOp with
        | true =>
          rw [hl] at h
          obtain ⟨S, hS, h⟩ := h _ rfl
          refine wp_mono (wp_region_any hm (wpAny_of_late _ _ _ _ (heldVc_wp hs lateOf_late _ _ _ _ _ (DC.start _ _) (fun _ => hS) h))) fun e a w h => ?_
          cases e <;> first | exact h | exact (h : False).elim
        | false =>
          rw [hl] at h
          refine wp_mono (wp_region_any hm (anyVc_wp hs _ _ _ _ (h _ rfl))) fun e a w h => ?_
          cases e <;> first | exact h | exact (h : False).elim
end Go.Vc
