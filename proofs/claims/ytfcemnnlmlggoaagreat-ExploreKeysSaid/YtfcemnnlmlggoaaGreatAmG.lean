/- The machine runs code. -/
import Derived.Test.YtfcemnnlmlggoaaGreatAmF
import Derived.LoopNIn
namespace Go.Am
open Go.Vc
variable {R : Type}

/-! ## code -/
abbrev BodyK (R : Type) : Type := Tm → Tr Blk → Nat → (AEx → Tm → Tr Blk → Nat → Option R) → Option R
abbrev CodeF (R : Type) : Type := CallK R → BodyK R
def seqF (f g : CodeF R) : CodeF R := fun call tm M n K => f call tm M n fun ex tm M n => AEx.casesOn (motive := fun _ => Option R) ex (g call tm M n K) (K .ret tm M n) (fun i => K (.exit i) tm M n)
def regF (f : RegF R) : CodeF R := fun call tm M n K => f call tm M n fun tm M n => K .normal tm M n
def regSeqF (f : RegF R) (g : CodeF R) : CodeF R := fun call tm M n K => f call tm M n fun tm M n => g call tm M n K
def condF (x y : Bx (CodeF R)) (gc : Tm → Option AV) : CodeF R := fun call tm M n K => oBool (gc tm) fun b => ifK b (onB x fun f => f call tm M n K) (onB y fun f => f call tm M n K)
def blockF (id : Nat) (f : CodeF R) : CodeF R := fun call tm M n K => f call tm M n fun ex tm M n => AEx.casesOn (motive := fun _ => Option R) ex (K .normal tm M n) (K .ret tm M n) (fun i => ifK (Nat.beq i id) (K .normal tm M n) (K (.exit i) tm M n))
/-- rounds: what comes when they are used up -/
abbrev ItF (R : Type) : Type := BodyK R → Tm → Tr Blk → Nat → (AEx → Tm → Tr Blk → Nat → Option R) → (Tm → Tr Blk → Nat → Option R) → Option R
def oneF : ItF R := fun body tm M n K N => body tm M n fun ex tm M n => AEx.casesOn (motive := fun _ => Option R) ex (N tm M n) (K .ret tm M n) (fun i => K (.exit i) tm M n)
def dblF (i : ItF R) : ItF R := fun body tm M n K N => i body tm M n K fun tm M n => i body tm M n K N
def itB : Nat → Bx (ItF R)
  | 0 => ⟨oneF⟩
  | j + 1 => b1 dblF (itB j)
def loopF (i : ItF R) (f : CodeF R) : CodeF R := fun call tm M n K => i (f call) tm M n K fun _ _ _ => none
def failF : CodeF R := fun _ _ _ _ _ => none
def litFun (v : Value) (f : FuncId → List AV → Option R) : Option R := match v with
  | .func (.func g) ⟨[]⟩ ⟨l⟩ => fL (l.map .lit) fun l => f g l
  | _ => none
def aFun (x : AV) (f : FuncId → List AV → Option R) : Option R := AV.casesOn (motive_1 := fun _ => Option R) x (fun v => litFun v f) (fun _ _ => none) (fun _ _ _ _ _ _ => none) (fun _ => none) (fun _ => none) (fun g first caps => List.casesOn (motive := fun _ => Option R) first (f g caps) (fun _ _ => none)) (fun _ => none) (fun _ _ => none) (fun _ => none) (fun _ _ _ => none) none (fun _ _ _ _ => none)
def bLoop (x : Blk) (f : Tm → Nat → List Nat → Code → Code → Nat → AEx → Option R) : Option R := Blk.casesOn (motive := fun _ => Option R) x (fun _ _ => none) (fun _ _ => none) (fun r => LoopA.casesOn (motive := fun _ => Option R) r f)
def rangeF (P : Program) (sz : Nat) (ps : List Nat) (assign body : Code) (gf : Tm → Option AV) : CodeF R := fun call tm M n K => oK (gf tm) fun f => aFun f fun g caps =>
  ifK (an (Nat.ble (Nat.succ g) YB) (callOk P g)) (onB (Tr.sB n) fun s => s M (some (.loop ⟨tm, sz, ps, assign, body, 0, .normal⟩)) fun M1 => fN (Nat.succ n) fun n1 =>
    call g (.yield n :: caps) M1 n1 fun _ M2 n2 => oK ((Tr.gB n).get M2) fun x => bLoop x fun _ _ _ _ _ st pend => ifK (no (Nat.beq st 1))
      (onB (Tr.sB n) fun s => s M2 none fun M3 => AEx.casesOn (motive := fun _ => Option R) pend (K .normal tm M3 n2) (K .ret tm M3 n2) (fun i => K (.exit i) tm M3 n2)) none) none
def codeC (P : Program) (sz : Nat) (lf : Nat) (rnd : Bool) : Code → Bx (CodeF R)
  | .skip => ⟨fun _ tm M n K => K .normal tm M n⟩
  | .label _ => ⟨fun _ tm M n K => K .normal tm M n⟩
  | .ret => ⟨fun _ tm M n K => K .ret tm M n⟩
  | .exit id => ⟨fun _ tm M n K => K (.exit id) tm M n⟩
  | .seq x y => match x with
    | .region _ ops false => b2 regSeqF (listC P sz ops ops.toList) (codeC P sz lf rnd y)
    | .region _ ops true => b2 regSeqF (drawC P sz ops) (codeC P sz lf rnd y)
    | _ => b2 seqF (codeC P sz lf rnd x) (codeC P sz lf rnd y)
  | .cond c x y => b1 (condF (codeC P sz lf rnd x) (codeC P sz lf rnd y)) (opd c)
  | .block id c => b1 (blockF id) (codeC P sz lf rnd c)
  | .loop c => b2 loopF (itB lf) (codeC P sz lf rnd c)
  | .scope c => codeC P sz lf rnd c
  | .region _ ops false => b1 regF (listC P sz ops ops.toList)
  | .region _ ops true => b1 regF (drawC P sz ops)
  | .rangeFunc f ps assign body => cond rnd ⟨failF⟩ (b1 (rangeF P sz ps.toList assign body) (opd f))
  | _ => ⟨failF⟩

/-! ## what code comes to -/
def MarksIn (b : Base) (ds : List Nat) : Prop := ds.Nodup ∧ ∀ D ∈ ds, b.X D ∧ b.w.heap[D]? = some (.deferred (some []))
/-- a later base, with more marks -/
structure Ext (b : Base) (ds : List Nat) (b' : Base) (ds' : List Nat) : Prop where
  kept : Kept b b'.w
  X : ∀ k, b.X k → b'.X k
  R : b'.R = b.R
  new : ∀ D ∈ ds', D ∈ ds ∨ ¬ b.X D
theorem Ext.refl (b : Base) (ds : List Nat) : Ext b ds b ds := ⟨⟨rfl, rfl, rfl, Nat.le_refl _, fun _ _ => rfl⟩, fun _ h => h, rfl, fun _ h => .inl h⟩
theorem Ext.trans {b b1 b2 : Base} {ds ds1 ds2 : List Nat} (h : Ext b ds b1 ds1) (k : Ext b1 ds1 b2 ds2) : Ext b ds b2 ds2 :=
  ⟨⟨k.kept.os.trans h.kept.os, k.kept.tape.trans h.kept.tape, k.kept.output.trans h.kept.output, Nat.le_trans h.kept.size k.kept.size, fun j hj => (k.kept.block j (h.X j hj)).trans (h.kept.block j hj)⟩, fun j hj => k.X j (h.X j hj), k.R.trans h.R, fun D hD => by
    rcases k.new D hD with h1 | h1
    · exact h.new D h1
    · exact .inr fun h2 => h1 (h.X D h2)⟩
def PostR (rnd : Bool) (sz : Nat) (b0 : Base) (ds : List Nat) (e : Env) (tm' : Tm) (M' : Tr Blk) (n' : Nat) (a' : Act) (w' : World) : Prop :=
  ∃ e' b' ds', Later e e' ∧ Ext b0 ds b' ds' ∧ (rnd = true → b' = b0 ∧ ds' = ds) ∧ MemR b' e' M'.get n' w' ∧ ActR sz (ds'.map mk) e' tm' a' ∧ MarksIn b' ds'
theorem PostR.later {rnd : Bool} {sz : Nat} {b0 b1 : Base} {ds ds1 : List Nat} {e e1 : Env} {tm' : Tm} {M' : Tr Blk} {n' : Nat} {a' : Act} {w' : World} (hl : Later e e1) (hx : Ext b0 ds b1 ds1) (hr : rnd = true → b1 = b0 ∧ ds1 = ds) (h : PostR rnd sz b1 ds1 e1 tm' M' n' a' w') : PostR rnd sz b0 ds e tm' M' n' a' w' := by
  obtain ⟨e', b', ds', h1, h2, h3, h4⟩ := h
  exact ⟨e', b', ds', hl.trans h1, hx.trans h2, fun hh => ⟨(h3 hh).1.trans (hr hh).1, (h3 hh).2.trans (hr hh).2⟩, h4⟩
/-- where code may stand -/
def Stand (rnd : Bool) (G : Fence) : Prop := Vc.Good G ∧ (rnd = false → G = Fence.wide)
def CodeR (P : Program) (rnd : Bool) (sz : Nat) (c : Code) (tm : Tm) (M : Tr Blk) (n : Nat) (ex : AEx) (tm' : Tm) (M' : Tr Blk) (n' : Nat) : Prop :=
  ∀ (G : Fence) (n0 : Nat) b0 ds e a w, Stand rnd G → MemR b0 e M.get n w → ActR sz (ds.map mk) e tm a → MarksIn b0 ds → c.wpIn G n0 P (fun x a' w' => x = ex.toExit ∧ PostR rnd sz b0 ds e tm' M' n' a' w') a w
def BodyOk (P : Program) (rnd : Bool) (sz : Nat) (c : Code) (body : BodyK R) : Prop := ∀ tm M n K r, body tm M n K = some r → ∃ ex tm' M' n', K ex tm' M' n' = some r ∧ CodeR P rnd sz c tm M n ex tm' M' n'
theorem post_same {rnd : Bool} {sz : Nat} {b0 : Base} {ds : List Nat} {e e' : Env} {tm : Tm} {M : Tr Blk} {n : Nat} {a : Act} {w : World} (hl : Later e e') (hM : MemR b0 e' M.get n w) (hA : ActR sz (ds.map mk) e' tm a) (hD : MarksIn b0 ds) : PostR rnd sz b0 ds e tm M n a w :=
  ⟨e', b0, ds, hl, Ext.refl _ _, fun _ => ⟨rfl, rfl⟩, hM, hA, hD⟩
theorem exThen_mono {A A' : Act → World → Prop} {Q Q' : Exit → Act → World → Prop} (h1 : ∀ a w, A a w → A' a w) (h2 : ∀ x a w, Q x a w → Q' x a w) : ∀ x a w, Exit.then A Q x a w → Exit.then A' Q' x a w := by
  intro x a w h
  cases x <;> first | exact h1 _ _ h | exact h2 _ _ _ h
theorem roundsIn_mono {G : Fence} {n0 : Nat} {P : Program} {c : Code} {Q Q' : Exit → Act → World → Prop} (hq : ∀ x a w, Q x a w → Q' x a w) : ∀ (k : Nat) {a : Act} {w : World}, Code.roundsIn G n0 P c Q k a w → Code.roundsIn G n0 P c Q' k a w
  | 0, _, _, h => h
  | k + 1, _, _, h => by
    rw [roundsIn_succ] at h ⊢
    exact wpIn_mono h (exThen_mono (fun _ _ => roundsIn_mono hq k) hq)
/-- what rounds come to when they are used up -/
def IterR (P : Program) (rnd : Bool) (sz : Nat) (c : Code) (k : Nat) (tm : Tm) (M : Tr Blk) (n : Nat) (tm' : Tm) (M' : Tr Blk) (n' : Nat) : Prop :=
  ∀ (G : Fence) (n0 : Nat) (Q : Exit → Act → World → Prop) (m : Nat) b0 ds e a w, Stand rnd G → MemR b0 e M.get n w → ActR sz (ds.map mk) e tm a → MarksIn b0 ds → (∀ a' w', PostR rnd sz b0 ds e tm' M' n' a' w' → Code.roundsIn G n0 P c Q m a' w') → Code.roundsIn G n0 P c Q (k + m) a w
def OutR (P : Program) (rnd : Bool) (sz : Nat) (c : Code) (tm : Tm) (M : Tr Blk) (n : Nat) (ex : AEx) (tm' : Tm) (M' : Tr Blk) (n' : Nat) : Prop :=
  ∃ k, ∀ (G : Fence) (n0 : Nat) b0 ds e a w, Stand rnd G → MemR b0 e M.get n w → ActR sz (ds.map mk) e tm a → MarksIn b0 ds → Code.roundsIn G n0 P c (fun x a' w' => x = ex.toExit ∧ PostR rnd sz b0 ds e tm' M' n' a' w') k a w
def ItOk (P : Program) (rnd : Bool) (sz : Nat) (c : Code) (k : Nat) (it : Tm → Tr Blk → Nat → (AEx → Tm → Tr Blk → Nat → Option R) → (Tm → Tr Blk → Nat → Option R) → Option R) : Prop :=
  ∀ {tm M n K N r}, it tm M n K N = some r → (∃ ex tm' M' n', K ex tm' M' n' = some r ∧ OutR P rnd sz c tm M n ex tm' M' n') ∨
    ∃ tm' M' n', N tm' M' n' = some r ∧ IterR P rnd sz c k tm M n tm' M' n'
theorem oneF_ok {P : Program} {rnd : Bool} {sz : Nat} {c : Code} {body : BodyK R} (hb : BodyOk P rnd sz c body) : ItOk P rnd sz c 1 (oneF body) := by
  intro tm M n K N r h
  obtain ⟨ex, tm1, M1, n1, h1, h2⟩ := hb _ _ _ _ _ h
  have out : ∀ {y : AEx}, y.toExit ≠ .normal → ex = y → K y tm1 M1 n1 = some r → ∃ ex tm' M' n', K ex tm' M' n' = some r ∧ OutR P rnd sz c tm M n ex tm' M' n' := by
    intro y hy hex hk
    subst hex
    refine ⟨ex, tm1, M1, n1, hk, 1, fun G n0 b0 ds e a w hG hM hA hD => ?_⟩
    rw [roundsIn_succ]
    refine wpIn_mono (h2 G n0 b0 ds e a w hG hM hA hD) ?_
    rintro x a' w' ⟨rfl, hx⟩
    cases hxx : ex.toExit with
    | normal => exact absurd hxx hy
    | _ => exact ⟨hxx ▸ rfl, hx⟩
  cases ex with
  | normal =>
    refine .inr ⟨tm1, M1, n1, h1, fun G n0 Q m b0 ds e a w hG hM hA hD hN => ?_⟩
    rw [Nat.add_comm, roundsIn_succ]
    refine wpIn_mono (h2 G n0 b0 ds e a w hG hM hA hD) ?_
    rintro x a' w' ⟨rfl, hp⟩
    exact hN a' w' hp
  | ret => exact .inl (out (by simp [AEx.toExit]) rfl h1)
  | exit id => exact .inl (out (by simp [AEx.toExit]) rfl h1)
theorem dblF_ok {P : Program} {rnd : Bool} {sz : Nat} {c : Code} {k : Nat} {i : ItF R} {body : BodyK R} (hi : ItOk P rnd sz c k (i body)) : ItOk P rnd sz c (k + k) (dblF i body) := by
  intro tm M n K N r h
  rcases hi h with h1 | ⟨tm1, M1, n1, h1, h2⟩
  · exact .inl h1
  · rcases hi h1 with ⟨ex, tm', M', n', h3, m, h4⟩ | ⟨tm', M', n', h3, h4⟩
    · refine .inl ⟨ex, tm', M', n', h3, k + m, fun G n0 b0 ds e a w hG hM hA hD => h2 G n0 _ m b0 ds e a w hG hM hA hD fun a' w' hp => ?_⟩
      obtain ⟨e', b', ds', g1, g2, g3, g4, g5, g6⟩ := hp
      exact roundsIn_mono (fun x a w ⟨hx, hp⟩ => ⟨hx, hp.later g1 g2 g3⟩) m (h4 G n0 b' ds' e' a' w' hG g4 g5 g6)
    · refine .inr ⟨tm', M', n', h3, fun G n0 Q m b0 ds e a w hG hM hA hD hN => ?_⟩
      rw [Nat.add_assoc]
      refine h2 G n0 Q (k + m) b0 ds e a w hG hM hA hD fun a' w' hp => ?_
      obtain ⟨e', b', ds', g1, g2, g3, g4, g5, g6⟩ := hp
      exact h4 G n0 Q m b' ds' e' a' w' hG g4 g5 g6 fun a'' w'' hp' => hN a'' w'' (hp'.later g1 g2 g3)
theorem itB_ok {P : Program} {rnd : Bool} {sz : Nat} {c : Code} {body : BodyK R} (hb : BodyOk P rnd sz c body) : ∀ j, ItOk P rnd sz c (2 ^ j) ((itB j).get body)
  | 0 => oneF_ok hb
  | j + 1 => by
    rw [Nat.pow_succ, Nat.mul_two]
    exact dblF_ok (itB_ok hb j)
theorem loopF_ok {P : Program} {rnd : Bool} {sz : Nat} {c : Code} {f : CodeF R} {call : CallK R} (hb : BodyOk P rnd sz c (f call)) (j : Nat) : BodyOk P rnd sz (.loop c) (loopF (itB j).get f call) := by
  intro tm M n K r h
  rcases itB_ok hb j h with ⟨ex, tm', M', n', h3, k, h4⟩ | ⟨_, _, _, h1, _⟩
  · exact ⟨ex, tm', M', n', h3, fun G n0 b0 ds e a w hG hM hA hD => wpIn_loop_rounds k (h4 G n0 b0 ds e a w hG hM hA hD)⟩
  · cases h1
theorem seqF_ok {P : Program} {rnd : Bool} {sz : Nat} {x y : Code} {f g : CodeF R} {call : CallK R} (hf : BodyOk P rnd sz x (f call)) (hg : BodyOk P rnd sz y (g call)) : BodyOk P rnd sz (.seq x y) (seqF f g call) := by
  intro tm M n K r h
  obtain ⟨ex, tm1, M1, n1, h1, h2⟩ := hf _ _ _ _ _ h
  cases ex with
  | normal =>
    obtain ⟨ex, tm', M', n', h3, h4⟩ := hg _ _ _ _ _ h1
    refine ⟨ex, tm', M', n', h3, fun G n0 b0 ds e a w hG hM hA hD => wpIn_seq (wpIn_mono (h2 G n0 b0 ds e a w hG hM hA hD) ?_)⟩
    rintro x a' w' ⟨rfl, e', b', ds', g1, g2, g3, g4, g5, g6⟩
    exact wpIn_mono (h4 G n0 b' ds' e' a' w' hG g4 g5 g6) fun x a w ⟨hx, hp⟩ => ⟨hx, hp.later g1 g2 g3⟩
  | ret => exact ⟨.ret, tm1, M1, n1, h1, fun G n0 b0 ds e a w hG hM hA hD => wpIn_seq (wpIn_mono (h2 G n0 b0 ds e a w hG hM hA hD) (by rintro x a' w' ⟨rfl, hx⟩; exact ⟨rfl, hx⟩))⟩
  | exit id => exact ⟨.exit id, tm1, M1, n1, h1, fun G n0 b0 ds e a w hG hM hA hD => wpIn_seq (wpIn_mono (h2 G n0 b0 ds e a w hG hM hA hD) (by rintro x a' w' ⟨rfl, hx⟩; exact ⟨rfl, hx⟩))⟩

/-! ## ranges over functions -/
theorem litFun_some {v : Value} {f : FuncId → List AV → Option R} {r : R} (h : litFun v f = some r) : ∃ g l, v = .func (.func g) #[] ⟨l⟩ ∧ f g (l.map .lit) = some r := by
  unfold litFun at h
  split at h
  · rw [fL_eq] at h; exact ⟨_, _, rfl, h⟩
  · cases h
theorem aFun_some {x : AV} {f : FuncId → List AV → Option R} {r : R} (h : aFun x f = some r) : ∃ g caps, f g caps = some r ∧ ∀ e v, x.rep e v → ∃ us, v = .func (.func g) #[] ⟨us⟩ ∧ AV.repL e caps us := by
  cases x with
  | lit v =>
    obtain ⟨g, l, rfl, h'⟩ := litFun_some h
    exact ⟨g, _, h', fun e v hv => by simp only [AV.rep] at hv; exact ⟨l, hv, lits_rep l⟩⟩
  | func g first caps =>
    cases first with
    | nil =>
      refine ⟨g, caps, h, fun e v hv => ?_⟩
      simp only [AV.rep, AV.repL] at hv
      obtain ⟨vs, us, h1, rfl, h2⟩ := hv
      exact ⟨us, h1, h2⟩
    | cons a l => cases h
  | _ => cases h
theorem bLoop_some {x : Blk} {f : Tm → Nat → List Nat → Code → Code → Nat → AEx → Option R} {r : R} (h : bLoop x f = some r) : ∃ l : LoopA, x = .loop l ∧ f l.tm l.sz l.ps l.assign l.body l.st l.pend = some r := by
  cases x with
  | loop l => exact ⟨l, rfl, h⟩
  | _ => cases h
theorem callOk_run {P : Program} {g : FuncId} (hok : callOk P g = true) (args : Array Value) (w : World) : (callFunc g args).run P w = .ok (.enter g args) w := by
  unfold callOk at hok
  split at hok
  · rename_i f hf
    simp only [Bool.and_eq_true, Bool.not_eq_true'] at hok
    have hb : f.body.isNone = false := by cases hbb : f.body <;> simp_all
    simp only [callFunc, Sem.run_bind, run_program, Result.andThen_ok, hf, hok.2, Bool.false_eq_true, if_false, hb, Sem.run_pure]
  · cases hok
theorem putObj_grown (w : World) (B : Nat) (o : Obj) : w.grownBy (w.putObj B o) (some B) := grownBy_putObj' w B o
/-- a record that changes -/
theorem MemR.loop {b0 : Base} {w : World} {e : Env} {M : Tr Blk} {n b B t : Nat} {r r' : LoopA} {S S' : Loop} {M' : Tr Blk} (h : MemR b0 e M.get n w) (hx : M.get b = some (.loop r)) (he : e b = some (B, t)) (hS : w.heap[B]? = some (.loop S)) (hB : ¬ b0.X B) (hM : ∀ j, M'.get j = if j = b then some (.loop r') else M.get j) (hr : LoopR e r' S') : MemR b0 e M'.get n (w.putObj B (.loop S')) :=
  h.upd hx he hB (putObj_grown w B _) hM ⟨B, t, S', he, World.putObj_heap_same (Array.getElem?_eq_some_iff.1 hS).1, hr, hB⟩
theorem MemR.getLoop {b0 : Base} {w : World} {e : Env} {M : Tr Blk} {n b B t : Nat} {r : LoopA} (h : MemR b0 e M.get n w) (hx : M.get b = some (.loop r)) (he : e b = some (B, t)) : ∃ S, w.heap[B]? = some (.loop S) ∧ LoopR e r S ∧ ¬ b0.X B := by
  obtain ⟨B', t', S, h1, h2, h3, h4⟩ := h.blk b _ hx
  rw [he] at h1; cases h1
  exact ⟨S, h2, h3, h4⟩
theorem rangeF_ok {P : Program} {call : CallK R} (hcall : CallOk P call) {sz : Nat} {f : Operand} {ps : Array Tmp} {assign body : Code} : BodyOk P false sz (.rangeFunc f ps assign body) (rangeF P sz ps.toList assign body (opd f).get call) := by
  intro tm M n K r h
  obtain ⟨av, hf, h⟩ := oK_some h
  rw [opd_eq] at hf
  obtain ⟨g, caps, h, hrep⟩ := aFun_some h
  obtain ⟨hgc, h⟩ := ifK_some h
  rw [an_eq, Bool.and_eq_true] at hgc
  obtain ⟨M1, h, hM1⟩ := Tr.setK_some (f := FU) (show Tr.setK FU M n _ _ = some r from h)
  rw [fN_eq] at h
  obtain ⟨av', M2, n2, h, hcr⟩ := hcall _ _ _ _ _ _ h
  obtain ⟨x, hx, h⟩ := oK_some h
  obtain ⟨l2, rfl, h⟩ := bLoop_some h
  obtain ⟨hst, h⟩ := ifK_some h
  obtain ⟨M3, h, hM3⟩ := Tr.setK_some (f := FU) (show Tr.setK FU M2 n _ _ = some r from h)
  have hst : l2.st ≠ 1 := fun e => by rw [no_eq, e] at hst; cases hst
  have hx : M2.get n = some (.loop l2) := hx
  have hcr := hcr.1 (Nat.le_of_ble_eq_true hgc.1)
  refine ⟨l2.pend, tm, M3, n2, by cases hp : l2.pend <;> rw [hp] at h <;> exact h, fun G n0 b0 ds e a w hG hM hA hD => ?_⟩
  have hGw := hG.2 rfl
  subst hGw
  obtain ⟨us, hfv, hus⟩ := hrep e _ (evA_rep hA.tm hf)
  refine wpIn_rangeFunc fun fn _ => ?_
  obtain ⟨D, hDD⟩ : ∃ D, D = w.heap.size := ⟨_, rfl⟩
  obtain ⟨S, hS⟩ : ∃ S : Loop, S = { state := .ready, pending := none, fn, tmps := a.tmps, params := ps, assign, body, defers := w.heap.size } := ⟨_, rfl⟩
  have hXlt : ∀ {k}, b0.X k → k < D := fun hk => by rw [hDD]; exact Nat.lt_of_lt_of_le (b0.lt _ hk) hM.kept.size
  let wD : World := w.alloc (.deferred (some []))
  have hwD : wD.heap.size = D + 1 := by rw [hDD]; exact World.size_alloc _ _
  let b1 : Base := ⟨wD, fun k => b0.X k ∨ k = D, fun k hk => by
    rw [hwD]
    rcases hk with hk | hk
    · have := hXlt hk; omega
    · omega, b0.R⟩
  have hold : ∀ {k}, k < D → wD.heap[k]? = w.heap[k]? := fun hk => by
    have := World.grownBy_alloc w (.deferred (some [])) none
    exact this.block _ (by omega) (by simp)
  have hgrow := World.grownBy_alloc w (.deferred (some [])) none
  have hDat : wD.heap[D]? = some (.deferred (some [])) := by rw [hDD]; exact World.alloc_heap_new w _
  have hk0 : Kept b0 wD := ⟨hgrow.os.trans hM.kept.os, hgrow.tape.trans hM.kept.tape, hgrow.output.trans hM.kept.output, Nat.le_trans hM.kept.size (by rw [hwD]; omega), fun k hk => (hold (hXlt hk)).trans (hM.kept.block k hk)⟩
  have hMD : MemR b1 e M.get n wD := by
    refine ⟨hM.new, hM.res, fun b x hb => ?_, hM.dif, ⟨rfl, rfl, rfl, Nat.le_refl _, fun _ _ => rfl⟩⟩
    have hbk := hM.blk b x hb
    obtain ⟨B', t', g1, g2, _⟩ := hbk.at
    refine hbk.keep (Later.refl e) (fun B t hB hX hc => ?_) fun B t hB => ?_
    · rw [g1] at hB; cases hB
      rcases hc with hc | hc
      · exact hX hc
      · omega
    · rw [g1] at hB; cases hB
      exact hold (by omega)
  have hen : e n = none := hM.new n (.inl (Nat.le_refl _))
  have hM1R : MemR b1 (e.put n (wD.heap.size, 0)) M1.get (n + 1) (wD.alloc (.loop S)) := by
    refine hMD.push rfl hen (fun h => Nat.lt_irrefl _ (hM.res n h)) (Nat.le_succ n) (Nat.lt_succ_self n) hM1 ⟨wD.heap.size, 0, S, put_at _ _ _, World.alloc_heap_new _ _, ?_, fun hc => ?_⟩
    · rw [hS]
      exact ⟨rfl, rfl, hA.size, fun t av ht => ⟨(hA.tm.at_ t av ht).1, rep_later (Later.put hen _) (hA.tm.at_ t av ht).2⟩, rfl, rfl, rfl⟩
    · rcases hc with hc | hc
      · have := hXlt hc; omega
      · omega
  have hargs : AV.repL (e.put n (wD.heap.size, 0)) (.yield n :: caps) (.func (.yield (D + 1)) #[] #[] :: us) := by
    simp only [AV.repL]
    exact ⟨_, _, rfl, by simp only [AV.rep]; exact ⟨_, _, put_at _ _ _, by rw [hwD]⟩, repL_later (Later.put hen _) hus⟩
  refine ⟨D + 1, [mk D], wD.alloc (.loop S), { target := .fn (.func g) ⟨us⟩, args := #[.func (.yield (D + 1)) #[] #[]] }, wD.alloc (.loop S), g, #[.func (.yield (D + 1)) #[] #[]] ++ ⟨us⟩, wD.alloc (.loop S), ?_, ?_, fun _ _ => trivial, ?_, fun h => (by cases h), callsIn_wide.2 ?_⟩
  · rw [hS, hDD]; exact run_enterLoop_outer _ _ _ _ _
  · simp only [resolve, hfv]; simp [go_sem]
  · simp [invoke, go_sem, callOk_run hgc.2]
  have hc := hcr b1 _ _ _ hM1R hargs (fun v w' => rangePost Fence.wide n0 P (D + 1) (fun x a' w' => x = l2.pend.toExit ∧ PostR false sz b0 ds e tm M3 n2 a' w') { a with defers := [mk D] ++ a.defers } (.returned v) w') ?_
  · rw [callOk_run hgc.2] at hc
    have e1 : (⟨.func (.yield (D + 1)) #[] #[] :: us⟩ : Array Value) = #[.func (.yield (D + 1)) #[] #[]] ++ ⟨us⟩ := by apply Array.ext'; simp
    rw [e1] at hc
    refine Calls.mono (hc : Calls P g _ _ _) fun en w' h => ?_
    cases en with
    | returned v => exact h
    | panicked c => exact (h : False).elim
    | outgrown => exact (h : False).elim
  · intro e2 v w2 hl2 hMR2 _
    have hen2 : e2 n = some (D + 1, 0) := by have := hl2 n _ (put_at _ _ _); rwa [hwD] at this
    obtain ⟨S2, hS2, hL2, hB2⟩ := hMR2.getLoop hx hen2
    have hbusy : S2.state ≠ .busy := by
      rw [hL2.state]
      match hs : l2.st with
      | 0 => simp [stA]
      | 1 => exact absurd hs hst
      | 2 => simp [stA]
      | k + 3 => simp [stA]
    have hend := run_endLoop (P := P) hS2 hbusy
    refine ⟨S2.pending, _, hend, ?_⟩
    have hM3R : MemR b1 e2 M3.get n2 (w2.putObj (D + 1) (.loop { S2 with state := .exhausted })) := by
      obtain ⟨M4, hM4⟩ : ∃ M4 : Mm, ∀ j, M4 j = if j = n then some (.loop { l2 with st := 3 }) else M2.get j := ⟨_, fun j => rfl⟩
      have h4 : MemR b1 e2 M4 n2 (w2.putObj (D + 1) (.loop { S2 with state := .exhausted })) :=
        hMR2.upd hx hen2 hB2 (putObj_grown w2 _ _) hM4 ⟨_, _, _, hen2, World.putObj_heap_same (Array.getElem?_eq_some_iff.1 hS2).1, ⟨rfl, hL2.pending, hL2.size, hL2.tmps, hL2.params, hL2.assign, hL2.body⟩, hB2⟩
      refine h4.sub fun j z hz => ?_
      rw [hM3] at hz
      split at hz
      · cases hz
      · rename_i hj; rw [hM4, if_neg hj]; exact hz
    have hlat : Later e e2 := (Later.put hen _).trans hl2
    have hnew : ∀ D' ∈ D :: ds, D' ∈ ds ∨ ¬ b0.X D' := by
      intro D' h'
      rcases List.mem_cons.1 h' with rfl | h'
      · exact .inr fun hc => by have := hXlt hc; omega
      · exact .inl h'
    have hpost : PostR false sz b0 ds e tm M3 n2 { a with defers := [mk D] ++ a.defers } (w2.putObj (D + 1) (.loop { S2 with state := .exhausted })) := by
      refine ⟨e2, b1, D :: ds, hlat, ⟨hk0, fun k hk => .inl hk, rfl, hnew⟩, nofun, hM3R, ⟨⟨fun t av ht => ?_⟩, hA.size, by simp [hA.defers]⟩, List.nodup_cons.2 ⟨fun hc => ?_, hD.1⟩, fun D' h' => ?_⟩
      · exact ⟨(hA.tm.at_ t av ht).1, rep_later hlat (hA.tm.at_ t av ht).2⟩
      · have := hXlt (hD.2 D hc).1; omega
      · rcases List.mem_cons.1 h' with rfl | h'
        · exact ⟨.inr rfl, hDat⟩
        · have hXD := (hD.2 D' h').1
          exact ⟨.inl hXD, (hk0.block D' hXD).trans (hD.2 D' h').2⟩
    have hpe := hL2.pending
    revert hpost
    generalize w2.putObj (D + 1) (.loop { S2 with state := .exhausted }) = w5
    intro hpost
    rw [hpe]
    cases hlp : l2.pend with
    | normal => exact ⟨rfl, hpost⟩
    | ret => exact wpIn_ret ⟨rfl, hpost⟩
    | exit i => exact wpIn_exit ⟨rfl, hpost⟩
theorem stepR_scope {P : Program} {b : Frame} {a : Act} {k : List Item} {cs : List Frame} {w : World} {c : Code} : step P (lone (b.atR a (.code (.scope c) :: k)) cs w) = .next (lone (b.atR a (.code c :: .inScope c :: k)) cs w) :=
  step_lone_go (by simp [stepG, stepG.exec, Frame.atR])
theorem stepR_inScope {P : Program} {b : Frame} {a : Act} {k : List Item} {cs : List Frame} {w : World} {c : Code} : step P (lone (b.atR a (.inScope c :: k)) cs w) = .next (lone (b.atR a k) cs w) :=
  step_lone_go (by simp [stepG, stepG.exec, Frame.atR])
/-- a scope through which one goes without a goto -/
theorem wpIn_scope {F : Fence} {n : Nat} {P : Program} {c : Code} {Q : Exit → Act → World → Prop} {a : Act} {w : World} (hn : ∀ l a w, ¬ Q (.goto l) a w) (h : c.wpIn F n P Q a w) : (Code.scope c).wpIn F n P Q a w := by
  intro b k cs hro hb hr
  have h0 : (lone (b.atR a (.code (.scope c) :: k)) cs w).fenced P F := fenced_calm hb hr rfl
  obtain ⟨e, a₁, w₁, hq, harr⟩ := h b (.inScope c :: k) cs hro hb hr
  cases e with
  | normal => exact ⟨.normal, a₁, w₁, hq, .head h0 stepR_scope (StepsIn.trans harr (.one (fenced_calm hb hr rfl) stepR_inScope))⟩
  | exit id =>
    have hx : exitTo id (.inScope c :: k) = exitTo id k := by simp [exitTo]
    exact ⟨.exit id, a₁, w₁, hq, fun k' hk => .head h0 stepR_scope (harr.1 k' (by rw [hx]; exact hk)),
      fun hr' hk => let ⟨k₁, h1, h2⟩ := harr.2 hr' (by rw [hx]; exact hk); ⟨k₁, h1, .head h0 stepR_scope h2⟩⟩
  | goto l => exact absurd hq (hn l a₁ w₁)
  | ret => exact ⟨_, a₁, w₁, hq, .of_steps (.one h0 stepR_scope) harr⟩
  | panic ch => exact ⟨_, a₁, w₁, hq, .of_steps (.one h0 stepR_scope) harr⟩
  | outgrown => exact ⟨_, a₁, w₁, hq, .of_steps (.one h0 stepR_scope) harr⟩
theorem codeC_ok {P : Program} {call : CallK R} (hcall : CallOk P call) (hm : P.follows .mixedOrders = true) {sz lf : Nat} {rnd : Bool} : ∀ (c : Code), BodyOk P rnd sz c ((codeC P sz lf rnd c).get call) := by
  intro c
  induction c with
  | skip => exact fun tm M n K r h => ⟨.normal, tm, M, n, h, fun G n0 b0 ds e a w hG hM hA hD => wpIn_skip ⟨rfl, post_same (Later.refl e) hM hA hD⟩⟩
  | label l => exact fun tm M n K r h => ⟨.normal, tm, M, n, h, fun G n0 b0 ds e a w hG hM hA hD => wpIn_label ⟨rfl, post_same (Later.refl e) hM hA hD⟩⟩
  | ret => exact fun tm M n K r h => ⟨.ret, tm, M, n, h, fun G n0 b0 ds e a w hG hM hA hD => wpIn_ret ⟨rfl, post_same (Later.refl e) hM hA hD⟩⟩
  | exit id => exact fun tm M n K r h => ⟨.exit id, tm, M, n, h, fun G n0 b0 ds e a w hG hM hA hD => wpIn_exit ⟨rfl, post_same (Later.refl e) hM hA hD⟩⟩
  | seq x y ihx ihy =>
    have gen : BodyOk P rnd sz (.seq x y) (seqF (codeC P sz lf rnd x).get (codeC P sz lf rnd y).get call) := seqF_ok ihx ihy
    unfold codeC
    split
    · rename_i i ops
      intro tm M n K r h
      refine gen tm M n K r ?_
      exact h
    · rename_i i ops
      intro tm M n K r h
      refine gen tm M n K r ?_
      exact h
    · exact gen
  | cond c x y ihx ihy =>
    intro tm M n K r h
    obtain ⟨b, hc, h⟩ := oBool_some (show oBool ((opd c).get tm) _ = some r from h)
    rw [opd_eq] at hc
    cases b with
    | true =>
      obtain ⟨ex, tm', M', n', h3, h4⟩ := ihx _ _ _ _ _ (show (codeC P sz lf rnd x).get call tm M n K = some r from h)
      exact ⟨ex, tm', M', n', h3, fun G n0 b0 ds e a w hG hM hA hD => wpIn_cond_true (by have := evA_rep hA.tm hc; simpa only [AV.rep] using this) (h4 G n0 b0 ds e a w hG hM hA hD)⟩
    | false =>
      obtain ⟨ex, tm', M', n', h3, h4⟩ := ihy _ _ _ _ _ (show (codeC P sz lf rnd y).get call tm M n K = some r from h)
      exact ⟨ex, tm', M', n', h3, fun G n0 b0 ds e a w hG hM hA hD => wpIn_cond_false (by have := evA_rep hA.tm hc; simpa only [AV.rep] using this) (h4 G n0 b0 ds e a w hG hM hA hD)⟩
  | block id c ih =>
    intro tm M n K r h
    obtain ⟨ex, tm1, M1, n1, h1, h2⟩ := ih _ _ _ _ _ (show (codeC P sz lf rnd c).get call tm M n _ = some r from h)
    cases ex with
    | normal => exact ⟨.normal, tm1, M1, n1, h1, fun G n0 b0 ds e a w hG hM hA hD => wpIn_block (wpIn_mono (h2 G n0 b0 ds e a w hG hM hA hD) (by rintro x a' w' ⟨rfl, hx⟩; exact ⟨rfl, hx⟩))⟩
    | ret => exact ⟨.ret, tm1, M1, n1, h1, fun G n0 b0 ds e a w hG hM hA hD => wpIn_block (wpIn_mono (h2 G n0 b0 ds e a w hG hM hA hD) (by rintro x a' w' ⟨rfl, hx⟩; exact ⟨rfl, hx⟩))⟩
    | exit i =>
      simp only at h1
      cases hi : Nat.beq i id with
      | true =>
        rw [hi] at h1
        have := Nat.eq_of_beq_eq_true hi
        subst this
        exact ⟨.normal, tm1, M1, n1, h1, fun G n0 b0 ds e a w hG hM hA hD => wpIn_block (wpIn_mono (h2 G n0 b0 ds e a w hG hM hA hD) (by rintro x a' w' ⟨rfl, hx⟩; show if i = i then _ else _; rw [if_pos rfl]; exact ⟨rfl, hx⟩))⟩
      | false =>
        rw [hi] at h1
        have hne : i ≠ id := fun e => by subst e; simp at hi
        exact ⟨.exit i, tm1, M1, n1, h1, fun G n0 b0 ds e a w hG hM hA hD => wpIn_block (wpIn_mono (h2 G n0 b0 ds e a w hG hM hA hD) (by rintro x a' w' ⟨rfl, hx⟩; show if i = id then _ else _; rw [if_neg hne]; exact ⟨rfl, hx⟩))⟩
  | loop c ih => exact loopF_ok ih lf
  | scope c ih =>
    intro tm M n K r h
    obtain ⟨ex, tm1, M1, n1, h1, h2⟩ := ih _ _ _ _ _ (show (codeC P sz lf rnd c).get call tm M n K = some r from h)
    exact ⟨ex, tm1, M1, n1, h1, fun G n0 b0 ds e a w hG hM hA hD => wpIn_scope (fun l a w hq => by cases ex <;> cases hq.1) (h2 G n0 b0 ds e a w hG hM hA hD)⟩
  | region id ops draw =>
    intro tm M n K r h
    cases draw with
    | false =>
      obtain ⟨tm', M', n', h3, h6⟩ := listC_ok hcall ops.toList 0 (by simp) (show (listC P sz ops ops.toList).get call tm M n _ = some r from h)
      refine ⟨.normal, tm', M', n', h3, fun G n0 b0 ds e a w hG hM hA hD => wpIn_region ?_⟩
      have := h6 G n0 (fun x a' w' => x = AEx.normal.toExit ∧ PostR rnd sz b0 ds e tm' M' n' a' w') b0 (ds.map mk) e a w hG.1 hM hA fun e' a' w' hl hM' hA' => ⟨rfl, post_same hl hM' hA' hD⟩
      rw [List.range_eq_range']
      simpa using this
    | true =>
      have hall := drawC_all (show (drawC P sz ops).get call tm M n _ = some r from h)
      obtain ⟨tm', M', n', h3, h6⟩ := drawC_ok hcall (show (drawC P sz ops).get call tm M n _ = some r from h)
      refine ⟨.normal, tm', M', n', h3, fun G n0 b0 ds e a w hG hM hA hD => ?_⟩
      have := h6 (onlyNormal fun a' w' => PostR rnd sz b0 ds e tm' M' n' a' w') b0 (ds.map mk) e a w hM hA fun e' a' w' hl hM' hA' => post_same hl hM' hA' hD
      refine wpIn_mono (wpIn_region_any hm (any_in hG.1 hall onlyNormal_out _ _ _ _ this)) fun x a w h => ?_
      cases x <;> first | exact ⟨rfl, h⟩ | exact (h : False).elim
  | rangeFunc f ps assign body _ _ =>
    unfold codeC
    cases rnd with
    | true => intro tm M n K r h; cases h
    | false => exact rangeF_ok hcall
  | _ => intro tm M n K r h; cases h

/-! ## a round -/
def putsK (sz : Nat) : List Nat → List AV → Tm → (Tm → Option R) → Option R
  | [], [], tm, K => K tm
  | p :: ps, a :: as, tm, K => putK sz tm (some p) a fun tm => putsK sz ps as tm K
  | _, _, _, _ => none
theorem putsK_ok {sz : Nat} : ∀ {ps : List Nat} {as : List AV} {tm : Tm} {K : Tm → Option R} {r : R}, putsK sz ps as tm K = some r → ∃ tm', K tm' = some r ∧ ps.length = as.length ∧
    ∀ e vs (T : Array Value), AV.repL e as vs → ActR sz [] e tm { tmps := T, defers := [] } → ActR sz [] e tm' { tmps := (ps.zip vs).foldl (fun T (x : Nat × Value) => T.setIfInBounds x.1 x.2) T, defers := [] }
  | [], [], tm, K, r, h => ⟨tm, h, rfl, fun e vs T hv hA => by simpa using hA⟩
  | p :: ps, a :: as, tm, K, r, h => by
    obtain ⟨tm1, h1, h2⟩ := putK_ok (show putK sz tm (some p) a (fun tm => putsK sz ps as tm K) = some r from h)
    obtain ⟨tm', h3, h4, h5⟩ := putsK_ok h1
    refine ⟨tm', h3, by simp [h4], fun e vs T hv hA => ?_⟩
    simp only [AV.repL] at hv
    obtain ⟨x, xs, rfl, hx, hxs⟩ := hv
    exact h5 e xs _ hxs (h2 [] e e _ x hA (Later.refl e) hx)
  | [], _ :: _, _, _, _, h => by cases h
  | _ :: _, [], _, _, _, h => by cases h
def yieldC (P : Program) (lf : Nat) (call : CallK R) (b : Nat) (as : List AV) (M : Tr Blk) (n : Nat) (K : AV → Tr Blk → Nat → Option R) : Option R :=
  oK ((Tr.gB b).get M) fun x => bLoop x fun tm sz ps assign body st _ => ifK (Nat.beq st 0) (putsK sz ps as tm fun tm1 => onB (codeC P sz lf true assign) fun fa => fa call tm1 M n fun ex tm2 M2 n2 => AEx.casesOn (motive := fun _ => Option R) ex
    (oK ((Tr.gB b).get M2) fun x2 => bLoop x2 fun tm' sz' ps' as' body' st' pend' => ifK (Nat.beq st' 0)
      (onB (Tr.sB b) fun s => s M2 (some (.loop ⟨tm', sz', ps', as', body', 1, pend'⟩)) fun M3 => onB (codeC P sz lf true body) fun fb => fb call tm2 M3 n2 fun ex3 _ M4 n4 =>
        oK ((Tr.gB b).get M4) fun x4 => bLoop x4 fun tm4 sz4 ps4 as4 body4 _ _ => AEx.casesOn (motive := fun _ => Option R) ex3
          (onB (Tr.sB b) fun s => s M4 (some (.loop ⟨tm4, sz4, ps4, as4, body4, 0, .normal⟩)) fun M5 => K (.lit (.bool true)) M5 n4)
          (onB (Tr.sB b) fun s => s M4 (some (.loop ⟨tm4, sz4, ps4, as4, body4, 2, .ret⟩)) fun M5 => K (.lit (.bool false)) M5 n4)
          (fun i => onB (Tr.sB b) fun s => s M4 (some (.loop ⟨tm4, sz4, ps4, as4, body4, 2, .exit i⟩)) fun M5 => K (.lit (.bool false)) M5 n4)) none)
    none (fun _ => none)) none
theorem yieldC_ok {P : Program} {call : CallK R} (hcall : CallOk P call) (hm : P.follows .mixedOrders = true) {lf b : Nat} {as : List AV} {M : Tr Blk} {n : Nat} {K : AV → Tr Blk → Nat → Option R} {r : R} (h : yieldC P lf call b as M n K = some r) : ∃ av M' n', K av M' n' = some r ∧ YieldR P b as M n av M' n' := by
  obtain ⟨x, hx, h⟩ := oK_some h
  obtain ⟨l, rfl, h⟩ := bLoop_some h
  obtain ⟨hst, h⟩ := ifK_some h
  have hst := Nat.eq_of_beq_eq_true hst
  obtain ⟨tm1, h, hlen, hp1⟩ := putsK_ok h
  obtain ⟨ex, tm2, M2, n2, h, hc1⟩ := codeC_ok hcall hm (rnd := true) l.assign _ _ _ _ _ (show (codeC P l.sz lf true l.assign).get call tm1 M n _ = some r from h)
  cases ex with
  | ret => cases h
  | exit i => cases h
  | normal =>
  obtain ⟨x2, hx2, h⟩ := oK_some (show oK ((Tr.gB b).get M2) _ = some r from h)
  obtain ⟨l2, rfl, h⟩ := bLoop_some h
  obtain ⟨hst2, h⟩ := ifK_some h
  have hst2 := Nat.eq_of_beq_eq_true hst2
  obtain ⟨M3, h, hM3⟩ := Tr.setK_some (f := FU) (show Tr.setK FU M2 b _ _ = some r from h)
  obtain ⟨ex3, tm3, M4, n4, h, hc3⟩ := codeC_ok hcall hm (rnd := true) l.body _ _ _ _ _ (show (codeC P l.sz lf true l.body).get call tm2 M3 n2 _ = some r from h)
  obtain ⟨x4, hx4, h⟩ := oK_some h
  obtain ⟨l4, rfl, h⟩ := bLoop_some h
  have hx : M.get b = some (.loop l) := hx
  have hx2 : M2.get b = some (.loop l2) := hx2
  have hx4 : M4.get b = some (.loop l4) := hx4
  -- the record at the end
  obtain ⟨bb, stE, M5, hK, hbb, hM5⟩ : ∃ (bb : Bool) (stE : Nat) (M5 : Tr Blk), K (.lit (.bool bb)) M5 n4 = some r ∧ (bb = ex3.jump.isNone ∧ stA stE = if ex3.jump.isNone then .ready else .done) ∧ ∀ j, M5.get j = if j = b then some (.loop { l4 with st := stE, pend := ex3 }) else M4.get j := by
    cases ex3 with
    | normal =>
      obtain ⟨M5, h1, h2⟩ := Tr.setK_some (f := FU) (show Tr.setK FU M4 b _ _ = some r from h)
      exact ⟨true, 0, M5, h1, ⟨rfl, rfl⟩, h2⟩
    | ret =>
      obtain ⟨M5, h1, h2⟩ := Tr.setK_some (f := FU) (show Tr.setK FU M4 b _ _ = some r from h)
      exact ⟨false, 2, M5, h1, ⟨rfl, rfl⟩, h2⟩
    | exit i =>
      obtain ⟨M5, h1, h2⟩ := Tr.setK_some (f := FU) (show Tr.setK FU M4 b _ _ = some r from h)
      exact ⟨false, 2, M5, h1, ⟨rfl, rfl⟩, h2⟩
  refine ⟨_, M5, n4, hK, fun b0 e w vs hM hvs B t hB next hk n0 => ?_⟩
  obtain ⟨S, hS, hL, hXB⟩ := hM.getLoop hx hB
  have hvl := repL_length hvs
  have hsz : (⟨vs⟩ : Array Value).size = S.params.size := by rw [hL.params]; simp; omega
  have hy := run_yield (P := P) (args := (⟨vs⟩ : Array Value)) hS hsz
  refine ⟨S.fn, _, S.assign, S.body, hy, roundIn_of_wpIn trivial ?_⟩
  rw [hL.assign, hL.body]
  have htm : (S.params.zip (⟨vs⟩ : Array Value)).foldl (fun tmps (x : Nat × Value) => tmps.setIfInBounds x.1 x.2) S.tmps = (l.ps.zip vs).foldl (fun T (x : Nat × Value) => T.setIfInBounds x.1 x.2) S.tmps := by
    rw [hL.params]
    have : (⟨l.ps⟩ : Array Nat).zip (⟨vs⟩ : Array Value) = ⟨l.ps.zip vs⟩ := by apply Array.ext'; simp
    rw [this]; simp
  have hA0 : ActR l.sz [] e l.tm { tmps := S.tmps, defers := [] } := ⟨⟨fun t av ht => hL.tmps t av ht⟩, hL.size, rfl⟩
  have hA1 := hp1 e vs S.tmps hvs hA0
  rw [← htm] at hA1
  have hG : Stand true (Fence.wide.inRound B) := ⟨.inr ⟨B, rfl⟩, nofun⟩
  have hD0 : MarksIn b0 [] := ⟨List.nodup_nil, nofun⟩
  refine wpIn_mono (hc1 (Fence.wide.inRound B) n0 b0 [] e _ w hG hM hA1 hD0) ?_
  rintro x a2 w2 ⟨rfl, e2, b2, ds2, g1, _, g3, g4, g5, _⟩
  obtain ⟨rfl, rfl⟩ := g3 rfl
  have hB2 := g1 _ _ hB
  obtain ⟨S2, hS2, hL2, hXB2⟩ := g4.getLoop hx2 hB2
  refine ⟨_, run_beginRound hS2 (by rw [hL2.state, hst2]; rfl), ?_⟩
  have hM3R : MemR b2 e2 M3.get n2 (w2.putObj B (.loop { S2 with state := .busy })) :=
    g4.loop hx2 hB2 hS2 hXB2 hM3 ⟨rfl, hL2.pending, hL2.size, hL2.tmps, hL2.params, hL2.assign, hL2.body⟩
  refine wpIn_mono (hc3 (Fence.wide.inRound B) n0 b2 [] e2 a2 _ hG hM3R g5 hD0) ?_
  rintro x a4 w4 ⟨rfl, e4, b4, ds4, k1, _, k3, k4, k5, _⟩
  obtain ⟨rfl, rfl⟩ := k3 rfl
  have hB4 := k1 _ _ hB2
  obtain ⟨S4, hS4, hL4, hXB4⟩ := k4.getLoop hx4 hB4
  have hend := run_endRound (P := P) ex3.jump hS4
  have hM5R : MemR b4 e4 M5.get n4 (w4.putObj B (.loop { S4 with state := (if ex3.jump.isNone then .ready else .done), pending := ex3.jump })) :=
    k4.loop hx4 hB4 hS4 hXB4 hM5 ⟨hbb.2.symm, rfl, hL4.size, hL4.tmps, hL4.params, hL4.assign, hL4.body⟩
  have hfin := hk e4 (.bool bb) _ (g1.trans k1) hM5R (by simp only [AV.rep])
  rw [← hbb.1] at hend hfin
  cases ex3 with
  | normal => exact ⟨_, _, hend, bb, rfl, hfin⟩
  | ret => exact ⟨_, _, hend, bb, rfl, hfin⟩
  | exit i => exact ⟨_, _, hend, bb, rfl, hfin⟩
end Go.Am
