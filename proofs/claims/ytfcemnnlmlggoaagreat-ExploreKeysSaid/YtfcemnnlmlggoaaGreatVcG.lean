/- The conditions of Go code: a library of this claim. -/
import Derived.Test.YtfcemnnlmlggoaaGreatVcF
import Derived.RangeFuncNested
import Derived.RangeFuncLeaves
import Derived.RangeFuncCalls
import Derived.OrdersIn
namespace Go.Vc
open Go.RowKit (Below)

/-! ## Fences: everywhere, and in a round of a range over a function -/
def Good (G : Fence) : Prop := G = Fence.wide ∨ ∃ l, G = Fence.wide.inRound l
theorem Good.fn {G : Fence} (h : Good G) (f : FuncId) : G.fn f := by rcases h with rfl | ⟨l, rfl⟩ <;> trivial
theorem Good.depth {G : Fence} (h : Good G) : G.depth = none := by rcases h with rfl | ⟨l, rfl⟩ <;> rfl
theorem Good.calls {G : Fence} (h : Good G) {n : Nat} {P : Program} {f : FuncId} {args : Array Value} {w : World} {R : Ending → World → Prop} (hc : Calls P f args w R) : CallsIn G n P f args w R := by
  rcases h with rfl | ⟨l, rfl⟩
  · exact callsIn_wide.2 hc
  · exact CallsIn.inRound l (callsIn_wide.2 hc)
theorem Good.round {G : Fence} (h : Good G) {n : Nat} {P : Program} {l : Nat} {f : FuncId} {tmps : Array Value} {assign body : Code} {w : World} {R : Ending → World → Prop} (hc : RoundIn Fence.wide n P l f tmps assign body w R) : RoundIn G n P l f tmps assign body w R := by
  rcases h with rfl | ⟨l, rfl⟩
  · exact hc
  · exact hc

def notDefer (o : Oper) : Bool := match o.op with | .defer _ => false | _ => true
theorem notDefer_spec {o : Oper} (h : notDefer o = true) : ∀ c, o.op ≠ .defer c := by
  intro c e; unfold notDefer at h; rw [e] at h; cases h

theorem after_in {P : Program} {G : Fence} (hG : Good G) {n : Nat} {o : Oper} (hd : notDefer o = true) {a : Act} {w : World} {next : Act → World → Prop} {Q : Exit → Act → World → Prop}
    (h : After P (fun v w => next (a.put o.dst v) w) ((execOp a.eval o).run P w)) : o.wpIn G n P a w next Q := by
  refine ⟨fun f _ => hG.fn f, ?_⟩
  rw [Oper.semAt_eq G.round a.eval o (notDefer_spec hd)]
  generalize (execOp a.eval o).run P w = r at h
  cases r with
  | ok x w =>
    cases x with
    | value v => exact h
    | skip => exact h
    | enter f args =>
      refine ⟨fun hx => (by rw [hG.depth] at hx; cases hx), hG.calls (Calls.mono (h : Calls P f args w _) fun e w' h => ?_)⟩
      cases e with
      | returned v => exact h
      | panicked c => exact (h : False).elim
      | outgrown => exact (h : False).elim
    | _ => exact (h : False).elim
  | halt x w => exact (h : False).elim

/-! ## Calls of yield -/
def YieldC (P : Program) (l : Nat) (args : Array Value) (next : Bool → World → Prop) (w : World) : Prop :=
  ∀ n, YieldAt Fence.wide n P l args w fun e w' => ∃ b, e = .returned (.bool b) ∧ next b w'

/-- some pointers to boxes -/
def exPtrs : Nat → (List Value → Prop) → Prop
  | 0, K => K []
  | n + 1, K => ∃ b : Nat, exPtrs n fun l => K (.pointer (some ⟨b, 0, none⟩) :: l)
theorem exPtrs_elim : ∀ {n : Nat} {K : List Value → Prop}, exPtrs n K → ∃ l, K l
  | 0, _, h => ⟨_, h⟩
  | _ + 1, _, ⟨_, h⟩ => by obtain ⟨l, h⟩ := exPtrs_elim h; exact ⟨_, h⟩
theorem exPtrs_mono : ∀ {n : Nat} {K K' : List Value → Prop}, exPtrs n K → (∀ l, K l → K' l) → exPtrs n K'
  | 0, _, _, h, hk => hk _ h
  | _ + 1, _, _, ⟨b, h⟩, hk => ⟨b, exPtrs_mono h fun _ h => hk _ h⟩

/-- closures: k itself; or an array of them: none, and some in a row -/
def closVal (k : Nat) (ps : List Value) : Value :=
  cond (Nat.blt k 1000000) (.func (.func k) #[] ⟨ps⟩) (.agg ⟨.nilFunc :: (List.range (k % 1000000)).map fun i => .func (.func (k / 1000000 + i)) #[] ⟨ps⟩⟩)
/-- cl: functions that return a closure: which one, with how many variables -/
def opVcY (P : Program) (cl : List (Nat × Nat × Nat)) (ρ : Operand → Value) (o : Oper) (next : Value → World → Prop) (w : World) : Prop :=
  match o.op with
  | .call c => match c.callee with
    | .value f => match ρ f with
      | .func (.yield l) first captured => cond (first.size == 0 && captured.size == 0) (YieldC P l (c.args.map ρ) (fun b w' => next (.bool b) w') w) False
      | .func (.func g) first captured => match lookL cl g with
        | some gk => cond (callOk P g) (Calls P g (first ++ c.args.map ρ ++ captured) w (Ret fun v w' => exPtrs gk.2 fun ps => v = closVal gk.1 ps ∧ next (closVal gk.1 ps) w')) False
        | none => opVc P ρ o next w
      | _ => opVc P ρ o next w
    | _ => opVc P ρ o next w
  | _ => opVc P ρ o next w

theorem YieldC.mono {P : Program} {l : Nat} {args : Array Value} {next next' : Bool → World → Prop} {w : World} (h : YieldC P l args next w) (hk : ∀ b w, next b w → next' b w) : YieldC P l args next' w := by
  intro n
  obtain ⟨fn, tmps, assign, body, h1, h2⟩ := h n
  exact ⟨fn, tmps, assign, body, h1, RoundIn.mono h2 fun e w' ⟨b, he, hb⟩ => ⟨b, he, hk _ _ hb⟩⟩

theorem opVcY_mono {P : Program} {cl : List (Nat × Nat × Nat)} {ρ : Operand → Value} {o : Oper} {next next' : Value → World → Prop} {w : World} (h : opVcY P cl ρ o next w) (hk : ∀ v w, next v w → next' v w) : opVcY P cl ρ o next' w := by
  unfold opVcY at h ⊢
  split at h
  · split at h
    · split at h
      · rename_i l first captured hf
        cases hc : (first.size == 0 && captured.size == 0) with
        | false => rw [hc] at h; exact h.elim
        | true => rw [hc] at h; exact YieldC.mono h fun b w h => hk _ _ h
      · rename_i g first captured hf
        split at h
        · rename_i gk hl
          cases hc : callOk P g with
          | false => rw [hc] at h; exact h.elim
          | true =>
            rw [hc] at h
            refine Calls.mono (h : Calls P g _ w _) fun e w' he => ?_
            cases e with
            | returned v => exact exPtrs_mono (he : exPtrs gk.2 _) fun l h => ⟨h.1, hk _ _ h.2⟩
            | panicked c => exact he
            | outgrown => exact he
        · exact opVc_mono h hk
      · exact opVc_mono h hk
    · exact opVc_mono h hk
  · exact opVc_mono h hk

theorem opVcY_in {P : Program} {cl : List (Nat × Nat × Nat)} {G : Fence} (hG : Good G) {n : Nat} {o : Oper} (hd : notDefer o = true) {a : Act} {w : World} {next : Act → World → Prop} {Q : Exit → Act → World → Prop}
    (h : opVcY P cl a.eval o (fun v w => next (a.put o.dst v) w) w) : o.wpIn G n P a w next Q := by
  unfold opVcY at h
  split at h
  · rename_i c ho
    split at h
    · rename_i f hcal
      split at h
      · rename_i l first captured hf
        cases hc : (first.size == 0 && captured.size == 0) with
        | false => rw [hc] at h; exact h.elim
        | true =>
          rw [hc] at h
          simp only [Bool.and_eq_true, beq_iff_eq] at hc
          have e1 : first = #[] := Array.eq_empty_of_size_eq_zero hc.1
          have e2 : captured = #[] := Array.eq_empty_of_size_eq_zero hc.2
          subst e1 e2
          refine ⟨fun f _ => hG.fn f, ?_⟩
          rw [Oper.semAt_eq G.round a.eval o (notDefer_spec hd)]
          obtain ⟨fn, tmps, assign, body, h1, h2⟩ := h (n - 1)
          obtain ⟨callee, args, argTypes⟩ := c
          obtain ⟨dst, op, type, pos, after, guard⟩ := o
          simp only at ho hcal
          subst ho hcal
          have hrun : (execOp a.eval { dst := dst, op := .call { callee := .value f, args := args, argTypes := argTypes }, type := type, pos := pos, after := after, guard := guard }).run P w = .ok (.round l fn tmps assign body) w := by
            simpa [execOp, resolve, hf, Deferred.ofValue, invoke] using h1
          rw [hrun]
          refine ⟨fun hx => (by rw [hG.depth] at hx; cases hx), RoundIn.mono (hG.round h2) fun e w' he => ?_⟩
          obtain ⟨b, rfl, hb⟩ := he
          exact hb
      · rename_i g first captured hf
        split at h
        · rename_i gk hl
          cases hc : callOk P g with
          | false => rw [hc] at h; exact h.elim
          | true =>
            rw [hc] at h
            refine after_in hG hd ?_
            have h2 : Calls P g (first ++ c.args.map a.eval ++ captured) w (Ret fun v w' => next (a.put o.dst v) w') := Calls.mono (h : Calls P g _ w _) fun e w' he => by
              cases e with
              | returned v => obtain ⟨l, h1, h2⟩ := exPtrs_elim (he : exPtrs gk.2 _); rw [← h1] at h2; exact h2
              | panicked c => exact he
              | outgrown => exact he
            have h3 := after_calls hc h2
            obtain ⟨callee, args, argTypes⟩ := c
            obtain ⟨dst, op, type, pos, after, guard⟩ := o
            simp only at ho hcal
            subst ho hcal
            simpa only [execOp, resolve, hf, Deferred.ofValue, invoke, Sem.run_bind, Sem.run_pure, Result.andThen_ok, Array.append_assoc] using h3
        · exact after_in hG hd (opVc_run h)
      · exact after_in hG hd (opVc_run h)
    · exact after_in hG hd (opVc_run h)
  · exact after_in hG hd (opVc_run h)

def listVcY (P : Program) (cl : List (Nat × Nat × Nat)) (ops : Array Oper) (Q : Act → World → Prop) : List Oper → Nat → Act → World → Prop
  | [], _, a, w => Q a w
  | o :: rest, i, a, w =>
    cond (Region.wanted o (yielded ops a.tmps))
      (opVcY P cl a.eval (withEnt ops.toList o) (parted (isGuard ops.toList i) fun v w' => listVcY P cl ops Q rest (i + 1) (a.put o.dst v) w') w)
      (listVcY P cl ops Q rest (i + 1) (a.put o.dst undef) w)

theorem listVcY_mono {P : Program} {cl : List (Nat × Nat × Nat)} {ops : Array Oper} {Q Q' : Act → World → Prop} {wr : List Nat} {a0 : Act} (hq : ∀ a w, Q a w → Fr wr a0 a → Q' a w) : ∀ (l : List Oper) (i : Nat) (a : Act) (w : World),
    (∀ o ∈ l, ∀ d, o.dst = some d → d ∈ wr) → Fr wr a0 a → listVcY P cl ops Q l i a w → listVcY P cl ops Q' l i a w := by
  intro l
  induction l with
  | nil => intro i a w _ hf h; exact hq _ _ h hf
  | cons o rest ih =>
    intro i a w hd hf h
    simp only [listVcY] at h ⊢
    have hd' := hd o (by simp)
    have hr : ∀ o ∈ rest, ∀ d, o.dst = some d → d ∈ wr := fun o ho => hd o (by simp [ho])
    cases hw : Region.wanted o (yielded ops a.tmps) with
    | false => rw [hw] at h; exact ih _ _ _ hr (hf.put hd' _) h
    | true =>
      rw [hw] at h
      refine opVcY_mono h fun v w' h => ?_
      rw [parted_iff] at h ⊢
      exact ih _ _ _ hr (hf.put hd' _) h

theorem opVcY_of {P : Program} {cl : List (Nat × Nat × Nat)} {ρ : Operand → Value} {o : Oper} {p : Pur} (hp : pureOp P ρ o = some p) {next : Value → World → Prop} {w : World} (h : opVc P ρ o next w) : opVcY P cl ρ o next w := by
  unfold opVcY
  split
  · rename_i c ho
    split
    · rename_i f hcal
      exfalso
      unfold pureOp at hp
      rw [ho] at hp
      obtain ⟨callee, args, argTypes⟩ := c
      simp only at hcal
      subst hcal
      simp at hp
    · exact h
  · exact h
theorem withEnt_notDefer {ops : List Oper} {o : Oper} (h : notDefer o = true) : notDefer (withEnt ops o) = true := by
  unfold withEnt; split
  · rename_i h1 _; simp only [notDefer, h1]
  · exact h
theorem withEnt_about {P : Program} {w : World} {ρ : Operand → Value} (ops : List Oper) (o : Oper) : (withEnt ops o).about P w ρ = o.about P w ρ := by
  unfold withEnt; split
  · rename_i h1 _; simp only [Oper.about, h1]
  · rfl

theorem listVcY_in {P : Program} {cl : List (Nat × Nat × Nat)} {G : Fence} (hG : Good G) {n : Nat} {ops : Array Oper} {Q : Exit → Act → World → Prop} : ∀ (l : List Oper) (k : Nat) (a : Act) (w : World),
    (∀ o ∈ l, notDefer o = true) → (∀ j, l[j]? = ops[k + j]?) → listVcY P cl ops (Q .normal) l k a w → wpOpsIn G n P ops Q (List.range' k l.length) a w := by
  intro l
  induction l with
  | nil => intro k a w _ _ h; simpa [wpOpsIn, listVcY] using h
  | cons o rest ih =>
    intro k a w hd hl h
    have h0 : ops[k]? = some o := by simpa using (hl 0).symm
    have hrest : ∀ j, rest[j]? = ops[k + 1 + j]? := fun j => by have := hl (j + 1); rw [show k + 1 + j = k + (j + 1) by omega]; simpa using this
    simp only [List.length_cons, List.range'_succ]
    rw [wpOpsIn_cons]
    unfold wpOpIn
    simp only [h0]
    simp only [listVcY] at h
    have ho := hd o (by simp)
    cases hw : Region.wanted o (yielded ops a.tmps) with
    | false =>
      rw [hw] at h
      simp only [Bool.false_eq_true, if_false]
      exact ⟨fun f _ => hG.fn f, ih _ _ _ (fun o ho => hd o (by simp [ho])) hrest h⟩
    | true =>
      rw [hw] at h
      simp only [if_true]
      have hq := opVcY_in (P := P) (G := G) hG (n := n) (o := withEnt ops.toList o) (withEnt_notDefer ho) (a := a) (w := w) (next := fun a' w' => wpOpsIn G n P ops Q (List.range' (k + 1) rest.length) a' w') (Q := Q)
        (opVcY_mono h fun v w' h => by rw [parted_iff] at h; rw [withEnt_dst]; exact ih _ _ _ (fun o ho => hd o (by simp [ho])) hrest h)
      unfold Oper.wpIn at hq ⊢
      refine ⟨fun f _ => hG.fn f, ?_⟩
      have h2 := hq.2
      rw [Oper.semAt_eq G.round a.eval _ (notDefer_spec (withEnt_notDefer ho)), withEnt_exec] at h2
      rw [Oper.semAt_eq G.round a.eval _ (notDefer_spec ho)]
      generalize (execOp a.eval o).run P w = r at h2 ⊢
      unfold Oper.uponIn at h2 ⊢
      simp only [withEnt_dst] at h2
      exact h2

theorem regionY_in {P : Program} {cl : List (Nat × Nat × Nat)} {G : Fence} (hG : Good G) {n : Nat} {id : Nat} {ops : Array Oper} {Q : Exit → Act → World → Prop} {a : Act} {w : World} (hd : ops.toList.all notDefer = true)
    (h : listVcY P cl ops (Q .normal) ops.toList 0 a w) : (Code.region id ops false).wpIn G n P Q a w := by
  refine wpIn_region ?_
  have := listVcY_in hG (n := n) ops.toList 0 a w (fun o ho => List.all_eq_true.1 hd o ho) (fun j => by simp) h
  rw [List.range_eq_range']
  simpa using this

/-! drawn regions -/
theorem Good.rows {G : Fence} (h : Good G) {n : Nat} {P : Program} {row : String} {args : Array Value} {w : World} {R : Value → World → Prop} (hc : Rows P row args w R) : RowsIn G n P row args w R := by
  have hw : RowsIn Fence.wide n P row args w R := fun c cs _ => let ⟨v, w', r, s⟩ := hc c cs; ⟨v, w', r, stepsIn_wide.2 s⟩
  rcases h with rfl | ⟨l, rfl⟩
  · exact hw
  · exact hw
theorem op_in {P : Program} {G : Fence} (hG : Good G) {n : Nat} {o : Oper} (hd : notDefer o = true) {a : Act} {w : World} {K : Act → World → Prop} {Q : Exit → Act → World → Prop}
    (h : o.wp P a w K Q) : o.wpIn G n P a w K Q := by
  refine ⟨fun f _ => hG.fn f, ?_⟩
  rw [Oper.semAt_eq G.round a.eval o (notDefer_spec hd)]
  unfold Oper.wp at h
  generalize (execOp a.eval o).run P w = r at h
  cases r with
  | ok x w' =>
    cases x with
    | value v => exact h
    | skip => exact h
    | defer d => exact h
    | enter f args => exact ⟨fun hx => (by rw [hG.depth] at hx; cases hx), hG.calls h⟩
    | row row args => exact ⟨fun hx => (by rw [hG.depth] at hx; cases hx), hG.rows h⟩
    | _ => exact (h : False).elim
  | halt x w' =>
    cases x with
    | panic v => exact h
    | _ => exact (h : False).elim
theorem any_in {P : Program} {G : Fence} (hG : Good G) {n : Nat} {ops : Array Oper} (hd : ∀ (i : Nat) (o : Oper), ops[i]? = some o → notDefer o = true) {Q : Exit → Act → World → Prop} (hO : ¬ LetsOut Q) : ∀ (fuel : Nat) (listed : Array Bool) (a : Act) (w : World),
    wpAny P .any ops Q fuel listed a w → wpAnyIn G n P .any ops Q fuel listed a w
  | 0, _, _, _, h => h
  | fuel + 1, listed, a, w, h => by
    refine ⟨h.1, fun i hi => ?_⟩
    have := h.2 i hi
    unfold wpOp at this
    unfold wpOpIn
    cases ho : ops[i]? with
    | none => rw [ho] at this; exact any_in hG hd hO fuel _ _ _ this
    | some o =>
      rw [ho] at this
      simp only at this ⊢
      cases hw : Region.wanted o (yielded ops a.tmps) with
      | false =>
        rw [hw] at this
        simp only [Bool.false_eq_true, if_false] at this ⊢
        exact ⟨fun f _ => hG.fn f, any_in hG hd hO fuel _ _ _ this⟩
      | true =>
        rw [hw] at this
        simp only [if_true] at this ⊢
        rcases this with h1 | ⟨_, h1⟩
        · exact Oper.wpIn_mono (fun a w h => any_in hG hd hO fuel _ _ _ h) (op_in hG (hd i o ho) h1)
        · exact absurd h1 hO
theorem onlyNormal_out {Q : Act → World → Prop} : ¬ LetsOut (onlyNormal Q) := fun ⟨_, _, h⟩ => h
theorem drawVc_any {P : Program} {ops : Array Oper} {Q : Act → World → Prop} {a : Act} {w : World} (h : drawVc P ops Q a w) :
    P.follows .mixedOrders = true ∧ wpAny P .any ops (onlyNormal Q) ops.size (Array.replicate ops.size false) a { w with drawn := w.drawn + 1 } := by
  unfold drawVc at h
  cases hm : P.follows .mixedOrders with
  | false => rw [hm] at h; exact h.elim
  | true =>
    rw [hm] at h
    simp only [cond_true] at h
    refine ⟨rfl, ?_⟩
    cases hc : (calmAll P ops.toList && Region.lexB .any ops) with
    | true =>
      rw [hc] at h
      simp only [Bool.and_eq_true] at hc
      have hB := hc.2
      simp only [Region.lexB, Bool.and_eq_true] at hB
      have hq := calmVc_quiet ops.toList 0 a (h _ rfl)
      refine wpAny_of_quiet (C := fun w' => w' = w.drew) (Q := fun a' => ∀ w', w' = w.drew → Q a' w') (fun _ w' hw' h => h w' hw') _ _ _ _ rfl ?_
      have := wpAnyQ_lex (C := fun w' => w' = w.drew) (md := .any) hB.1 ops.toList 0 (Array.replicate ops.size false) a (by simp) (by simpa using hB.2) hq
      simpa using this
    | false =>
      rw [hc] at h
      simp only [cond_false] at h
      cases ht : tailB P ops with
      | true => rw [ht] at h; exact tailB_any ht (h _ rfl)
      | false =>
      rw [ht] at h
      simp only [cond_false] at h
      cases hs : Region.noSelect ops with
      | false => rw [hs] at h; exact h.elim
      | true =>
        rw [hs] at h
        simp only [cond_true] at h
        cases hl : ops.toList.any isLoadOp with
        | true =>
          rw [hl] at h
          obtain ⟨S, hS, h⟩ := h _ rfl
          exact wpAny_of_late _ _ _ _ (heldVc_wp hs lateOf_late _ _ _ _ _ (DC.start _ _) (fun _ => hS) h)
        | false => rw [hl] at h; exact anyVc_wp hs _ _ _ _ (h _ rfl)
theorem draw_in {P : Program} {G : Fence} (hG : Good G) {n : Nat} {id : Nat} {ops : Array Oper} {Q : Exit → Act → World → Prop} {a : Act} {w : World} (hd : ops.toList.all notDefer = true)
    (h : drawVc P ops (Q .normal) a w) : (Code.region id ops true).wpIn G n P Q a w := by
  obtain ⟨hm, h⟩ := drawVc_any h
  refine wpIn_mono (wpIn_region_any hm (any_in hG (fun i o ho => List.all_eq_true.1 hd o (by simpa using Array.mem_of_getElem? ho)) onlyNormal_out _ _ _ _ h)) fun e a w h => ?_
  cases e <;> first | exact h | exact (h : False).elim
theorem calm_in {P : Program} {G : Fence} (hG : Good G) {n : Nat} {id : Nat} {ops : Array Oper} {Q : Exit → Act → World → Prop} {a : Act} {w : World} (hd : ops.toList.all notDefer = true) (hm : P.follows .mixedOrders = true) (hB : Region.lexB .any ops = true)
    (h : calmVc P ops (Q .normal) ops.toList 0 a w.drew) : (Code.region id ops true).wpIn G n P Q a w := by
  have hB' := hB
  simp only [Region.lexB, Bool.and_eq_true] at hB'
  have hq := calmVc_quiet ops.toList 0 a h
  have hx : wpAny P .any ops (onlyNormal (Q .normal)) ops.size (Array.replicate ops.size false) a { w with drawn := w.drawn + 1 } := by
    refine wpAny_of_quiet (C := fun w' => w' = w.drew) (Q := fun a' => ∀ w', w' = w.drew → Q .normal a' w') (Q' := onlyNormal (Q .normal)) (fun _ w' hw' h => h w' hw') _ _ _ _ rfl ?_
    have := wpAnyQ_lex (C := fun w' => w' = w.drew) (md := .any) hB'.1 ops.toList 0 (Array.replicate ops.size false) a (by simp) (by simpa using hB'.2) hq
    simpa using this
  refine wpIn_mono (wpIn_region_any hm (any_in hG (fun i o ho => List.all_eq_true.1 hd o (by simpa using Array.mem_of_getElem? ho)) onlyNormal_out _ _ _ _ hx)) fun e a w h => ?_
  cases e <;> first | exact h | exact (h : False).elim
end Go.Vc
