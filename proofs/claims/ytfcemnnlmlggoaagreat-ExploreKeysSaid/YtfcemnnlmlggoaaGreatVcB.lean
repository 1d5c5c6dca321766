/- The conditions of Go code: a library of this claim. -/
import Derived.Test.YtfcemnnlmlggoaaGreatVcA
namespace Go.Vc

theorem semOk_value {P : Program} {s : Sem Value} {K : Value → World → Prop} {w : World} {next : Value → World → Prop} (h : SemOk P s K w) (hk : ∀ v w, K v w → next v w) :
    After P next (Sem.run P (do pure (.value (← s))) w) := by
  obtain ⟨v, w', h1, h2⟩ := h
  simp only [Sem.run_bind, h1, Result.andThen_ok, Sem.run_pure, After]
  exact hk _ _ h2

theorem semOk_unit {P : Program} {s : Sem Unit} {K : Unit → World → Prop} {w : World} {next : Value → World → Prop} (h : SemOk P s K w) (hk : ∀ v w, K v w → next undef w) :
    After P next (Sem.run P (do s; pure .skip) w) := by
  obtain ⟨v, w', h1, h2⟩ := h
  simp only [Sem.run_bind, h1, Result.andThen_ok, Sem.run_pure, After]
  exact hk _ _ h2

theorem onNext_after {P : Program} {s : Sem Next} {next : Value → World → Prop} {w : World} (h : Swp P s (onNext next) w) : After P next (s.run P w) := by
  obtain ⟨v, w', h1, h2⟩ := Swp_run h
  rw [h1]
  cases v <;> simp only [onNext] at h2 <;> first | exact h2 | exact h2.elim

theorem isAgg_run {P : Program} {t : TypeId} {w : World} : ∀ {d : TypeDesc}, P.underlying t = some d → (isAgg t).run P w = .ok (match d with | .struct _ | .array _ _ => true | _ => false) w := by
  intro d hd
  simp only [isAgg, underlying, Sem.run_bind, run_program, Result.andThen_ok, hd, Sem.run_pure]
  cases d <;> rfl

theorem vtyOf_one {P : Program} {t : TypeId} {c : CTy} (h : vtyOf P t = .one c) : ∀ d, P.underlying t = some d → (match d with | .struct _ | .array _ _ => true | _ => false) = false := by
  intro d hd
  unfold vtyOf at h
  rw [hd] at h
  cases d <;> simp_all

theorem vtyOf_agg {P : Program} {t : TypeId} {cs : List CTy} (h : vtyOf P t = .agg cs) : ∃ d, P.underlying t = some d ∧ (match d with | .struct _ | .array _ _ => true | _ => false) = true := by
  unfold vtyOf at h
  split at h
  · rename_i hd; exact ⟨_, hd, rfl⟩
  · rename_i hd; exact ⟨_, hd, rfl⟩
  · cases h

theorem underlying_some {P : Program} {t : TypeId} {d : TypeDesc} (h : P.underlying t = some d) : ∃ i, P.info? t = some i := by
  unfold Program.underlying at h
  split at h
  · rename_i hi; exact ⟨_, hi⟩
  · rename_i hi; exact ⟨_, hi⟩
  · cases h

theorem load_run {P : Program} {t : TypeId} {a : Addr} {w : World} {next : Value → World → Prop}
    (h : match vtyOf P t with
      | .one c => c.ex fun v => w.cell? a = some v ∧ next v w
      | .agg cs => cond (cs.length == sizeP P t) (exCells cs fun l => CellsAt w a l ∧ next (.agg ⟨l⟩) w) False) (hd : P.underlying t ≠ none) :
    ∃ v, (loadVar t a).run P w = .ok v w ∧ next v w := by
  obtain ⟨d, hd⟩ := Option.ne_none_iff_exists'.1 hd
  split at h
  · rename_i c hc
    obtain ⟨v, h1, h2⟩ := CTy.ex_elim h
    refine ⟨v, ?_, h2⟩
    simp only [loadVar, Sem.run_bind, isAgg_run hd, vtyOf_one hc d hd, Result.andThen_ok, Bool.false_eq_true, if_false, run_load, h1]
  · rename_i cs hc
    obtain ⟨d', hd', hagg⟩ := vtyOf_agg hc
    obtain rfl : d = d' := Option.some.inj (hd.symm.trans hd')
    cases hs : (cs.length == sizeP P t) with
    | false => rw [hs] at h; exact h.elim
    | true =>
      rw [hs] at h
      obtain ⟨l, hl, h1, h2⟩ := exCells_elim h
      obtain ⟨i, hi⟩ := underlying_some hd
      have hsz : l.length = i.size := by
        have := eq_of_beq hs
        simp only [sizeP, hi] at this
        omega
      refine ⟨_, ?_, h2⟩
      simp only [loadVar, Sem.run_bind, isAgg_run hd, hagg, Result.andThen_ok, if_true, sizeOf, typeInfo, run_program, hi, Sem.run_pure, loadCells]
      rw [← hsz, loadCells_run l 0 #[] (fun j hj => by simpa using h1 j hj)]
      simp

theorem setCells_one (w : World) (a : Addr) (v : Value) : setCellsFrom w a 0 [v] = w.setCell a v := by
  simp [setCellsFrom, Addr.add]

theorem after_calls {P : Program} {g : FuncId} {args : Array Value} {w : World} {next : Value → World → Prop} (hc : callOk P g = true) (h : Calls P g args w (Ret next)) :
    After P next ((callFunc g args).run P w) := by
  unfold callOk at hc
  split at hc
  · rename_i fn hfn
    simp only [Bool.and_eq_true, Bool.not_eq_true'] at hc
    have hb : fn.body.isNone = false := by cases hbb : fn.body <;> simp_all
    simp only [callFunc, Sem.run_bind, run_program, Result.andThen_ok, hfn, hc.2, Bool.false_eq_true, if_false, hb, Sem.run_pure, After]
    exact h
  · cases hc

theorem ret_typed {P : Program} {t : TypeId} {g : FuncId} {args : Array Value} {w : World} {next : Value → World → Prop}
    (h : Calls P g args w (Ret fun v w' => typedV P t v (next · w'))) : Calls P g args w (Ret next) :=
  h.mono fun e w' h => by
    cases e with
    | returned v => have h' : typedV P t v (next · w') := h; exact typedV_elim h'
    | panicked c => exact h
    | outgrown => exact h

theorem effVc_run {P : Program} {ρ : Operand → Value} {o : Oper} {next : Value → World → Prop} {w : World} (h : effVc P ρ o next w) :
    After P next ((execOp ρ o).run P w) := by
  obtain ⟨dst, op, type, pos, after, guard⟩ := o
  cases op <;> simp only [effVc] at h
  case load t x =>
    split at h
    · rename_i q d ha hd
      obtain ⟨a, rfl⟩ : ∃ a, q = some a := by cases q with | none => exact h.elim | some a => exact ⟨a, rfl⟩
      obtain ⟨v, h1, h2⟩ := load_run h (by rw [hd]; simp)
      simp only [execOp, Instr.loadAt, ha, Instr.sureAddr, Sem.run_bind, Sem.run_pure, Result.andThen_ok, h1, After]
      exact h2
    · exact h.elim
  case store t x v =>
    split at h
    · rename_i q ha
      obtain ⟨a, rfl⟩ : ∃ a, q = some a := by cases q with | none => exact h.elim | some a => exact ⟨a, rfl⟩
      simp only [ptrOr] at h
      split at h
      · rename_i c hc
        cases hs : (1 == sizeP P t) with
        | false => rw [hs] at h; exact h.elim
        | true =>
          rw [hs] at h
          obtain ⟨_, h1, h2, h3⟩ := storeOk_elim h
          have hv : (ρ v).oneCell' = true := h1 _ (by simp)
          have hcs : (ρ v).cells = #[ρ v] := by revert hv; cases ρ v <;> simp [Value.oneCell', Value.cells]
          obtain ⟨i, hi⟩ : ∃ i, P.info? t = some i := by
            have := eq_of_beq hs
            unfold sizeP at this
            split at this
            · exact ⟨_, by assumption⟩
            · cases this
          have hsz : 1 = i.size := by have := eq_of_beq hs; simpa [sizeP, hi] using this
          have hst := storeCells_run (P := P) (a := a) [ρ v] w 0 h1 (fun j hj => by have := h2 j (by simpa using hj); simpa using this)
          simp only [execOp, Instr.storeAt, ha, Instr.sureAddr, storeVar, sizeOf, typeInfo, hi, hcs, ← hsz, hst, setCells_one, Sem.run_bind, Sem.run_pure, Result.andThen_ok, run_program, After, List.size_toArray, List.length_cons, List.length_nil, Nat.zero_add, ne_eq, not_true_eq_false, if_false]
          exact h3 _ rfl
      · rename_i cs hc
        split at h
        · rename_i l hl
          cases hs : (cs.length == sizeP P t) with
          | false => rw [hs] at h; exact h.elim
          | true =>
            rw [hs] at h
            obtain ⟨h0, h1, h2, h3⟩ := storeOk_elim h
            obtain ⟨d', hd', hagg⟩ := vtyOf_agg hc
            obtain ⟨i, hi⟩ := underlying_some hd'
            have hsz : l.size = i.size := by have := eq_of_beq hs; simp only [sizeP, hi] at this; simp at h0; omega
            have hst := storeCells_run (P := P) (a := a) l.toList w 0 h1 (fun j hj => by have := h2 j (by omega); simpa using this)
            simp only [execOp, Instr.storeAt, ha, hl, Instr.sureAddr, storeVar, Value.cells, sizeOf, typeInfo, hi, hsz, hst, Sem.run_bind, Sem.run_pure, Result.andThen_ok, run_program, After, ne_eq, not_true_eq_false, if_false]
            exact h3 _ rfl
        · exact h.elim
    · exact h.elim
  case alloc => exact onNext_after h
  case box => exact onNext_after h
  case buildSlice => exact onNext_after h
  case makeMap => exact onNext_after h
  case lookup => exact semOk_value h fun v w h => typedV_elim h
  case insert => exact semOk_unit h fun _ _ h => h
  case mapUpdate => exact semOk_unit h fun _ _ h => h
  case mapEntry => exact semOk_value h fun v w h => typedV_elim h
  case entryStore => exact semOk_unit h fun _ _ h => h
  case range => exact semOk_value h fun v w ⟨a, h1, h2⟩ => by rw [h1]; exact h2
  case next => exact semOk_value h fun v w h => nextV_elim h
  case entry => exact semOk_value h fun v w h => entryV_elim h
  case typeAssert => exact semOk_value h fun v w h => typedV_elim h
  case index => exact semOk_value h fun v w h => typedV_elim h
  case makeSlice => exact semOk_value h fun v w h => typedV_elim h
  case convert => exact semOk_value h fun v w h => typedV_elim h
  case binOp => exact semOk_value h fun v w h => typedV_elim h
  case call c =>
    obtain ⟨callee, args, argTypes⟩ := c
    cases callee with
    | value f =>
      simp only [callV] at h
      split at h
      · rename_i g first captured hf
        cases hc : callOk P g with
        | false =>
          rw [hc] at h
          obtain ⟨v, w', h1, h2⟩ := h
          have : After P next ((callFunc g (first ++ args.map ρ ++ captured)).run P w) := by rw [h1]; exact typedV_elim h2
          simpa only [execOp, resolve, hf, Deferred.ofValue, invoke, Sem.run_bind, Sem.run_pure, Result.andThen_ok, Array.append_assoc] using this
        | true =>
          rw [hc] at h
          have := after_calls hc (ret_typed h)
          simpa only [execOp, resolve, hf, Deferred.ofValue, invoke, Sem.run_bind, Sem.run_pure, Result.andThen_ok, Array.append_assoc] using this
      · exact h.elim
    | builtin b =>
      cases b <;> simp only at h <;> first
        | (exact h.elim)
        | (simp only [execOp, resolve, invoke, builtin]
           simp only [Sem.run_bind, Sem.run_pure, Result.andThen_ok]
           obtain ⟨v, w', h1, h2⟩ := h
           simp only [h1, Result.andThen_ok, After]
           first | exact typedV_elim h2 | exact h2)
    | invoke r m =>
      simp only at h
      split at h
      · rename_i t v hr
        split at h
        · rename_i g recv hm
          cases hc : callOk P g with
          | false => rw [hc] at h; exact h.elim
          | true =>
            rw [hc] at h
            have := after_calls hc (ret_typed h)
            have hm' := semVal_run hm w
            have e0 : (#[Value.iface t v] ++ args.map ρ)[0]? = some (Value.iface t v) := by simp [Array.getElem?_append]
            have e1 : (#[Value.iface t v] ++ args.map ρ).extract 1 (#[Value.iface t v] ++ args.map ρ).size = args.map ρ := by
              apply Array.ext'
              simp
              rw [List.take_of_length_le (by simp)]
            simp only [execOp, resolve, invoke, hr, callMethod, Sem.run_bind, Sem.run_pure, Result.andThen_ok, e0, e1, run_program, hm']
            exact this
        · exact h.elim
      · exact h.elim
  all_goals exact h.elim

end Go.Vc
