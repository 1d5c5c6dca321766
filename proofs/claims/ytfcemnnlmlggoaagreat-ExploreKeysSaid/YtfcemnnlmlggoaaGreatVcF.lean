/- The conditions of Go code: a library of this claim. -/
import Derived.Test.YtfcemnnlmlggoaaGreatVcE
namespace Go.Vc

theorem drawVc_mono {P : Program} {ops : Array Oper} {Q Q' : Act → World → Prop} {wr : List Nat} {a0 : Act} (hq : ∀ a w, Q a w → Fr wr a0 a → Q' a w) (hd : ∀ o ∈ ops.toList, ∀ d, o.dst = some d → d ∈ wr)
    {a : Act} {w : World} (hf : Fr wr a0 a) (h : drawVc P ops Q a w) : drawVc P ops Q' a w := by
  unfold drawVc at h ⊢
  cases hm : P.follows .mixedOrders with
  | false => rw [hm] at h; exact h
  | true =>
    rw [hm] at h
    simp only [cond_true] at h ⊢
    cases hc : (calmAll P ops.toList && Region.lexB .any ops) with
    | true => rw [hc] at h; exact fun w' hw => calmVc_mono hq _ _ _ _ hd hf (h w' hw)
    | false =>
      rw [hc] at h
      simp only [cond_false] at h ⊢
      cases ht : tailB P ops with
      | true => rw [ht] at h; exact fun w' hw => tailVc_mono hq _ _ _ _ hd hf (h w' hw)
      | false =>
      rw [ht] at h
      simp only [cond_false] at h ⊢
      cases hs : Region.noSelect ops with
      | false => rw [hs] at h; exact h
      | true =>
        rw [hs] at h
        simp only [cond_true] at h ⊢
        cases hl : ops.toList.any isLoadOp with
        | true =>
          rw [hl] at h
          intro w' hw
          obtain ⟨S, hS, h⟩ := h w' hw
          exact ⟨S, hS, heldVc_mono hq (fun i o ho => hd o (by simpa using Array.mem_of_getElem? ho)) _ _ _ _ _ hf h⟩
        | false => rw [hl] at h; exact fun w' hw => anyVc_mono hq (fun i o ho => hd o (by simpa using Array.mem_of_getElem? ho)) _ _ _ _ hf (h w' hw)

theorem codeVc_mono {P : Program} {ann : Ann} {wr : List Nat} {a0 : Act} : ∀ (c : Code) (cur : Nat) (Q Q' : Exit → Act → World → Prop) (a : Act) (w : World),
    (∀ i ∈ Code.writes c, i ∈ wr) → (∀ e a w, Q e a w → Fr wr a0 a → Q' e a w) → Fr wr a0 a → codeVc P ann c cur Q a w → codeVc P ann c cur Q' a w := by
  intro c
  induction c with
  | skip => intro cur Q Q' a w _ hq hf h; exact hq _ _ _ h hf
  | region id ops draw =>
    intro cur Q Q' a w hw hq hf h
    have hd : ∀ o ∈ ops.toList, ∀ d, o.dst = some d → d ∈ wr := fun o ho d hd => hw d (mem_dst ho hd)
    simp only [codeVc] at h ⊢
    split at h
    · rename_i live _
      have hm : ∀ w', mergeVc P ops (live.filter fun i => (ops.toList.filterMap (·.dst)).contains i) (Q .normal) a w' → mergeVc P ops (live.filter fun i => (ops.toList.filterMap (·.dst)).contains i) (Q' .normal) a w' := by
        intro w' h
        unfold mergeVc at h ⊢
        split at h
        · refine withAll_mono h fun h g => hq _ _ _ (h g) (loopAct_fr hf hw (fun i hi => hw i (List.contains_iff_mem.1 (List.mem_filter.1 hi).2)) g _)
        · exact h
      cases draw with
      | false => exact hm _ h
      | true =>
        simp only [cond_true] at h ⊢
        cases hc : (P.follows .mixedOrders && Region.lexB .any ops) with
        | false => rw [hc] at h; exact h
        | true => rw [hc] at h; exact fun w' hw' => hm w' (h w' hw')
    · cases draw with
      | true => exact drawVc_mono (fun a w => hq _ a w) hd hf h
      | false => exact listVc_mono (fun a w => hq _ a w) _ _ _ _ hd hf h
  | seq x y ihx ihy =>
    intro cur Q Q' a w hw hq hf h
    simp only [codeVc] at h ⊢
    simp only [Code.writes, List.mem_append] at hw
    split at h
    · rename_i live _
      obtain ⟨J, h1, h2⟩ := h
      refine ⟨J, ihx _ _ _ _ _ (fun i hi => hw i (.inl hi)) (fun e a' w' he hf' => ?_) hf h1, fun g => allC_mono (h2 g) fun vs h w hJ => ?_⟩
      · cases e with
        | normal => exact he
        | _ => exact hq _ _ _ he hf'
      · refine ihy _ _ _ _ _ (fun i hi => hw i (.inr hi)) hq (loopAct_fr hf (fun i hi => hw i (.inl hi)) (fun i hi => ?_) g vs) (h w hJ)
        obtain ⟨p, hp, rfl⟩ := List.mem_map.1 hi
        exact hw _ (.inl (by simpa using (List.mem_filter.1 hp).2))
    · refine ihx _ _ _ _ _ (fun i hi => hw i (.inl hi)) (fun e a' w' he hf' => ?_) hf h
      cases e with
      | normal => exact ihy _ _ _ _ _ (fun i hi => hw i (.inr hi)) hq hf' he
      | _ => exact hq _ _ _ he hf'
  | cond c x y ihx ihy =>
    intro cur Q Q' a w hw hq hf h
    simp only [codeVc] at h ⊢
    simp only [Code.writes, List.mem_append] at hw
    split at h
    · rename_i b _
      cases b with
      | true => exact ihx _ _ _ _ _ (fun i hi => hw i (.inl hi)) hq hf h
      | false => exact ihy _ _ _ _ _ (fun i hi => hw i (.inr hi)) hq hf h
    · exact h
  | block id c ih =>
    intro cur Q Q' a w hw hq hf h
    simp only [codeVc] at h ⊢
    refine ih _ _ _ _ _ hw (fun e a' w' he hf' => ?_) hf h
    cases e with
    | exit id' =>
      simp only [Exit.inBlock] at he ⊢
      split
      · rename_i heq; simp only [heq, if_true] at he; exact hq _ _ _ he hf'
      · rename_i hne; simp only [hne, if_false] at he; exact hq _ _ _ he hf'
    | _ => exact hq _ _ _ he hf'
  | loop c ih =>
    intro cur Q Q' a w hw hq hf h
    simp only [codeVc, loopVc] at h ⊢
    obtain ⟨I, μ, h0, h1⟩ := h
    refine ⟨I, μ, h0, fun g => allC_mono (h1 g) fun vs h w hI => ?_⟩
    have hlive : ∀ i ∈ (keepIn (Code.writes c) ((lookL ann.loops cur).getD [])).map (·.1), i ∈ wr := by
      intro i hi
      obtain ⟨p, hp, rfl⟩ := List.mem_map.1 hi
      have := (List.mem_filter.1 hp).2
      exact hw _ (by simp only [Code.writes]; simpa using this)
    refine ih _ _ _ _ _ hw (fun e a' w' he hf' => ?_) (loopAct_fr hf hw hlive g vs) (h w hI)
    cases e with
    | normal => exact he
    | _ => exact hq _ _ _ he hf'
  | scope c ih =>
    intro cur Q Q' a w hw hq hf h
    simp only [codeVc] at h ⊢
    refine ih _ _ _ _ _ hw (fun e a' w' he hf' => ?_) hf h
    cases e with
    | goto l => exact he.elim
    | _ => exact hq _ _ _ he hf'
  | exit id => intro cur Q Q' a w _ hq hf h; exact hq _ _ _ h hf
  | label l => intro cur Q Q' a w _ hq hf h; exact hq _ _ _ h hf
  | ret => intro cur Q Q' a w _ hq hf h; exact hq _ _ _ h hf
  | _ => intros; rename_i h; exact h.elim

theorem codeVc_wp {P : Program} {ann : Ann} : ∀ (c : Code) (cur : Nat) (Q : Exit → Act → World → Prop) (a : Act) (w : World), codeVc P ann c cur Q a w → c.wp P Q a w := by
  intro c
  induction c with
  | skip => intro cur Q a w h; exact wp_skip h
  | region id ops draw =>
    intro cur Q a w h
    simp only [codeVc] at h
    split at h
    · rename_i live _
      generalize (live.filter fun i => (ops.toList.filterMap (·.dst)).contains i) = lv at h
      have hm : ∀ w', mergeVc P ops lv (Q .normal) a w' → calmVc P ops (Q .normal) ops.toList 0 a w' := by
        intro w' h
        unfold mergeVc at h
        split at h
        · rename_i ps vs hp
          obtain ⟨h1, h2⟩ := withAll_elim h
          refine calmVc_mono (wr := ops.toList.filterMap (·.dst)) (a0 := a) (fun a' w'' h hf => ?_) _ _ _ _ (fun o ho d hd => mem_dst ho hd) (Fr.refl _ _) (merged_calm _ _ _ hp h1 (w := w'))
          obtain ⟨rfl, hv⟩ := h
          have := h2 (fun i => a'.tmps.getD i undef)
          rw [← hv] at this
          have e : loopAct a (ops.toList.filterMap (·.dst)) (fun i => a'.tmps.getD i undef) lv (valsAt a' lv) = a' := loopAct_same hf lv
          rw [e] at this
          exact this
        · exact h.elim
      cases draw with
      | false => exact region_wp (calmVc_list _ _ _ _ (hm _ h))
      | true =>
        simp only [cond_true] at h
        cases hc : (P.follows .mixedOrders && Region.lexB .any ops) with
        | false => rw [hc] at h; exact h.elim
        | true =>
          rw [hc] at h
          simp only [Bool.and_eq_true] at hc
          exact wp_region_quiet (C := fun w' => w' = w.drew) hc.1 hc.2 rfl (calmVc_quiet _ _ _ (hm _ (h _ rfl)))
    · cases draw with
      | true => exact draw_wp h
      | false => exact region_wp h
  | seq x y ihx ihy =>
    intro cur Q a w h
    simp only [codeVc] at h
    split at h
    · rename_i live _
      generalize keepIn (Code.writes x) live = lv at h
      obtain ⟨J, h1, h2⟩ := h
      have h3 := codeVc_mono (wr := Code.writes x) (a0 := a) x _ _ (fun e a' w' => Exit.then (fun a' w' => Inv.at _ J (vals a' (lv.map (·.1))) w') Q e a' w' ∧ Fr (Code.writes x) a a') _ _ (fun _ h => h) (fun e a w h hf => ⟨h, hf⟩) (Fr.refl _ _) h1
      refine wp_seq (wp_mono (ihx _ _ _ _ h3) ?_)
      rintro e a' w' ⟨he, hf⟩
      cases e with
      | normal =>
        have h4 := allC_at _ _ _ _ _ he (h2 (fun i => a'.tmps.getD i undef)) w' he
        rw [loopAct_same hf] at h4
        exact ihy _ _ _ _ h4
      | _ => exact he
    · refine wp_seq (wp_mono (ihx _ _ _ _ h) fun e a w h => ?_)
      cases e with
      | normal => exact ihy _ _ _ _ h
      | _ => exact h
  | cond c x y ihx ihy =>
    intro cur Q a w h
    simp only [codeVc] at h
    split at h
    · rename_i b hb
      refine wp_cond hb ?_
      cases b with
      | true => exact ihx _ _ _ _ h
      | false => exact ihy _ _ _ _ h
    · exact h.elim
  | block id c ih => intro cur Q a w h; exact wp_block (ih _ _ _ _ h)
  | loop c ih =>
    intro cur Q a w h
    simp only [codeVc, loopVc] at h
    obtain ⟨I, μ, h0, h1⟩ := h
    generalize (keepIn (Code.writes c) ((lookL ann.loops cur).getD [])) = live at I μ h0 h1
    refine wp_loop (fun a' w' => Fr (Code.writes c) a a' ∧ Inv.at _ I (vals a' (live.map (·.1))) w') (fun a' w' => Mes.at _ μ (vals a' (live.map (·.1))) w') ⟨Fr.refl _ _, h0⟩ fun a' w' ⟨hf, hI⟩ => ?_
    have h2 := allC_at _ _ _ _ _ hI (h1 (fun i => a'.tmps.getD i undef)) w' hI
    rw [loopAct_same hf] at h2
    refine wp_mono (ih _ _ _ _ (codeVc_mono (wr := Code.writes c) (a0 := a') c _ _ (fun e a'' w'' => (Exit.then _ Q) e a'' w'' ∧ Fr (Code.writes c) a' a'') _ _ (fun _ h => h) (fun e a w h hf => ⟨h, hf⟩) (Fr.refl _ _) h2)) ?_
    rintro e a'' w'' ⟨he, hf'⟩
    cases e with
    | normal => exact ⟨⟨⟨hf'.size.trans hf.size, hf'.defers.trans hf.defers, fun i hi => (hf'.same i hi).trans (hf.same i hi)⟩, he.1⟩, he.2⟩
    | _ => exact he
  | scope c ih => intro cur Q a w h; exact wp_scope_straight (ih _ _ _ _ h)
  | exit id => intro cur Q a w h; exact wp_exit h
  | label l => intro cur Q a w h; exact wp_label h
  | ret => intro cur Q a w h; exact wp_ret h
  | _ => intro cur Q a w h; exact h.elim

/-! ## Functions -/
def resVc (P : Program) (tmps : Array Value) : List ResultVar → (List Value → Prop) → World → Prop
  | [], K, _ => K []
  | .tmp t :: rs, K, w => resVc P tmps rs (fun l => K (tmps.getD t undef :: l)) w
  | .cell s t :: rs, K, w => match tmps.getD s undef, P.underlying t with
    | .pointer (some a), some _ => match vtyOf P t with
      | .one c => c.ex fun v => w.cell? a = some v ∧ resVc P tmps rs (fun l => K (v :: l)) w
      | .agg cs => cond (cs.length == sizeP P t) (exCells cs fun l => CellsAt w a l ∧ resVc P tmps rs (fun r => K (.agg ⟨l⟩ :: r)) w) False
    | _, _ => False

def wrapRes : List Value → Value
  | [v] => v
  | vs => .tuple ⟨vs⟩

def bodyVc (P : Program) (fn : Func) (K : Value → World → Prop) : Exit → Act → World → Prop
  | .ret, a, w => resVc P a.tmps fn.results.toList (fun vs => K (wrapRes vs) w) w
  | .normal, a, w => resVc P a.tmps fn.results.toList (fun vs => K (wrapRes vs) w) w
  | _, _, _ => False

def funcVc (P : Program) (fn : Func) (ann : Ann) (args : List Value) (K : Value → World → Prop) (w : World) : Prop :=
  match fn.body with
  | some c => codeVc P ann c 1 (bodyVc P fn K) { tmps := ⟨args ++ List.replicate (fn.ntmps - args.length) undef⟩, defers := [] } w
  | none => False

def resOne (tmps : Array Value) : ResultVar → Sem Value
  | .tmp t => pure (tmps.getD t undef)
  | .cell a t => do loadVar t (← asAddr (tmps.getD a undef))

theorem resVc_run {P : Program} {tmps : Array Value} {w : World} : ∀ {rs : List ResultVar} {K : List Value → Prop}, resVc P tmps rs K w → ∃ l, (rs.mapM (resOne tmps)).run P w = .ok l w ∧ K l := by
  intro rs
  induction rs with
  | nil => intro K h; exact ⟨[], rfl, h⟩
  | cons r rs ih =>
    intro K h
    cases r with
    | tmp t =>
      simp only [resVc] at h
      obtain ⟨l, h1, h2⟩ := ih h
      exact ⟨_, by simp [List.mapM_cons, resOne, h1], h2⟩
    | cell s t =>
      simp only [resVc] at h
      split at h
      · rename_i a d ha hd
        have := load_run (next := fun v w' => resVc P tmps rs (fun l => K (v :: l)) w') h (by rw [hd]; simp)
        obtain ⟨v, h1, h2⟩ := this
        obtain ⟨l, h3, h4⟩ := ih h2
        exact ⟨v :: l, by simp only [List.mapM_cons, resOne, ha, asAddr, Sem.run_bind, Sem.run_pure, Result.andThen_ok, h1, h3], h4⟩
      · exact h.elim

theorem results_run {P : Program} {fn : Func} {tmps : Array Value} {w : World} {l : List Value} (h : (fn.results.toList.mapM (resOne tmps)).run P w = .ok l w) :
    (results fn tmps).run P w = .ok (wrapRes l) w := by
  have e : results fn tmps = (fn.results.mapM (resOne tmps)) >>= fun vs => pure (if h : vs.size = 1 then vs[0] else .tuple vs) := by
    unfold results
    congr 1
  rw [e, Array.mapM_eq_mapM_toList, Sem.run_bind, Sem.run_map, h]
  simp only [Result.andThen_ok, Sem.run_pure]
  congr 1
  match l with
  | [] => rfl
  | [v] => rfl
  | _ :: _ :: _ => simp [wrapRes]

theorem calls_of_vc {P : Program} {f : FuncId} {fn : Func} (ann : Ann) {args : List Value} {w : World} {K : Value → World → Prop}
    (hf : P.funcs[f]? = some fn) (h : funcVc P fn ann args K w) : Calls P f ⟨args⟩ w (Ret K) := by
  unfold funcVc at h
  split at h
  · rename_i c hc
    refine calls_of_wp hf hc ?_
    have ha : (⟨args⟩ : Array Value) ++ Array.replicate (fn.ntmps - (⟨args⟩ : Array Value).size) undef = ⟨args ++ List.replicate (fn.ntmps - args.length) undef⟩ := by
      apply Array.ext'; simp
    rw [ha]
    have h2 := codeVc_mono (wr := Code.writes c) (a0 := { tmps := ⟨args ++ List.replicate (fn.ntmps - args.length) undef⟩, defers := [] }) c 1 _ (fun e a' w' => bodyVc P fn K e a' w' ∧ a'.defers = []) _ _ (fun _ h => h) (fun e a w h hf => ⟨h, hf.defers⟩) (Fr.refl _ _) h
    refine wp_mono (codeVc_wp _ _ _ _ _ h2) ?_
    rintro e a' w' ⟨he, hd⟩
    cases e with
    | normal =>
      obtain ⟨l, h1, h2⟩ := resVc_run he
      exact ⟨hd, _, results_run h1, h2⟩
    | ret =>
      obtain ⟨l, h1, h2⟩ := resVc_run he
      exact ⟨hd, _, results_run h1, h2⟩
    | _ => exact (he : False).elim
  · exact h.elim

/-- the form in which a function's condition is used -/
theorem calls_of {P : Program} {f : FuncId} {fn : Func} (ann : Ann) {args : List Value} {w : World} {K : Value → World → Prop} {A : Prop}
    (hf : P.funcs[f]? = some fn) (he : A = funcVc P fn ann args K w) (h : A) : Calls P f ⟨args⟩ w (Ret K) := calls_of_vc ann hf (he ▸ h)
end Go.Vc
namespace Go.Vc
def bitsAnd (k : IntKind) (a b : Int) : Int := k.wrap ((BitVec.ofInt k.bits a &&& BitVec.ofInt k.bits b).toNat)
def bitsOr (k : IntKind) (a b : Int) : Int := k.wrap ((BitVec.ofInt k.bits a ||| BitVec.ofInt k.bits b).toNat)
def bitsXor (k : IntKind) (a b : Int) : Int := k.wrap ((BitVec.ofInt k.bits a ^^^ BitVec.ofInt k.bits b).toNat)
end Go.Vc
