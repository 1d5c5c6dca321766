/- The conditions of Go code: a library of this claim. -/
import Derived.Test.YtfcemnnlmlggoaaGreatVcH
import Derived.LoopNIn
namespace Go.Vc
open Go.RowKit (Below)

structure FrT (wr : List Nat) (a a' : Act) : Prop where
  size : a'.tmps.size = a.tmps.size
  same : ∀ i, i ∉ wr → a'.tmps[i]? = a.tmps[i]?
theorem FrT.refl (wr : List Nat) (a : Act) : FrT wr a a := ⟨rfl, fun _ _ => rfl⟩
theorem FrT.fr {wr : List Nat} {a a' : Act} (h : FrT wr a a') : Fr wr { a with defers := a'.defers } a' := ⟨h.size, rfl, h.same⟩
theorem Fr.frT {wr : List Nat} {a a' : Act} {d : List Deferred} (h : Fr wr { a with defers := d } a') : FrT wr a a' := ⟨h.size, h.same⟩

/-- what stays: the temporaries that are not written; without a range also the marks -/
def Stay (b : Bool) (ds0 : List Nat) (d0 : List Deferred) (ds : List Nat) (a : Act) : Prop := b = true → ds = ds0 ∧ a.defers = d0

theorem codeVcR_mono {P : Program} {ann : AnnR} {wr : List Nat} {a0 : Act} {b : Bool} {ds0 : List Nat} {d0 : List Deferred} : ∀ (c : Code) (r : Bool) (cur : Nat) (Q Q' : QR) (a : Act) (ds : List Nat) (w : World),
    (∀ i ∈ Code.writes c, i ∈ wr) → (b = true → Code.noRange c = true) → (∀ e a ds w, Q e a ds w → FrT wr a0 a → Stay b ds0 d0 ds a → Q' e a ds w) → FrT wr a0 a → Stay b ds0 d0 ds a → codeVcR P ann c r cur Q a ds w → codeVcR P ann c r cur Q' a ds w := by
  intro c
  induction c with
  | skip => intro r cur Q Q' a ds w _ _ hq hf hs h; exact hq _ _ _ _ h hf hs
  | region id ops draw =>
    intro r cur Q Q' a ds w hw _ hq hf hs h
    have hd : ∀ o ∈ ops.toList, ∀ d, o.dst = some d → d ∈ wr := fun o ho d hd => hw d (mem_dst ho hd)
    simp only [codeVcR] at h ⊢
    cases hnd : ops.toList.all notDefer with
    | false => rw [hnd] at h; exact h
    | true =>
      rw [hnd] at h
      simp only [cond_true] at h ⊢
      have hq' : ∀ a' w', Q .normal a' ds w' → Fr wr { a0 with defers := a.defers } a' → Q' .normal a' ds w' := fun a' w' h hf' => hq _ _ _ _ h hf'.frT (fun hb => ⟨(hs hb).1, by have := hf'.defers; simp only at this; rw [this]; exact (hs hb).2⟩)
      split at h
      · rename_i live _
        have hm : ∀ w', mergeVc P ops (live.filter fun i => (ops.toList.filterMap (·.dst)).contains i) (fun a w => Q .normal a ds w) a w' → mergeVc P ops (live.filter fun i => (ops.toList.filterMap (·.dst)).contains i) (fun a w => Q' .normal a ds w) a w' := by
          intro w' h
          unfold mergeVc at h ⊢
          split at h
          · refine withAll_mono h fun h g => hq' _ _ (h g) (loopAct_fr hf.fr hw (fun i hi => hw i (List.contains_iff_mem.1 (List.mem_filter.1 hi).2)) g _)
          · exact h
        cases draw with
        | false => exact hm _ h
        | true =>
          simp only [cond_true] at h ⊢
          cases hc : (P.follows .mixedOrders && Region.lexB .any ops) with
          | false => rw [hc] at h; exact h
          | true => rw [hc] at h; exact fun w' hw' => hm w' (h w' hw')
      · cases draw with
        | true => exact drawVc_mono (fun a w => hq' a w) hd hf.fr h
        | false => exact listVcY_mono (fun a w => hq' a w) _ _ _ _ hd hf.fr h
  | seq x y ihx ihy =>
    intro r cur Q Q' a ds w hw hn hq hf hs h
    simp only [codeVcR] at h ⊢
    simp only [Code.writes, List.mem_append] at hw
    have hnx : b = true → Code.noRange x = true := fun hb => by have := hn hb; simp only [Code.noRange, Bool.and_eq_true] at this; exact this.1
    have hny : b = true → Code.noRange y = true := fun hb => by have := hn hb; simp only [Code.noRange, Bool.and_eq_true] at this; exact this.2
    split at h
    · rename_i live _
      cases hnr : Code.noRange x with
      | false => rw [hnr] at h; exact h
      | true =>
        rw [hnr] at h
        simp only [cond_true] at h ⊢
        obtain ⟨J, h1, h2⟩ := h
        refine ⟨J, ?_, fun g => allC_mono (h2 g) fun vs h w hJ => ?_⟩
        · refine ihx r _ _ _ _ _ _ (fun i hi => hw i (.inl hi)) hnx (fun e a' ds' w' he hf' hs' => ?_) hf hs h1
          cases e with
          | normal => exact he
          | _ => exact hq _ _ _ _ he hf' (fun hb => ⟨(hs hb).1, (hs' hb).2⟩)
        · refine ihy r _ _ _ _ _ _ (fun i hi => hw i (.inr hi)) hny hq ?_ (fun hb => ⟨(hs hb).1, (hs hb).2⟩) (h w hJ)
          have := loopAct_fr hf.fr (fun i hi => hw i (.inl hi)) (live := (keepIn (Code.writes x) live).map (·.1)) (fun i hi => by
            obtain ⟨p, hp, rfl⟩ := List.mem_map.1 hi
            exact hw _ (.inl (by simpa using (List.mem_filter.1 hp).2))) g vs
          exact this.frT
    · refine ihx r _ _ _ _ _ _ (fun i hi => hw i (.inl hi)) hnx (fun e a' ds' w' he hf' hs' => ?_) hf hs h
      cases e with
      | normal => exact ihy r _ _ _ _ _ _ (fun i hi => hw i (.inr hi)) hny hq hf' hs' he
      | _ => exact hq _ _ _ _ he hf' hs'
  | cond c x y ihx ihy =>
    intro r cur Q Q' a ds w hw hn hq hf hs h
    simp only [codeVcR] at h ⊢
    simp only [Code.writes, List.mem_append] at hw
    have hnx : b = true → Code.noRange x = true := fun hb => by have := hn hb; simp only [Code.noRange, Bool.and_eq_true] at this; exact this.1
    have hny : b = true → Code.noRange y = true := fun hb => by have := hn hb; simp only [Code.noRange, Bool.and_eq_true] at this; exact this.2
    split at h
    · rename_i t _
      cases t with
      | true => exact ihx _ _ _ _ _ _ _ (fun i hi => hw i (.inl hi)) hnx hq hf hs h
      | false => exact ihy _ _ _ _ _ _ _ (fun i hi => hw i (.inr hi)) hny hq hf hs h
    · exact h
  | block id c ih =>
    intro r cur Q Q' a ds w hw hn hq hf hs h
    simp only [codeVcR] at h ⊢
    refine ih _ _ _ _ _ _ _ hw hn (fun e a' ds' w' he hf' hs' => ?_) hf hs h
    cases e with
    | exit id' =>
      simp only [QR.inBlock] at he ⊢
      split
      · rename_i heq; simp only [heq, if_true] at he; exact hq _ _ _ _ he hf' hs'
      · rename_i hne; simp only [hne, if_false] at he; exact hq _ _ _ _ he hf' hs'
    | _ => exact hq _ _ _ _ he hf' hs'
  | loop c ih =>
    intro r cur Q Q' a ds w hw hn hq hf hs h
    simp only [codeVcR] at h ⊢
    cases hu : lookL ann.unroll cur with
    | some n =>
      rw [hu] at h
      simp only at h ⊢
      clear hu
      induction n generalizing a ds w with
      | zero => exact h
      | succ n ihn =>
        refine ih _ _ _ _ _ _ _ hw hn (fun e a' ds' w' he hf' hs' => ?_) hf hs h
        cases e with
        | normal => exact ihn _ _ _ hf' hs' he
        | _ => exact hq _ _ _ _ he hf' hs'
    | none =>
    rw [hu] at h
    simp only at h ⊢
    have hlive : ∀ i ∈ (keepIn (Code.writes c) ((lookL ann.loops cur).getD [])).map (·.1), i ∈ wr := by
      intro i hi
      obtain ⟨p, hp, rfl⟩ := List.mem_map.1 hi
      have := (List.mem_filter.1 hp).2
      exact hw _ (by simp only [Code.writes]; simpa using this)
    cases hnr : Code.noRange c with
    | true =>
      rw [hnr] at h
      simp only [cond_true, loopVc] at h ⊢
      obtain ⟨I, μ, h0, h1⟩ := h
      refine ⟨I, μ, h0, fun g => allC_mono (h1 g) fun vs h w hI => ?_⟩
      refine ih _ _ _ _ _ _ _ hw hn (fun e a' ds' w' he hf' hs' => ?_) (loopAct_fr hf.fr hw hlive g vs).frT (fun hb => ⟨(hs hb).1, (hs hb).2⟩) (h w hI)
      cases e with
      | normal => exact he
      | _ => exact hq _ _ _ _ he hf' (fun hb => ⟨(hs hb).1, (hs' hb).2⟩)
    | false =>
      rw [hnr] at h
      simp only [cond_false] at h ⊢
      have hb : b = false := by
        cases hb : b with
        | false => rfl
        | true => have := hn hb; simp only [Code.noRange] at this; rw [this] at hnr; cases hnr
      have hst : ∀ ds a, Stay b ds0 d0 ds a := fun ds a h => by rw [hb] at h; cases h
      obtain ⟨I, μ, h0, hm, h1⟩ := h
      refine ⟨I, μ, h0, hm, fun g es => allC_mono (h1 g es) fun vs h w hI hM => ?_⟩
      have hfr : FrT wr a0 { (loopAct a (Code.writes c) g ((keepIn (Code.writes c) ((lookL ann.loops cur).getD [])).map (·.1)) vs) with defers := es.map mk } := ⟨(loopAct_fr hf.fr hw hlive g vs).frT.size, (loopAct_fr hf.fr hw hlive g vs).frT.same⟩
      refine ih _ _ _ _ _ _ _ hw (fun h => by rw [hb] at h; cases h) (fun e a' ds' w' he hf' hs' => ?_) hfr (hst _ _) (h w hI hM)
      cases e with
      | normal => exact he
      | _ => exact hq _ _ _ _ he hf' hs'
  | exit id => intro r cur Q Q' a ds w _ _ hq hf hs h; exact hq _ _ _ _ h hf hs
  | label l => intro r cur Q Q' a ds w _ _ hq hf hs h; exact hq _ _ _ _ h hf hs
  | ret => intro r cur Q Q' a ds w _ _ hq hf hs h; exact hq _ _ _ _ h hf hs
  | rangeFunc g ps assign body _ _ =>
    intro r cur Q Q' a ds w hw hn hq hf hs h
    have hb : b = false := by
      cases hb : b with
      | false => rfl
      | true => have := hn hb; cases this
    have hst : ∀ ds a, Stay b ds0 d0 ds a := fun ds a h => by rw [hb] at h; cases h
    have hfr : ∀ d, FrT wr a0 { a with defers := d } := fun d => ⟨hf.size, hf.same⟩
    simp only [codeVcR] at h ⊢
    revert h
    generalize (r || !Code.noRange body || !(((lookL ann.ranges cur).getD []).length == ps.size) || !assignOk assign) = t
    intro h
    cases t with
    | true => exact h
    | false =>
      simp only [cond_false] at h ⊢
      unfold rangeVc at h ⊢
      split at h
      · rename_i gf first lb _
        revert h
        generalize (first.size == 0 && callOk P gf) = t
        intro h
        cases t with
        | false => exact h
        | true =>
          obtain ⟨M, xs, hseq, I, Xr, Xe, h0, h1, h2, h3⟩ := h
          refine ⟨M, xs, hseq, I, Xr, Xe, h0, h1, fun pre W0 W D k1 k2 k3 k4 k5 => hq _ _ _ _ (h2 pre W0 W D k1 k2 k3 k4 k5) (hfr _) (hst _ _), allEx_mono h3 (fun id h pre W0 W D k1 k2 k3 k4 k5 => hq _ _ _ _ (h pre W0 W D k1 k2 k3 k4 k5) (hfr _) (hst _ _)) fun h F W0 W D k2 k3 k4 k5 => hq _ _ _ _ (h F W0 W D k2 k3 k4 k5) (hfr _) (hst _ _)⟩
      · exact h
  | _ => intros; rename_i h; exact h.elim

/-- a round leaves a wider set of exits: those that are told -/
theorem leaves_dedup {l : List Nat} {x : Nat} : x ∈ dedup l ↔ x ∈ l := by
  induction l with
  | nil => simp [dedup]
  | cons y l ih =>
    simp only [dedup]
    cases h : l.contains y with
    | true =>
      simp only [cond_true, ih, List.mem_cons]
      constructor
      · exact .inr
      · rintro (rfl | h')
        · exact List.contains_iff_mem.1 h
        · exact h'
    | false => simp [ih]

theorem range_in {P : Program} {n : Nat} {tys : List CTy} {exits : List Nat} {g : Operand} {ps : Array Tmp} {assign body : Code} {Q : Exit → Act → World → Prop} {a : Act} {w : World} {gf : Nat} {lb : Array Value} (hg : a.eval g = .func (.func gf) #[] lb) (hok : callOk P gf = true) (hps : tys.length = ps.size) (_has : assignOk assign = true)
    {M : List Nat} {xs : List (Dn tys)} (hseq : SeqF P gf lb tys M xs w) {I : List Nat → List (Dn tys) → World → Prop} {Xr : List (Dn tys) → World → Prop} {Xe : Nat → List (Dn tys) → World → Prop} (h0 : I M [] w)
    (hbody : ∀ (F : List Nat) (pre : List (Dn tys)) (x : Dn tys) (W0 W : World), I F pre W0 → Grown w.heap.size W0 W → (pre ++ [x]) <+: xs → ∃ a1, evalAssign assign { tmps := (ps.zip (⟨Dn.vals _ x⟩ : Array Value)).foldl (fun t (p, v) => t.setIfInBounds p v) a.tmps, defers := [] } = some a1 ∧
      ∀ l n, body.wpIn (Fence.wide.inRound l) n P (fun e a' w' => postR exits F I Xr Xe (pre ++ [x]) W e a' [] w') a1 W)
    (hret : ∀ (pre : List (Dn tys)) (W0 W : World) (D : Nat), pre <+: xs → Xr pre W0 → Grown w.heap.size W0 W → w.heap.size ≤ D → W.heap[D]? = some (.deferred (some [])) → Q .ret { a with defers := mk D :: a.defers } W)
    (hex : ∀ id ∈ exits, ∀ (pre : List (Dn tys)) (W0 W : World) (D : Nat), pre <+: xs → Xe id pre W0 → Grown w.heap.size W0 W → w.heap.size ≤ D → W.heap[D]? = some (.deferred (some [])) → Q (.exit id) { a with defers := mk D :: a.defers } W)
    (hdone : ∀ (F : List Nat) (W0 W : World) (D : Nat), I F xs W0 → Grown w.heap.size W0 W → w.heap.size ≤ D → W.heap[D]? = some (.deferred (some [])) → Q .normal { a with defers := mk D :: a.defers } W) :
    (Code.rangeFunc g ps assign body).wpIn Fence.wide n P Q a w := by
  refine wpIn_rangeFunc fun fn _ => ?_
  -- the loop's record L and the block D for deferred calls
  obtain ⟨D, hD⟩ : ∃ D, D = w.heap.size := ⟨_, rfl⟩
  obtain ⟨r, hr⟩ : ∃ r : Loop, r = { state := .ready, pending := none, fn, tmps := a.tmps, params := ps, assign, body, defers := w.heap.size } := ⟨_, rfl⟩
  obtain ⟨W1, hW1⟩ : ∃ W1, W1 = (w.alloc (.deferred (some []))).alloc (.loop r) := ⟨_, rfl⟩
  have hgr1 : Grown w.heap.size w W1 := by
    refine (Grown.of (World.grownBy_alloc w (.deferred (some [])) none) (fun r e => by cases e)).trans ?_
    rw [hW1]; exact Grown.of (World.grownBy_alloc _ _ none) (fun r e => by cases e)
  have hD1 : W1.heap[D]? = some (.deferred (some [])) := by
    rw [hW1, hD]; exact (Below.heap_alloc _ _ _ (by simp)).trans (World.alloc_heap_new w _)
  have hL1 : W1.heap[D + 1]? = some (.loop r) := by
    rw [hW1, hD]; have := World.alloc_heap_new (w.alloc (.deferred (some []))) (.loop r); rwa [World.size_alloc] at this
  have hput : ∀ {W : World} {o : Obj} (o' : Obj), W.heap[D + 1]? = some o → plainO o = false → Grown w.heap.size W (W.putObj (D + 1) o') := fun {W} {o} o' ho hc =>
    Grown.of (grownBy_putObj' W (D + 1) o') (fun k e => by cases e; exact ⟨by omega, o, ho, hc⟩)
  have heg : ∀ args w, (callFunc gf args).run P w = .ok (.enter gf args) w := by
    intro args w
    unfold callOk at hok
    split at hok
    · rename_i f hf
      simp only [Bool.and_eq_true, Bool.not_eq_true'] at hok
      have hb : f.body.isNone = false := by cases hbb : f.body <;> simp_all
      simp only [callFunc, Sem.run_bind, run_program, Result.andThen_ok, hf, hok.2, Bool.false_eq_true, if_false, hb, Sem.run_pure]
    · cases hok
  refine ⟨D + 1, [mk D], W1, { target := .fn (.func gf) lb, args := #[.func (.yield (D + 1)) #[] #[]] }, W1, gf, #[.func (.yield (D + 1)) #[] #[]] ++ lb, W1, ?_, ?_, fun _ _ => trivial, ?_, fun h => (by cases h), callsIn_wide.2 ?_⟩
  · rw [hW1, hr, hD]; exact run_enterLoop_outer _ _ _ _ _
  · simp only [resolve, hg]; simp [go_sem]
  · simp [invoke, go_sem, heg]
  let HI : List Nat → List (Dn tys) → World → Prop := fun F pre W => ∃ W0, I F pre W0 ∧ Grown w.heap.size W0 W
  let HX : Code → List (Dn tys) → World → Prop := fun c pre W => match c with | .ret => ∃ W0, Xr pre W0 ∧ Grown w.heap.size W0 W | .exit id => id ∈ exits ∧ ∃ W0, Xe id pre W0 ∧ Grown w.heap.size W0 W | _ => False
  have hXg : ∀ c pre A B, HX c pre A → Grown w.heap.size A B → HX c pre B := by
    intro c pre A B h hG
    cases c <;> simp only [HX] at h ⊢ <;> first
      | exact h
      | (obtain ⟨W0, h1, h2⟩ := h; exact ⟨W0, h1, h2.trans hG⟩)
      | (obtain ⟨h0, W0, h1, h2⟩ := h; exact ⟨h0, W0, h1, h2.trans hG⟩)
  have hkeep : ∀ {A B : World} {k : Nat} {o : Obj}, A.grownBy B none → A.heap[k]? = some o → B.heap[k]? = some o := fun hg ho => by rw [hg.block _ (Array.getElem?_eq_some_iff.1 ho).1 (by simp)]; exact ho
  have hgr0 : ∀ {A B : World}, A.grownBy B none → Grown w.heap.size A B := fun hg => Grown.of hg (fun r e => by cases e)
  have hMD : ∀ k, D ≤ k → k ∉ M := fun k hk h => by have := hseq.1 k h; omega
  have hcall := hseq.2 (D + 1) (fun F pre W => HI F pre W ∧ W.heap[D + 1]? = some (.loop r) ∧ W.heap[D]? = some (.deferred (some [])) ∧ D ∉ F ∧ D + 1 ∉ F)
    (fun pre W => ∃ c, HX c pre W ∧ W.heap[D + 1]? = some (.loop { r with state := .done, pending := some c }) ∧ W.heap[D]? = some (.deferred (some []))) W1 hgr1
    (fun F pre A B ⟨⟨W0, hI, hG⟩, hl, hd, hF⟩ hg => ⟨⟨W0, hI, hG.trans (hgr0 hg)⟩, hkeep hg hl, hkeep hg hd, hF⟩)
    (fun pre A B ⟨c, hX, hl, hd⟩ hg => ⟨c, hXg c pre A B hX (hgr0 hg), hkeep hg hl, hkeep hg hd⟩) ?_ ⟨⟨w, h0, hgr1⟩, hL1, hD1, hMD _ (Nat.le_refl _), hMD _ (by omega)⟩
  · refine Calls.mono hcall fun e W2 he => ?_
    cases e with
    | panicked c => exact he.elim
    | outgrown => exact he.elim
    | returned v =>
      rcases he with ⟨F, ⟨W0, hI, hG⟩, hl, hd, _⟩ | ⟨pre, hpre, c, hX, hl, hd⟩
      · refine ⟨none, _, by have := run_endLoop (P := P) hl (by rw [hr]; simp); rw [hr] at this; exact this, ?_⟩
        exact hdone F W0 _ D hI (hG.trans (hput _ hl rfl)) (by omega) ((World.putObj_heap_other (by omega)).trans hd)
      · have hend := run_endLoop (P := P) hl (by simp)
        refine ⟨some c, _, hend, ?_⟩
        have hX2 := hXg c pre _ _ hX (hput (.loop { r with state := .exhausted, pending := some c }) hl rfl)
        have hd2 : (W2.putObj (D + 1) (.loop { r with state := .exhausted, pending := some c })).heap[D]? = some (.deferred (some [])) := (World.putObj_heap_other (by omega)).trans hd
        cases c <;> simp only [HX] at hX2 <;> first
          | exact hX2.elim
          | (obtain ⟨W0, h1, h2⟩ := hX2; exact wpIn_ret (hret pre W0 _ D hpre h1 h2 (by omega) hd2))
          | (obtain ⟨h0, W0, h1, h2⟩ := hX2; exact wpIn_exit (hex _ h0 pre W0 _ D hpre h1 h2 (by omega) hd2))
  · rintro F pre x W ⟨⟨W0, hI, hG⟩, hl, hd, hDF, hLF⟩ hpre n'
    have hy := run_yield (P := P) (args := (⟨Dn.vals tys x⟩ : Array Value)) hl (by rw [hr]; simp [Dn.length, hps])
    have hy : (Instr.yield (D + 1) (⟨Dn.vals tys x⟩ : Array Value)).run P W = .ok (.round (D + 1) fn ((ps.zip (⟨Dn.vals tys x⟩ : Array Value)).foldl (fun t (p, v) => t.setIfInBounds p v) a.tmps) assign body) W := by rw [hy, hr]
    have hlt : D + 1 < W.heap.size := (Array.getElem?_eq_some_iff.1 hl).1
    obtain ⟨a1, ha1, hb1⟩ := hbody F pre x W0 (W.putObj (D + 1) (.loop { r with state := .busy })) hI (hG.trans (hput _ hl rfl)) hpre
    refine ⟨fn, _, assign, body, hy, roundIn_of_wpIn trivial (evalAssign_in (.inr ⟨_, rfl⟩) ha1 ⟨_, run_beginRound hl (by rw [hr]), wpIn_mono (hb1 _ _) ?_⟩)⟩
    intro e a3 W3 hp
    have hsz : (W.putObj (D + 1) (.loop { r with state := .busy })).heap.size = W.heap.size := by simp [World.putObj]
    have fin : Keep F (W.putObj (D + 1) (.loop { r with state := .busy })) W3 → W3.heap[D + 1]? = some (.loop { r with state := .busy }) ∧ W3.heap[D]? = some (.deferred (some [])) := fun hk =>
      ⟨(hk.block _ (by omega) hLF).trans (World.putObj_heap_same hlt), (hk.block _ (by omega) hDF).trans ((World.putObj_heap_other (by omega)).trans hd)⟩
    have hdj : ∀ jump, (W3.putObj (D + 1) (.loop { r with state := (if jump.isNone then .ready else .done), pending := jump })).heap[D]? = W3.heap[D]? := fun jump => World.putObj_heap_other (by omega)
    cases e with
    | normal =>
      obtain ⟨F', hk, hI3⟩ := hp
      obtain ⟨hl3, hd3⟩ := fin hk.kp
      have hsub : ∀ k ∈ F', k ∈ F ∨ W.heap.size ≤ k := fun k h => by have := hk.sub k h; rwa [hsz] at this
      have hrec : (W3.putObj (D + 1) (.loop { r with state := .ready, pending := none })).heap[D + 1]? = some (.loop r) := by
        rw [World.putObj_heap_same (Array.getElem?_eq_some_iff.1 hl3).1, hr]
      refine ⟨_, _, run_endRound (P := P) none hl3, true, rfl, F', ⟨⟨W3, hI3, hput _ hl3 rfl⟩, ?_, ?_, ?_, ?_⟩, ⟨?_, ?_, ?_, ?_, ?_⟩, hsub⟩
      · rw [World.putObj_heap_same (Array.getElem?_eq_some_iff.1 hl3).1, hr]; rfl
      · exact (World.putObj_heap_other (by omega)).trans hd3
      · intro h; rcases hsub _ h with h | h
        · exact hDF h
        · omega
      · intro h; rcases hsub _ h with h | h
        · exact hLF h
        · omega
      · exact hk.kp.os
      · exact hk.kp.tape
      · exact hk.kp.output
      · have := hk.kp.size; simp only [World.putObj, Array.size_setIfInBounds] at this ⊢; exact this
      · intro k hkl hkF
        by_cases e : k = D + 1
        · subst e
          rw [World.putObj_heap_same (Array.getElem?_eq_some_iff.1 hl3).1, hl, hr]; rfl
        · rw [World.putObj_heap_other e, hk.kp.block k (by omega) hkF, World.putObj_heap_other e]
    | ret =>
      obtain ⟨hk, hX3⟩ := hp
      obtain ⟨hl3, hd3⟩ := fin hk
      refine ⟨_, _, run_endRound (P := P) (some .ret) hl3, false, rfl, .ret, ⟨W3, hX3, hput _ hl3 rfl⟩, ?_, (World.putObj_heap_other (by omega)).trans hd3⟩
      rw [World.putObj_heap_same (Array.getElem?_eq_some_iff.1 hl3).1]; rfl
    | exit id =>
      simp only [postR] at hp
      cases hc : exits.contains id with
      | false => rw [hc] at hp; exact hp.elim
      | true =>
        rw [hc] at hp
        obtain ⟨hk, hX3⟩ := hp
        obtain ⟨hl3, hd3⟩ := fin hk
        refine ⟨_, _, run_endRound (P := P) (some (.exit id)) hl3, false, rfl, .exit id, ⟨List.contains_iff_mem.1 hc, W3, hX3, hput _ hl3 rfl⟩, ?_, (World.putObj_heap_other (by omega)).trans hd3⟩
        rw [World.putObj_heap_same (Array.getElem?_eq_some_iff.1 hl3).1]; rfl
    | _ => exact (hp : False).elim

theorem calmVc_listY {P : Program} {cl : List (Nat × Nat × Nat)} {ops : Array Oper} {Q : Act → World → Prop} : ∀ (l : List Oper) (i : Nat) (a : Act) (w : World), calmVc P ops Q l i a w → listVcY P cl ops Q l i a w := by
  intro l
  induction l with
  | nil => intro i a w h; exact h
  | cons o rest ih =>
    intro i a w h
    simp only [calmVc] at h
    simp only [listVcY]
    cases hw : Region.wanted o (yielded ops a.tmps) with
    | false => rw [hw] at h; exact ih _ _ _ h
    | true =>
      rw [hw] at h
      simp only [cond_true] at h ⊢
      split at h
      · rename_i p hp
        have hp' : pureOp P a.eval (withEnt ops.toList o) = some p := by rw [withEnt_pure]; exact hp
        refine opVcY_of hp' ?_
        unfold opVc
        rw [hp']
        refine Pur.then_mono h fun v h => ?_
        rw [parted_iff] at h ⊢
        exact ih _ _ _ h
      · rename_i hp
        split at h
        · rename_i t x hl
          rw [withEnt_load _ _ t x hl]
          have h2 : opVc P a.eval o (parted (isGuard ops.toList i) fun v w' => listVcY P cl ops Q rest (i + 1) (a.put o.dst v) w') w := by
            unfold opVc
            rw [hp]
            refine effVc_mono h fun v w' h => ?_
            rw [parted_iff] at h ⊢
            exact ih _ _ _ h
          unfold opVcY
          rw [hl]
          exact h2
        · exact h.elim

theorem codeVcR_in {P : Program} {ann : AnnR} : ∀ (c : Code) (r : Bool) (cur : Nat) (Q : QR) (a : Act) (ds : List Nat) (w : World) (G : Fence) (n : Nat), Good G → (r = false → G = Fence.wide) → a.defers = ds.map mk →
    codeVcR P ann c r cur Q a ds w → c.wpIn G n P (fun e a' w' => ∃ ds', a'.defers = ds'.map mk ∧ Q e a' ds' w') a w := by
  intro c
  induction c with
  | skip => intro r cur Q a ds w G n hG _ hd h; exact wpIn_skip ⟨ds, hd, h⟩
  | region id ops draw =>
    intro r cur Q a ds w G n hG _ hd h
    simp only [codeVcR] at h
    cases hnd : ops.toList.all notDefer with
    | false => rw [hnd] at h; exact h.elim
    | true =>
      rw [hnd] at h
      simp only [cond_true] at h
      have hdst : ∀ o ∈ ops.toList, ∀ d, o.dst = some d → d ∈ ops.toList.filterMap (·.dst) := fun o ho d hd => mem_dst ho hd
      have fin : ∀ a' w', Q .normal a' ds w' → Fr (ops.toList.filterMap (·.dst)) a a' → ∃ ds', a'.defers = ds'.map mk ∧ Q .normal a' ds' w' := fun a' w' h hf => ⟨ds, by rw [hf.defers, hd], h⟩
      split at h
      · rename_i live _
        generalize (live.filter fun i => (ops.toList.filterMap (·.dst)).contains i) = lv at h
        have hm : ∀ w', mergeVc P ops lv (fun a w => Q .normal a ds w) a w' → calmVc P ops (fun a w => Q .normal a ds w) ops.toList 0 a w' := by
          intro w' h
          unfold mergeVc at h
          split at h
          · rename_i ps vs hp
            obtain ⟨h1, h2⟩ := withAll_elim h
            refine calmVc_mono (wr := ops.toList.filterMap (·.dst)) (a0 := a) (fun a' w'' h hf => ?_) _ _ _ _ hdst (Fr.refl _ _) (merged_calm _ _ _ hp h1 (w := w'))
            obtain ⟨rfl, hv⟩ := h
            have := h2 (fun i => a'.tmps.getD i undef)
            rw [← hv] at this
            have e : loopAct a (ops.toList.filterMap (·.dst)) (fun i => a'.tmps.getD i undef) lv (valsAt a' lv) = a' := loopAct_same hf lv
            rw [e] at this
            exact this
          · exact h.elim
        cases draw with
        | false =>
          have h2 := calmVc_mono (wr := ops.toList.filterMap (·.dst)) (a0 := a) fin _ _ _ _ hdst (Fr.refl _ _) (hm _ h)
          have h3 : listVcY P ann.clos ops (fun a' w' => ∃ ds', a'.defers = ds'.map mk ∧ Q .normal a' ds' w') ops.toList 0 a w := calmVc_listY _ _ _ _ h2
          exact regionY_in hG hnd h3
        | true =>
          simp only [cond_true] at h
          cases hc : (P.follows .mixedOrders && Region.lexB .any ops) with
          | false => rw [hc] at h; exact h.elim
          | true =>
            rw [hc] at h
            simp only [Bool.and_eq_true] at hc
            have h2 := calmVc_mono (wr := ops.toList.filterMap (·.dst)) (a0 := a) fin _ _ _ _ hdst (Fr.refl _ _) (hm _ (h _ rfl))
            exact calm_in hG hnd hc.1 hc.2 h2
      · cases draw with
        | true => exact draw_in hG hnd (drawVc_mono (Q' := fun a' w' => ∃ ds', a'.defers = ds'.map mk ∧ Q .normal a' ds' w') fin hdst (Fr.refl _ _) h)
        | false => exact regionY_in hG hnd (listVcY_mono (Q' := fun a' w' => ∃ ds', a'.defers = ds'.map mk ∧ Q .normal a' ds' w') fin _ _ _ _ hdst (Fr.refl _ _) h)
  | seq x y ihx ihy =>
    intro r cur Q a ds w G n hG hr hd h
    simp only [codeVcR] at h
    split at h
    · rename_i live _
      cases hnr : Code.noRange x with
      | false => rw [hnr] at h; exact h.elim
      | true =>
        rw [hnr] at h
        simp only [cond_true] at h
        generalize keepIn (Code.writes x) live = lv at h
        obtain ⟨J, h1, h2⟩ := h
        have h3 := codeVcR_mono (wr := Code.writes x) (a0 := a) (b := true) (ds0 := ds) (d0 := a.defers) x r _ _ (fun e a' ds' w' => (Exit.then (fun a' w' => Inv.at _ J (vals a' (lv.map (·.1))) w') (fun e a w => Q e a ds w)) e a' w' ∧ FrT (Code.writes x) a a' ∧ ds' = ds ∧ a'.defers = a.defers) a ds w (fun _ h => h) (fun _ => hnr)
          (fun e a' ds' w' h hf hs => ⟨h, hf, (hs rfl).1, (hs rfl).2⟩) (FrT.refl _ _) (fun _ => ⟨rfl, rfl⟩) h1
        refine wpIn_seq (wpIn_mono (ihx r _ _ _ _ _ G n hG hr hd h3) ?_)
        rintro e a' w' ⟨ds', hd', he, hf, rfl, hdd⟩
        cases e with
        | normal =>
          have hf' : Fr (Code.writes x) a a' := ⟨hf.size, hdd, hf.same⟩
          have h4 := allC_at _ _ _ _ _ he (h2 (fun i => a'.tmps.getD i undef)) w' he
          rw [loopAct_same hf'] at h4
          exact ihy r _ _ _ _ _ G n hG hr (by rw [hdd, hd]) h4
        | _ => exact ⟨ds', hd', he⟩
    · refine wpIn_seq (wpIn_mono (ihx r _ _ _ _ _ G n hG hr hd h) ?_)
      rintro e a' w' ⟨ds', hd', he⟩
      cases e with
      | normal => exact ihy r _ _ _ _ _ G n hG hr hd' he
      | _ => exact ⟨ds', hd', he⟩
  | cond c x y ihx ihy =>
    intro r cur Q a ds w G n hG hr hd h
    simp only [codeVcR] at h
    split at h
    · rename_i b hb
      refine wpIn_cond hb ?_
      cases b with
      | true => exact ihx r _ _ _ _ _ G n hG hr hd h
      | false => exact ihy r _ _ _ _ _ G n hG hr hd h
    · exact h.elim
  | block id c ih =>
    intro r cur Q a ds w G n hG hr hd h
    refine wpIn_block (wpIn_mono (ih r _ _ _ _ _ G n hG hr hd h) ?_)
    rintro e a' w' ⟨ds', hd', he⟩
    cases e with
    | exit id' =>
      simp only [QR.inBlock, Exit.inBlock] at he ⊢
      split
      · rename_i heq; simp only [heq, if_true] at he; exact ⟨ds', hd', he⟩
      · rename_i hne; simp only [hne, if_false] at he; exact ⟨ds', hd', he⟩
    | _ => exact ⟨ds', hd', he⟩
  | loop c ih =>
    intro r cur Q a ds w G n hG hr hd h
    simp only [codeVcR] at h
    cases hu : lookL ann.unroll cur with
    | some m =>
      rw [hu] at h
      simp only at h
      refine wpIn_loop_rounds m ?_
      clear hu
      induction m generalizing a ds w with
      | zero => exact h.elim
      | succ m ihm =>
        refine wpIn_mono (ih r _ _ _ _ _ G n hG hr hd h) ?_
        rintro e a' w' ⟨ds', hd', he⟩
        cases e with
        | normal => exact ihm _ _ _ hd' he
        | _ => exact ⟨ds', hd', he⟩
    | none =>
    rw [hu] at h
    simp only at h
    cases hnr : Code.noRange c with
    | true =>
      rw [hnr] at h
      simp only [cond_true, loopVc] at h
      obtain ⟨I, μ, h0, h1⟩ := h
      generalize (keepIn (Code.writes c) ((lookL ann.loops cur).getD [])) = live at I μ h0 h1
      refine wpIn_loop (fun a' w' => Fr (Code.writes c) a a' ∧ Inv.at _ I (vals a' (live.map (·.1))) w') (fun a' w' => Mes.at _ μ (vals a' (live.map (·.1))) w') ⟨Fr.refl _ _, h0⟩ fun a' w' ⟨hf, hI⟩ => ?_
      have h2 := allC_at _ _ _ _ _ hI (h1 (fun i => a'.tmps.getD i undef)) w' hI
      rw [loopAct_same hf] at h2
      have hd' : a'.defers = ds.map mk := by rw [hf.defers, hd]
      refine wpIn_mono (ih r _ _ _ _ _ G n hG hr hd' (codeVcR_mono (wr := Code.writes c) (a0 := a') (b := true) (ds0 := ds) (d0 := a'.defers) c r _ _ (fun e a'' ds' w'' => (Exit.then _ (fun e a w => Q e a ds w)) e a'' w'' ∧ FrT (Code.writes c) a' a'' ∧ ds' = ds ∧ a''.defers = a'.defers) a' ds w' (fun _ h => h) (fun _ => hnr)
        (fun e a ds' w h hf hs => ⟨h, hf, (hs rfl).1, (hs rfl).2⟩) (FrT.refl _ _) (fun _ => ⟨rfl, rfl⟩) h2)) ?_
      rintro e a'' w'' ⟨ds', hd'', he, hf', rfl, hdd⟩
      cases e with
      | normal => exact ⟨⟨⟨hf'.size.trans hf.size, hdd.trans hf.defers, fun i hi => (hf'.same i hi).trans (hf.same i hi)⟩, he.1⟩, he.2⟩
      | _ => exact ⟨ds', hd'', he⟩
    | false =>
      rw [hnr] at h
      simp only [cond_false] at h
      obtain ⟨I, μ, h0, hm, h1⟩ := h
      generalize (keepIn (Code.writes c) ((lookL ann.loops cur).getD [])) = live at I μ h0 h1
      refine wpIn_loop (fun a' w' => FrT (Code.writes c) a a' ∧ ∃ es, Inv.at _ (I es) (vals a' (live.map (·.1))) w' ∧ a'.defers = es.map mk ∧ MarksOk es w') (fun a' w' => Mes.at _ μ (vals a' (live.map (·.1))) w') ⟨FrT.refl _ _, ds, h0, hd, hm⟩ fun a' w' ⟨hf, es, hI, hes, hM⟩ => ?_
      have h2 := allC_at _ _ _ _ _ hI (h1 (fun i => a'.tmps.getD i undef) es) w' hI hM
      have hact : { (loopAct a (Code.writes c) (fun i => a'.tmps.getD i undef) (live.map (·.1)) (vals a' (live.map (·.1)))) with defers := es.map mk } = a' := by
        have hf2 : Fr (Code.writes c) { a with defers := a'.defers } a' := hf.fr
        have := loopAct_same hf2 (live.map (·.1))
        rw [← hes]
        have e2 : ({ (loopAct a (Code.writes c) (fun i => a'.tmps.getD i undef) (live.map (·.1)) (vals a' (live.map (·.1)))) with defers := a'.defers } : Act) = loopAct { a with defers := a'.defers } (Code.writes c) (fun i => a'.tmps.getD i undef) (live.map (·.1)) (vals a' (live.map (·.1))) := rfl
        rw [e2, this]
      rw [hact] at h2
      refine wpIn_mono (ih r _ _ _ _ _ G n hG hr hes (codeVcR_mono (wr := Code.writes c) (a0 := a') (b := false) (ds0 := []) (d0 := []) c r _ _ (fun e a'' ds' w'' => (QR.then _ Q) e a'' ds' w'' ∧ FrT (Code.writes c) a' a'') a' es w' (fun _ h => h) (fun h => by cases h)
        (fun e a ds' w h hf _ => ⟨h, hf⟩) (FrT.refl _ _) (fun h => by cases h) h2)) ?_
      rintro e a'' w'' ⟨ds', hd'', he, hf'⟩
      cases e with
      | normal => exact ⟨⟨⟨hf'.size.trans hf.size, fun i hi => (hf'.same i hi).trans (hf.same i hi)⟩, ds', he.1, hd'', he.2.2⟩, he.2.1⟩
      | _ => exact ⟨ds', hd'', he⟩
  | exit id => intro r cur Q a ds w G n hG _ hd h; exact wpIn_exit ⟨ds, hd, h⟩
  | label l => intro r cur Q a ds w G n hG _ hd h; exact wpIn_label ⟨ds, hd, h⟩
  | ret => intro r cur Q a ds w G n hG _ hd h; exact wpIn_ret ⟨ds, hd, h⟩
  | rangeFunc g ps assign body _ ihb =>
    intro r cur Q a ds w G n hG hr hd h
    simp only [codeVcR] at h
    cases hc : (r || !Code.noRange body || !(((lookL ann.ranges cur).getD []).length == ps.size) || !assignOk assign) with
    | true => rw [hc] at h; exact h.elim
    | false =>
      rw [hc] at h
      simp only [cond_false] at h
      simp only [Bool.or_eq_false_iff, Bool.not_eq_false', beq_iff_eq] at hc
      obtain ⟨⟨⟨hrf, hnr⟩, hps⟩, has⟩ := hc
      have hGw := hr hrf
      subst hGw
      unfold rangeVc at h
      split at h
      · rename_i gf first lb hg
        cases ht : (first.size == 0 && callOk P gf) with
        | false => rw [ht] at h; exact h.elim
        | true =>
          rw [ht] at h
          simp only [Bool.and_eq_true, beq_iff_eq] at ht
          have e1 : first = #[] := Array.eq_empty_of_size_eq_zero ht.1
          subst e1
          obtain ⟨M, xs, hseq, I, Xr, Xe, h0, h1, h2, h3⟩ := h
          obtain ⟨h3, h4⟩ := allEx_elim h3
          have hmk : ∀ D, ({ a with defers := mk D :: a.defers } : Act).defers = (D :: ds).map mk := fun D => by simp [hd]
          refine wpIn_wide.2 (wpIn_wide.1 (range_in (n := 0) (exits := dedup (Code.leaves body [])) hg ht.2 hps has hseq h0 (fun F pre x W0 W hI hGr hN => ?_) (fun pre W0 W D k1 k2 k3 k4 k5 => ⟨D :: ds, hmk D, h2 pre W0 W D k1 k2 k3 k4 k5⟩)
            (fun id hid pre W0 W D k1 k2 k3 k4 k5 => ⟨D :: ds, hmk D, h3 id hid pre W0 W D k1 k2 k3 k4 k5⟩) (fun F W0 W D k2 k3 k4 k5 => ⟨D :: ds, hmk D, h4 F W0 W D k2 k3 k4 k5⟩)))
          have hx := Dn.all_elim (h1 F pre) x W0 W hI hGr hN
          split at hx
          · rename_i a1 ha1
            refine ⟨a1, ha1, fun l n => ?_⟩
            have hd1 : a1.defers = ([] : List Nat).map mk := by
              have := evalAssign_defers ha1
              simpa using this
            refine wpIn_mono (ihb true _ _ _ _ _ (Fence.wide.inRound l) n (.inr ⟨l, rfl⟩) (fun h => by cases h) hd1 hx) ?_
            rintro e a' w' ⟨ds', _, he⟩
            cases e <;> exact he
          · exact hx.elim
      · exact h.elim
  | _ => intro r cur Q a ds w G n _ _ _ h; exact h.elim

/-! functions -/
def bodyVcR (P : Program) (fn : Func) (K : Value → World → Prop) : QR
  | .ret, a, ds, w => MarksOk ds w ∧ resVc P a.tmps fn.results.toList (fun vs => K (wrapRes vs) (shut ds w)) (shut ds w)
  | .normal, a, ds, w => MarksOk ds w ∧ resVc P a.tmps fn.results.toList (fun vs => K (wrapRes vs) (shut ds w)) (shut ds w)
  | _, _, _, _ => False

def funcVcR (P : Program) (fn : Func) (ann : AnnR) (args : List Value) (K : Value → World → Prop) (w : World) : Prop :=
  match fn.body with
  | some c => codeVcR P ann c false 1 (bodyVcR P fn K) { tmps := ⟨args ++ List.replicate (fn.ntmps - args.length) undef⟩, defers := [] } [] w
  | none => False

theorem marks_put {ds : List Nat} {w : World} {D : Nat} (h : MarksOk (D :: ds) w) (o : Obj) : MarksOk ds (w.putObj D o) := by
  obtain ⟨hn, hm⟩ := h
  rw [List.nodup_cons] at hn
  exact ⟨hn.2, fun E hE => by rw [World.putObj_heap_other (fun e => hn.1 (by rw [← e]; exact hE))]; exact hm E (by simp [hE])⟩
theorem leaves_marks {P : Program} {n : Nat} {fn : Func} {tmps : Array Value} {R : Ending → World → Prop} {v : Value} : ∀ (ds : List Nat) (w : World), MarksOk ds w → (results fn tmps).run P (shut ds w) = .ok v (shut ds w) → R (.returned v) (shut ds w) →
    LeavesInM Fence.wide n P fn tmps R (ds.map mk) .returning w
  | [], w, _, h1, h2 => ⟨v, h1, h2⟩
  | D :: ds, w, hm, h1, h2 => ⟨by simp, .inl ⟨D, _, rfl, run_takeDeferred (hm.2 D (by simp)), leaves_marks ds _ (marks_put hm _) h1 h2⟩⟩

theorem calls_of_vcR {P : Program} {f : FuncId} {fn : Func} (ann : AnnR) {args : List Value} {w : World} {K : Value → World → Prop}
    (hf : P.funcs[f]? = some fn) (h : funcVcR P fn ann args K w) : Calls P f ⟨args⟩ w (Ret K) := by
  unfold funcVcR at h
  split at h
  · rename_i c hc
    refine callsIn_wide.1 (callsIn_of_wp_marks (n := 0) hf hc trivial ?_)
    have ha : (⟨args⟩ : Array Value) ++ Array.replicate (fn.ntmps - (⟨args⟩ : Array Value).size) undef = ⟨args ++ List.replicate (fn.ntmps - args.length) undef⟩ := by
      apply Array.ext'; simp
    rw [ha]
    refine wpIn_mono (codeVcR_in _ _ _ _ _ _ _ Fence.wide 0 (.inl rfl) (fun _ => rfl) rfl h) ?_
    have key : ∀ (a' : Act) (w' : World) (ds' : List Nat), a'.defers = ds'.map mk → bodyVcR P fn K .ret a' ds' w' → LeavesInM Fence.wide 0 P fn a'.tmps (Ret K) a'.defers .returning w' := by
      intro a' w' ds' hd he
      rw [hd]
      obtain ⟨hm, he⟩ := he
      obtain ⟨l', h1, h2⟩ := resVc_run he
      exact leaves_marks ds' w' hm (results_run h1) h2
    rintro e a' w' ⟨ds', hd, he⟩
    cases e with
    | normal => exact key a' w' ds' hd he
    | ret => exact key a' w' ds' hd he
    | _ => exact (he : False).elim
  · exact h.elim
theorem calls_ofR {P : Program} {f : FuncId} {fn : Func} (ann : AnnR) {args : List Value} {w : World} {K : Value → World → Prop} {A : Prop}
    (hf : P.funcs[f]? = some fn) (he : A = funcVcR P fn ann args K w) (h : A) : Calls P f ⟨args⟩ w (Ret K) := calls_of_vcR ann hf (he ▸ h)
end Go.Vc
