/- Closed calls that are known already, and what a run of the machine tells of a call. -/
import Derived.Test.YtfcemnnlmlggoaaGreatAmH
namespace Go.Am
open Go.Vc
open Go.RowKit (Below)
variable {R : Type}

/-- a closed call that comes to a value, in every world, and changes nothing that is there -/
def Closed (P : Program) (g : FuncId) (v : Value) : Prop := ∀ w, After P (fun u w' => u = v ∧ Below w.heap.size w w') ((callFunc g #[]).run P w)
theorem MemR.below_keep {b0 : Base} {e : Env} {M : Mm} {n : Nat} {w w' : World} (h : MemR b0 e M n w) (hb : Below w.heap.size w w') : MemR b0 e M n w' := by
  refine ⟨h.new, h.res, fun b x hx => ?_, h.dif, ⟨hb.os.trans h.kept.os, hb.tape.trans h.kept.tape, hb.output.trans h.kept.output, Nat.le_trans h.kept.size hb.size, fun k hk => ?_⟩⟩
  · have hbk := h.blk b x hx
    obtain ⟨B', t', g1, g2, _⟩ := hbk.at
    refine hbk.keep (Later.refl e) (fun _ _ _ h => h) fun B t hB => ?_
    rw [g1] at hB; cases hB
    exact hb.block B' g2
  · rw [hb.block k (Nat.lt_of_lt_of_le (b0.lt k hk) h.kept.size)]
    exact h.kept.block k hk
/-- closed calls that are known -/
def knownE (g : FuncId) (v : Value) : CallK R → CallK R := fun call g' args M n K => ifK (an (Nat.beq g g') (List.isEmpty args)) (K (.lit v) M n) (call g' args M n K)
theorem knownE_ok {P : Program} {g : FuncId} {v : Value} (hg : Nat.ble (Nat.succ g) YB = true) (h : Closed P g v) : ExtOk P (knownE (R := R) g v) := by
  intro call hcall g' args M n K r hr
  unfold knownE at hr
  cases hc : an (Nat.beq g g') (List.isEmpty args) with
  | false => rw [hc] at hr; exact hcall _ _ _ _ _ _ hr
  | true =>
    rw [hc] at hr
    rw [an_eq, Bool.and_eq_true] at hc
    have h1 := Nat.eq_of_beq_eq_true hc.1
    subst h1
    have h2 : args = [] := by simpa using hc.2
    subst h2
    have hlt : g < YB := Nat.le_of_ble_eq_true hg
    refine ⟨.lit v, M, n, hr, fun _ b0 e w vs hM hvs next hk => ?_, fun b hb => ?_⟩
    · simp only [AV.repL] at hvs
      subst hvs
      refine after_mono (h w) fun u w' ⟨h1, h2⟩ => ?_
      subst h1
      exact hk e u w' (Later.refl e) (hM.below_keep h2) (by simp only [AV.rep])
    · exact absurd hlt (by rw [hb]; exact Nat.not_lt.2 (Nat.le_add_right _ _))
theorem closed_of {P : Program} (hm : P.follows .mixedOrders = true) {ext : CallK AV → CallK AV} (he : ExtOk P ext) {lf k : Nat} {g : FuncId} {v : Value} (hgb : Nat.ble (Nat.succ g) YB = true) (h : funK P ext lf k g [] Tr.nil 0 (fun av _ _ => some av) = some (.lit v)) : Closed P g v := fun w => run_closed hm he hgb h w
/-- a closed call that is known, as a call -/
theorem closed_calls {P : Program} {g : FuncId} {v : Value} (hok : callOk P g = true) (h : Closed P g v) (w : World) : Calls P g #[] w (Ret fun u w' => u = v ∧ Below w.heap.size w w') := by
  have := h w
  rw [callOk_run hok] at this
  refine Calls.mono (this : Calls P g _ w _) fun en w' h => ?_
  cases en with
  | returned v => exact h
  | panicked c => exact (h : False).elim
  | outgrown => exact (h : False).elim
/-- a closed call that comes to an aggregate of literals -/
theorem run_closedA {P : Program} (hm : P.follows .mixedOrders = true) {ext : CallK AV → CallK AV} (he : ExtOk P ext) {lf k : Nat} {g : FuncId} {l : List AV} {vs : List Value} (hl : AV.vals? l = some vs) (hgb : Nat.ble (Nat.succ g) YB = true) (hok : callOk P g = true) (h : funK P ext lf k g [] Tr.nil 0 (fun av _ _ => some av) = some (.agg l)) (w : World) :
    Calls P g #[] w (Ret fun u w' => u = .agg ⟨vs⟩ ∧ Below w.heap.size w w') := by
  obtain ⟨av, M', n', h1, h2⟩ := funK_ok hm he k _ _ _ _ _ _ h
  cases h1
  have hgY : g < YB := Nat.le_of_ble_eq_true hgb
  have := h2.1 hgY (base w) (fun _ => none) w [] (MemR.start w) (by simp [AV.repL]) (fun u w' => u = .agg ⟨vs⟩ ∧ Below w.heap.size w w') fun e' u w' _ hM' hu => by
    simp only [AV.rep] at hu
    obtain ⟨us, rfl, hu⟩ := hu
    rw [vals_rep hl hu]
    exact ⟨rfl, hM'.below⟩
  rw [callOk_run hok] at this
  refine Calls.mono (this : Calls P g _ w _) fun en w' h => ?_
  cases en with
  | returned v => exact h
  | panicked c => exact (h : False).elim
  | outgrown => exact (h : False).elim
/-- a call with arguments that hold no addresses -/
theorem run_args {P : Program} (hm : P.follows .mixedOrders = true) {ext : CallK AV → CallK AV} (he : ExtOk P ext) {lf k : Nat} {g : FuncId} {v : Value} {as : List AV} (hgb : Nat.ble (Nat.succ g) YB = true) (hok : callOk P g = true) (h : funK P ext lf k g as Tr.nil 0 (fun av _ _ => some av) = some (.lit v)) {vs : List Value} (hvs : AV.repL (fun _ => none) as vs) (w : World) :
    Calls P g ⟨vs⟩ w (Ret fun u w' => u = v ∧ Below w.heap.size w w') := by
  obtain ⟨av, M', n', h1, h2⟩ := funK_ok hm he k _ _ _ _ _ _ h
  cases h1
  have hgY : g < YB := Nat.le_of_ble_eq_true hgb
  have := h2.1 hgY (base w) (fun _ => none) w vs (MemR.start w) hvs (fun u w' => u = v ∧ Below w.heap.size w w') fun e' u w' _ hM' hu => by
    simp only [AV.rep] at hu
    exact ⟨hu, hM'.below⟩
  rw [callOk_run hok] at this
  refine Calls.mono (this : Calls P g _ w _) fun en w' h => ?_
  cases en with
  | returned v => exact h
  | panicked c => exact (h : False).elim
  | outgrown => exact (h : False).elim
/-! ## unknown numbers that are told again -/
def enB : Int → Nat
  | .ofNat m => m
  | .negSucc m => m
def enT : Int → Nat
  | .ofNat _ => 0
  | .negSucc _ => 1
theorem decI_en (n : Int) : decI (enB n) (enT n) = n := by cases n <;> rfl
/-- the first k places of the environment are numbers -/
def symE (s : Nat → Int) (k : Nat) : Env := fun b => if b < k then some (enB (s b), enT (s b)) else none
theorem MemR.sym (s : Nat → Int) (k : Nat) (w : World) : MemR (base w) (symE s k) (Tr.nil : Tr Blk).get k w :=
  ⟨fun b hb => if_neg (by rcases hb with hb | hb; omega; exact hb.elim), fun _ h => h.elim, fun _ _ h => (by rw [Tr.get_nil] at h; cases h), fun _ _ _ _ _ h => (by rw [Tr.get_nil] at h; cases h), ⟨rfl, rfl, rfl, Nat.le_refl _, fun _ _ => rfl⟩⟩
theorem same_rep {s : Nat → Int} {k i : Nat} {kd : IntKind} {lo hi : Int} (hi' : i < k) (h1 : lo ≤ s i) (h2 : s i ≤ hi) : (AV.same i kd lo hi).rep (symE s k) (.int kd (s i)) := by
  simp only [AV.rep]
  exact ⟨enB (s i), enT (s i), if_pos hi', by rw [decI_en], by rw [decI_en]; exact h1, by rw [decI_en]; exact h2⟩
/-- a call whose arguments hold no addresses, and numbers that nobody knows -/
theorem run_sym {P : Program} (hm : P.follows .mixedOrders = true) {ext : CallK AV → CallK AV} (he : ExtOk P ext) {lf k : Nat} {g : FuncId} {v : Value} {as : List AV} (hgb : Nat.ble (Nat.succ g) YB = true) (hok : callOk P g = true) (s : Nat → Int) (k0 : Nat) (h : funK P ext lf k g as Tr.nil k0 (fun av _ _ => some av) = some (.lit v)) {vs : List Value} (hvs : AV.repL (symE s k0) as vs) (w : World) :
    Calls P g ⟨vs⟩ w (Ret fun u w' => u = v ∧ Below w.heap.size w w') := by
  obtain ⟨av, M', n', h1, h2⟩ := funK_ok hm he k _ _ _ _ _ _ h
  cases h1
  have hgY : g < YB := Nat.le_of_ble_eq_true hgb
  have := h2.1 hgY (base w) (symE s k0) w vs (MemR.sym s k0 w) hvs (fun u w' => u = v ∧ Below w.heap.size w w') fun e' u w' _ hM' hu => by
    simp only [AV.rep] at hu
    exact ⟨hu, hM'.below⟩
  rw [callOk_run hok] at this
  refine Calls.mono (this : Calls P g _ w _) fun en w' h => ?_
  cases en with
  | returned v => exact h
  | panicked c => exact (h : False).elim
  | outgrown => exact (h : False).elim
end Go.Am
