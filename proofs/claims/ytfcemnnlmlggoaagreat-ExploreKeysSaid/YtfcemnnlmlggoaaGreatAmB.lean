/- The machine's operations that look at no memory. -/
import Derived.Test.YtfcemnnlmlggoaaGreatAmA
namespace Go.Am
open Go.Vc
variable {R : Type}

/-! ## values, worked out at once -/
def fN (n : Nat) (K : Nat → Option R) : Option R := Nat.casesOn (motive := fun _ => Option R) (Nat.succ n) none K
theorem fN_eq (n : Nat) (K : Nat → Option R) : fN n K = K n := rfl
def fZ (n : Int) (K : Int → Option R) : Option R := match n with
  | .ofNat m => fN m fun m => K (.ofNat m)
  | .negSucc m => fN m fun m => K (.negSucc m)
theorem fZ_eq (n : Int) (K : Int → Option R) : fZ n K = K n := by cases n <;> simp [fZ, fN_eq]
def fB (b : UInt8) (K : UInt8 → Option R) : Option R := fN b.toNat fun n => K (UInt8.ofNat n)
theorem fB_eq (b : UInt8) (K : UInt8 → Option R) : fB b K = K b := by simp [fB, fN_eq]
def fS : List UInt8 → (List UInt8 → Option R) → Option R
  | [], K => K []
  | b :: l, K => fB b fun b => fS l fun l => K (b :: l)
theorem fS_eq : ∀ (l : List UInt8) (K : List UInt8 → Option R), fS l K = K l
  | [], _ => rfl
  | b :: l, K => by simp only [fS, fB_eq, fS_eq l]
def fC (v : Value) (K : Value → Option R) : Option R := match v with
  | .int k n => fZ n fun n => K (.int k n)
  | .bool b => cond b (K (.bool true)) (K (.bool false))
  | .string ⟨⟨l⟩⟩ => fS l fun l => K (.string ⟨⟨l⟩⟩)
  | v => K v
theorem fC_eq (v : Value) (K : Value → Option R) : fC v K = K v := by
  unfold fC
  split
  · exact fZ_eq _ _
  · rename_i b; cases b <;> rfl
  · exact fS_eq _ _
  · rfl
def fCs : List Value → (List Value → Option R) → Option R
  | [], K => K []
  | v :: l, K => fC v fun v => fCs l fun l => K (v :: l)
theorem fCs_eq : ∀ (l : List Value) (K : List Value → Option R), fCs l K = K l
  | [], _ => rfl
  | b :: l, K => by simp only [fCs, fC_eq, fCs_eq l]
def fV (v : Value) (K : Value → Option R) : Option R := match v with
  | .agg ⟨l⟩ => fCs l fun l => K (.agg ⟨l⟩)
  | .tuple ⟨l⟩ => fCs l fun l => K (.tuple ⟨l⟩)
  | v => fC v K
theorem fV_eq (v : Value) (K : Value → Option R) : fV v K = K v := by
  unfold fV
  split
  · exact fCs_eq _ _
  · exact fCs_eq _ _
  · exact fC_eq _ _
def fA0 (a : AV) (K : AV → Option R) : Option R := match a with
  | .lit v => fV v fun v => K (.lit v)
  | .ptr b o => fN b fun b => fN o fun o => K (.ptr b o)
  | .slice b o n sz c x => fN b fun b => fN o fun o => fN n fun n => fN sz fun sz => fN c fun c => cond x (K (.slice b o n sz c true)) (K (.slice b o n sz c false))
  | .map b => fN b fun b => K (.map b)
  | a => K a
theorem fA0_eq (a : AV) (K : AV → Option R) : fA0 a K = K a := by
  unfold fA0
  split
  · exact fV_eq _ _
  · simp only [fN_eq]
  · rename_i x; simp only [fN_eq]; cases x <;> rfl
  · simp only [fN_eq]
  · rfl
def fL0 : List AV → (List AV → Option R) → Option R
  | [], K => K []
  | a :: l, K => fA0 a fun a => fL0 l fun l => K (a :: l)
theorem fL0_eq : ∀ (l : List AV) (K : List AV → Option R), fL0 l K = K l
  | [], _ => rfl
  | a :: l, K => by simp only [fL0, fA0_eq, fL0_eq l]
def fA1 (a : AV) (K : AV → Option R) : Option R := match a with
  | .agg l => fL0 l fun l => K (.agg l)
  | .func f l m => fL0 l fun l => fL0 m fun m => K (.func f l m)
  | .iface t x => fA0 x fun x => K (.iface t x)
  | a => fA0 a K
theorem fA1_eq (a : AV) (K : AV → Option R) : fA1 a K = K a := by
  unfold fA1
  split <;> simp only [fL0_eq, fA0_eq]
def fL1 : List AV → (List AV → Option R) → Option R
  | [], K => K []
  | a :: l, K => fA1 a fun a => fL1 l fun l => K (a :: l)
theorem fL1_eq : ∀ (l : List AV) (K : List AV → Option R), fL1 l K = K l
  | [], _ => rfl
  | a :: l, K => by simp only [fL1, fA1_eq, fL1_eq l]
def fA (a : AV) (K : AV → Option R) : Option R := match a with
  | .agg l => fL1 l fun l => K (.agg l)
  | .tuple l => fL1 l fun l => K (.tuple l)
  | .func f l m => fL1 l fun l => fL1 m fun m => K (.func f l m)
  | a => fA1 a K
theorem fA_eq (a : AV) (K : AV → Option R) : fA a K = K a := by
  unfold fA
  split <;> simp only [fL1_eq, fA1_eq]

/-! ## operands -/
def evA (tm : Tm) : Operand → Option AV
  | .tmp t => tm.get t
  | .const v => some (.lit v)
  | .func f => some (.lit (.func (.func f) #[] #[]))
  | .global _ => none
def evL (tm : Tm) : List Operand → Option (List AV)
  | [] => some []
  | x :: l => match evA tm x with
    | some a => match evL tm l with
      | some as => some (a :: as)
      | none => none
    | none => none
structure TmR (e : Env) (tm : Tm) (a : Act) : Prop where
  at_ : ∀ t av, tm.get t = some av → t < a.tmps.size ∧ av.rep e (a.tmps.getD t undef)
theorem TmR.later {e e' : Env} {tm : Tm} {a : Act} (h : TmR e tm a) (k : Later e e') : TmR e' tm a := ⟨fun t av ht => ⟨(h.at_ t av ht).1, rep_later k (h.at_ t av ht).2⟩⟩
theorem evA_rep {e : Env} {tm : Tm} {a : Act} (h : TmR e tm a) {x : Operand} {av : AV} (hx : evA tm x = some av) : av.rep e (a.eval x) := by
  cases x with
  | tmp t => exact (h.at_ t av hx).2
  | const v => simp only [evA] at hx; cases hx; simp [AV.rep, Act.eval]
  | func f => simp only [evA] at hx; cases hx; simp [AV.rep, Act.eval]
  | global g => simp [evA] at hx
/-- what some operands are -/
def OpdR (e : Env) (tm : Tm) (a : Act) (l : List Operand) : Prop := ∀ x ∈ l, ∀ av, evA tm x = some av → av.rep e (a.eval x)
theorem TmR.opd {e : Env} {tm : Tm} {a : Act} (h : TmR e tm a) (l : List Operand) : OpdR e tm a l := fun _ _ _ hx => evA_rep h hx
theorem OpdR.sub {e : Env} {tm : Tm} {a : Act} {l m : List Operand} (h : OpdR e tm a l) (hs : ∀ x ∈ m, x ∈ l) : OpdR e tm a m := fun x hx => h x (hs x hx)
theorem evL_rep {e : Env} {tm : Tm} {a : Act} : ∀ {l : List Operand} {as : List AV}, OpdR e tm a l → evL tm l = some as → AV.repL e as (l.map a.eval)
  | [], _, _, hx => by simp only [evL] at hx; cases hx; simp [AV.repL]
  | x :: l, _, h, hx => by
    simp only [evL] at hx
    split at hx
    · rename_i av hav
      split at hx
      · rename_i as has
        cases hx
        simp only [AV.repL, List.map_cons]
        exact ⟨_, _, rfl, h x (by simp) _ hav, evL_rep (h.sub fun y hy => by simp [hy]) has⟩
      · cases hx
    · cases hx

/-! ## what the model itself comes to, of values without addresses -/
def semV {α : Type} (P : Program) : Sem α → Option α
  | .pure a => some a
  | .program k => semV P (k P)
  | .mark _ k => semV P k
  | _ => none
theorem semV_run {α : Type} {P : Program} : ∀ {s : Sem α} {a : α}, semV P s = some a → ∀ w, s.run P w = .ok a w := by
  intro s
  induction s with
  | pure a => intro b h w; simp only [semV] at h; cases h; rfl
  | program k ih => intro b h w; simp only [semV] at h; simp only [Sem.run]; exact ih P h w
  | mark m k ih => intro b h w; simp only [semV] at h; simp only [Sem.run]; exact ih h w
  | _ => intro b h w; simp [semV] at h
def rho (tm : Tm) (x : Operand) : Value := match evA tm x with
  | some a => match a.val? with
    | some v => v
    | none => undef
  | none => undef
def plain (tm : Tm) : List Operand → Bool
  | [] => true
  | x :: l => match evA tm x with
    | some a => a.val?.isSome && plain tm l
    | none => false
theorem rho_eq {e : Env} {tm : Tm} {a : Act} : ∀ {l : List Operand}, OpdR e tm a l → plain tm l = true → ∀ x ∈ l, a.eval x = rho tm x
  | [], _, _, _, hx => by cases hx
  | y :: l, h, hp, x, hx => by
    simp only [plain] at hp
    split at hp
    · rename_i av hav
      simp only [Bool.and_eq_true] at hp
      rcases List.mem_cons.1 hx with rfl | hx
      · obtain ⟨v, hv⟩ := Option.isSome_iff_exists.1 hp.1
        unfold rho
        rw [hav]
        simp only [hv]
        exact val_rep hv (h _ (by simp) _ hav)
      · exact rho_eq (h.sub fun z hz => by simp [hz]) hp.2 x hx
    · cases hp
def noSel (o : Oper) : Bool := match o.op with
  | .select .. => false
  | _ => true
def genA (P : Program) (tm : Tm) (o : Oper) : Option AV :=
  cond (noSel o && plain tm o.op.operands.toList) (match semV P (execOp (rho tm) o) with
    | some (.value v) => some (.lit v)
    | _ => none) none
/-- an operation of the machine is one of the world -/
def PureR (P : Program) (tm : Tm) (o : Oper) (av : AV) : Prop := ∀ e a, OpdR e tm a o.op.operands.toList → ∃ v, av.rep e v ∧ ∀ w, (execOp a.eval o).run P w = .ok (.value v) w
theorem genA_ok {P : Program} {tm : Tm} {o : Oper} {av : AV} (h : genA P tm o = some av) : PureR P tm o av := by
  intro e a ht
  unfold genA at h
  cases hc : (noSel o && plain tm o.op.operands.toList) with
  | false => rw [hc] at h; cases h
  | true =>
    rw [hc] at h
    simp only [Bool.and_eq_true] at hc
    simp only [cond_true] at h
    split at h
    · rename_i v hv
      cases h
      refine ⟨v, by simp [AV.rep], fun w => ?_⟩
      rw [execOp_congr (ρ' := rho tm) o (fun cs b hs => by have h1 := hc.1; unfold noSel at h1; rw [hs] at h1; cases h1) (fun x hx => rho_eq ht hc.2 x (by simpa using hx))]
      exact semV_run hv w
    · cases h

/-! ## operations on addresses -/
def aggT (P : Program) (t : TypeId) : Option Bool := match P.underlying t with
  | some (.struct _) => some true
  | some (.array _ _) => some true
  | some _ => some false
  | none => none
theorem aggT_run {P : Program} {t : TypeId} {b : Bool} (h : aggT P t = some b) (w : World) : (isAgg t).run P w = .ok b w := by
  unfold aggT at h
  split at h
  · rename_i hd; cases h; rw [isAgg_run hd]
  · rename_i hd; cases h; rw [isAgg_run hd]
  · rename_i d h1 h2 hd
    cases h
    rw [isAgg_run hd]
    cases d <;> first | rfl | exact absurd rfl (h1 _) | exact absurd rfl (h2 _ _)
  · cases h
/-- a part of a struct's or an array's cells -/
def partA (P : Program) (t : TypeId) (l : List AV) (off : Nat) : Option AV := match aggT P t, P.info? t with
  | some true, some i => cond (Nat.ble (off + i.size) l.length) (some (.agg ((l.drop off).take i.size))) none
  | some false, _ => l[off]?
  | _, _ => none
theorem partA_ok {P : Program} {t : TypeId} {l : List AV} {off : Nat} {av : AV} (h : partA P t l off = some av) {e : Env} {vs : List Value} (hr : AV.repL e l vs) : ∃ v, av.rep e v ∧ ∀ w, (part t ⟨vs⟩ off).run P w = .ok v w := by
  unfold partA at h
  split at h
  · rename_i i ha hi
    cases hc : Nat.ble (off + i.size) l.length with
    | false => rw [hc] at h; cases h
    | true =>
      rw [hc] at h; cases h
      refine ⟨_, by simp only [AV.rep]; exact ⟨_, rfl, repL_take (repL_drop hr)⟩, fun w => ?_⟩
      simp only [part, Sem.run_bind, aggT_run ha, Result.andThen_ok, if_true, sizeOf, typeInfo, run_program, hi, Sem.run_pure]
      congr 2
      apply Array.ext'
      simp [List.drop_take]
  · rename_i ha
    obtain ⟨v, hv, hv2⟩ := repL_get hr h
    refine ⟨v, hv2, fun w => ?_⟩
    simp only [part, Sem.run_bind, aggT_run ha, Result.andThen_ok, Bool.false_eq_true, if_false]
    have : (⟨vs⟩ : Array Value)[off]? = some v := by simpa using hv
    rw [this]; rfl
  · cases h

def setL : List AV → Nat → List AV → List AV
  | l, _, [] => l
  | l, i, a :: as => setL (l.set i a) (i + 1) as
theorem setL_len : ∀ (as l : List AV) (i : Nat), (setL l i as).length = l.length
  | [], _, _ => rfl
  | _ :: as, l, i => by simp only [setL]; rw [setL_len as]; simp
theorem setL_rep {e : Env} : ∀ {as : List AV} {us : List Value} {l : List AV} {vs : List Value} (i : Nat), AV.repL e as us → AV.repL e l vs → AV.repL e (setL l i as) (over vs i us)
  | [], _, _, _, _, h, k => by simp only [AV.repL] at h; subst h; exact k
  | _ :: _, _, _, _, i, h, k => by
    simp only [AV.repL] at h
    obtain ⟨x, xs, rfl, h1, h2⟩ := h
    exact setL_rep (i + 1) h2 (repL_set k i h1)
theorem over_len' : ∀ (us vs : List Value) (i : Nat), (over vs i us).length = vs.length
  | [], _, _ => rfl
  | u :: us, vs, i => by simp only [over]; rw [over_len' us]; simp
/-- the parts of a literal, laid into zero cells -/
def fillA (place : Nat → Option (Nat × Nat)) : List AV → List (Nat × AV) → Option (List AV)
  | l, [] => some l
  | l, (i, a) :: r => match place i with
    | some (off, size) => cond (Nat.beq a.cells.length size && Nat.ble (off + size) l.length) (fillA place (setL l off a.cells) r) none
    | none => none
theorem fold_over : ∀ (us : List Value) (cs : Array Value) (off j : Nat), ((us.zipIdx j).foldl (fun (cs : Array Value) (x : Value × Nat) => cs.setIfInBounds (off + x.2) x.1) cs).toList = over cs.toList (off + j) us
  | [], _, _, _ => rfl
  | u :: us, cs, off, j => by
    simp only [List.zipIdx_cons, List.foldl_cons, over]
    rw [fold_over us]
    simp [Nat.add_assoc]
theorem fold_over0 (v : Array Value) (cs : Array Value) (off : Nat) : (v.zipIdx.foldl (fun (cs : Array Value) (x : Value × Nat) => cs.setIfInBounds (off + x.2) x.1) cs).toList = over cs.toList off v.toList := by
  have := fold_over v.toList cs off 0
  rw [Nat.add_zero] at this
  rw [← this]
  congr 1
  rw [← Array.foldl_toList]
  simp
theorem fillA_ok {place : Nat → Option (Nat × Nat)} {e : Env} : ∀ {r : List (Nat × AV)} {l l' : List AV} {cs : Array Value} {vs : List (Nat × Value)}, fillA place l r = some l' → AV.repL e l cs.toList →
    vs.map (·.1) = r.map (·.1) → AV.repL e (r.map (·.2)) (vs.map (·.2)) → ∃ cs', Instr.fill place cs vs = some cs' ∧ AV.repL e l' cs'.toList
  | [], l, l', cs, vs, h, hl, h1, _ => by
    simp only [fillA] at h; cases h
    cases vs with
    | nil => exact ⟨cs, rfl, hl⟩
    | cons => simp at h1
  | (i, a) :: r, l, l', cs, vs, h, hl, h1, h2 => by
    cases vs with
    | nil => simp at h1
    | cons p vs =>
      obtain ⟨i', v⟩ := p
      simp only [List.map_cons, List.cons.injEq] at h1
      obtain ⟨rfl, h1⟩ := h1
      simp only [List.map_cons, AV.repL] at h2
      obtain ⟨x, xs, hx, hv, h2⟩ := h2
      simp only [List.cons.injEq] at hx
      obtain ⟨rfl, rfl⟩ := hx
      simp only [fillA] at h
      split at h
      · rename_i off size hp
        cases hc : (Nat.beq a.cells.length size && Nat.ble (off + size) l.length) with
        | false => rw [hc] at h; cases h
        | true =>
          rw [hc] at h
          simp only [Bool.and_eq_true] at hc
          have c1 := Nat.eq_of_beq_eq_true hc.1
          have c2 := Nat.le_of_ble_eq_true hc.2
          have hcr := cells_rep hv
          have hlen := repL_length hcr
          have hll := repL_length hl
          have hsz : v.cells.size = size := by rw [← c1, ← hlen]; simp
          have hfit : off + v.cells.size ≤ cs.size := by rw [hsz]; have : cs.size = l.length := by simpa using hll
                                                         omega
          simp only [Instr.fill, hp]
          have hn : ¬ (v.cells.size ≠ size ∨ off + v.cells.size > cs.size) := by omega
          have hnb : ((decide (v.cells.size ≠ size)) || decide (off + v.cells.size > cs.size)) = false := by
            simp [hsz]; rw [← hsz]; exact hfit
          have := fillA_ok (cs := v.cells.zipIdx.foldl (fun (cs : Array Value) (x : Value × Nat) => cs.setIfInBounds (off + x.2) x.1) cs) (vs := vs) h (by rw [fold_over0]; exact setL_rep off hcr hl) h1 h2
          obtain ⟨cs', g1, g2⟩ := this
          refine ⟨cs', ?_, g2⟩
          rw [← g1]
          rw [if_neg (by simpa using hnb)]
      · cases h
end Go.Am
