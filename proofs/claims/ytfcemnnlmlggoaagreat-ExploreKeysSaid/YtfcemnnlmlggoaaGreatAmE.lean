/- The machine runs code. -/
import Derived.Test.YtfcemnnlmlggoaaGreatAmM
import Derived.Test.YtfcemnnlmlggoaaGreatAmQ
import Derived.Orders
import Derived.Test.YtfcemnnlmlggoaaGreatVcI
namespace Go.Am
open Go.Vc
variable {R : Type}

/-! ## places -/
structure ActR (sz : Nat) (d0 : List Deferred) (e : Env) (tm : Tm) (a : Act) : Prop where
  tm : TmR e tm a
  size : a.tmps.size = sz
  defers : a.defers = d0
theorem ActR.later {sz : Nat} {d0 : List Deferred} {e e' : Env} {tm : Tm} {a : Act} (h : ActR sz d0 e tm a) (k : Later e e') : ActR sz d0 e' tm a := ⟨h.tm.later k, h.size, h.defers⟩
def putK (sz : Nat) (tm : Tm) (d : Option Nat) (av : AV) (K : Tm → Option R) : Option R := match d with
  | none => K tm
  | some d => cond (Nat.ble (d + 1) sz) (onB (Tm.sB d) fun s => s tm (some av) K) none
theorem putK_ok {sz : Nat} {tm : Tm} {d : Option Nat} {av : AV} {K : Tm → Option R} {r : R} (h : putK sz tm d av K = some r) : ∃ tm', K tm' = some r ∧ ∀ d0 e e' a v, ActR sz d0 e tm a → Later e e' → av.rep e' v → ActR sz d0 e' tm' (a.put d v) := by
  unfold putK at h
  split at h
  · exact ⟨tm, h, fun d0 e e' a v ha hl _ => ha.later hl⟩
  · rename_i d
    cases hc : Nat.ble (d + 1) sz with
    | false => rw [hc] at h; cases h
    | true =>
      rw [hc] at h
      have hd := Nat.le_of_ble_eq_true hc
      obtain ⟨tm', h1, h2⟩ := Tm.sB_some h
      refine ⟨tm', h1, fun d0 e e' a v ha hl hv => ⟨⟨fun t x hx => ?_⟩, ?_, ha.defers⟩⟩
      · rw [h2] at hx
        show t < (a.tmps.setIfInBounds d v).size ∧ _
        split at hx
        · rename_i htd
          subst htd
          cases hx
          refine ⟨by rw [Array.size_setIfInBounds, ha.size]; omega, ?_⟩
          show av.rep e' ((a.tmps.setIfInBounds t v).getD t undef)
          rw [Array.getD_eq_getD_getElem?, Array.getElem?_setIfInBounds_self_of_lt (by rw [ha.size]; omega)]
          exact hv
        · rename_i htd
          obtain ⟨g1, g2⟩ := ha.tm.at_ t x hx
          refine ⟨by rw [Array.size_setIfInBounds]; exact g1, ?_⟩
          show x.rep e' ((a.tmps.setIfInBounds d v).getD t undef)
          rw [Array.getD_eq_getD_getElem?, Array.getElem?_setIfInBounds_ne (fun e => htd e.symm), ← Array.getD_eq_getD_getElem?]
          exact rep_later hl g2
      · show (a.tmps.setIfInBounds d v).size = sz
        rw [Array.size_setIfInBounds]; exact ha.size

/-! ## calls -/
abbrev CallK (R : Type) : Type := FuncId → List AV → Tr Blk → Nat → (AV → Tr Blk → Nat → Option R) → Option R
/-- numbers from here on are no functions: rounds of the block so far on -/
def YB : Nat := 1000000
def FunR (P : Program) (g : FuncId) (args : List AV) (M : Tr Blk) (n : Nat) (av : AV) (M' : Tr Blk) (n' : Nat) : Prop :=
  ∀ b0 e w vs, MemR b0 e M.get n w → AV.repL e args vs → ∀ next : Value → World → Prop, (∀ e' v w', Later e e' → MemR b0 e' M'.get n' w' → av.rep e' v → next v w') → After P next ((callFunc g ⟨vs⟩).run P w)
def YieldR (P : Program) (b : Nat) (args : List AV) (M : Tr Blk) (n : Nat) (av : AV) (M' : Tr Blk) (n' : Nat) : Prop :=
  ∀ b0 e w vs, MemR b0 e M.get n w → AV.repL e args vs → ∀ B t, e b = some (B, t) → ∀ next : Value → World → Prop, (∀ e' v w', Later e e' → MemR b0 e' M'.get n' w' → av.rep e' v → next v w') → YieldC P B ⟨vs⟩ (fun bb w' => next (.bool bb) w') w
def CallR (P : Program) (g : FuncId) (args : List AV) (M : Tr Blk) (n : Nat) (av : AV) (M' : Tr Blk) (n' : Nat) : Prop :=
  (g < YB → FunR P g args M n av M' n') ∧ ∀ b, g = YB + b → YieldR P b args M n av M' n'
def CallOk (P : Program) (call : CallK R) : Prop := ∀ g args M n K r, call g args M n K = some r → ∃ av M' n', K av M' n' = some r ∧ CallR P g args M n av M' n'

def opCallK (tm : Tm) (call : CallK R) (f : Operand) (args : List Operand) (M : Tr Blk) (n : Nat) (K : AV → Tr Blk → Nat → Option R) : Option R := match evA tm f, evL tm args with
  | some (.lit (.func (.func g) l m)), some as => ifK (Nat.ble (Nat.succ g) YB) (call g (l.toList.map .lit ++ as ++ m.toList.map .lit) M n K) none
  | some (.func g l m), some as => ifK (Nat.ble (Nat.succ g) YB) (call g (l ++ as ++ m) M n K) none
  | _, _ => none
theorem ifK_some {b : Bool} {x : Option R} {r : R} (h : ifK b x none = some r) : b = true ∧ x = some r := by
  cases b with
  | true => exact ⟨rfl, h⟩
  | false => cases h
theorem opCallK_ok {P : Program} {tm : Tm} {call : CallK R} (hcall : CallOk P call) {o : Oper} {c : Call} {f : Operand} {M : Tr Blk} {n : Nat} {K : AV → Tr Blk → Nat → Option R} {r : R} (ho : o.op = .call c) (hcf : c.callee = .value f)
    (h : opCallK tm call f c.args.toList M n K = some r) : ∃ av M' n', K av M' n' = some r ∧ OpR P tm o M n av M' n' := by
  have key : ∀ {a : Act} {g : FuncId} {l m : Array Value} {w : World} {next : Value → World → Prop}, a.eval f = .func (.func g) l m →
      After P next ((callFunc g (l ++ c.args.map a.eval ++ m)).run P w) → After P next ((execOp a.eval o).run P w) := by
    intro a g l m w next hf this
    simpa only [execOp, ho, resolve, hcf, hf, Deferred.ofValue, invoke, Sem.run_bind, Sem.run_pure, Result.andThen_ok, Array.append_assoc] using this
  unfold opCallK at h
  split at h
  · rename_i g l m as hf has
    obtain ⟨hg, h⟩ := ifK_some h
    obtain ⟨av, M', n', h1, h2⟩ := hcall _ _ _ _ _ _ h
    have h2 := h2.1 (Nat.le_of_ble_eq_true hg)
    refine ⟨av, M', n', h1, fun b0 e a w hM hT next hk => ?_⟩
    have hfv := hT _ (by simp [ho, Op.operands, Call.operands, hcf]) _ hf
    simp only [AV.rep] at hfv
    refine key hfv ?_
    have := h2 b0 e w (l.toList ++ c.args.toList.map a.eval ++ m.toList) hM (repL_append (repL_append (lits_rep _) (evL_rep (hT.sub fun y hy => by simp only [ho, Op.operands, Call.operands, hcf, Array.toList_append, List.mem_append]; exact .inr hy) has)) (lits_rep _)) next hk
    have e1 : (⟨l.toList ++ c.args.toList.map a.eval ++ m.toList⟩ : Array Value) = l ++ c.args.map a.eval ++ m := by apply Array.ext'; simp
    rw [e1] at this; exact this
  · rename_i g l m as hf has
    obtain ⟨hg, h⟩ := ifK_some h
    obtain ⟨av, M', n', h1, h2⟩ := hcall _ _ _ _ _ _ h
    have h2 := h2.1 (Nat.le_of_ble_eq_true hg)
    refine ⟨av, M', n', h1, fun b0 e a w hM hT next hk => ?_⟩
    have hfv := hT _ (by simp [ho, Op.operands, Call.operands, hcf]) _ hf
    simp only [AV.rep] at hfv
    obtain ⟨vs, us, hf2, r1, r2⟩ := hfv
    refine key hf2 ?_
    have := h2 b0 e w (vs ++ c.args.toList.map a.eval ++ us) hM (repL_append (repL_append r1 (evL_rep (hT.sub fun y hy => by simp only [ho, Op.operands, Call.operands, hcf, Array.toList_append, List.mem_append]; exact .inr hy) has)) r2) next hk
    have e1 : (⟨vs ++ c.args.toList.map a.eval ++ us⟩ : Array Value) = ⟨vs⟩ ++ c.args.map a.eval ++ ⟨us⟩ := by apply Array.ext'; simp
    rw [e1] at this; exact this
  · cases h

/-- the function behind a method -/
def methodA (P : Program) (t : TypeId) (name : String) : Option FuncId := match P.info? t with
  | some i => match i.methods.toList.find? (·.name == name) with
    | some m => match m.path.toList with
      | [] => match m.func with
        | some (f, pr) => match P.underlying t with
          | some (.pointer _) => cond pr (some f) none
          | some _ => cond pr none (some f)
          | none => none
        | none => none
      | _ => none
    | none => none
  | none => none
theorem methodA_ok {P : Program} {t : TypeId} {name : String} {f : FuncId} (h : methodA P t name = some f) (v : Value) (w : World) : (method (P.types.size + Made.depth) t v name).run P w = .ok (f, v) w := by
  unfold methodA at h
  split at h
  case h_2 => cases h
  rename_i i hi
  split at h
  case h_2 => cases h
  rename_i m hm
  have hm : i.methods.find? (·.name == name) = some m := by rw [← hm]; simp
  have hd : 0 < Made.depth := by decide
  obtain ⟨k, hk⟩ : ∃ k, P.types.size + Made.depth = k + 1 := ⟨P.types.size + Made.depth - 1, by omega⟩
  rw [hk]
  split at h
  case h_2 => cases h
  rename_i hp
  split at h
  case h_2 => cases h
  rename_i f' pr hf
  split at h
  · rename_i d hu
    cases pr with
    | false => cases h
    | true =>
      cases h
      simp [method, typeInfo, hi, hm, hp, hf, follow, receiverAt, underlying, hu, Place.get]
  · rename_i d hne hu
    cases pr with
    | true => cases h
    | false =>
      cases h
      cases d <;> first | exact absurd rfl (hne _) | simp [method, typeInfo, hi, hm, hp, hf, follow, receiverAt, underlying, hu, Place.get]
  · cases h
def opInvK (P : Program) (tm : Tm) (call : CallK R) (x : Operand) (name : String) (args : List Operand) (M : Tr Blk) (n : Nat) (K : AV → Tr Blk → Nat → Option R) : Option R := match evA tm x, evL tm args with
  | some (.iface t a), some as => match methodA P t name with
    | some g => ifK (Nat.ble (Nat.succ g) YB) (call g (a :: as) M n K) none
    | none => none
  | some (.lit (.iface t v)), some as => match methodA P t name with
    | some g => ifK (Nat.ble (Nat.succ g) YB) (call g (.lit v :: as) M n K) none
    | none => none
  | _, _ => none
theorem opInvK_ok {P : Program} {tm : Tm} {call : CallK R} (hcall : CallOk P call) {o : Oper} {c : Call} {x : Operand} {name : String} {M : Tr Blk} {n : Nat} {K : AV → Tr Blk → Nat → Option R} {r : R} (ho : o.op = .call c) (hcf : c.callee = .invoke x name)
    (h : opInvK P tm call x name c.args.toList M n K = some r) : ∃ av M' n', K av M' n' = some r ∧ OpR P tm o M n av M' n' := by
  have key : ∀ {a : Act} {g : FuncId} {t : TypeId} {v : Value} {w : World} {next : Value → World → Prop}, a.eval x = .iface t v → methodA P t name = some g →
      After P next ((callFunc g (#[v] ++ c.args.map a.eval)).run P w) → After P next ((execOp a.eval o).run P w) := by
    intro a g t v w next hf hg this
    have ee : #[a.eval x] ++ c.args.map a.eval = ⟨a.eval x :: (c.args.map a.eval).toList⟩ := by apply Array.ext'; simp
    have e1 : (#[a.eval x] ++ c.args.map a.eval).extract 1 (#[a.eval x] ++ c.args.map a.eval).size = c.args.map a.eval := by
      rw [ee]
      apply Array.ext'
      simp
      exact List.take_of_length_le (by simp)
    have e0 : (#[a.eval x] ++ c.args.map a.eval)[0]? = some (.iface t v) := by rw [ee, hf]; rfl
    simpa only [execOp, ho, resolve, hcf, invoke, Sem.run_bind, Sem.run_pure, Result.andThen_ok, e0, e1, callMethod, run_program, methodA_ok hg] using this
  have go : ∀ {t : TypeId} {av0 : AV} {as : List AV} {g : FuncId}, (∀ {e : Env} {a : Act}, OpdR e tm a o.op.operands.toList → ∃ v, a.eval x = .iface t v ∧ av0.rep e v) → evL tm c.args.toList = some as → methodA P t name = some g → ifK (Nat.ble (Nat.succ g) YB) (call g (av0 :: as) M n K) none = some r → ∃ av M' n', K av M' n' = some r ∧ OpR P tm o M n av M' n' := by
    intro t av0 as g hx has hg h
    obtain ⟨hgb, h⟩ := ifK_some h
    obtain ⟨av, M', n', h1, h2⟩ := hcall _ _ _ _ _ _ h
    have h2 := h2.1 (Nat.le_of_ble_eq_true hgb)
    refine ⟨av, M', n', h1, fun b0 e a w hM hT next hk => ?_⟩
    obtain ⟨v, q1, q2⟩ := hx hT
    refine key q1 hg ?_
    have := h2 b0 e w (v :: c.args.toList.map a.eval) hM (by simp only [AV.repL]; exact ⟨_, _, rfl, q2, evL_rep (hT.sub fun y hy => by simp only [ho, Op.operands, Call.operands, hcf, Array.toList_append, List.mem_append]; exact .inr hy) has⟩) next hk
    have e1 : (⟨v :: c.args.toList.map a.eval⟩ : Array Value) = #[v] ++ c.args.map a.eval := by apply Array.ext'; simp
    rw [e1] at this; exact this
  unfold opInvK at h
  split at h
  · rename_i t a as hx has
    split at h
    case h_2 => cases h
    rename_i g hg
    refine go (fun {e ac} hT => ?_) has hg h
    have hv := hT _ (by simp [ho, Op.operands, Call.operands, hcf]) _ hx
    simpa only [AV.rep] using hv
  · rename_i t v as hx has
    split at h
    case h_2 => cases h
    rename_i g hg
    refine go (fun {e ac} hT => ?_) has hg h
    have hv := hT _ (by simp [ho, Op.operands, Call.operands, hcf]) _ hx
    simp only [AV.rep] at hv ⊢
    exact ⟨v, hv, rfl⟩
  · cases h

/-! ## one operation -/
/-- is its value one that was there already? -/
def stale (o : Oper) : Bool := match o.op with
  | .move _ => true
  | .assign _ => true
  | .nilCheck _ => true
  | .extract .. => true
  | .pick .. => true
  | _ => false
def fO (o : Oper) (av : AV) (K : AV → Option R) : Option R := cond (stale o) (K av) (fA av K)
theorem fO_eq (o : Oper) (av : AV) (K : AV → Option R) : fO o av K = K av := by
  unfold fO; cases stale o <;> simp [fA_eq]
def opS (P : Program) (call : CallK R) (tm : Tm) (o : Oper) (M : Tr Blk) (n : Nat) (K : AV → Tr Blk → Nat → Option R) : Option R := match o.op with
  | .load t x => loadK P tm t x M fun av => K av M n
  | .store t x v => storeK P tm t x v M fun M => K (.lit undef) M n
  | .alloc _ => allocK P tm o M n K
  | .box .. => allocK P tm o M n K
  | .buildSlice .. => allocK P tm o M n K
  | .call c => match c.callee with
    | .value f => opCallK tm call f c.args.toList M n K
    | .invoke x name => opInvK P tm call x name c.args.toList M n K
    | _ => match pureA P tm o with
      | some av => fO o av fun av => K av M n
      | none => memK P tm o M n K
  | _ => match pureA P tm o with
    | some av => fO o av fun av => K av M n
    | none => memK P tm o M n K
theorem opS_ok {P : Program} {call : CallK R} (hcall : CallOk P call) {tm : Tm} {o : Oper} {M : Tr Blk} {n : Nat} {K : AV → Tr Blk → Nat → Option R} {r : R} (h : opS P call tm o M n K = some r) :
    ∃ av M' n', K av M' n' = some r ∧ OpR P tm o M n av M' n' := by
  have rest : (match pureA P tm o with
      | some av => fO o av fun av => K av M n
      | none => memK P tm o M n K) = some r → ∃ av M' n', K av M' n' = some r ∧ OpR P tm o M n av M' n' := by
    intro h
    split at h
    · rename_i av hav
      rw [fO_eq] at h
      exact ⟨av, M, n, h, OpR.pure (pureA_ok hav)⟩
    · exact memK_ok h
  unfold opS at h
  split at h
  · rename_i t x ho
    obtain ⟨av, h1, h2⟩ := loadK_ok ho h
    exact ⟨av, M, n, h1, h2⟩
  · rename_i t x v ho
    obtain ⟨M', h1, h2⟩ := storeK_ok ho h
    exact ⟨_, M', n, h1, h2⟩
  · exact allocK_ok h
  · exact allocK_ok h
  · exact allocK_ok h
  · rename_i c ho
    split at h
    · rename_i f hf; exact opCallK_ok hcall ho hf h
    · rename_i x name hf; exact opInvK_ok hcall ho hf h
    · exact rest h
  · exact rest h

/-! ## operations, decoded -/
abbrev OpF (R : Type) : Type := CallK R → Tm → Tr Blk → Nat → (AV → Tr Blk → Nat → Option R) → Option R
def OpOk (P : Program) (o : Oper) (f : OpF R) : Prop := ∀ {call : CallK R}, CallOk P call → ∀ {tm : Tm} {M : Tr Blk} {n : Nat} {K : AV → Tr Blk → Nat → Option R} {r : R}, f call tm M n K = some r → ∃ av M' n', K av M' n' = some r ∧ OpR P tm o M n av M' n'
def pureO (f : PuF R) : OpF R := fun _ tm M n K => f tm fun av => K av M n
theorem pureO_ok {P : Program} {o : Oper} {f : PuF R} (h : PuOk P o f) : OpOk P o (pureO f) := by
  intro call hcall tm M n K r hr
  obtain ⟨av, h1, h2⟩ := h tm _ r hr
  exact ⟨av, M, n, h1, OpR.pure h2⟩
def slowO (P : Program) (o : Oper) : OpF R := fun call tm M n K => opS P call tm o M n K
theorem slowO_ok (P : Program) (o : Oper) : OpOk (R := R) P o (slowO P o) := by
  intro call hcall tm M n K r h
  exact opS_ok hcall h
def bCells (x : Blk) (f : List AV → Bool → Option R) : Option R := Blk.casesOn (motive := fun _ => Option R) x f (fun _ _ => none) (fun _ => none)
theorem bCells_some {x : Blk} {f : List AV → Bool → Option R} {r : R} (h : bCells x f = some r) : ∃ l rw, x = .cells l rw ∧ f l rw = some r := by
  cases x <;> first | exact ⟨_, _, rfl, h⟩ | cases h
/-- a load of one cell -/
def loadF (gx : Tm → Option AV) : OpF R := fun _ tm M n K => oPtr (gx tm) fun b k => oK ((Tr.gB b).get M) fun x => bCells x fun l _ => oK ((nthB k).get l) fun av => K av M n
theorem loadF_ok {P : Program} {o : Oper} {t : TypeId} {x : Operand} (ho : o.op = .load t x) (ha : aggT P t = some false) : OpOk P o (loadF (R := R) (opd x).get) := by
  intro call hcall tm M n K r h
  obtain ⟨b, k, hx, h⟩ := oPtr_some h
  obtain ⟨y, hb, h⟩ := oK_some h
  obtain ⟨l, rw, rfl, h⟩ := bCells_some h
  obtain ⟨av, hk, h⟩ := oK_some h
  rw [opd_eq] at hx
  rw [nthB_eq] at hk
  obtain ⟨av', h1, h2⟩ := loadK_ok (P := P) (tm := tm) (M := M) (n := n) (K := some) (r := av) ho (by
    unfold loadK
    have hb : M.get b = some (.cells l rw) := hb
    simp only [hx, hb, ha, hk])
  cases h1
  exact ⟨av, M, n, h, h2⟩
def setB : Nat → Bx (List AV → AV → (List AV → Option R) → Option R)
  | 0 => ⟨fun l a K => List.casesOn (motive := fun _ => Option R) l none (fun _ l => K (a :: l))⟩
  | k + 1 => match setB k with
    | ⟨g⟩ => ⟨fun l a K => List.casesOn (motive := fun _ => Option R) l none (fun x l => g l a (fun l => K (x :: l)))⟩
theorem setB_ovK {a : AV} {r : R} : ∀ (k : Nat) {l : List AV} {K : List AV → Option R}, (setB k).get l a K = some r → ovK l k [a] K = some r := by
  intro k
  induction k with
  | zero =>
    intro l K h
    cases l with
    | nil => cases h
    | cons x l =>
      have h : K (a :: l) = some r := h
      cases l <;> exact h
  | succ k ih =>
    intro l K h
    cases l with
    | nil => cases h
    | cons x l =>
      have h : (setB k).get l a (fun l => K (x :: l)) = some r := h
      exact ih h
def storeF (gx gv : Tm → Option AV) : OpF R := fun _ tm M n K => oPtr (gx tm) fun b k => oK (gv tm) fun av => ifK (a1 av) (oK ((Tr.gB b).get M) fun x => bCells x fun l rw => onB (setB k) fun s => s l av fun l => onB (Tr.sB b) fun s => s M (some (.cells l rw)) fun M => K (.lit undef) M n) none
theorem ovK_len {r : R} {l : List AV} {k : Nat} {as : List AV} {K : List AV → Option R} (h : ovK l k as K = some r) : as ≠ [] → k + as.length ≤ l.length := by
  intro hne
  have := (ovK_some h).2
  cases as with
  | nil => exact absurd rfl hne
  | cons a as => simp only [List.length_cons] at this ⊢; omega
theorem storeF_ok {P : Program} {o : Oper} {t : TypeId} {x v : Operand} {i : TypeInfo} (ho : o.op = .store t x v) (hi : P.info? t = some i) (hz : i.size = 1) : OpOk P o (storeF (R := R) (opd x).get (opd v).get) := by
  intro call hcall tm M n K r h
  obtain ⟨b, k, hx, h⟩ := oPtr_some h
  obtain ⟨av, hv, h⟩ := oK_some h
  rw [opd_eq] at hx hv
  cases h1 : a1 av with
  | false => rw [h1] at h; cases h
  | true =>
    rw [h1] at h
    obtain ⟨y, hb, h⟩ := oK_some (show oK _ _ = some r from h)
    obtain ⟨l, rw', rfl, h⟩ := bCells_some h
    obtain ⟨q1, q2⟩ := a1_ok h1
    have h := setB_ovK k (show (setB k).get l av _ = some r from h)
    have hlen := ovK_len h (by simp)
    obtain ⟨M', h2, h3⟩ := storeK_ok (P := P) (tm := tm) (M := M) (n := n) (K := fun M => K (.lit undef) M n) (r := r) ho (by
      unfold storeK
      have hb : M.get b = some (.cells l rw') := hb
      have c3 : Nat.ble (k + 1) l.length = true := Nat.ble_eq_true_of_le hlen
      simp only [hx, hv, hb, hi, q2, ones, q1, hz, List.length_cons, List.length_nil, Nat.zero_add, c3]
      exact h)
    exact ⟨_, M', n, h2, h3⟩
/-- arguments -/
def argsB : List Operand → Bx (Tm → (List AV → Option R) → Option R)
  | [] => ⟨fun _ K => K []⟩
  | x :: l => match opd x, argsB l with
    | ⟨g⟩, ⟨f⟩ => ⟨fun tm K => oK (g tm) fun a => f tm fun l => K (a :: l)⟩
theorem argsB_some : ∀ {l : List Operand} {tm : Tm} {K : List AV → Option R} {r : R}, (argsB l).get tm K = some r → ∃ as, evL tm l = some as ∧ K as = some r
  | [], tm, K, r, h => ⟨[], rfl, h⟩
  | x :: l, tm, K, r, h => by
    obtain ⟨a, h1, h2⟩ := oK_some (show oK ((opd x).get tm) (fun a => (argsB l).get tm fun l => K (a :: l)) = some r from h)
    obtain ⟨as, h3, h4⟩ := argsB_some h2
    rw [opd_eq] at h1
    exact ⟨a :: as, by simp only [evL, h1, h3], h4⟩
def callF (g : FuncId) (ga : Tm → (List AV → Option R) → Option R) : OpF R := fun call tm M n K => ga tm fun as => call g as M n K
theorem callF_ok {P : Program} {o : Oper} {c : Call} {g : FuncId} (ho : o.op = .call c) (hc : c.callee = .value (.func g)) (hgb : Nat.ble (Nat.succ g) YB = true) : OpOk P o (callF (R := R) g (argsB c.args.toList).get) := by
  intro call hcall tm M n K r h
  obtain ⟨as, h1, h2⟩ := argsB_some h
  refine opCallK_ok (tm := tm) hcall ho hc ?_
  unfold opCallK
  simp only [evA, h1]
  have : (#[] : Array Value).toList.map AV.lit ++ as ++ (#[] : Array Value).toList.map AV.lit = as := by simp
  rw [this, hgb]
  exact h2
def allocF (z : List AV) : OpF R := fun _ _ M n K => onB (Tr.sB n) fun s => s M (some (.cells z true)) fun M => fN (Nat.succ n) fun n' => K (.ptr n 0) M n'
theorem allocF_ok {P : Program} {o : Oper} {t : TypeId} {z : List AV} (ho : o.op = .alloc t) (hz : zcells P t = some z) : OpOk P o (allocF (R := R) z) := by
  intro call hcall tm M n K r h
  refine allocK_ok (tm := tm) ?_
  unfold allocK allocA newK
  simp only [ho, hz, fL_eq, fA_eq]
  exact h
def opC (P : Program) (o : Oper) : Bx (OpF R) := match puC P o with
  | some q => b1 pureO q
  | none => match o.op with
    | .load t x => match aggT P t with
      | some false => b1 loadF (opd x)
      | _ => ⟨slowO P o⟩
    | .store t x v => match P.info? t with
      | some i => cond (Nat.beq i.size 1) (match aggT P t with
        | some false => b2 storeF (opd x) (opd v)
        | _ => ⟨slowO P o⟩) ⟨slowO P o⟩
      | none => ⟨slowO P o⟩
    | .alloc t => match zcells P t with
      | some z => match fL1 z some with
        | some z => ⟨allocF z⟩
        | none => ⟨slowO P o⟩
      | none => ⟨slowO P o⟩
    | .call c => match c.callee with
      | .value (.func g) => cond (Nat.ble (Nat.succ g) YB) (b1 (callF g) (argsB c.args.toList)) ⟨slowO P o⟩
      | _ => ⟨slowO P o⟩
    | _ => ⟨slowO P o⟩
theorem opC_ok (P : Program) (o : Oper) : OpOk (R := R) P o (opC P o).get := by
  unfold opC
  split
  · rename_i q hq; exact pureO_ok (puC_ok hq)
  · split
    · rename_i t x ho
      split
      · rename_i ha; exact loadF_ok ho ha
      · exact slowO_ok P o
    · rename_i t x v ho
      split
      · rename_i i hi
        cases hz : Nat.beq i.size 1 with
        | true =>
          simp only [cond_true]
          split
          · exact storeF_ok ho hi (Nat.eq_of_beq_eq_true hz)
          · exact slowO_ok P o
        | false => exact slowO_ok P o
      · exact slowO_ok P o
    · rename_i t ho
      split
      · rename_i z hz
        rw [fL1_eq]
        exact allocF_ok ho hz
      · exact slowO_ok P o
    · rename_i c ho
      split
      · rename_i g hg
        cases hgb : Nat.ble (Nat.succ g) YB with
        | true => exact callF_ok ho hg hgb
        | false => exact slowO_ok P o
      · exact slowO_ok P o
    · exact slowO_ok P o
def opK (P : Program) (call : CallK R) (tm : Tm) (o : Oper) (M : Tr Blk) (n : Nat) (K : AV → Tr Blk → Nat → Option R) : Option R := onB (opC P o) fun f => f call tm M n K
theorem opK_ok {P : Program} {call : CallK R} (hcall : CallOk P call) {tm : Tm} {o : Oper} {M : Tr Blk} {n : Nat} {K : AV → Tr Blk → Nat → Option R} {r : R} (h : opK P call tm o M n K = some r) :
    ∃ av M' n', K av M' n' = some r ∧ OpR P tm o M n av M' n' := opC_ok P o hcall h

/-! ## operations one behind the other -/
def wantedA (ops : Array Oper) (o : Oper) (tm : Tm) : Option Bool := match o.guard with
  | none => some true
  | some (j, want) => match ops[j]? with
    | some oj => match oj.dst with
      | some d => match tm.get d with
        | some (.lit (.bool b)) => some (b == want)
        | some .unk => none
        | some _ => some false
        | none => none
      | none => none
    | none => none
/-- what an operation looks at -/
def LookR (e : Env) (tm : Tm) (a : Act) (ops : Array Oper) (o : Oper) : Prop := ∀ t av, t ∈ o.looksAt ops → tm.get t = some av → t < a.tmps.size ∧ av.rep e (a.tmps.getD t undef)
theorem LookR.opd {e : Env} {tm : Tm} {a : Act} {ops : Array Oper} {o : Oper} (h : LookR e tm a ops o) : OpdR e tm a o.op.operands.toList := by
  intro x hx av hav
  cases x with
  | tmp t => exact (h t av (List.mem_append_left _ (List.mem_filterMap.2 ⟨.tmp t, hx, rfl⟩)) hav).2
  | const v => simp only [evA] at hav; cases hav; simp [AV.rep, Act.eval]
  | func f => simp only [evA] at hav; cases hav; simp [AV.rep, Act.eval]
  | global g => simp [evA] at hav
theorem wantedA_ok {ops : Array Oper} {o : Oper} {tm : Tm} {b : Bool} (h : wantedA ops o tm = some b) {e : Env} {a : Act} (ha : LookR e tm a ops o) : Region.wanted o (yielded ops a.tmps) = b := by
  unfold wantedA at h
  unfold Region.wanted
  split at h
  · rename_i hg; cases h; rw [hg]
  · rename_i j want hg
    rw [hg]
    split at h
    case h_2 => cases h
    rename_i oj hj
    split at h
    case h_2 => cases h
    rename_i d hd
    have hd' : ∀ av, tm.get d = some av → d < a.tmps.size ∧ av.rep e (a.tmps.getD d undef) := fun av => ha d av (List.mem_append_right _ (by rw [hg]; simp [hj, hd]))
    split at h
    · rename_i b' hb
      cases h
      obtain ⟨g1, g2⟩ := hd' _ hb
      simp only [AV.rep] at g2
      have : a.tmps[d]? = some (.bool b') := by
        rw [Array.getD_eq_getD_getElem?, Array.getElem?_eq_getElem g1] at g2
        rw [Array.getElem?_eq_getElem g1]
        exact congrArg some g2
      simp [yielded, hj, hd, this]
    · cases h
    · rename_i av hnb hnu hb
      cases h
      obtain ⟨g1, g2⟩ := hd' _ hb
      have hv : ∀ b', a.tmps.getD d undef ≠ .bool b' := by
        intro b' hb'
        rw [hb'] at g2
        cases av with
        | lit v => simp only [AV.rep] at g2; subst g2; exact hnb b' rfl
        | ptr b o => simp only [AV.rep] at g2; obtain ⟨_, _, _, g⟩ := g2; cases g
        | slice b o n sz c x => simp only [AV.rep] at g2; obtain ⟨_, _, _, _, _, g, _⟩ := g2; cases g
        | agg l => simp only [AV.rep] at g2; obtain ⟨_, g, _⟩ := g2; cases g
        | tuple l => simp only [AV.rep] at g2; obtain ⟨_, g, _⟩ := g2; cases g
        | func f l m => simp only [AV.rep] at g2; obtain ⟨_, _, g, _⟩ := g2; cases g
        | map b => simp only [AV.rep] at g2; obtain ⟨_, _, _, g⟩ := g2; cases g
        | iface t x => simp only [AV.rep] at g2; obtain ⟨_, g, _⟩ := g2; cases g
        | yield b => simp only [AV.rep] at g2; obtain ⟨_, _, _, g⟩ := g2; cases g
        | ival k lo hi => simp only [AV.rep] at g2; obtain ⟨_, g, _⟩ := g2; cases g
        | unk => exact absurd rfl hnu
        | same i k lo hi => simp only [AV.rep] at g2; obtain ⟨_, _, _, g, _⟩ := g2; cases g
      have : a.tmps[d]? = some (a.tmps.getD d undef) := by
        rw [Array.getD_eq_getD_getElem?, Array.getElem?_eq_getElem g1]; rfl
      have hy : yielded ops a.tmps j = none := by
        simp only [yielded, hj, hd, Option.bind_some, this]
        generalize a.tmps.getD d undef = u at hv
        cases u <;> first | rfl | exact absurd rfl (hv _)
      simp [hy]
    · cases h
theorem TmR.look {e : Env} {tm : Tm} {a : Act} (h : TmR e tm a) (ops : Array Oper) (o : Oper) : LookR e tm a ops o := fun t av _ ht => h.at_ t av ht
/-- is it wanted? decoded -/
def wantB (ops : Array Oper) (o : Oper) : Bx (Tm → Option R → Option R → Option R) := match o.guard with
  | none => ⟨fun _ x _ => x⟩
  | some (j, want) => match ops[j]? with
    | some oj => match oj.dst with
      | some d => match Tm.gB d with
        | ⟨g⟩ => cond want ⟨fun tm x y => oK (g tm) fun a => AV.casesOn (motive_1 := fun _ => Option R) a (fun v => Value.casesOn (motive_1 := fun _ => Option R) v (fun b => ifK b x y) (fun _ _ => y) (fun _ _ => y) (fun _ _ _ => y) (fun _ => y) (fun _ => y) (fun _ _ _ => y) (fun _ => y) (fun _ => y) (fun _ _ _ => y) y (fun _ _ => y) y (fun _ => y) (fun _ => y)) (fun _ _ => y) (fun _ _ _ _ _ _ => y) (fun _ => y) (fun _ => y) (fun _ _ _ => y) (fun _ => y) (fun _ _ => y) (fun _ => y) (fun _ _ _ => y) none (fun _ _ _ _ => y)⟩
          ⟨fun tm x y => oK (g tm) fun a => AV.casesOn (motive_1 := fun _ => Option R) a (fun v => Value.casesOn (motive_1 := fun _ => Option R) v (fun b => ifK b y x) (fun _ _ => y) (fun _ _ => y) (fun _ _ _ => y) (fun _ => y) (fun _ => y) (fun _ _ _ => y) (fun _ => y) (fun _ => y) (fun _ _ _ => y) y (fun _ _ => y) y (fun _ => y) (fun _ => y)) (fun _ _ => y) (fun _ _ _ _ _ _ => y) (fun _ => y) (fun _ => y) (fun _ _ _ => y) (fun _ => y) (fun _ _ => y) (fun _ => y) (fun _ _ _ => y) none (fun _ _ _ _ => y)⟩
      | none => ⟨fun _ _ _ => none⟩
    | none => ⟨fun _ _ _ => none⟩
theorem wantB_some {ops : Array Oper} {o : Oper} {tm : Tm} {x y : Option R} {r : R} (h : (wantB ops o).get tm x y = some r) : (wantedA ops o tm = some true ∧ x = some r) ∨ (wantedA ops o tm = some false ∧ y = some r) := by
  unfold wantB at h
  unfold wantedA
  split at h
  · exact .inl ⟨rfl, h⟩
  · split at h
    case h_2 => cases h
    rename_i j want hg _ oj hj
    split at h
    case h_2 => cases h
    rename_i d hd
    split at h
    rename_i g hgd
    have hget : ∀ tm, g tm = tm.get d := fun tm => by unfold Tm.get; rw [hgd]
    cases want with
    | true =>
      obtain ⟨a, h1, h2⟩ := oK_some (show oK (g tm) _ = some r from h)
      rw [hget] at h1
      rw [h1]
      cases a with
      | lit v =>
        cases v with
        | bool b =>
          cases b with
          | true => exact .inl ⟨rfl, h2⟩
          | false => exact .inr ⟨rfl, h2⟩
        | _ => exact .inr ⟨rfl, h2⟩
      | unk => cases h2
      | _ => exact .inr ⟨rfl, h2⟩
    | false =>
      obtain ⟨a, h1, h2⟩ := oK_some (show oK (g tm) _ = some r from h)
      rw [hget] at h1
      rw [h1]
      cases a with
      | lit v =>
        cases v with
        | bool b =>
          cases b with
          | true => exact .inr ⟨rfl, h2⟩
          | false => exact .inl ⟨rfl, h2⟩
        | _ => exact .inr ⟨rfl, h2⟩
      | unk => cases h2
      | _ => exact .inr ⟨rfl, h2⟩
abbrev PutF (R : Type) : Type := Tm → AV → (Tm → Option R) → Option R
def putB (sz : Nat) (d : Option Nat) : Bx (PutF R) := match d with
  | none => ⟨fun tm _ K => K tm⟩
  | some d => cond (Nat.ble (d + 1) sz) (match Tm.sB d with | ⟨s⟩ => ⟨fun tm av K => s tm (some av) K⟩) ⟨fun _ _ _ => none⟩
theorem putB_eq (sz : Nat) (d : Option Nat) (tm : Tm) (av : AV) (K : Tm → Option R) : (putB sz d).get tm av K = putK sz tm d av K := by
  unfold putB putK
  cases d with
  | none => rfl
  | some d => simp only; cases Nat.ble (d + 1) sz <;> rfl
abbrev RegF (R : Type) : Type := CallK R → Tm → Tr Blk → Nat → (Tm → Tr Blk → Nat → Option R) → Option R
def thenF (f : OpF R) (p : PutF R) (g : RegF R) : RegF R := fun call tm M n K => f call tm M n fun av M n => p tm av fun tm => g call tm M n K
def elseF (p : PutF R) (g : RegF R) : RegF R := fun call tm M n K => p tm (.lit undef) fun tm => g call tm M n K
def wantF (q : Tm → Option R → Option R → Option R) (f g : RegF R) : RegF R := fun call tm M n K => q tm (f call tm M n K) (g call tm M n K)
/-! ## operations within a fence -/
def OpInR (P : Program) (tm : Tm) (o : Oper) (M : Tr Blk) (n : Nat) (av : AV) (M' : Tr Blk) (n' : Nat) : Prop :=
  ∀ (G : Fence) (n0 : Nat) b0 e a w (next : Act → World → Prop) (Q : Exit → Act → World → Prop), Vc.Good G → MemR b0 e M.get n w → OpdR e tm a o.op.operands.toList → (∀ e' v w', Later e e' → MemR b0 e' M'.get n' w' → av.rep e' v → next (a.put o.dst v) w') → o.wpIn G n0 P a w next Q
theorem OpR.inR {P : Program} {tm : Tm} {o : Oper} {M : Tr Blk} {n : Nat} {av : AV} {M' : Tr Blk} {n' : Nat} (hd : notDefer o = true) (h : OpR P tm o M n av M' n') : OpInR P tm o M n av M' n' :=
  fun G n0 b0 e a w next Q hG hM hT hk => after_in hG hd (h b0 e a w hM hT _ fun e' v w' hl hM' hv => hk e' v w' hl hM' hv)
def aYld (x : AV) (f : Nat → Option R) (s : Option R) : Option R := AV.casesOn (motive_1 := fun _ => Option R) x (fun _ => s) (fun _ _ => s) (fun _ _ _ _ _ _ => s) (fun _ => s) (fun _ => s) (fun _ _ _ => s) (fun _ => s) (fun _ _ => s) f (fun _ _ _ => s) s (fun _ _ _ _ => s)
def yldF (s : OpF R) (g : Tm → Option AV) (ga : Tm → (List AV → Option R) → Option R) : OpF R := fun call tm M n K => oK (g tm) fun f => aYld f (fun b => ga tm fun as => call (Nat.add YB b) as M n K) (s call tm M n K)
def opY (P : Program) (o : Oper) : Bx (OpF R) := match o.op with
  | .call c => match c.callee with
    | .value (.tmp t) => b3 yldF (opC P o) (Tm.gB t) (argsB c.args.toList)
    | _ => opC P o
  | _ => opC P o
theorem opY_ok {P : Program} {o : Oper} (hd : notDefer o = true) {call : CallK R} (hcall : CallOk P call) {tm : Tm} {M : Tr Blk} {n : Nat} {K : AV → Tr Blk → Nat → Option R} {r : R} (h : (opY P o).get call tm M n K = some r) : ∃ av M' n', K av M' n' = some r ∧ OpInR P tm o M n av M' n' := by
  have old : (opC P o).get call tm M n K = some r → ∃ av M' n', K av M' n' = some r ∧ OpInR P tm o M n av M' n' := fun h => by
    obtain ⟨av, M', n', h1, h2⟩ := opC_ok P o hcall h
    exact ⟨av, M', n', h1, h2.inR hd⟩
  unfold opY at h
  split at h
  case h_2 => exact old h
  rename_i c ho
  split at h
  case h_2 => exact old h
  rename_i t hcf
  obtain ⟨f, hf, h⟩ := oK_some (show oK (tm.get t) _ = some r from h)
  cases f with
  | yield b =>
    obtain ⟨as, has, h⟩ := argsB_some (show (argsB c.args.toList).get tm (fun as => call (Nat.add YB b) as M n K) = some r from h)
    obtain ⟨av, M', n', h1, h2⟩ := hcall _ _ _ _ _ _ h
    refine ⟨av, M', n', h1, fun G n0 b0 e a w next Q hG hM hT hk => ?_⟩
    have hfv := hT (.tmp t) (by simp [ho, Op.operands, Call.operands, hcf]) _ hf
    simp only [AV.rep] at hfv
    obtain ⟨B, tt, hB, hfv⟩ := hfv
    have hy := h2.2 b rfl b0 e w (c.args.toList.map a.eval) hM (evL_rep (hT.sub fun y hy => by simp only [ho, Op.operands, Call.operands, hcf, Array.toList_append, List.mem_append]; exact .inr hy) has) B tt hB (fun v w' => next (a.put o.dst v) w') hk
    refine opVcY_in (cl := []) hG hd (next := next) ?_
    have e1 : (⟨c.args.toList.map a.eval⟩ : Array Value) = c.args.map a.eval := by apply Array.ext'; simp
    rw [e1] at hy
    unfold opVcY
    simp only [ho, hcf, hfv]
    exact hy
  | _ => exact old h
def listC (P : Program) (sz : Nat) (ops : Array Oper) : List Oper → Bx (RegF R)
  | [] => ⟨fun _ tm M n K => K tm M n⟩
  | o :: l => cond (notDefer o) (match o.guard with
    | none => b3 thenF (opY P o) (putB sz o.dst) (listC P sz ops l)
    | some _ => b3 wantF (wantB ops o) (b3 thenF (opY P o) (putB sz o.dst) (listC P sz ops l)) (b2 elseF (putB sz o.dst) (listC P sz ops l))) ⟨fun _ _ _ _ _ => none⟩
theorem listC_ok {P : Program} {call : CallK R} (hcall : CallOk P call) {sz : Nat} {ops : Array Oper} : ∀ (l : List Oper) (k : Nat) {tm : Tm} {M : Tr Blk} {n : Nat} {K : Tm → Tr Blk → Nat → Option R} {r : R}, (∀ j, l[j]? = ops[k + j]?) → (listC P sz ops l).get call tm M n K = some r →
    ∃ tm' M' n', K tm' M' n' = some r ∧ ∀ (G : Fence) (n0 : Nat) (X : Exit → Act → World → Prop) b0 d0 e a w, Vc.Good G → MemR b0 e M.get n w → ActR sz d0 e tm a → (∀ e' a' w', Later e e' → MemR b0 e' M'.get n' w' → ActR sz d0 e' tm' a' → X .normal a' w') → wpOpsIn G n0 P ops X (List.range' k l.length) a w
  | [], k, tm, M, n, K, r, _, h => ⟨tm, M, n, h, fun G n0 X b0 d0 e a w _ hM hA hQ => by simpa [wpOpsIn] using hQ e a w (Later.refl e) hM hA⟩
  | o :: rest, k, tm, M, n, K, r, hl, h => by
    have h0 : ops[k]? = some o := by simpa using (hl 0).symm
    have hrest : ∀ j, rest[j]? = ops[k + 1 + j]? := fun j => by have := hl (j + 1); rw [show k + 1 + j = k + (j + 1) by omega]; simpa using this
    unfold listC at h
    cases hd : notDefer o with
    | false => rw [hd] at h; cases h
    | true =>
    rw [hd] at h
    simp only [cond_true] at h
    have yes : wantedA ops o tm = some true → (opY P o).get call tm M n (fun av M n => (putB sz o.dst).get tm av fun tm => (listC P sz ops rest).get call tm M n K) = some r → ∃ tm' M' n', K tm' M' n' = some r ∧ ∀ (G : Fence) (n0 : Nat) (X : Exit → Act → World → Prop) b0 d0 e a w, Vc.Good G → MemR b0 e M.get n w → ActR sz d0 e tm a → (∀ e' a' w', Later e e' → MemR b0 e' M'.get n' w' → ActR sz d0 e' tm' a' → X .normal a' w') → wpOpsIn G n0 P ops X (List.range' k (o :: rest).length) a w := by
      intro hw h
      obtain ⟨av, M1, n1, h1, h2⟩ := opY_ok hd hcall h
      rw [putB_eq] at h1
      obtain ⟨tm1, h3, h4⟩ := putK_ok h1
      obtain ⟨tm', M', n', h5, h6⟩ := listC_ok hcall rest (k + 1) hrest h3
      refine ⟨tm', M', n', h5, fun G n0 X b0 d0 e a w hG hM hA hQ => ?_⟩
      simp only [List.length_cons, List.range'_succ]
      rw [wpOpsIn_cons]
      unfold wpOpIn
      simp only [h0, wantedA_ok hw (hA.tm.look _ _), if_true]
      refine h2 G n0 b0 e a w _ _ hG hM (hA.tm.opd _) fun e' v w' hl hM' hv => ?_
      exact h6 G n0 X b0 d0 e' _ w' hG hM' (h4 d0 e e' a v hA hl hv) fun e'' a'' w'' hl2 => hQ e'' a'' w'' (hl.trans hl2)
    have no : wantedA ops o tm = some false → (putB sz o.dst).get tm (.lit undef) (fun tm => (listC P sz ops rest).get call tm M n K) = some r → ∃ tm' M' n', K tm' M' n' = some r ∧ ∀ (G : Fence) (n0 : Nat) (X : Exit → Act → World → Prop) b0 d0 e a w, Vc.Good G → MemR b0 e M.get n w → ActR sz d0 e tm a → (∀ e' a' w', Later e e' → MemR b0 e' M'.get n' w' → ActR sz d0 e' tm' a' → X .normal a' w') → wpOpsIn G n0 P ops X (List.range' k (o :: rest).length) a w := by
      intro hw h
      rw [putB_eq] at h
      obtain ⟨tm1, h3, h4⟩ := putK_ok h
      obtain ⟨tm', M', n', h5, h6⟩ := listC_ok hcall rest (k + 1) hrest h3
      refine ⟨tm', M', n', h5, fun G n0 X b0 d0 e a w hG hM hA hQ => ?_⟩
      simp only [List.length_cons, List.range'_succ]
      rw [wpOpsIn_cons]
      unfold wpOpIn
      simp only [h0, wantedA_ok hw (hA.tm.look _ _), Bool.false_eq_true, if_false]
      exact ⟨fun f _ => hG.fn f, h6 G n0 X b0 d0 e _ w hG hM (h4 d0 e e a undef hA (Later.refl e) (by simp only [AV.rep])) fun e'' a'' w'' hl2 => hQ e'' a'' w'' hl2⟩
    split at h
    · rename_i hg
      exact yes (by unfold wantedA; rw [hg]) h
    · rename_i j hg
      rcases wantB_some (show (wantB ops o).get tm _ _ = some r from h) with ⟨h1, h2⟩ | ⟨h1, h2⟩
      · exact yes h1 h2
      · exact no h1 h2
end Go.Am
