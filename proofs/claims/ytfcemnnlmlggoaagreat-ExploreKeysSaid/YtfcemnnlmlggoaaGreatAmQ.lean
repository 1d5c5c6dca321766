/- The machine's quick operations: decoded once for each operation of the code, small when they are used. -/
import Derived.Test.YtfcemnnlmlggoaaGreatAmC
namespace Go.Am
open Go.Vc
variable {R : Type}

/-! ## operands -/
def opd : Operand → Bx (Tm → Option AV)
  | .tmp t => Tm.gB t
  | .const v => ⟨fun _ => some (.lit v)⟩
  | .func f => ⟨fun _ => some (.lit (.func (.func f) #[] #[]))⟩
  | .global _ => ⟨fun _ => none⟩
theorem opd_eq (x : Operand) (tm : Tm) : (opd x).get tm = evA tm x := by cases x <;> rfl

def b1 {α β : Type} (f : α → β) : Bx α → Bx β
  | ⟨g⟩ => ⟨f g⟩
def b2 {α β γ : Type} (f : α → β → γ) : Bx α → Bx β → Bx γ
  | ⟨g⟩, ⟨h⟩ => ⟨f g h⟩
def b3 {α β γ δ : Type} (f : α → β → γ → δ) : Bx α → Bx β → Bx γ → Bx δ
  | ⟨g⟩, ⟨h⟩, ⟨i⟩ => ⟨f g h i⟩
/-! ## what is what -/
def vInt (v : Value) (f : IntKind → Int → Option R) : Option R := Value.casesOn (motive_1 := fun _ => Option R) v (fun _ => none) f (fun _ _ => none) (fun _ _ _ => none) (fun _ => none) (fun _ => none) (fun _ _ _ => none) (fun _ => none) (fun _ => none) (fun _ _ _ => none) none (fun _ _ => none) none (fun _ => none) (fun _ => none)
def vBool (v : Value) (f : Bool → Option R) : Option R := Value.casesOn (motive_1 := fun _ => Option R) v f (fun _ _ => none) (fun _ _ => none) (fun _ _ _ => none) (fun _ => none) (fun _ => none) (fun _ _ _ => none) (fun _ => none) (fun _ => none) (fun _ _ _ => none) none (fun _ _ => none) none (fun _ => none) (fun _ => none)
def aLit (x : AV) (f : Value → Option R) : Option R := AV.casesOn (motive_1 := fun _ => Option R) x f (fun _ _ => none) (fun _ _ _ _ _ _ => none) (fun _ => none) (fun _ => none) (fun _ _ _ => none) (fun _ => none) (fun _ _ => none) (fun _ => none) (fun _ _ _ => none) none (fun _ _ _ _ => none)
def oK {α : Type} (x : Option α) (f : α → Option R) : Option R := Option.casesOn (motive := fun _ => Option R) x none f
def oInt (x : Option AV) (f : IntKind → Int → Option R) : Option R := oK x fun x => aLit x fun v => vInt v f
def oBool (x : Option AV) (f : Bool → Option R) : Option R := oK x fun x => aLit x fun v => vBool v f
theorem oK_some {α : Type} {x : Option α} {f : α → Option R} {r : R} (h : oK x f = some r) : ∃ a, x = some a ∧ f a = some r := by
  cases x with
  | none => cases h
  | some a => exact ⟨a, rfl, h⟩
theorem aLit_some {x : AV} {f : Value → Option R} {r : R} (h : aLit x f = some r) : ∃ v, x = .lit v ∧ f v = some r := by
  cases x <;> first | exact ⟨_, rfl, h⟩ | cases h
theorem oInt_some {x : Option AV} {f : IntKind → Int → Option R} {r : R} (h : oInt x f = some r) : ∃ k a, x = some (.lit (.int k a)) ∧ f k a = some r := by
  obtain ⟨a, rfl, h⟩ := oK_some h
  obtain ⟨v, rfl, h⟩ := aLit_some h
  cases v <;> first | exact ⟨_, _, rfl, h⟩ | cases h
theorem oBool_some {x : Option AV} {f : Bool → Option R} {r : R} (h : oBool x f = some r) : ∃ b, x = some (.lit (.bool b)) ∧ f b = some r := by
  obtain ⟨a, rfl, h⟩ := oK_some h
  obtain ⟨v, rfl, h⟩ := aLit_some h
  cases v <;> first | exact ⟨_, rfl, h⟩ | cases h

/-! ## numbers -/
def kmax : IntKind → Nat
  | .i8 => 127
  | .i16 => 32767
  | .i32 => 2147483647
  | .i64 => 9223372036854775807
  | .u8 => 255
  | .u16 => 65535
  | .u32 => 4294967295
  | .u64 => 18446744073709551615
theorem wrap_small {k : IntKind} {s : Nat} (h : s ≤ kmax k) : k.wrap (Int.ofNat s) = Int.ofNat s := by
  cases k <;> simp only [kmax] at h <;> simp only [IntKind.wrap, IntKind.bits, IntKind.signed] <;> simp <;> omega
def kix : IntKind → Nat
  | .i8 => 0
  | .i16 => 1
  | .i32 => 2
  | .i64 => 3
  | .u8 => 4
  | .u16 => 5
  | .u32 => 6
  | .u64 => 7
theorem kix_inj {k k' : IntKind} (h : Nat.beq (kix k) (kix k') = true) : k = k' := by
  cases k <;> cases k' <;> first | rfl | exact absurd h (by decide)
def nnK (a b : Int) (f : Nat → Nat → Option R) (s : Option R) : Option R := Int.casesOn (motive := fun _ => Option R) a (fun m => Int.casesOn (motive := fun _ => Option R) b (fun n => f m n) (fun _ => s)) (fun _ => s)
def ifK (b : Bool) (x y : Option R) : Option R := Bool.casesOn (motive := fun _ => Option R) b y x
def ofN (k : IntKind) (s : Nat) (K : AV → Option R) (slow : Option R) : Option R := fN s fun s => ifK (Nat.ble s (kmax k)) (K (.lit (.int k (.ofNat s)))) slow
def boK (b : Bool) (K : AV → Option R) : Option R := ifK b (K (.lit (.bool true))) (K (.lit (.bool false)))
/-- an operation on numbers of one kind, as the world does it -/
def numQ : BinOp → Option (IntKind → Int → Int → AV)
  | .add => some fun k a b => .lit (.int k (k.wrap (Int.add a b)))
  | .sub => some fun k a b => .lit (.int k (k.wrap (Int.sub a b)))
  | .mul => some fun k a b => .lit (.int k (k.wrap (Int.mul a b)))
  | .and => some fun k a b => .lit (.int k (k.wrap (BitVec.ofInt k.bits a &&& BitVec.ofInt k.bits b).toNat))
  | .or => some fun k a b => .lit (.int k (k.wrap (BitVec.ofInt k.bits a ||| BitVec.ofInt k.bits b).toNat))
  | .xor => some fun k a b => .lit (.int k (k.wrap (BitVec.ofInt k.bits a ^^^ BitVec.ofInt k.bits b).toNat))
  | .eql => some fun _ a b => .lit (.bool (a == b))
  | .neq => some fun _ a b => .lit (.bool (a != b))
  | .lss => some fun _ a b => .lit (.bool (decide (a < b)))
  | .leq => some fun _ a b => .lit (.bool (decide (a ≤ b)))
  | .gtr => some fun _ a b => .lit (.bool (decide (a > b)))
  | .geq => some fun _ a b => .lit (.bool (decide (a ≥ b)))
  | _ => none
theorem numQ_ok {op : BinOp} {f : IntKind → Int → Int → AV} (h : numQ op = some f) {P : Program} {t : TypeId} {k : IntKind} {a b : Int} : ∃ v, f k a b = .lit v ∧ ∀ w, (binOp op t (.int k a) (.int k b)).run P w = .ok v w := by
  unfold numQ at h
  split at h <;> first | cases h; exact ⟨_, rfl, fun w => by simp [binOp, Op.intArith, Op.intBits, Op.intCmp] <;> rfl⟩ | cases h
/-- the same, quick where both are small and not negative -/
abbrev NumF (R : Type) : Type := IntKind → Int → Int → (AV → Option R) → Option R
def slowN (f : IntKind → Int → Int → AV) : NumF R := fun k a b K => fA (f k a b) K
def numC : BinOp → Option (Bx (NumF R))
  | .add => some ⟨fun k a b K => nnK a b (fun m n => ofN k (Nat.add m n) K (slowN (fun k a b => .lit (.int k (k.wrap (Int.add a b)))) k a b K)) (slowN (fun k a b => .lit (.int k (k.wrap (Int.add a b)))) k a b K)⟩
  | .sub => some ⟨fun k a b K => nnK a b (fun m n => ifK (Nat.ble n m) (ofN k (Nat.sub m n) K (slowN (fun k a b => .lit (.int k (k.wrap (Int.sub a b)))) k a b K)) (slowN (fun k a b => .lit (.int k (k.wrap (Int.sub a b)))) k a b K)) (slowN (fun k a b => .lit (.int k (k.wrap (Int.sub a b)))) k a b K)⟩
  | .mul => some ⟨fun k a b K => nnK a b (fun m n => ofN k (Nat.mul m n) K (slowN (fun k a b => .lit (.int k (k.wrap (Int.mul a b)))) k a b K)) (slowN (fun k a b => .lit (.int k (k.wrap (Int.mul a b)))) k a b K)⟩
  | .and => some ⟨slowN fun k a b => .lit (.int k (k.wrap (BitVec.ofInt k.bits a &&& BitVec.ofInt k.bits b).toNat))⟩
  | .or => some ⟨slowN fun k a b => .lit (.int k (k.wrap (BitVec.ofInt k.bits a ||| BitVec.ofInt k.bits b).toNat))⟩
  | .xor => some ⟨slowN fun k a b => .lit (.int k (k.wrap (BitVec.ofInt k.bits a ^^^ BitVec.ofInt k.bits b).toNat))⟩
  | .eql => some ⟨fun k a b K => nnK a b (fun m n => boK (Nat.beq m n) K) (slowN (fun _ a b => .lit (.bool (a == b))) k a b K)⟩
  | .neq => some ⟨fun k a b K => nnK a b (fun m n => ifK (Nat.beq m n) (K (.lit (.bool false))) (K (.lit (.bool true)))) (slowN (fun _ a b => .lit (.bool (a != b))) k a b K)⟩
  | .lss => some ⟨fun k a b K => nnK a b (fun m n => ifK (Nat.ble n m) (K (.lit (.bool false))) (K (.lit (.bool true)))) (slowN (fun _ a b => .lit (.bool (decide (a < b)))) k a b K)⟩
  | .leq => some ⟨fun k a b K => nnK a b (fun m n => boK (Nat.ble m n) K) (slowN (fun _ a b => .lit (.bool (decide (a ≤ b)))) k a b K)⟩
  | .gtr => some ⟨fun k a b K => nnK a b (fun m n => ifK (Nat.ble m n) (K (.lit (.bool false))) (K (.lit (.bool true)))) (slowN (fun _ a b => .lit (.bool (decide (a > b)))) k a b K)⟩
  | .geq => some ⟨fun k a b K => nnK a b (fun m n => boK (Nat.ble n m) K) (slowN (fun _ a b => .lit (.bool (decide (a ≥ b)))) k a b K)⟩
  | _ => none
theorem slowN_eq (f : IntKind → Int → Int → AV) (k : IntKind) (a b : Int) (K : AV → Option R) : slowN f k a b K = K (f k a b) := fA_eq _ _
theorem ofN_eq (k : IntKind) (s : Nat) (K : AV → Option R) : ofN k s K (K (.lit (.int k (k.wrap (Int.ofNat s))))) = K (.lit (.int k (k.wrap (Int.ofNat s)))) := by
  unfold ofN
  rw [fN_eq]
  cases h : Nat.ble s (kmax k) with
  | false => rfl
  | true => rw [wrap_small (Nat.le_of_ble_eq_true h)]; rfl
theorem ofN_eq' {k : IntKind} {s : Nat} {z : Int} (hz : z = Int.ofNat s) (K : AV → Option R) : ofN k s K (K (.lit (.int k (k.wrap z)))) = K (.lit (.int k (k.wrap z))) := by subst hz; exact ofN_eq k s K
theorem boK_eq (b : Bool) (K : AV → Option R) : boK b K = K (.lit (.bool b)) := by cases b <;> rfl
theorem boK_not (b : Bool) (K : AV → Option R) : ifK b (K (.lit (.bool false))) (K (.lit (.bool true))) = K (.lit (.bool !b)) := by cases b <;> rfl
theorem q1 (m n : Nat) : (Int.ofNat m == Int.ofNat n) = Nat.beq m n := by
  rw [Bool.eq_iff_iff, beq_iff_eq, Nat.beq_eq]; exact ⟨fun h => Int.ofNat.inj h, fun h => congrArg _ h⟩
theorem q2 (m n : Nat) : (Int.ofNat m != Int.ofNat n) = !Nat.beq m n := by rw [bne, q1]
theorem q3 (m n : Nat) : decide (Int.ofNat m < Int.ofNat n) = !Nat.ble n m := by
  rw [Bool.eq_iff_iff, decide_eq_true_iff, Bool.not_eq_true', ← Bool.not_eq_true, Nat.ble_eq]
  simp only [Int.ofNat_eq_natCast]; omega
theorem q4 (m n : Nat) : decide (Int.ofNat m ≤ Int.ofNat n) = Nat.ble m n := by
  rw [Bool.eq_iff_iff, decide_eq_true_iff, Nat.ble_eq]
  simp only [Int.ofNat_eq_natCast]; omega
theorem numC_eq {op : BinOp} {q : Bx (NumF R)} (h : numC op = some q) : ∃ f, numQ op = some f ∧ ∀ k a b K, q.get k a b K = K (f k a b) := by
  unfold numC at h
  split at h <;> first | (cases h; refine ⟨_, rfl, fun k a b K => ?_⟩; simp only [slowN_eq]) | cases h
  · cases a <;> cases b <;> first | rfl | (show ofN _ _ _ _ = _; exact ofN_eq' rfl K)
  · cases a <;> cases b <;> first | rfl | skip
    rename_i m n
    show ifK _ _ _ = _
    cases hb : Nat.ble n m with
    | false => rfl
    | true => exact ofN_eq' (by have := Nat.le_of_ble_eq_true hb; show ((m : Int) - (n : Int)) = ((m - n : Nat) : Int); omega) K
  · cases a <;> cases b <;> first | rfl | (show ofN _ _ _ _ = _; exact ofN_eq' rfl K)
  all_goals
    cases a <;> cases b <;> first | rfl | skip
    rename_i m n
    first
      | (show boK _ _ = _; rw [boK_eq, q1])
      | (show ifK _ (K _) (K _) = _; rw [boK_not, q2])
      | (show ifK _ (K _) (K _) = _; rw [boK_not, q3])
      | (show boK _ _ = _; rw [boK_eq, q4])
      | (show ifK _ (K _) (K _) = _; rw [boK_not, gt_iff_lt, q3])
      | (show boK _ _ = _; rw [boK_eq]; show _ = K (AV.lit (.bool (decide (Int.ofNat n ≤ Int.ofNat m)))); rw [q4])
      | (show ifK _ (K _) (K _) = _; rw [boK_not]; show _ = K (AV.lit (.bool (decide (Int.ofNat n < Int.ofNat m)))); rw [q3])

/-! ## operations without memory -/
/-- a shift -/
def shQ : BinOp → Option (IntKind → Int → Int → AV)
  | .shl => some fun k a b => .lit (.int k (k.wrap (a * 2 ^ (min b.toNat k.bits))))
  | .shr => some fun k a b => .lit (.int k (a.fdiv (2 ^ (min b.toNat k.bits))))
  | _ => none
theorem shQ_ok {op : BinOp} {f : IntKind → Int → Int → AV} (h : shQ op = some f) {P : Program} {t : TypeId} {k k' : IntKind} {a b : Int} (hb : ¬ b < 0) : ∃ v, f k a b = .lit v ∧ ∀ w, (binOp op t (.int k a) (.int k' b)).run P w = .ok v w := by
  unfold shQ at h
  split at h <;> first | cases h; exact ⟨_, rfl, fun w => by simp [binOp, Op.shift, hb]⟩ | cases h
/-- what an operation without memory comes to -/
abbrev PuF (R : Type) : Type := Tm → (AV → Option R) → Option R
def PuOk (P : Program) (o : Oper) (f : PuF R) : Prop := ∀ tm K r, f tm K = some r → ∃ av, K av = some r ∧ PureR P tm o av
theorem PuOk.of {P : Program} {o : Oper} {f : PuF R} (h : ∀ tm K r, f tm K = some r → ∃ av, pureA P tm o = some av ∧ K av = some r) : PuOk P o f := fun tm K r hr => by
  obtain ⟨av, h1, h2⟩ := h tm K r hr
  exact ⟨av, h2, pureA_ok h1⟩
theorem key2 {P : Program} {o : Oper} {op : BinOp} {t t' : TypeId} {x y : Operand} (ho : o.op = .binOp op t x y t') {tm : Tm} {k k' : IntKind} {a b : Int} {v : Value} (hx : evA tm x = some (.lit (.int k a))) (hy : evA tm y = some (.lit (.int k' b))) (hv : ∀ w, (binOp op t (.int k a) (.int k' b)).run P w = .ok v w) : PureR P tm o (.lit v) := by
  intro e ac ht
  have rx := ht x (by simp [ho, Op.operands]) _ hx
  have ry := ht y (by simp [ho, Op.operands]) _ hy
  simp only [AV.rep] at rx ry
  refine ⟨v, by simp only [AV.rep], fun w => ?_⟩
  have hg : (eqGuard op t x y (.int k a) (.int k' b)).run P w = .ok () w := by
    cases op <;> rfl
  simp only [execOp, ho, rx, ry, Sem.run_bind, hg, hv w, Result.andThen_ok, Sem.run_pure]
/-- as before: the slow way -/
def slowF (P : Program) (o : Oper) : PuF R := fun tm K => match pureA P tm o with
  | some av => fA av K
  | none => none
theorem slowF_some {P : Program} {o : Oper} {tm : Tm} {K : AV → Option R} {r : R} (h : slowF P o tm K = some r) : ∃ av, pureA P tm o = some av ∧ K av = some r := by
  unfold slowF at h
  split at h
  · rename_i av hav; rw [fA_eq] at h; exact ⟨av, hav, h⟩
  · cases h
def aLitE (x : AV) (f : Value → Option R) (s : Option R) : Option R := AV.casesOn (motive_1 := fun _ => Option R) x f (fun _ _ => none) (fun _ _ _ _ _ _ => none) (fun _ => none) (fun _ => none) (fun _ _ _ => none) (fun _ => none) (fun _ _ => none) (fun _ => none) (fun _ _ _ => s) none (fun _ _ _ _ => s)
theorem aLitE_some {x : AV} {f : Value → Option R} {s : Option R} {r : R} (h : aLitE x f s = some r) : (∃ v, x = .lit v ∧ f v = some r) ∨ s = some r := by
  cases x <;> first | exact .inl ⟨_, rfl, h⟩ | exact .inr h | cases h
theorem vInt_some {v : Value} {f : IntKind → Int → Option R} {r : R} (h : vInt v f = some r) : ∃ k a, v = .int k a ∧ f k a = some r := by
  cases v <;> first | exact ⟨_, _, rfl, h⟩ | cases h
def numF (f : NumF R) (s : PuF R) (gx gy : Tm → Option AV) : PuF R := fun tm K => oK (gx tm) fun x => aLitE x (fun u => vInt u fun k a => oK (gy tm) fun y => aLitE y (fun v => vInt v fun k' b => ifK (Nat.beq (kix k) (kix k')) (f k a b K) none) (s tm K)) (s tm K)
theorem numF_ok {P : Program} {o : Oper} {op : BinOp} {t t' : TypeId} {x y : Operand} (ho : o.op = .binOp op t x y t') {q : Bx (NumF R)} (hq : numC op = some q) : PuOk P o (numF q.get (slowF P o) (opd x).get (opd y).get) := by
  intro tm K r h
  have slow : slowF P o tm K = some r → ∃ av, K av = some r ∧ PureR P tm o av := fun h => by
    obtain ⟨av, h1, h2⟩ := slowF_some h
    exact ⟨av, h2, pureA_ok h1⟩
  obtain ⟨x', hx, h⟩ := oK_some h
  rcases aLitE_some h with ⟨u, rfl, h⟩ | h
  case inr => exact slow h
  obtain ⟨k, a, rfl, h⟩ := vInt_some h
  obtain ⟨y', hy, h⟩ := oK_some h
  rcases aLitE_some h with ⟨v, rfl, h⟩ | h
  case inr => exact slow h
  obtain ⟨k', b, rfl, h9⟩ := vInt_some h
  cases hk : Nat.beq (kix k) (kix k') with
  | false => rw [hk] at h9; cases h9
  | true =>
    rw [hk] at h9
    have hk := kix_inj hk
    subst hk
    obtain ⟨f, hf, hK⟩ := numC_eq hq
    change q.get k a b K = some r at h9
    rw [hK] at h9
    refine ⟨_, h9, ?_⟩
    rw [opd_eq] at hx hy
    obtain ⟨v, hv, hr⟩ := numQ_ok hf (P := P) (t := t) (k := k) (a := a) (b := b)
    rw [hv]
    exact key2 ho hx hy hr
def shF (f : IntKind → Int → Int → AV) (gx gy : Tm → Option AV) : PuF R := fun tm K => oInt (gx tm) fun k a => oInt (gy tm) fun _ b => cond (decide (b < 0)) none (fA (f k a b) K)
theorem shF_ok {P : Program} {o : Oper} {op : BinOp} {t t' : TypeId} {x y : Operand} (ho : o.op = .binOp op t x y t') {f : IntKind → Int → Int → AV} (hq : shQ op = some f) : PuOk P o (shF (R := R) f (opd x).get (opd y).get) := by
  intro tm K r h
  obtain ⟨k, a, hx, h⟩ := oInt_some h
  obtain ⟨k', b, hy, h⟩ := oInt_some h
  rw [opd_eq] at hx hy
  cases hk : decide (b < 0) with
  | true => rw [hk] at h; cases h
  | false =>
    rw [hk] at h
    simp only [cond_false, fA_eq] at h
    obtain ⟨v, e1, e2⟩ := shQ_ok hq (P := P) (t := t) (k := k) (k' := k') (a := a) (of_decide_eq_false hk)
    refine ⟨_, h, ?_⟩
    rw [e1]
    exact key2 ho hx hy e2
def moveF (gx : Tm → Option AV) : PuF R := fun tm K => oK (gx tm) K
def pickF (gc gx gy : Tm → Option AV) : PuF R := fun tm K => oBool (gc tm) fun b => ifK b (oK (gx tm) K) (oK (gy tm) K)
theorem moveF_ok {P : Program} {o : Oper} {x : Operand} (ho : o.op = .move x ∨ o.op = .assign x) : PuOk P o (moveF (R := R) (opd x).get) := PuOk.of fun tm K r h => by
  obtain ⟨a, hx, h⟩ := oK_some h
  rw [opd_eq] at hx
  refine ⟨a, ?_, h⟩
  rcases ho with ho | ho <;> (unfold pureA; rw [ho]; exact hx)
theorem pickF_ok {P : Program} {o : Oper} {c x y : Operand} (ho : o.op = .pick c x y) : PuOk P o (pickF (R := R) (opd c).get (opd x).get (opd y).get) := PuOk.of fun tm K r h => by
  obtain ⟨b, hx, h⟩ := oBool_some h
  rw [opd_eq] at hx
  unfold pureA
  rw [ho]
  cases b with
  | true =>
    obtain ⟨a, h1, h2⟩ := oK_some (show oK _ K = some r from h)
    rw [opd_eq] at h1
    exact ⟨a, by simp only [hx, cond_true, h1], h2⟩
  | false =>
    obtain ⟨a, h1, h2⟩ := oK_some (show oK _ K = some r from h)
    rw [opd_eq] at h1
    exact ⟨a, by simp only [hx, cond_false, h1], h2⟩
def notF (gx : Tm → Option AV) : PuF R := fun tm K => oBool (gx tm) fun b => ifK b (K (.lit (.bool false))) (K (.lit (.bool true)))
theorem notF_ok {P : Program} {o : Oper} {t : TypeId} {x : Operand} (ho : o.op = .unOp .not t x) : PuOk P o (notF (R := R) (opd x).get) := by
  intro tm K r h
  obtain ⟨b, hx, h⟩ := oBool_some h
  rw [opd_eq] at hx
  rw [boK_not] at h
  refine ⟨_, h, fun e a ht => ?_⟩
  have rx := ht x (by simp [ho, Op.operands]) _ hx
  simp only [AV.rep] at rx
  exact ⟨.bool !b, by simp only [AV.rep], fun w => by simp only [execOp, ho, rx]; rfl⟩
/-! pointers and slices -/
def aPtr (x : AV) (f : Nat → Nat → Option R) : Option R := AV.casesOn (motive_1 := fun _ => Option R) x (fun _ => none) f (fun _ _ _ _ _ _ => none) (fun _ => none) (fun _ => none) (fun _ _ _ => none) (fun _ => none) (fun _ _ => none) (fun _ => none) (fun _ _ _ => none) none (fun _ _ _ _ => none)
def oPtr (x : Option AV) (f : Nat → Nat → Option R) : Option R := oK x fun x => aPtr x f
theorem oPtr_some {x : Option AV} {f : Nat → Nat → Option R} {r : R} (h : oPtr x f = some r) : ∃ b k, x = some (.ptr b k) ∧ f b k = some r := by
  obtain ⟨a, rfl, h⟩ := oK_some h
  cases a <;> first | exact ⟨_, _, rfl, h⟩ | cases h
/-- a slice, or something else -/
def aSlc (x : AV) (f : Nat → Nat → Nat → Nat → Nat → Bool → Option R) (s : Option R) : Option R := AV.casesOn (motive_1 := fun _ => Option R) x (fun _ => s) (fun _ _ => none) f (fun _ => none) (fun _ => none) (fun _ _ _ => none) (fun _ => none) (fun _ _ => none) (fun _ => none) (fun _ _ _ => none) none (fun _ _ _ _ => none)
def oSlc (x : Option AV) (f : Nat → Nat → Nat → Nat → Nat → Bool → Option R) (s : Option R) : Option R := oK x fun x => aSlc x f s
theorem oSlc_some {x : Option AV} {f : Nat → Nat → Nat → Nat → Nat → Bool → Option R} {s : Option R} {r : R} (h : oSlc x f s = some r) : (∃ b k n sz c ex, x = some (.slice b k n sz c ex) ∧ f b k n sz c ex = some r) ∨ (∃ v, x = some (.lit v)) ∧ s = some r := by
  obtain ⟨a, rfl, h⟩ := oK_some h
  cases a <;> first | exact .inl ⟨_, _, _, _, _, _, rfl, h⟩ | exact .inr ⟨⟨_, rfl⟩, h⟩ | cases h
def oNat (x : Option AV) (f : Nat → Option R) : Option R := oInt x fun _ a => Int.casesOn (motive := fun _ => Option R) a f (fun _ => none)
theorem oNat_some {x : Option AV} {f : Nat → Option R} {r : R} (h : oNat x f = some r) : ∃ k i, x = some (.lit (.int k (Int.ofNat i))) ∧ f i = some r := by
  obtain ⟨k, a, rfl, h⟩ := oInt_some h
  cases a <;> first | exact ⟨_, _, rfl, h⟩ | cases h
def fieldOff (P : Program) (t : TypeId) (f : Nat) : Option Nat := match P.underlying t with
  | some (.struct fs) => match fs[f]? with
    | some fld => match P.info? fld.type with
      | some i => cond (Nat.beq i.size 0) none (some fld.offset)
      | none => none
    | none => none
  | _ => none
def fieldF (off : Nat) (gx : Tm → Option AV) : PuF R := fun tm K => oPtr (gx tm) fun b k => fN (Nat.add k off) fun k => K (.ptr b k)
theorem fieldF_ok {P : Program} {o : Oper} {t : TypeId} {x : Operand} {f off : Nat} (ho : o.op = .fieldAddr t x f) (hf : fieldOff P t f = some off) : PuOk P o (fieldF (R := R) off (opd x).get) := PuOk.of fun tm K r h => by
  obtain ⟨b, k, hx, h⟩ := oPtr_some h
  rw [opd_eq] at hx
  rw [fN_eq] at h
  refine ⟨_, ?_, h⟩
  unfold fieldOff at hf
  unfold pureA
  rw [ho]
  split at hf
  case h_2 => cases hf
  rename_i fs hu
  split at hf
  case h_2 => cases hf
  rename_i fld hfl
  split at hf
  case h_2 => cases hf
  rename_i i hi
  cases hz : Nat.beq i.size 0 with
  | true => rw [hz] at hf; cases hf
  | false =>
    rw [hz] at hf; cases hf
    simp only [hx, hu, hfl, hi, hz, cond_false]; rfl
def elemSz (P : Program) (t : TypeId) : Option Nat := match P.underlying t with
  | some (.slice e) => match P.info? e with
    | some inf => some inf.size
    | none => none
  | _ => none
def indexF (size : Nat) (gx gi : Tm → Option AV) : PuF R := fun tm K => oNat (gi tm) fun i => oSlc (gx tm) (fun b k len sz _ _ => ifK (Nat.ble (Nat.succ i) len) (ifK (Nat.beq size sz) (fN (Nat.add k (Nat.mul i sz)) fun k => K (.ptr b k)) none) none) none
theorem indexF_ok {P : Program} {o : Oper} {t : TypeId} {x i : Operand} {size : Nat} (ho : o.op = .indexAddr t x i) (hf : elemSz P t = some size) : PuOk P o (indexF (R := R) size (opd x).get (opd i).get) := PuOk.of fun tm K r h => by
  obtain ⟨ki, i, hi, h⟩ := oNat_some h
  rcases oSlc_some h with ⟨b, k, len, sz, c, ex, hx, h⟩ | ⟨_, h⟩
  case inr => cases h
  rw [opd_eq] at hx hi
  unfold elemSz at hf
  unfold pureA
  rw [ho]
  split at hf
  case h_2 => cases hf
  rename_i e hu
  split at hf
  case h_2 => cases hf
  rename_i inf hinf
  cases hf
  cases h1 : Nat.ble (Nat.succ i) len with
  | false => rw [h1] at h; cases h
  | true =>
    rw [h1] at h
    change ifK (Nat.beq inf.size sz) _ none = some r at h
    cases h2 : Nat.beq inf.size sz with
    | false => rw [h2] at h; cases h
    | true =>
      rw [h2] at h
      change fN _ _ = some r at h
      rw [fN_eq] at h
      refine ⟨_, ?_, h⟩
      have hlt := Nat.le_of_ble_eq_true h1
      have c1 : decide ((0 : Int) ≤ Int.ofNat i) = true := by simp
      have c2 : decide (Int.ofNat i < (len : Int)) = true := by simp; omega
      simp only [intA, hi, hx, hu, hinf, c1, c2, h2, Bool.and_true, cond_true]; rfl
def lenF (s : PuF R) (gx : Tm → Option AV) : PuF R := fun tm K => oSlc (gx tm) (fun _ _ n _ _ _ => K (.lit (.int .i64 (.ofNat n)))) (s tm K)
theorem lenF_ok {P : Program} {o : Oper} {x : Operand} {t e : TypeId} (ho : o.op = .call { callee := .builtin .len, args := ⟨[x]⟩, argTypes := ⟨[t]⟩ }) (ht : P.underlying t = some (.slice e)) : PuOk P o (lenF (R := R) (slowF P o) (opd x).get) := PuOk.of fun tm K r h => by
  rcases oSlc_some h with ⟨b, k, len, sz, c, ex, hx, h⟩ | ⟨_, h⟩
  case inr => exact slowF_some h
  rw [opd_eq] at hx
  refine ⟨_, ?_, h⟩
  unfold pureA
  rw [ho]
  simp only [hx, ht]; rfl
/-- the part of a tuple -/
def nthB : Nat → Bx (List AV → Option AV)
  | 0 => ⟨fun l => List.casesOn (motive := fun _ => Option AV) l none (fun a _ => some a)⟩
  | i + 1 => match nthB i with
    | ⟨g⟩ => ⟨fun l => List.casesOn (motive := fun _ => Option AV) l none (fun _ l => g l)⟩
theorem nthB_eq : ∀ (i : Nat) (l : List AV), (nthB i).get l = l[i]?
  | 0, [] => rfl
  | 0, _ :: _ => rfl
  | i + 1, [] => rfl
  | i + 1, a :: l => by rw [List.getElem?_cons_succ, ← nthB_eq i l]; rfl
def aTup (x : AV) (f : List AV → Option R) (s : Option R) : Option R := AV.casesOn (motive_1 := fun _ => Option R) x (fun _ => s) (fun _ _ => none) (fun _ _ _ _ _ _ => none) (fun _ => none) f (fun _ _ _ => none) (fun _ => none) (fun _ _ => none) (fun _ => none) (fun _ _ _ => none) none (fun _ _ _ _ => none)
def tupF (s : PuF R) (g : List AV → Option AV) (gx : Tm → Option AV) : PuF R := fun tm K => oK (gx tm) fun x => aTup x (fun l => oK (g l) K) (s tm K)
theorem tupF_ok {P : Program} {o : Oper} {x : Operand} {i : Nat} (ho : o.op = .extract x i) : PuOk P o (tupF (R := R) (slowF P o) (nthB i).get (opd x).get) := PuOk.of fun tm K r h => by
  obtain ⟨a, hx, h⟩ := oK_some h
  rw [opd_eq] at hx
  cases a with
  | tuple l =>
    obtain ⟨a, h1, h2⟩ := oK_some (show oK _ K = some r from h)
    rw [nthB_eq] at h1
    refine ⟨a, ?_, h2⟩
    unfold pureA
    rw [ho]
    simp only [hx, h1]
  | lit v => exact slowF_some h
  | _ => cases h
/-- one cell -/
def v1 (v : Value) : Bool := Value.casesOn (motive_1 := fun _ => Bool) v (fun _ => true) (fun _ _ => true) (fun _ _ => true) (fun _ _ _ => false) (fun _ => true) (fun _ => true) (fun _ _ _ => true) (fun _ => true) (fun _ => true) (fun _ _ _ => true) true (fun _ _ => true) true (fun _ => false) (fun _ => false)
def a1 (x : AV) : Bool := AV.casesOn (motive_1 := fun _ => Bool) x v1 (fun _ _ => true) (fun _ _ _ _ _ _ => true) (fun _ => false) (fun _ => false) (fun _ _ _ => true) (fun _ => true) (fun _ _ => true) (fun _ => true) (fun _ _ _ => true) true (fun _ _ _ _ => true)
theorem a1_ok {x : AV} (h : a1 x = true) : x.one = true ∧ x.cells = [x] := by
  cases x with
  | lit v => cases v <;> first | exact ⟨rfl, rfl⟩ | cases h
  | agg l => cases h
  | tuple l => cases h
  | _ => exact ⟨rfl, rfl⟩
/-! building -/
theorem setL_at : ∀ (cs pre z : List AV), cs.length ≤ z.length → setL (pre ++ z) pre.length cs = pre ++ (cs ++ z.drop cs.length)
  | [], pre, z, _ => by simp [setL]
  | c :: cs, pre, [], h => by simp at h
  | c :: cs, pre, x :: z, h => by
    have := setL_at cs (pre ++ [c]) z (by simpa using h)
    simp only [setL]
    have e : (pre ++ x :: z).set pre.length c = (pre ++ [c]) ++ z := by simp
    rw [e]
    have e2 : pre.length + 1 = (pre ++ [c]).length := by simp
    rw [e2, this]
    simp
def fillQ : List AV → List (Nat × Nat × AV) → Option (List AV)
  | l, [] => some l
  | l, (off, size, a) :: r => cond (Nat.beq a.cells.length size && Nat.ble (off + size) l.length) (fillQ (setL l off a.cells) r) none
def evQ (tm : Tm) : List (Nat × Nat × Operand) → Option (List (Nat × Nat × AV))
  | [] => some []
  | (off, size, x) :: l => match evA tm x with
    | some a => match evQ tm l with
      | some r => some ((off, size, a) :: r)
      | none => none
    | none => none
def planA (place : Nat → Option (Nat × Nat)) : List (Nat × Operand) → Option (List (Nat × Nat × Operand))
  | [] => some []
  | (i, x) :: l => match place i with
    | some (off, size) => match planA place l with
      | some r => some ((off, size, x) :: r)
      | none => none
    | none => none
theorem planA_fill {place : Nat → Option (Nat × Nat)} {tm : Tm} : ∀ {ps : List (Nat × Operand)} {qs : List (Nat × Nat × Operand)} {vs : List (Nat × Nat × AV)}, planA place ps = some qs → evQ tm qs = some vs → ∃ as, evP tm ps = some as ∧ ∀ l, fillA place l as = fillQ l vs
  | [], qs, vs, h, he => by
    simp only [planA] at h; cases h
    simp only [evQ] at he; cases he
    exact ⟨[], rfl, fun l => rfl⟩
  | (i, x) :: ps, qs, vs, h, he => by
    simp only [planA] at h
    split at h
    case h_2 => cases h
    rename_i off size hp
    split at h
    case h_2 => cases h
    rename_i qs' hq
    cases h
    simp only [evQ] at he
    split at he
    case h_2 => cases he
    rename_i a ha
    split at he
    case h_2 => cases he
    rename_i vs' hv
    cases he
    obtain ⟨as, h1, h2⟩ := planA_fill hq hv
    refine ⟨(i, a) :: as, by simp only [evP, ha, h1], fun l => ?_⟩
    simp only [fillA, fillQ, hp, h2]
def aCells (x : AV) (f : List AV → Option R) : Option R := AV.casesOn (motive_1 := fun _ => Option R) x (fun v => f (AV.cells (.lit v))) (fun _ _ => none) (fun _ _ _ _ _ _ => none) f (fun _ => none) (fun _ _ _ => none) (fun _ => none) (fun _ _ => none) (fun _ => none) (fun _ _ _ => none) none (fun _ _ _ _ => none)
theorem aCells_some {x : AV} {f : List AV → Option R} {r : R} (h : aCells x f = some r) : f x.cells = some r := by
  cases x <;> first | exact h | cases h
/-- so many cells ahead of others -/
def appB : Nat → Bx (List AV → List AV → (List AV → Option R) → Option R)
  | 0 => ⟨fun cs l K => List.casesOn (motive := fun _ => Option R) cs (K l) (fun _ _ => none)⟩
  | s + 1 => match appB s with
    | ⟨g⟩ => ⟨fun cs l K => List.casesOn (motive := fun _ => Option R) cs none (fun a cs => g cs l fun r => K (a :: r))⟩
theorem appB_some {l : List AV} {r : R} : ∀ (s : Nat) {cs : List AV} {K : List AV → Option R}, (appB s).get cs l K = some r → cs.length = s ∧ K (cs ++ l) = some r := by
  intro s
  induction s with
  | zero =>
    intro cs K h
    cases cs with
    | nil => exact ⟨rfl, h⟩
    | cons a cs => cases h
  | succ s ih =>
    intro cs K h
    cases cs with
    | nil => cases h
    | cons a cs =>
      obtain ⟨h1, h2⟩ := ih (show (appB s).get cs l (fun r => K (a :: r)) = some r from h)
      exact ⟨by simp [h1], h2⟩
abbrev SegF (R : Type) : Type := Tm → (List AV → Option R) → Option R
def zeroS (x : AV) (g : SegF R) : SegF R := fun tm K => g tm fun l => K (x :: l)
def oneS (gx : Tm → Option AV) (p : List AV → List AV → (List AV → Option R) → Option R) (g : SegF R) : SegF R := fun tm K => oK (gx tm) fun a => ifK (a1 a) (g tm fun l => K (a :: l)) (aCells a fun cs => g tm fun l => p cs l K)
def moreS (gx : Tm → Option AV) (p : List AV → List AV → (List AV → Option R) → Option R) (g : SegF R) : SegF R := fun tm K => oK (gx tm) fun a => aCells a fun cs => g tm fun l => p cs l K
/-- cells from place pos on, so many of them already written -/
def segB : List AV → Nat → Nat → List (Nat × Nat × Operand) → Bx (SegF R)
  | [], _, 0, [] => ⟨fun _ K => K []⟩
  | [], _, _, _ => ⟨fun _ _ => none⟩
  | _ :: z, pos, k + 1, qs => segB z (pos + 1) k qs
  | x :: z, _, 0, [] => ⟨fun _ K => K (x :: z)⟩
  | x :: z, pos, 0, (off, size, y) :: qs => cond (Nat.beq pos off)
    (match size with
      | 0 => ⟨fun _ _ => none⟩
      | 1 => b3 oneS (opd y) (appB 1) (segB z (pos + 1) 0 qs)
      | s + 2 => b3 moreS (opd y) (appB (s + 2)) (segB z (pos + 1) (s + 1) qs))
    (b1 (zeroS x) (segB z (pos + 1) 0 ((off, size, y) :: qs)))
theorem segB_some {tm : Tm} {r : R} : ∀ (z : List AV) (pos k : Nat) (qs : List (Nat × Nat × Operand)) {K : List AV → Option R}, (segB z pos k qs).get tm K = some r →
    ∃ vs out, evQ tm qs = some vs ∧ K out = some r ∧ k ≤ z.length ∧ ∀ pre : List AV, pre.length = pos + k → fillQ (pre ++ z.drop k) vs = some (pre ++ out) := by
  intro z
  induction z with
  | nil =>
    intro pos k qs K h
    cases k with
    | succ k => simp only [segB] at h; cases h
    | zero =>
      cases qs with
      | nil => exact ⟨[], [], rfl, h, Nat.le_refl _, fun pre _ => by simp [fillQ]⟩
      | cons q qs => simp only [segB] at h; cases h
  | cons x z ih =>
    intro pos k qs K h
    cases k with
    | succ k =>
      simp only [segB] at h
      obtain ⟨vs, out, h1, h2, h3, h4⟩ := ih _ _ _ h
      exact ⟨vs, out, h1, h2, by simp only [List.length_cons]; omega, fun pre hp => by simpa using h4 pre (by omega)⟩
    | zero =>
      cases qs with
      | nil => exact ⟨[], x :: z, rfl, h, Nat.zero_le _, fun pre _ => by simp [fillQ]⟩
      | cons q qs =>
        obtain ⟨off, size, y⟩ := q
        simp only [segB] at h
        cases hp : Nat.beq pos off with
        | false =>
          rw [hp] at h
          obtain ⟨vs, out, h1, h2, h3, h4⟩ := ih _ _ _ (show (segB z (pos + 1) 0 ((off, size, y) :: qs)).get tm (fun l => K (x :: l)) = some r from h)
          exact ⟨vs, x :: out, h1, h2, Nat.zero_le _, fun pre hpre => by simpa using h4 (pre ++ [x]) (by simp; omega)⟩
        | true =>
          rw [hp] at h
          have hp := Nat.eq_of_beq_eq_true hp
          subst hp
          simp only [cond_true] at h
          split at h
          · cases h
          · obtain ⟨a, g1, g2⟩ := oK_some (show oK ((opd y).get tm) (fun a => ifK (a1 a) ((segB z (pos + 1) 0 qs).get tm fun l => K (a :: l)) (aCells a fun cs => (segB z (pos + 1) 0 qs).get tm fun l => (appB 1).get cs l K)) = some r from h)
            rw [opd_eq] at g1
            cases ha : a1 a with
            | false =>
              rw [ha] at g2
              have g2 := aCells_some (show aCells a (fun cs => (segB z (pos + 1) 0 qs).get tm fun l => (appB 1).get cs l K) = some r from g2)
              obtain ⟨vs, out, h1, h2, h3, h4⟩ := ih _ _ _ g2
              obtain ⟨e1, e2⟩ := appB_some _ h2
              refine ⟨(pos, 1, a) :: vs, a.cells ++ out, by simp only [evQ, g1, h1], e2, Nat.zero_le _, fun pre hpre => ?_⟩
              have hb : Nat.ble (pos + 1) (pre ++ x :: z).length = true := Nat.ble_eq_true_of_le (by simp; omega)
              have hq : Nat.beq a.cells.length 1 = true := by rw [e1]; exact Nat.beq_refl _
              have hs := setL_at a.cells pre (x :: z) (by rw [e1]; simp)
              have hpos : pos = pre.length := by omega
              simp only [fillQ, List.drop_zero, hb, hq, Bool.and_self, cond_true]
              rw [← hpos] at hs
              rw [hs]
              have := h4 (pre ++ a.cells) (by simp [e1]; omega)
              rw [e1]
              simpa [List.append_assoc] using this
            | true =>
              rw [ha] at g2
              obtain ⟨_, hc⟩ := a1_ok ha
              obtain ⟨vs, out, h1, h2, h3, h4⟩ := ih _ _ _ (show (segB z (pos + 1) 0 qs).get tm (fun l => K (a :: l)) = some r from g2)
              refine ⟨(pos, 1, a) :: vs, a :: out, by simp only [evQ, g1, h1], h2, Nat.zero_le _, fun pre hpre => ?_⟩
              have hb : Nat.ble (pos + 1) (pre ++ x :: z).length = true := Nat.ble_eq_true_of_le (by simp; omega)
              have hs := setL_at [a] pre (x :: z) (by simp)
              have hpos : pos = pre.length := by omega
              simp only [fillQ, hc, List.drop_zero, List.length_cons, List.length_nil, hb]
              rw [← hpos] at hs
              rw [hs]
              have := h4 (pre ++ [a]) (by simp; omega)
              simpa using this
          · rename_i s
            obtain ⟨a, g1, g2⟩ := oK_some (show oK ((opd y).get tm) (fun a => aCells a fun cs => (segB z (pos + 1) (s + 1) qs).get tm fun l => (appB (s + 2)).get cs l K) = some r from h)
            rw [opd_eq] at g1
            have g2 := aCells_some g2
            obtain ⟨vs, out, h1, h2, h3, h4⟩ := ih _ _ _ g2
            obtain ⟨e1, e2⟩ := appB_some _ h2
            refine ⟨(pos, s + 2, a) :: vs, a.cells ++ out, by simp only [evQ, g1, h1], e2, Nat.zero_le _, fun pre hpre => ?_⟩
            have hb : Nat.ble (pos + (s + 2)) (pre ++ x :: z).length = true := Nat.ble_eq_true_of_le (by simp; omega)
            have hq : Nat.beq a.cells.length (s + 2) = true := by rw [e1]; exact Nat.beq_refl _
            have hs := setL_at a.cells pre (x :: z) (by rw [e1]; simp; omega)
            have hpos : pos = pre.length := by omega
            simp only [fillQ, List.drop_zero, hb, hq, Bool.and_self, cond_true]
            rw [← hpos] at hs
            rw [hs]
            have := h4 (pre ++ a.cells) (by simp [e1]; omega)
            rw [e1]
            simpa [List.append_assoc] using this
def buildF (g : SegF R) : PuF R := fun tm K => g tm fun l => K (.agg l)
def planOf (P : Program) (t : TypeId) (ps : List (Nat × Operand)) : Option (List (Nat × Nat × Operand)) := match P.underlying t with
  | some (.struct fs) => match sizesA P fs.toList with
    | some l => planA (l[·]?) ps
    | none => none
  | some (.array _ e) => match P.info? e with
    | some i => planA (fun k => some (k * i.size, i.size)) ps
    | none => none
  | _ => none
/-- one behind the other? -/
def rowQ : Nat → List (Nat × Nat × Operand) → Bool
  | _, [] => true
  | pos, (off, size, _) :: l => cond (Nat.ble pos off) (rowQ (Nat.add off size) l) false
def buildC (P : Program) (t : TypeId) (ps : List (Nat × Operand)) : Option (Bx (PuF R)) := match zcells P t, planOf P t ps with
  | some z, some qs => cond (rowQ 0 qs) (match fL1 z some with
    | some z => some (b1 buildF (segB z 0 0 qs))
    | none => none) none
  | _, _ => none
theorem buildC_ok {P : Program} {o : Oper} {t : TypeId} {ps : Array (Nat × Operand)} {q : Bx (PuF R)} (ho : o.op = .build t ps) (h : buildC P t ps.toList = some q) : PuOk P o q.get := by
  intro tm K r hr
  unfold buildC at h
  split at h
  case h_2 => cases h
  rename_i z qs hz hq
  cases hrow : rowQ 0 qs with
  | false => rw [hrow] at h; cases h
  | true =>
  rw [hrow] at h
  simp only [cond_true, fL1_eq] at h
  cases h
  obtain ⟨vs, out, h1, h2, h3, h4⟩ := segB_some z 0 0 qs (show (segB z 0 0 qs).get tm (fun l => K (.agg l)) = some r from hr)
  refine ⟨_, h2, buildA_ok ho ?_⟩
  have h4 := h4 [] rfl
  simp only [List.nil_append, List.drop_zero] at h4
  unfold planOf at hq
  unfold buildA
  split at hq
  · rename_i fs hu
    split at hq
    case h_2 => cases hq
    rename_i l hl
    obtain ⟨as, e1, e2⟩ := planA_fill hq h1
    simp only [hz, e1, hu, hl, e2, h4]
  · rename_i n e hu
    split at hq
    case h_2 => cases hq
    rename_i i hi
    obtain ⟨as, e1, e2⟩ := planA_fill hq h1
    simp only [hz, e1, hu, hi, e2, h4]
  · cases hq
def isInt (P : Program) (t : TypeId) : Bool := match P.underlying t with
  | some (.int _) => true
  | _ => false
/-- what is quick -/
def puC (P : Program) (o : Oper) : Option (Bx (PuF R)) := match o.op with
  | .move x => some (b1 moveF (opd x))
  | .assign x => some (b1 moveF (opd x))
  | .pick c x y => some (b3 pickF (opd c) (opd x) (opd y))
  | .binOp op t x y _ => cond (isInt P t) (match numC op with
    | some q => some (b3 (fun q => numF q (slowF P o)) q (opd x) (opd y))
    | none => match shQ op with
      | some f => some (b2 (shF f) (opd x) (opd y))
      | none => none) none
  | .unOp .not _ x => some (b1 notF (opd x))
  | .fieldAddr t x f => match fieldOff P t f with
    | some off => some (b1 (fieldF off) (opd x))
    | none => none
  | .indexAddr t x i => match elemSz P t with
    | some sz => some (b2 (indexF sz) (opd x) (opd i))
    | none => none
  | .extract x i => some (b2 (tupF (slowF P o)) (nthB i) (opd x))
  | .build t ps => buildC P t ps.toList
  | .call { callee := .builtin .len, args := ⟨[x]⟩, argTypes := ⟨[t]⟩ } => match P.underlying t with
    | some (.slice _) => some (b1 (lenF (slowF P o)) (opd x))
    | _ => none
  | _ => none
theorem puC_ok {P : Program} {o : Oper} {q : Bx (PuF R)} (h : puC P o = some q) : PuOk P o q.get := by
  unfold puC at h
  split at h
  · rename_i x ho; cases h; exact moveF_ok (.inl ho)
  · rename_i x ho; cases h; exact moveF_ok (.inr ho)
  · rename_i c x y ho; cases h; exact pickF_ok ho
  · rename_i op t x y t' ho
    cases ht : isInt P t with
    | false => rw [ht] at h; cases h
    | true =>
      rw [ht] at h
      simp only [cond_true] at h
      split at h
      · rename_i q hq; cases h; exact numF_ok ho hq
      · split at h
        · rename_i f hf; cases h; exact shF_ok ho hf
        · cases h
  · rename_i t x ho; cases h; exact notF_ok ho
  · rename_i t x f ho
    split at h
    · rename_i off hf; cases h; exact fieldF_ok ho hf
    · cases h
  · rename_i t x i ho
    split at h
    · rename_i sz hf; cases h; exact indexF_ok ho hf
    · cases h
  · rename_i x i ho; cases h; exact tupF_ok ho
  · rename_i t ps ho; exact buildC_ok ho h
  · rename_i x t ho
    split at h
    · rename_i e he; cases h; exact lenF_ok ho he
    · cases h
  · cases h
end Go.Am
