/- The machine's operations that look at no memory: all of them. -/
import Derived.Test.YtfcemnnlmlggoaaGreatAmB
namespace Go.Am
open Go.Vc

def intA (tm : Tm) (x : Operand) : Option Int := match evA tm x with
  | some (.lit (.int _ n)) => some n
  | _ => none
theorem intA_eval {e : Env} {tm : Tm} {a : Act} {l : List Operand} (h : OpdR e tm a l) {x : Operand} (hl : x ∈ l) {n : Int} (hx : intA tm x = some n) : ∃ k, a.eval x = .int k n := by
  unfold intA at hx
  split at hx
  · rename_i k m hm
    cases hx
    have := h x hl _ hm
    simp only [AV.rep] at this
    exact ⟨k, this⟩
  · cases hx
/-- a piece of a slice -/
def sliceA (P : Program) (tm : Tm) (t : TypeId) (b k n sz c : Nat) (ex : Bool) (lo hi mx : Option Operand) : Option AV := match P.underlying t with
  | some (.slice e) => match P.info? e with
    | some i => cond (Nat.beq i.size sz) (match lo, hi, mx with
      | none, none, none => some (.slice b k n sz c ex)
      | some l, none, none => match intA tm l with
        | some l => cond (decide (0 ≤ l) && decide (l ≤ n)) (some (.slice b (k + l.toNat * sz) (n - l.toNat) sz (c - l.toNat) ex)) none
        | none => none
      | none, some h, none => match intA tm h with
        | some h => cond (decide (0 ≤ h) && (decide (h ≤ n) || decide (h ≤ c))) (some (.slice b k h.toNat sz c ex)) none
        | none => none
      | some l, some h, none => match intA tm l, intA tm h with
        | some l, some h => cond (decide (0 ≤ l) && decide (l ≤ h) && (decide (h ≤ n) || decide (h ≤ c))) (some (.slice b (k + l.toNat * sz) (h.toNat - l.toNat) sz (c - l.toNat) ex)) none
        | _, _ => none
      | none, some h, some m => match intA tm h, intA tm m with
        | some h, some m => cond (decide (0 ≤ h) && decide (h ≤ m) && (decide (m ≤ n) || decide (m ≤ c))) (some (.slice b k h.toNat sz m.toNat true)) none
        | _, _ => none
      | _, _, _ => none) none
    | none => none
  | _ => none
def zcells (P : Program) (t : TypeId) : Option (List AV) := match P.info? t with
  | some i => match i.zero with
    | some z => some (AV.cells (.lit z))
    | none => none
  | none => none
def evP (tm : Tm) : List (Nat × Operand) → Option (List (Nat × AV))
  | [] => some []
  | (i, x) :: l => match evA tm x with
    | some a => match evP tm l with
      | some as => some ((i, a) :: as)
      | none => none
    | none => none
def sizesA (P : Program) : List Field → Option (List (Nat × Nat))
  | [] => some []
  | f :: fs => match P.info? f.type with
    | some i => match sizesA P fs with
      | some r => some ((f.offset, i.size) :: r)
      | none => none
    | none => none
def buildA (P : Program) (tm : Tm) (t : TypeId) (parts : List (Nat × Operand)) : Option AV := match zcells P t, evP tm parts with
  | some z, some ps => match P.underlying t with
    | some (.struct fs) => match sizesA P fs.toList with
      | some l => match fillA (l[·]?) z ps with
        | some r => some (.agg r)
        | none => none
      | none => none
    | some (.array _ e) => match P.info? e with
      | some i => match fillA (fun k => some (k * i.size, i.size)) z ps with
        | some r => some (.agg r)
        | none => none
      | none => none
    | _ => none
  | _, _ => none
/-- nil or not? -/
def nilA (d : Option TypeDesc) : AV → AV → Option Bool
  | .ptr .., .lit (.pointer none) => match d with
    | some (.pointer _) => some false
    | _ => none
  | .slice .., .lit (.slice none _ _) => match d with
    | some (.slice _) => some false
    | _ => none
  | .map _, .lit (.map none) => match d with
    | some (.map _ _) => some false
    | _ => none
  | .iface .., .lit .nilIface => match d with
    | some (.interface _) => some false
    | _ => none
  | .func .., .lit .nilFunc => match d with
    | some (.func ..) => some false
    | _ => none
  | _, _ => none
/-- a number between two others against one that is known -/
def ivC (op : BinOp) (lo hi n : Int) : Option Bool := match op with
  | .lss => cond (decide (hi < n)) (some true) (cond (decide (n ≤ lo)) (some false) none)
  | .leq => cond (decide (hi ≤ n)) (some true) (cond (decide (n < lo)) (some false) none)
  | .gtr => cond (decide (n < lo)) (some true) (cond (decide (hi ≤ n)) (some false) none)
  | .geq => cond (decide (n ≤ lo)) (some true) (cond (decide (hi < n)) (some false) none)
  | .eql => cond (decide (hi < n) || decide (n < lo)) (some false) none
  | .neq => cond (decide (hi < n) || decide (n < lo)) (some true) none
  | _ => none
def flipA : BinOp → BinOp
  | .lss => .gtr
  | .leq => .geq
  | .gtr => .lss
  | .geq => .leq
  | op => op
def ivA (op : BinOp) : AV → AV → Option Bool
  | .ival k lo hi, .lit (.int k' n) => cond (decide (k = k')) (ivC op lo hi n) none
  | .lit (.int k' n), .ival k lo hi => cond (decide (k = k')) (ivC (flipA op) lo hi n) none
  | .same _ k lo hi, .lit (.int k' n) => cond (decide (k = k')) (ivC op lo hi n) none
  | .lit (.int k' n), .same _ k lo hi => cond (decide (k = k')) (ivC (flipA op) lo hi n) none
  | .same i k _ _, .same j k' _ _ => cond (Nat.beq i j && decide (k = k')) (match op with
    | .eql => some true
    | .neq => some false
    | _ => none) none
  | _, _ => none
def holdsA (ok : Bool) (a : AV) : AV := cond ok (.tuple [a, .lit (.bool true)]) a
def assertA (P : Program) (t asserted : TypeId) (ok : Bool) (a : AV) : Option AV := match P.underlying asserted with
  | some (.interface want) => match P.info? t with
    | some i => match Instr.missingMethod want i.methods with
      | none => some (holdsA ok (.iface t a))
      | some _ => none
    | none => none
  | some _ => cond (Nat.beq t asserted) (some (holdsA ok a)) (cond ok (match P.info? asserted with
      | some i => match i.zero with
        | some z => some (.tuple [.lit z, .lit (.bool false)])
        | none => none
      | none => none) none)
  | none => none
def pureA (P : Program) (tm : Tm) (o : Oper) : Option AV := match o.op with
  | .move x => evA tm x
  | .assign x => evA tm x
  | .pick c x y => match evA tm c with
    | some (.lit (.bool b)) => cond b (evA tm x) (evA tm y)
    | _ => none
  | .nilCheck x => match evA tm x with
    | some (.ptr b k) => some (.ptr b k)
    | some (.func f l m) => some (.func f l m)
    | some (.lit _) => genA P tm o
    | _ => none
  | .fieldAddr t x f => match evA tm x, P.underlying t with
    | some (.ptr b k), some (.struct fs) => match fs[f]? with
      | some fld => match P.info? fld.type with
        | some i => cond (Nat.beq i.size 0) none (some (.ptr b (k + fld.offset)))
        | none => none
      | none => none
    | _, _ => none
  | .indexAddr t x i => match intA tm i with
    | some n => match evA tm x, P.underlying t with
      | some (.slice b k len sz _ _), some (.slice e) => match P.info? e with
        | some inf => cond (decide (0 ≤ n) && decide (n < len) && Nat.beq inf.size sz) (some (.ptr b (k + n.toNat * sz))) none
        | none => none
      | some (.ptr b k), some (.array len e) => match P.info? e with
        | some inf => cond (decide (0 ≤ n) && decide (n < len)) (some (.ptr b (k + n.toNat * inf.size))) none
        | none => none
      | _, _ => none
    | none => none
  | .slice t x lo hi mx => match evA tm x with
    | some (.slice b k n sz c ex) => sliceA P tm t b k n sz c ex lo hi mx
    | some (.lit _) => genA P tm o
    | _ => none
  | .field t x f => match evA tm x with
    | some (.agg l) => match P.underlying t with
      | some (.struct fs) => match fs[f]? with
        | some fld => partA P fld.type l fld.offset
        | none => none
      | _ => none
    | some (.lit _) => genA P tm o
    | _ => none
  | .index t x i => match evA tm x with
    | some (.agg l) => match P.underlying t, intA tm i with
      | some (.array len e), some n => match P.info? e with
        | some inf => cond (decide (0 ≤ n) && decide (n < len)) (partA P e l (n.toNat * inf.size)) none
        | none => none
      | _, _ => none
    | some (.lit _) => genA P tm o
    | _ => none
  | .extract x i => match evA tm x with
    | some (.tuple l) => l[i]?
    | some (.lit _) => genA P tm o
    | _ => none
  | .build t ps => cond (plain tm (ps.toList.map (·.2))) (genA P tm o) (buildA P tm t ps.toList)
  | .makeFunc (.func f) first caps => match evL tm first.toList, evL tm caps.toList with
    | some l, some m => some (.func f l m)
    | _, _ => none
  | .binOp op t x y _ => match evA tm x, evA tm y with
    | some u, some v => match nilA (P.underlying t) u v with
      | some b => match op with
        | .eql => some (.lit (.bool b))
        | .neq => some (.lit (.bool !b))
        | _ => none
      | none => match ivA op u v with
        | some b => some (.lit (.bool b))
        | none => genA P tm o
    | _, _ => none
  | .call { callee := .builtin .len, args := ⟨[x]⟩, argTypes := ⟨[t]⟩ } => match evA tm x with
    | some (.slice _ _ n _ _ _) => match P.underlying t with
      | some (.slice _) => some (.lit (.int .i64 n))
      | _ => none
    | some (.lit _) => genA P tm o
    | _ => none
  | .call { callee := .builtin .cap, args := ⟨[x]⟩, argTypes := ⟨[t]⟩ } => match evA tm x with
    | some (.slice _ _ _ _ c true) => match P.underlying t with
      | some (.slice _) => some (.lit (.int .i64 c))
      | _ => none
    | some (.lit _) => genA P tm o
    | _ => none
  | .call { callee := .builtin .min, .. } => genA P tm o
  | .call { callee := .builtin .max, .. } => genA P tm o
  | .unOp .. => genA P tm o
  | .convert .. => genA P tm o
  | .makeInterface t x => cond (plain tm [x]) (genA P tm o) (match evA tm x with
    | some a => match P.underlying t with
      | some (.interface _) => none
      | some _ => some (.iface t a)
      | none => none
    | none => none)
  | .typeAssert x _ t ok => match evA tm x with
    | some (.iface d a) => assertA P d t ok a
    | _ => genA P tm o
  | _ => none

theorem add0 (B o n : Nat) : (⟨B, o, none⟩ : Addr).add n = ⟨B, o + n, none⟩ := add_mk B o n
theorem pure_of {P : Program} {o : Oper} {av : AV} {e : Env} {a : Act} {p : Pur} (hp : pureOp P a.eval o = some p) (h : p.then fun v => av.rep e v) : ∃ v, av.rep e v ∧ ∀ w, (execOp a.eval o).run P w = .ok (.value v) w := by
  obtain ⟨v, h1, _, h2⟩ := pureOp_run hp h
  exact ⟨v, h1, h2⟩
theorem sliceA_ok {P : Program} {tm : Tm} {o : Oper} {t : TypeId} {x : Operand} {lo hi mx : Option Operand} {b k n sz c : Nat} {ex : Bool} {av : AV} (ho : o.op = .slice t x lo hi mx) (h : sliceA P tm t b k n sz c ex lo hi mx = some av)
    (hx : evA tm x = some (.slice b k n sz c ex)) : PureR P tm o av := by
  intro e a ht
  have hr := ht _ (by simp [ho, Op.operands]) _ hx
  simp only [AV.rep] at hr
  obtain ⟨B, tt, kk, A, h1, h2, h3, h4, h5, h6, h7⟩ := hr
  unfold sliceA at h
  split at h
  case h_2 => cases h
  rename_i el hu
  split at h
  case h_2 => cases h
  rename_i inf hi
  cases hb : Nat.beq inf.size sz with
  | false => rw [hb] at h; cases h
  | true =>
  rw [hb] at h
  have hsz : inf.size = sz := Nat.eq_of_beq_eq_true hb
  simp only [cond_true] at h
  have key : ∀ (l h' : Nat), l ≤ h' → h' ≤ kk → (AV.slice b (k + l * sz) (h' - l) sz (c - l) ex).rep e (.slice (subBase (some A) l kk inf.size) (h' - l) (kk - l)) := by
    intro l h' g1 g2
    simp only [AV.rep]
    by_cases hk : kk = l
    · subst hk
      refine ⟨B, tt, 0, A, h1, by simp [subBase], .inr rfl, by omega, by omega, fun hx => by have := h6 hx; omega, ?_⟩
      simp only [Nat.zero_mul, Nat.add_zero]; omega
    · rcases h3 with rfl | h3
      · refine ⟨B, tt, kk - l, ⟨B, k + l * sz, none⟩, h1, ?_, .inl rfl, by omega, by omega, fun hx => by have := h6 hx; omega, ?_⟩
        · unfold subBase; rw [if_neg hk, hsz]; simp [add0]
        · have : l * sz + (kk - l) * sz = kk * sz := by rw [← Nat.add_mul]; congr 1; omega
          omega
      · omega
  have hop : ∀ p, pureOp P a.eval o = some p → (p.then fun v => av.rep e v) → ∃ v, av.rep e v ∧ ∀ w, (execOp a.eval o).run P w = .ok (.value v) w := fun p => pure_of (e := e)
  split at h
  · cases h
    refine hop (.when True (.slice (subBase (some A) 0 kk inf.size) (n - 0) (kk - 0))) (by simp only [pureOp, ho, hu, h2, bounds, Option.map_none, hi]) ⟨trivial, ?_⟩
    have := key 0 n (by omega) h4
    simpa using this
  · rename_i l
    split at h
    · rename_i l' hl
      cases hc : (decide (0 ≤ l') && decide (l' ≤ (n : Int))) with
      | false => rw [hc] at h; cases h
      | true =>
        rw [hc] at h; cases h
        simp only [Bool.and_eq_true, decide_eq_true_eq] at hc
        obtain ⟨kd, hl⟩ := intA_eval ht (by simp [ho, Op.operands]) hl
        exact hop (.when (0 ≤ l' ∧ l' ≤ (n : Int)) (.slice (subBase (some A) l'.toNat kk inf.size) (n - l'.toNat) (kk - l'.toNat))) (by simp only [pureOp, ho, hu, h2, bounds, Option.map_none, Option.map_some, hl, hi]) ⟨⟨hc.1, hc.2⟩, key l'.toNat n (by omega) h4⟩
    · cases h
  · rename_i l
    split at h
    · rename_i l' hl
      cases hc : (decide (0 ≤ l') && (decide (l' ≤ (n : Int)) || decide (l' ≤ (c : Int)))) with
      | false => rw [hc] at h; cases h
      | true =>
        rw [hc] at h; cases h
        simp only [Bool.and_eq_true, Bool.or_eq_true, decide_eq_true_eq] at hc
        obtain ⟨kd, hl⟩ := intA_eval ht (by simp [ho, Op.operands]) hl
        refine hop (.when (0 ≤ l' ∧ l' ≤ (kk : Int)) (.slice (subBase (some A) 0 kk inf.size) (l'.toNat - 0) (kk - 0))) (by simp only [pureOp, ho, hu, h2, bounds, Option.map_none, Option.map_some, hl, hi]) ⟨⟨hc.1, by omega⟩, ?_⟩
        have := key 0 l'.toNat (by omega) (by omega)
        simpa using this
    · cases h
  · rename_i l l2
    split at h
    · rename_i l' h' hl hh
      cases hc : (decide (0 ≤ l') && decide (l' ≤ h') && (decide (h' ≤ (n : Int)) || decide (h' ≤ (c : Int)))) with
      | false => rw [hc] at h; cases h
      | true =>
        rw [hc] at h; cases h
        simp only [Bool.and_eq_true, Bool.or_eq_true, decide_eq_true_eq] at hc
        obtain ⟨kd, hl⟩ := intA_eval ht (by simp [ho, Op.operands]) hl
        obtain ⟨kd2, hh⟩ := intA_eval ht (by simp [ho, Op.operands]) hh
        exact hop (.when ((0 ≤ h' ∧ h' ≤ (kk : Int)) ∧ 0 ≤ l' ∧ l' ≤ (h'.toNat : Int)) (.slice (subBase (some A) l'.toNat kk inf.size) (h'.toNat - l'.toNat) (kk - l'.toNat))) (by simp only [pureOp, ho, hu, h2, bounds, Option.map_some, hl, hh, hi]) ⟨⟨⟨by omega, by omega⟩, hc.1.1, by omega⟩, key l'.toNat h'.toNat (by omega) (by omega)⟩
    · cases h
  · rename_i l l2
    split at h
    · rename_i h' m' hh hm
      cases hc : (decide (0 ≤ h') && decide (h' ≤ m') && (decide (m' ≤ (n : Int)) || decide (m' ≤ (c : Int)))) with
      | false => rw [hc] at h; cases h
      | true =>
        rw [hc] at h; cases h
        simp only [Bool.and_eq_true, Bool.or_eq_true, decide_eq_true_eq] at hc
        obtain ⟨kd, hh⟩ := intA_eval ht (by simp [ho, Op.operands]) hh
        obtain ⟨kd2, hm⟩ := intA_eval ht (by simp [ho, Op.operands]) hm
        refine hop (.when ((0 ≤ m' ∧ m' ≤ (kk : Int)) ∧ 0 ≤ h' ∧ h' ≤ (m'.toNat : Int)) (.slice (some A) h'.toNat m'.toNat)) (by simp only [pureOp, ho, hu, h2, hh, hm, hi]) ⟨⟨⟨by omega, by omega⟩, by omega, by omega⟩, ?_⟩
        simp only [AV.rep]
        refine ⟨B, tt, m'.toNat, A, h1, rfl, ?_, by omega, Nat.le_refl _, fun _ => rfl, ?_⟩
        · rcases h3 with h3 | h3
          · exact .inl h3
          · exact .inr (by omega)
        · have : m'.toNat * sz ≤ kk * sz := Nat.mul_le_mul_right _ (by omega)
          omega
    · cases h
  · cases h
theorem evP_ok {tm : Tm} {e : Env} {a : Act} : ∀ {l : List (Nat × Operand)} {as : List (Nat × AV)}, OpdR e tm a (l.map (·.2)) → evP tm l = some as →
    (l.map fun p => (p.1, a.eval p.2)).map (·.1) = as.map (·.1) ∧ AV.repL e (as.map (·.2)) ((l.map fun p => (p.1, a.eval p.2)).map (·.2))
  | [], _, _, h => by simp only [evP] at h; cases h; exact ⟨rfl, by simp [AV.repL]⟩
  | (i, x) :: l, _, ht, h => by
    simp only [evP] at h
    split at h
    · rename_i av hav
      split at h
      · rename_i as has
        cases h
        obtain ⟨h1, h2⟩ := evP_ok (ht.sub fun y hy => by simp only [List.map_cons]; exact List.mem_cons_of_mem _ hy) has
        refine ⟨by simp only [List.map_cons, h1], ?_⟩
        simp only [List.map_cons, AV.repL]
        exact ⟨_, _, rfl, ht x (by simp) _ hav, h2⟩
      · cases h
    · cases h
theorem zcells_ok {P : Program} {t : TypeId} {z : List AV} (h : zcells P t = some z) : ∃ v, (∀ e, AV.repL e z v.cells.toList) ∧ ∀ w, (zeroValue t).run P w = .ok v w := by
  unfold zcells at h
  split at h
  · rename_i i hi
    split at h
    · rename_i v hv
      cases h
      exact ⟨v, fun e => cells_rep (by simp [AV.rep]), fun w => by simp [zeroValue, typeInfo, hi, hv]⟩
    · cases h
  · cases h
theorem sizesA_ok {P : Program} : ∀ {fs : List Field} {r : List (Nat × Nat)}, sizesA P fs = some r → ∀ w, (fs.mapM fun f => (do pure (f.offset, ← sizeOf f.type) : Sem (Nat × Nat))).run P w = .ok r w
  | [], _, h, w => by simp only [sizesA] at h; cases h; rfl
  | f :: fs, _, h, w => by
    simp only [sizesA] at h
    split at h
    · rename_i i hi
      split at h
      · rename_i r hr
        cases h
        have := sizesA_ok hr w
        simp only [List.mapM_cons, Sem.run_bind, sizeOf, typeInfo, run_program, Result.andThen_ok, hi, Sem.run_pure] at this ⊢
        rw [this]; rfl
      · cases h
    · cases h
theorem buildA_ok {P : Program} {tm : Tm} {o : Oper} {t : TypeId} {ps : Array (Nat × Operand)} {av : AV} (ho : o.op = .build t ps) (h : buildA P tm t ps.toList = some av) : PureR P tm o av := by
  intro e a ht
  unfold buildA at h
  split at h
  case h_2 => cases h
  rename_i z as hz has
  obtain ⟨zv, hz1, hz2⟩ := zcells_ok hz
  obtain ⟨p1, p2⟩ := evP_ok (ht.sub fun y hy => by simpa [ho, Op.operands] using hy) has
  have hps : (ps.map fun (i, x) => (i, a.eval x)).toList = ps.toList.map fun p => (p.1, a.eval p.2) := by simp
  split at h
  · rename_i fs hu
    split at h
    case h_2 => cases h
    rename_i l hl
    split at h
    case h_2 => cases h
    rename_i r hr
    cases h
    obtain ⟨cs', g1, g2⟩ := fillA_ok (cs := zv.cells) hr (hz1 e) p1 p2
    refine ⟨.agg cs', by simp only [AV.rep]; exact ⟨cs'.toList, rfl, g2⟩, fun w => ?_⟩
    have hs := sizesA_ok (P := P) hl w
    have hm : (fs.mapM fun f => (do pure (f.offset, ← sizeOf f.type) : Sem (Nat × Nat))).run P w = .ok l.toArray w := by
      rw [Array.mapM_eq_mapM_toList, Sem.run_map, hs]; rfl
    have hg : (fun i : Nat => l.toArray[i]?) = (fun i : Nat => l[i]?) := by funext i; simp
    simp only [execOp, ho, Instr.build, Sem.run_bind, hz2 w, Result.andThen_ok, underlying, run_program, hu, Sem.run_pure, hm, hps, hg, g1]
  · rename_i n el hu
    split at h
    case h_2 => cases h
    rename_i i hi
    split at h
    case h_2 => cases h
    rename_i r hr
    cases h
    obtain ⟨cs', g1, g2⟩ := fillA_ok (cs := zv.cells) hr (hz1 e) p1 p2
    refine ⟨.agg cs', by simp only [AV.rep]; exact ⟨cs'.toList, rfl, g2⟩, fun w => ?_⟩
    simp only [execOp, ho, Instr.build, Sem.run_bind, hz2 w, Result.andThen_ok, underlying, run_program, hu, Sem.run_pure, sizeOf, typeInfo, hi, hps, g1]
  · cases h
theorem nilA_ok {P : Program} {tm : Tm} {o : Oper} {t yt : TypeId} {op : BinOp} {x y : Operand} {u v : AV} {b : Bool} (ho : o.op = .binOp op t x y yt) (hx : evA tm x = some u) (hy : evA tm y = some v) (hn : nilA (P.underlying t) u v = some b) :
    (op = .eql → PureR P tm o (.lit (.bool b))) ∧ (op = .neq → PureR P tm o (.lit (.bool !b))) := by
  unfold nilA at hn
  split at hn
  · split at hn
    case h_2 => cases hn
    rename_i el hu
    cases hn
    constructor
    all_goals
      rintro rfl e a ht
      have rx := ht x (by simp [ho, Op.operands]) _ hx
      have ry := ht y (by simp [ho, Op.operands]) _ hy
      simp only [AV.rep] at rx ry
      obtain ⟨B, tt, h1, h2⟩ := rx
      refine pure_of (e := e) (p := .val (.bool _)) (by simp only [pureOp, ho, h2, ry, hu, isNilI, Bool.and_false, cond_false]; rfl) ?_
      simp [Pur.then, AV.rep]
  · split at hn
    case h_2 => cases hn
    rename_i el hu
    cases hn
    constructor
    all_goals
      rintro rfl e a ht
      have rx := ht x (by simp [ho, Op.operands]) _ hx
      have ry := ht y (by simp [ho, Op.operands]) _ hy
      simp only [AV.rep] at rx ry
      obtain ⟨B, tt, k, A, h1, h2, _⟩ := rx
      refine pure_of (e := e) (p := .val (.bool _)) (by simp only [pureOp, ho, h2, ry, hu, isNilI, Bool.and_false, cond_false]; rfl) ?_
      simp [Pur.then, AV.rep]
  · split at hn
    case h_2 => cases hn
    rename_i el hu
    cases hn
    constructor
    all_goals
      rintro rfl e a ht
      have rx := ht x (by simp [ho, Op.operands]) _ hx
      have ry := ht y (by simp [ho, Op.operands]) _ hy
      simp only [AV.rep] at rx ry
      obtain ⟨B, tt, h1, h2⟩ := rx
      refine pure_of (e := e) (p := .val (.bool _)) (by simp only [pureOp, ho, h2, ry, hu, isNilI, Bool.and_false, cond_false]; rfl) ?_
      simp [Pur.then, AV.rep]
  · split at hn
    case h_2 => cases hn
    rename_i el hu
    cases hn
    constructor
    all_goals
      rintro rfl e a ht
      have rx := ht x (by simp [ho, Op.operands]) _ hx
      have ry := ht y (by simp [ho, Op.operands]) _ hy
      simp only [AV.rep] at rx ry
      obtain ⟨B, h2, _⟩ := rx
      refine ⟨.bool _, by (simp only [AV.rep]; rfl), fun w => ?_⟩
      have hq : ∀ (t' : TypeId) (v : Value), Sem.run P (Op.equalIn Op.maxDepth t (.iface t' v) .nilIface) w = .ok false w := by
        have h0 : ∀ (d : Nat) (t' : TypeId) (v : Value), (Op.equalIn (d + 1) t (.iface t' v) .nilIface).run P w = .ok false w := fun d t' v => by simp [Op.equalIn, underlying, hu]
        exact fun t' v => h0 9999 t' v
      simp [execOp, ho, h2, ry, eqGuard, binOp, Op.equal, underlying, hu, hq]
  · split at hn
    case h_2 => cases hn
    rename_i ps rs vr hu
    cases hn
    constructor
    all_goals
      rintro rfl e a ht
      have rx := ht x (by simp [ho, Op.operands]) _ hx
      have ry := ht y (by simp [ho, Op.operands]) _ hy
      simp only [AV.rep] at rx ry
      obtain ⟨vs, us, h2, _⟩ := rx
      refine ⟨.bool _, by (simp only [AV.rep]; rfl), fun w => ?_⟩
      have hq : ∀ (a : Value) (l m : Array Value) (f : FuncId), Sem.run P (Op.equalIn Op.maxDepth t (.func (.func f) l m) .nilFunc) w = .ok false w := by
        have h0 : ∀ (d : Nat) (l m : Array Value) (f : FuncId), (Op.equalIn (d + 1) t (.func (.func f) l m) .nilFunc).run P w = .ok false w := fun d l m f => by simp [Op.equalIn, underlying, hu]
        exact fun _ l m f => h0 9999 l m f
      simp [execOp, ho, h2, ry, eqGuard, binOp, Op.equal, underlying, hu, hq undef]
  · cases hn

theorem assertA_ok {P : Program} {tm : Tm} {o : Oper} {x : Operand} {xt d t : TypeId} {ok : Bool} {a av : AV} (ho : o.op = .typeAssert x xt t ok) (hx : evA tm x = some (.iface d a)) (h : assertA P d t ok a = some av) : PureR P tm o av := by
  intro e ac ht
  have hr := ht _ (by simp [ho, Op.operands]) _ hx
  simp only [AV.rep] at hr
  obtain ⟨u, h2, h3⟩ := hr
  have holds : ∀ {b : AV} {v : Value}, b.rep e v → (holdsA ok b).rep e (if ok then .tuple #[v, .bool true] else v) := by
    intro b v hb
    cases ok with
    | true => simp only [holdsA, cond_true, if_true, AV.rep]; exact ⟨[v, .bool true], rfl, by simp only [AV.repL]; exact ⟨_, _, rfl, hb, _, _, rfl, by simp only [AV.rep], rfl⟩⟩
    | false => exact hb
  unfold assertA at h
  split at h
  · rename_i want hu
    split at h
    case h_2 => cases h
    rename_i i hi
    split at h
    case h_2 => cases h
    rename_i hm
    cases h
    refine ⟨_, holds (b := .iface d a) (v := .iface d u) (by simp only [AV.rep]; exact ⟨u, rfl, h3⟩), fun w => ?_⟩
    simp [execOp, ho, Instr.typeAssert, h2, underlying, hu, typeInfo, hi, hm]
  · rename_i ds hne hu
    cases hb : Nat.beq d t with
    | true =>
      rw [hb] at h
      simp only [cond_true] at h
      cases h
      have := Nat.eq_of_beq_eq_true hb
      subst this
      refine ⟨_, holds h3, fun w => ?_⟩
      cases ds <;> first | exact absurd rfl (hne _) | simp [execOp, ho, Instr.typeAssert, h2, underlying, hu]
    | false =>
      rw [hb] at h
      simp only [cond_false] at h
      have hdt : d ≠ t := fun e => by subst e; simp at hb
      cases ok with
      | false => cases h
      | true =>
        simp only [cond_true] at h
        split at h
        case h_2 => cases h
        rename_i i hi
        split at h
        case h_2 => cases h
        rename_i z hz
        cases h
        refine ⟨.tuple #[z, .bool false], by simp only [AV.rep]; exact ⟨[z, .bool false], rfl, by simp only [AV.repL, AV.rep]; exact ⟨_, _, rfl, rfl, _, _, rfl, rfl, rfl⟩⟩, fun w => ?_⟩
        cases ds <;> first | exact absurd rfl (hne _) | simp [execOp, ho, Instr.typeAssert, h2, underlying, hu, hdt, zeroValue, typeInfo, hi, hz]
  · cases h
theorem ivC_ok {op : BinOp} {lo hi m n : Int} {b : Bool} (h : ivC op lo hi n = some b) (h1 : lo ≤ m) (h2 : m ≤ hi) {P : Program} {t : TypeId} {k : IntKind} (w : World) : (binOp op t (.int k m) (.int k n)).run P w = .ok (.bool b) w := by
  unfold ivC at h
  split at h
  · cases c1 : decide (hi < n) with
    | true =>
      rw [c1] at h; cases h
      have := of_decide_eq_true c1
      simp [binOp, Op.intArith, Op.intBits, Op.intCmp]; omega
    | false =>
      rw [c1] at h
      cases c2 : decide (n ≤ lo) with
      | true => rw [c2] at h; cases h; have := of_decide_eq_true c2; simp [binOp, Op.intArith, Op.intBits, Op.intCmp]; omega
      | false => rw [c2] at h; cases h
  · cases c1 : decide (hi ≤ n) with
    | true =>
      rw [c1] at h; cases h
      have := of_decide_eq_true c1
      simp [binOp, Op.intArith, Op.intBits, Op.intCmp]; omega
    | false =>
      rw [c1] at h
      cases c2 : decide (n < lo) with
      | true => rw [c2] at h; cases h; have := of_decide_eq_true c2; simp [binOp, Op.intArith, Op.intBits, Op.intCmp]; omega
      | false => rw [c2] at h; cases h
  · cases c1 : decide (n < lo) with
    | true =>
      rw [c1] at h; cases h
      have := of_decide_eq_true c1
      simp [binOp, Op.intArith, Op.intBits, Op.intCmp]; omega
    | false =>
      rw [c1] at h
      cases c2 : decide (hi ≤ n) with
      | true => rw [c2] at h; cases h; have := of_decide_eq_true c2; simp [binOp, Op.intArith, Op.intBits, Op.intCmp]; omega
      | false => rw [c2] at h; cases h
  · cases c1 : decide (n ≤ lo) with
    | true =>
      rw [c1] at h; cases h
      have := of_decide_eq_true c1
      simp [binOp, Op.intArith, Op.intBits, Op.intCmp]; omega
    | false =>
      rw [c1] at h
      cases c2 : decide (hi < n) with
      | true => rw [c2] at h; cases h; have := of_decide_eq_true c2; simp [binOp, Op.intArith, Op.intBits, Op.intCmp]; omega
      | false => rw [c2] at h; cases h
  · cases c1 : (decide (hi < n) || decide (n < lo)) with
    | true =>
      rw [c1] at h; cases h
      simp only [Bool.or_eq_true, decide_eq_true_eq] at c1
      simp [binOp, Op.intArith, Op.intBits, Op.intCmp]; omega
    | false => rw [c1] at h; cases h
  · cases c1 : (decide (hi < n) || decide (n < lo)) with
    | true =>
      rw [c1] at h; cases h
      simp only [Bool.or_eq_true, decide_eq_true_eq] at c1
      simp [binOp, Op.intArith, Op.intBits, Op.intCmp]; omega
    | false => rw [c1] at h; cases h
  · cases h
theorem flipA_ok {op : BinOp} {m n : Int} {b : Bool} {P : Program} {t : TypeId} {k : IntKind} {w : World} (hop : (∃ lo hi, (ivC (flipA op) lo hi n).isSome = true)) (h : (binOp (flipA op) t (.int k m) (.int k n)).run P w = .ok (.bool b) w) : (binOp op t (.int k n) (.int k m)).run P w = .ok (.bool b) w := by
  obtain ⟨lo, hi, hop⟩ := hop
  cases op <;> first | (simp [flipA, ivC] at hop; done) | skip
  all_goals
    simp only [flipA] at h
    simp [binOp, Op.intArith, Op.intBits, Op.intCmp] at h ⊢
    rw [← h] <;> first | rfl | exact BEq.comm | exact bne_comm | exact decide_eq_decide.2 eq_comm | (congr 1; exact decide_eq_decide.2 eq_comm) | (congr 1; exact BEq.comm)
theorem ivA_ok {P : Program} {tm : Tm} {o : Oper} {t yt : TypeId} {op : BinOp} {x y : Operand} {u v : AV} {b : Bool} (ho : o.op = .binOp op t x y yt) (hx : evA tm x = some u) (hy : evA tm y = some v) (hn : ivA op u v = some b) : PureR P tm o (.lit (.bool b)) := by
  intro e a ht
  have rx := ht x (by simp [ho, Op.operands]) _ hx
  have ry := ht y (by simp [ho, Op.operands]) _ hy
  refine ⟨.bool b, by simp only [AV.rep], fun w => ?_⟩
  unfold ivA at hn
  split at hn
  · rename_i k lo hi k' n
    simp only [AV.rep] at rx ry
    obtain ⟨m, rx, h1, h2⟩ := rx
    cases hk : decide (k = k') with
    | false => rw [hk] at hn; cases hn
    | true =>
      rw [hk] at hn
      have := of_decide_eq_true hk
      subst this
      have hr := ivC_ok hn h1 h2 (P := P) (t := t) (k := k) w
      have hg : (eqGuard op t x y (.int k m) (.int k n)).run P w = .ok () w := by cases op <;> rfl
      simp only [execOp, ho, rx, ry, Sem.run_bind, hg, hr, Result.andThen_ok, Sem.run_pure]
  · rename_i k' n k lo hi
    simp only [AV.rep] at rx ry
    obtain ⟨m, ry, h1, h2⟩ := ry
    cases hk : decide (k = k') with
    | false => rw [hk] at hn; cases hn
    | true =>
      rw [hk] at hn
      have := of_decide_eq_true hk
      subst this
      have hr := flipA_ok ⟨lo, hi, by rw [show ivC (flipA op) lo hi n = some b from hn]; rfl⟩ (ivC_ok hn h1 h2 (P := P) (t := t) (k := k) w)
      have hg : (eqGuard op t x y (.int k n) (.int k m)).run P w = .ok () w := by cases op <;> rfl
      simp only [execOp, ho, rx, ry, Sem.run_bind, hg, hr, Result.andThen_ok, Sem.run_pure]
  · rename_i i k lo hi k' n
    simp only [AV.rep] at rx ry
    obtain ⟨B, tt, _, rx, h1, h2⟩ := rx
    generalize decI B tt = m at rx h1 h2
    cases hk : decide (k = k') with
    | false => rw [hk] at hn; cases hn
    | true =>
      rw [hk] at hn
      have := of_decide_eq_true hk
      subst this
      have hr := ivC_ok hn h1 h2 (P := P) (t := t) (k := k) w
      have hg : (eqGuard op t x y (.int k m) (.int k n)).run P w = .ok () w := by cases op <;> rfl
      simp only [execOp, ho, rx, ry, Sem.run_bind, hg, hr, Result.andThen_ok, Sem.run_pure]
  · rename_i k' n i k lo hi
    simp only [AV.rep] at rx ry
    obtain ⟨B, tt, _, ry, h1, h2⟩ := ry
    generalize decI B tt = m at ry h1 h2
    cases hk : decide (k = k') with
    | false => rw [hk] at hn; cases hn
    | true =>
      rw [hk] at hn
      have := of_decide_eq_true hk
      subst this
      have hr := flipA_ok ⟨lo, hi, by rw [show ivC (flipA op) lo hi n = some b from hn]; rfl⟩ (ivC_ok hn h1 h2 (P := P) (t := t) (k := k) w)
      have hg : (eqGuard op t x y (.int k n) (.int k m)).run P w = .ok () w := by cases op <;> rfl
      simp only [execOp, ho, rx, ry, Sem.run_bind, hg, hr, Result.andThen_ok, Sem.run_pure]
  · rename_i i k lo hi j k' lo' hi'
    simp only [AV.rep] at rx ry
    obtain ⟨B, tt, hi1, rx, _⟩ := rx
    obtain ⟨B', tt', hi2, ry, _⟩ := ry
    cases hk : (Nat.beq i j && decide (k = k')) with
    | false => rw [hk] at hn; cases hn
    | true =>
      rw [hk] at hn
      simp only [Bool.and_eq_true, decide_eq_true_eq] at hk
      have h1 := Nat.eq_of_beq_eq_true hk.1
      have h2 := hk.2
      subst h1 h2
      rw [hi1] at hi2
      cases hi2
      generalize decI B tt = m at rx ry
      simp only [cond_true] at hn
      have hg : (eqGuard op t x y (.int k m) (.int k m)).run P w = .ok () w := by cases op <;> rfl
      have hr : (binOp op t (.int k m) (.int k m)).run P w = .ok (.bool b) w := by
        split at hn
        · cases hn; simp [binOp, Op.intArith, Op.intBits, Op.intCmp]
        · cases hn; simp [binOp, Op.intArith, Op.intBits, Op.intCmp]
        · cases hn
      simp only [execOp, ho, rx, ry, Sem.run_bind, hg, hr, Result.andThen_ok, Sem.run_pure]
  · cases hn
theorem pureA_ok {P : Program} {tm : Tm} {o : Oper} {av : AV} (h : pureA P tm o = some av) : PureR P tm o av := by
  have hc : ∀ {x y : Option AV} {b : Bool}, cond b x y = some av → (b = true ∧ x = some av) ∨ (b = false ∧ y = some av) := by
    intro x y b h; cases b
    · exact .inr ⟨rfl, h⟩
    · exact .inl ⟨rfl, h⟩
  unfold pureA at h
  split at h
  · rename_i x ho
    exact fun e a ht => ⟨_, ht _ (by simp [ho, Op.operands]) _ h, fun w => by simp only [execOp, ho]; rfl⟩
  · rename_i x ho
    exact fun e a ht => ⟨_, ht _ (by simp [ho, Op.operands]) _ h, fun w => by simp only [execOp, ho]; rfl⟩
  · rename_i c x y ho
    split at h
    · rename_i b hb
      intro e a ht
      have hbv := ht _ (by simp [ho, Op.operands]) _ hb
      simp only [AV.rep] at hbv
      cases b with
      | true => exact ⟨_, ht _ (by simp [ho, Op.operands]) _ h, fun w => by simp only [execOp, ho, hbv, asBool]; rfl⟩
      | false => exact ⟨_, ht _ (by simp [ho, Op.operands]) _ h, fun w => by simp only [execOp, ho, hbv, asBool]; rfl⟩
    · cases h
  · rename_i x ho
    split at h
    · rename_i b k hx
      cases h
      intro e a ht
      have hr := ht _ (by simp [ho, Op.operands]) _ hx
      have hr' := hr
      simp only [AV.rep] at hr'
      obtain ⟨B, tt, h1, h2⟩ := hr'
      exact ⟨_, hr, fun w => by simp only [execOp, ho, h2]; rfl⟩
    · rename_i f l m hx
      cases h
      intro e a ht
      have hr := ht _ (by simp [ho, Op.operands]) _ hx
      have hr' := hr
      simp only [AV.rep] at hr'
      obtain ⟨vs, us, h2, _⟩ := hr'
      exact ⟨_, hr, fun w => by simp only [execOp, ho, h2]; rfl⟩
    · exact genA_ok h
    · cases h
  · rename_i t x f ho
    split at h
    case h_2 => cases h
    rename_i b k fs hx hu
    split at h
    case h_2 => cases h
    rename_i fld hf
    split at h
    case h_2 => cases h
    rename_i i hi
    rcases hc h with ⟨_, h⟩ | ⟨h0, h⟩
    · cases h
    cases h
    intro e a ht
    have hr := ht _ (by simp [ho, Op.operands]) _ hx
    simp only [AV.rep] at hr
    obtain ⟨B, tt, h1, h2⟩ := hr
    have hz : i.size ≠ 0 := fun e => by rw [e] at h0; cases h0
    obtain ⟨n, hn⟩ := Nat.exists_eq_succ_of_ne_zero hz
    refine pure_of (e := e) (p := .ptr (some ⟨B, k, none⟩) fun a => .pointer (some (a.add fld.offset))) (by simp only [pureOp, ho, hu, hf, hi, hn, h2]) ?_
    simp only [Pur.then, ptrOr, AV.rep, add0]
    exact ⟨B, tt, h1, rfl⟩
  · rename_i t x i ho
    split at h
    case h_2 => cases h
    rename_i n hn
    split at h
    · rename_i b k len sz c ex el hx hu
      split at h
      case h_2 => cases h
      rename_i inf hi
      rcases hc h with ⟨hb, h⟩ | ⟨_, h⟩
      rotate_left
      · cases h
      cases h
      simp only [Bool.and_eq_true, decide_eq_true_eq] at hb
      obtain ⟨⟨b1, b2⟩, b3⟩ := hb
      have hsz := Nat.eq_of_beq_eq_true b3
      intro e a ht
      obtain ⟨kd, hn⟩ := intA_eval ht (by simp [ho, Op.operands]) hn
      have hr := ht _ (by simp [ho, Op.operands]) _ hx
      simp only [AV.rep] at hr
      obtain ⟨B, tt, kk, A, h1, h2, h3, h4, _⟩ := hr
      rcases h3 with rfl | h3
      rotate_left
      · omega
      refine pure_of (e := e) (p := .ptrWhen (some ⟨B, k, none⟩) (0 ≤ n ∧ n < len) fun a => .pointer (some (a.add (n.toNat * inf.size)))) (by simp only [pureOp, ho, hu, h2, hn, hi]) ⟨⟨b1, b2⟩, ?_⟩
      simp only [ptrOr, AV.rep, add0, hsz]
      exact ⟨B, tt, h1, rfl⟩
    · rename_i b k len el hx hu
      split at h
      case h_2 => cases h
      rename_i inf hi
      rcases hc h with ⟨hb, h⟩ | ⟨_, h⟩
      rotate_left
      · cases h
      cases h
      simp only [Bool.and_eq_true, decide_eq_true_eq] at hb
      intro e a ht
      obtain ⟨kd, hn⟩ := intA_eval ht (by simp [ho, Op.operands]) hn
      have hr := ht _ (by simp [ho, Op.operands]) _ hx
      simp only [AV.rep] at hr
      obtain ⟨B, tt, h1, h2⟩ := hr
      refine pure_of (e := e) (p := .ptrWhen (some ⟨B, k, none⟩) (0 ≤ n ∧ n < len) fun a => .pointer (some (a.add (n.toNat * inf.size)))) (by simp only [pureOp, ho, hu, h2, hn, hi]) ⟨hb, ?_⟩
      simp only [ptrOr, AV.rep, add0]
      exact ⟨B, tt, h1, rfl⟩
    · cases h
  · rename_i t x lo hi mx ho
    split at h
    · rename_i hx; exact sliceA_ok ho h hx
    · exact genA_ok h
    · cases h
  · rename_i t x f ho
    split at h
    · rename_i l hx
      split at h
      case h_2 => cases h
      rename_i fs hu
      split at h
      case h_2 => cases h
      rename_i fld hf
      intro e a ht
      have hr := ht _ (by simp [ho, Op.operands]) _ hx
      simp only [AV.rep] at hr
      obtain ⟨vs, h2, h3⟩ := hr
      obtain ⟨v, g1, g2⟩ := partA_ok h h3
      refine ⟨v, g1, fun w => ?_⟩
      simp only [execOp, ho, Instr.field, underlying, Sem.run_bind, run_program, Result.andThen_ok, hu, Sem.run_pure, hf, h2, asAgg, g2 w]
    · exact genA_ok h
    · cases h
  · rename_i t x i ho
    split at h
    · rename_i l hx
      split at h
      case h_2 => cases h
      rename_i len el n hu hn
      split at h
      case h_2 => cases h
      rename_i inf hi
      rcases hc h with ⟨hb, h⟩ | ⟨_, h⟩
      rotate_left
      · cases h
      simp only [Bool.and_eq_true, decide_eq_true_eq] at hb
      intro e a ht
      obtain ⟨kd, hn⟩ := intA_eval ht (by simp [ho, Op.operands]) hn
      have hr := ht _ (by simp [ho, Op.operands]) _ hx
      simp only [AV.rep] at hr
      obtain ⟨vs, h2, h3⟩ := hr
      obtain ⟨v, g1, g2⟩ := partA_ok h h3
      refine ⟨v, g1, fun w => ?_⟩
      simp only [execOp, ho, Instr.index, asIntOf, hn, underlying, Sem.run_bind, run_program, Result.andThen_ok, hu, Sem.run_pure, h2, hb.1, hb.2, and_self, if_true, sizeOf, typeInfo, hi, g2 w]
    · exact genA_ok h
    · cases h
  · rename_i x i ho
    split at h
    · rename_i l hx
      intro e a ht
      have hr := ht _ (by simp [ho, Op.operands]) _ hx
      simp only [AV.rep] at hr
      obtain ⟨vs, h2, h3⟩ := hr
      obtain ⟨v, g1, g2⟩ := repL_get h3 h
      refine ⟨v, g2, fun w => ?_⟩
      have : (⟨vs⟩ : Array Value)[i]? = some v := by simpa using g1
      simp only [execOp, ho, Instr.extract, h2, this]; rfl
    · exact genA_ok h
    · cases h
  · rename_i t ps ho
    rcases hc h with ⟨_, h⟩ | ⟨_, h⟩
    · exact genA_ok h
    · exact buildA_ok ho h
  · rename_i f first caps ho
    split at h
    case h_2 => cases h
    rename_i l m hl hm
    cases h
    intro e a ht
    refine ⟨.func (.func f) (first.map a.eval) (caps.map a.eval), ?_, fun w => by simp only [execOp, ho]; rfl⟩
    simp only [AV.rep]
    exact ⟨first.toList.map a.eval, caps.toList.map a.eval, by congr 1 <;> (apply Array.ext'; simp), evL_rep (ht.sub fun y hy => by simp only [ho, Op.operands, Array.toList_append, List.mem_append]; exact .inl hy) hl, evL_rep (ht.sub fun y hy => by simp only [ho, Op.operands, Array.toList_append, List.mem_append]; exact .inr hy) hm⟩
  · rename_i op t x y yt ho
    split at h
    case h_2 => cases h
    rename_i u v hx hy
    split at h
    · rename_i b hb
      obtain ⟨h1, h2⟩ := nilA_ok ho hx hy hb
      split at h
      · cases h; exact h1 rfl
      · cases h; exact h2 rfl
      · cases h
    · split at h
      · rename_i b hb
        cases h
        exact ivA_ok ho hx hy hb
      · exact genA_ok h
  · rename_i x t ho
    split at h
    · rename_i b k n sz c ex hx
      split at h
      case h_2 => cases h
      rename_i el hu
      cases h
      intro e a ht
      have hr := ht _ (by simp [ho, Op.operands, Call.operands]) _ hx
      simp only [AV.rep] at hr
      obtain ⟨B, tt, kk, A, h1, h2, _⟩ := hr
      refine ⟨.int .i64 n, by simp only [AV.rep], fun w => ?_⟩
      simp [execOp, ho, resolve, invoke, builtin, Builtin.len_, underlying, hu, h2, goInt]
    · exact genA_ok h
    · cases h
  · rename_i x t ho
    split at h
    · rename_i b k n sz c hx
      split at h
      case h_2 => cases h
      rename_i el hu
      cases h
      intro e a ht
      have hr := ht _ (by simp [ho, Op.operands, Call.operands]) _ hx
      simp only [AV.rep] at hr
      obtain ⟨B, tt, kk, A, h1, h2, _, _, _, h6, _⟩ := hr
      have := h6 trivial
      subst this
      refine ⟨.int .i64 kk, by simp only [AV.rep], fun w => ?_⟩
      simp [execOp, ho, resolve, invoke, builtin, Builtin.cap_, underlying, hu, h2, goInt]
    · exact genA_ok h
    · cases h
  · exact genA_ok h
  · exact genA_ok h
  · exact genA_ok h
  · exact genA_ok h
  · rename_i t x ho
    rcases hc h with ⟨_, h⟩ | ⟨_, h⟩
    · exact genA_ok h
    · split at h
      case h_2 => cases h
      rename_i a hx
      split at h
      · cases h
      · rename_i d hne hu
        cases h
        intro e ac ht
        refine ⟨.iface t (ac.eval x), by simp only [AV.rep]; exact ⟨_, rfl, ht _ (by simp [ho, Op.operands]) _ hx⟩, fun w => ?_⟩
        cases d <;> first | exact absurd rfl (hne _) | simp [execOp, ho, Instr.makeInterface, underlying, hu]
      · cases h
  · rename_i x xt t ok ho
    split at h
    · rename_i d a hx; exact assertA_ok ho hx h
    · exact genA_ok h
  · cases h
end Go.Am
