/- The conditions of Go code: a library of this claim. -/
import Derived.Test.YtfcemnnlmlggoaaGreatVcG
namespace Go.Vc
open Go.RowKit (Below)

/-- an object that no walk of a range over a function writes -/
def plainO : Obj → Bool
  | .deferred _ => false
  | .loop _ => false
  | _ => true
/-- all blocks but those of m are as they were -/
structure Keep (m : List Nat) (w w' : World) : Prop where
  os : w'.os = w.os
  tape : w'.tape = w.tape
  output : w'.output = w.output
  size : w.heap.size ≤ w'.heap.size
  block : ∀ k, k < w.heap.size → k ∉ m → w'.heap[k]? = w.heap[k]?
/-- cells, and all that lies below B, are as they were -/
structure Grown (B : Nat) (w w' : World) : Prop where
  os : w'.os = w.os
  tape : w'.tape = w.tape
  output : w'.output = w.output
  size : w.heap.size ≤ w'.heap.size
  block : ∀ k o, w.heap[k]? = some o → (k < B ∨ plainO o = true) → w'.heap[k]? = some o
theorem Grown.refl (B : Nat) (w : World) : Grown B w w := ⟨rfl, rfl, rfl, Nat.le_refl _, fun _ _ h _ => h⟩
theorem Grown.trans {B : Nat} {a b c : World} (h : Grown B a b) (k : Grown B b c) : Grown B a c :=
  ⟨k.os.trans h.os, k.tape.trans h.tape, k.output.trans h.output, Nat.le_trans h.size k.size, fun j o hj hc => k.block j o (h.block j o hj hc) hc⟩
theorem Grown.of {B : Nat} {W W' : World} {row : Option Nat} (hg : W.grownBy W' row) (hr : ∀ r, row = some r → B ≤ r ∧ ∃ o : Obj, W.heap[r]? = some o ∧ plainO o = false) : Grown B W W' := by
  refine ⟨hg.os, hg.tape, hg.output, hg.size, fun k o hk hc => ?_⟩
  rw [hg.block k (Array.getElem?_eq_some_iff.1 hk).1 (fun e => ?_)]
  · exact hk
  · obtain ⟨h1, o', h2, h3⟩ := hr k e.symm
    rw [hk] at h2
    cases h2
    rcases hc with h | h
    · omega
    · rw [h3] at h; cases h
/-- what lies below B, but for M, is as it was -/
structure KpM (M : List Nat) (B : Nat) (w w' : World) : Prop where
  os : w'.os = w.os
  tape : w'.tape = w.tape
  output : w'.output = w.output
  size : w.heap.size ≤ w'.heap.size
  block : ∀ k, k < B → k ∉ M → w'.heap[k]? = w.heap[k]?
theorem KpM.trans {M : List Nat} {B : Nat} {a b c : World} (h : KpM M B a b) (k : KpM M B b c) : KpM M B a c :=
  ⟨k.os.trans h.os, k.tape.trans h.tape, k.output.trans h.output, Nat.le_trans h.size k.size, fun j hj hm => (k.block j hj hm).trans (h.block j hj hm)⟩
theorem KpM.put {M : List Nat} {B : Nat} (W : World) (l : Nat) (o' : Obj) (hl : B ≤ l) : KpM M B W (W.putObj l o') :=
  ⟨rfl, rfl, rfl, by simp [World.putObj], fun k hk _ => by rw [World.putObj_heap_other (fun e => by omega)]⟩
/-- what a round keeps: below B all but M; above it all that is no cells -/
structure KeepR (M : List Nat) (B : Nat) (w w' : World) : Prop where
  kp : KpM M B w w'
  rest : ∀ k o, B ≤ k → w.heap[k]? = some o → plainO o = false → w'.heap[k]? = some o
theorem KeepR.refl (M : List Nat) (B : Nat) (w : World) : KeepR M B w w := ⟨⟨rfl, rfl, rfl, Nat.le_refl _, fun _ _ _ => rfl⟩, fun _ _ _ h _ => h⟩

/-! what a loop over a function is handed -/
def CTy.den : CTy → Type
  | .int _ => Int
  | .bool => Bool
  | .string => List UInt8
  | .slice => Option Addr × Nat × Nat
  | .pointer => Option Addr
  | .map => Option Nat
  | .any => Value
def CTy.val : (c : CTy) → c.den → Value
  | .int k, n => .int k n
  | .bool, b => .bool b
  | .string, s => .string (mkS s)
  | .slice, x => .slice x.1 x.2.1 x.2.2
  | .pointer, p => .pointer p
  | .map, r => .map r
  | .any, v => v
def CTy.allD : (c : CTy) → (c.den → Prop) → Prop
  | .int _, F => ∀ n : Int, F n
  | .bool, F => ∀ b : Bool, F b
  | .string, F => ∀ s : List UInt8, F s
  | .slice, F => ∀ (a : Option Addr) (n c : Nat), F (a, n, c)
  | .pointer, F => ∀ p : Option Addr, F p
  | .map, F => ∀ r : Option Nat, F r
  | .any, F => ∀ v : Value, F v
theorem CTy.allD_elim {c : CTy} {F : c.den → Prop} (h : c.allD F) (x : c.den) : F x := by
  cases c
  case slice => obtain ⟨a, n, c⟩ := x; exact h a n c
  all_goals exact h x
def Dn : List CTy → Type
  | [] => Unit
  | [c] => c.den
  | c :: d :: cs => c.den × Dn (d :: cs)
def Dn.vals : (cs : List CTy) → Dn cs → List Value
  | [], _ => []
  | [c], x => [c.val x]
  | c :: d :: cs, x => c.val x.1 :: Dn.vals (d :: cs) x.2
def Dn.all : (cs : List CTy) → (Dn cs → Prop) → Prop
  | [], F => F ()
  | [c], F => c.allD F
  | c :: d :: cs, F => c.allD fun x => Dn.all (d :: cs) fun y => F (x, y)
theorem Dn.all_elim : ∀ {cs : List CTy} {F : Dn cs → Prop}, Dn.all cs F → ∀ x, F x
  | [], _, h, _ => h
  | [_], _, h, x => CTy.allD_elim h x
  | _ :: _ :: _, _, h, (x, y) => Dn.all_elim (CTy.allD_elim h x) y
theorem Dn.length : ∀ (cs : List CTy) (x : Dn cs), (Dn.vals cs x).length = cs.length
  | [], _ => rfl
  | [_], _ => rfl
  | _ :: d :: cs, (_, y) => by simp [Dn.vals, Dn.length (d :: cs) y]

/-- the contract of an iterator: xs come, one after the other, as long as rounds go on; between rounds blocks of M may change -/
def SeqOf (P : Program) (gf : Nat) (lb : Array Value) (tys : List CTy) (M : List Nat) (xs : List (Dn tys)) (w : World) : Prop :=
  ∀ (l : Nat) (J Jx : List (Dn tys) → World → Prop) (W : World), Grown w.heap.size w W →
    (∀ pre A B, J pre A → A.grownBy B none → J pre B) → (∀ pre A B, Jx pre A → A.grownBy B none → Jx pre B) →
    (∀ pre x W1, J pre W1 → (pre ++ [x]) <+: xs → YieldC P l ⟨Dn.vals tys x⟩ (fun b W' => cond b (J (pre ++ [x]) W' ∧ KpM M w.heap.size W1 W') (Jx (pre ++ [x]) W')) W1) →
    J [] W → Calls P gf (#[.func (.yield l) #[] #[]] ++ lb) W (Ret fun _ W' => J xs W' ∨ ∃ pre, pre <+: xs ∧ Jx pre W')

/-- what a round keeps: all but F, which becomes F' -/
structure KeepF (F F' : List Nat) (w w' : World) : Prop where
  kp : Keep F w w'
  sub : ∀ k ∈ F', k ∈ F ∨ w.heap.size ≤ k
/-- the contract of an iterator that may have blocks of its own: between rounds the blocks F change that those who range own, M at first -/
def SeqF (P : Program) (gf : Nat) (lb : Array Value) (tys : List CTy) (M : List Nat) (xs : List (Dn tys)) (w : World) : Prop :=
  (∀ b ∈ M, b < w.heap.size) ∧ ∀ (l : Nat) (J : List Nat → List (Dn tys) → World → Prop) (Jx : List (Dn tys) → World → Prop) (W : World), Grown w.heap.size w W →
    (∀ F pre A B, J F pre A → A.grownBy B none → J F pre B) → (∀ pre A B, Jx pre A → A.grownBy B none → Jx pre B) →
    (∀ F pre x W1, J F pre W1 → (pre ++ [x]) <+: xs → YieldC P l ⟨Dn.vals tys x⟩ (fun b W' => cond b (∃ F', J F' (pre ++ [x]) W' ∧ KeepF F F' W1 W') (Jx (pre ++ [x]) W')) W1) →
    J M [] W → Calls P gf (#[.func (.yield l) #[] #[]] ++ lb) W (Ret fun _ W' => (∃ F, J F xs W') ∨ ∃ pre, pre <+: xs ∧ Jx pre W')
theorem SeqF.of {P : Program} {gf : Nat} {lb : Array Value} {tys : List CTy} {M : List Nat} {xs : List (Dn tys)} {w : World} (hM : ∀ b ∈ M, b < w.heap.size) (h : SeqOf P gf lb tys M xs w) : SeqF P gf lb tys M xs w := by
  refine ⟨hM, fun l J Jx W hG hJ hX hY h0 => ?_⟩
  refine Calls.mono (h l (fun pre W1 => ∃ F, J F pre W1 ∧ (∀ k ∈ F, k ∈ M ∨ w.heap.size ≤ k) ∧ w.heap.size ≤ W1.heap.size) Jx W hG (fun pre A B ⟨F, h1, h2, h3⟩ hg => ⟨F, hJ _ _ _ _ h1 hg, h2, Nat.le_trans h3 hg.size⟩) hX ?_ ⟨M, h0, fun k hk => .inl hk, hG.size⟩) ?_
  · rintro pre x W1 ⟨F, h1, h2, h3⟩ hp
    refine YieldC.mono (hY F pre x W1 h1 hp) fun b W' hb => ?_
    cases b with
    | false => exact hb
    | true =>
      obtain ⟨F', h4, h5⟩ := hb
      refine ⟨⟨F', h4, fun k hk => ?_, Nat.le_trans h3 h5.kp.size⟩, h5.kp.os, h5.kp.tape, h5.kp.output, h5.kp.size, fun k hk hm => h5.kp.block k (by omega) fun hF => ?_⟩
      · rcases h5.sub k hk with h6 | h6
        · exact h2 k h6
        · exact .inr (by omega)
      · rcases h2 k hF with h6 | h6
        · exact hm h6
        · omega
  · intro e W' he
    cases e with
    | returned v =>
      rcases he with ⟨F, h1, _⟩ | h1
      · exact .inl ⟨F, h1⟩
      · exact .inr h1
    | _ => exact he

def moves : List Oper → Act → Option Act
  | [], a => some a
  | o :: l, a => match o.guard, o.op with
    | none, .assign x => moves l (a.put o.dst (a.eval x))
    | none, .move x => moves l (a.put o.dst (a.eval x))
    | _, _ => none
def evalAssign : Code → Act → Option Act
  | .skip, a => some a
  | .region _ ops false, a => moves ops.toList a
  | .seq x y, a => match evalAssign x a with | some a' => evalAssign y a' | none => none
  | _, _ => none
def movesOk : List Oper → Bool
  | [] => true
  | o :: l => match o.guard, o.op with
    | none, .assign _ => movesOk l
    | none, .move _ => movesOk l
    | _, _ => false
def assignOk : Code → Bool
  | .skip => true
  | .region _ ops false => movesOk ops.toList
  | .seq x y => assignOk x && assignOk y
  | _ => false
theorem movesOk_some : ∀ (l : List Oper) (a : Act), movesOk l = true → ∃ a', moves l a = some a'
  | [], a, _ => ⟨a, rfl⟩
  | o :: l, a, h => by
    simp only [movesOk] at h
    simp only [moves]
    split at h
    · exact movesOk_some l _ h
    · exact movesOk_some l _ h
    · cases h
theorem assignOk_some : ∀ (c : Code) (a : Act), assignOk c = true → ∃ a', evalAssign c a = some a' := by
  intro c
  induction c with
  | skip => intro a _; exact ⟨a, rfl⟩
  | region id ops draw =>
    intro a h
    cases draw with
    | true => cases h
    | false => exact movesOk_some _ a h
  | seq x y ihx ihy =>
    intro a h
    simp only [assignOk, Bool.and_eq_true] at h
    obtain ⟨a1, h1⟩ := ihx a h.1
    obtain ⟨a2, h2⟩ := ihy a1 h.2
    exact ⟨a2, by simp only [evalAssign, h1, h2]⟩
  | _ => intro a h; cases h
theorem moves_list {P : Program} {cl : List (Nat × Nat × Nat)} {ops : Array Oper} {Q : Act → World → Prop} {w : World} : ∀ (l : List Oper) (i : Nat) (a a' : Act), moves l a = some a' → Q a' w → listVcY P cl ops Q l i a w
  | [], _, a, a', h, hq => by simp only [moves] at h; cases h; exact hq
  | o :: l, i, a, a', h, hq => by
    simp only [moves] at h
    have key : ∀ x, o.guard = none → (o.op = .assign x ∨ o.op = .move x) → moves l (a.put o.dst (a.eval x)) = some a' → listVcY P cl ops Q (o :: l) i a w := by
      intro x hg ho hm
      simp only [listVcY]
      have hw : Region.wanted o (yielded ops a.tmps) = true := by unfold Region.wanted; rw [hg]
      rw [hw]
      have hE : withEnt ops.toList o = o := by unfold withEnt; rcases ho with ho | ho <;> rw [ho]
      rw [hE]
      have := moves_list (P := P) (cl := cl) (ops := ops) (Q := Q) (w := w) l (i + 1) _ _ hm hq
      have hp : pureOp P a.eval o = some (.val (a.eval x)) := by unfold pureOp; rcases ho with ho | ho <;> rw [ho]
      have h2 : opVcY P cl a.eval o (parted (isGuard ops.toList i) fun v w' => listVcY P cl ops Q l (i + 1) (a.put o.dst v) w') w := by
        have h3 : opVc P a.eval o (parted (isGuard ops.toList i) fun v w' => listVcY P cl ops Q l (i + 1) (a.put o.dst v) w') w := by
          unfold opVc; rw [hp]; exact (parted_iff (isGuard ops.toList i) (fun v w' => listVcY P cl ops Q l (i + 1) (a.put o.dst v) w') _ _).2 this
        unfold opVcY
        rcases ho with ho | ho <;> rw [ho] <;> exact h3
      exact h2
    split at h
    · rename_i x hg ho; exact key x hg (.inl ho) h
    · rename_i x hg ho; exact key x hg (.inr ho) h
    · cases h
theorem moves_defers : ∀ (l : List Oper) (a a' : Act), moves l a = some a' → a'.defers = a.defers ∧ (∀ o ∈ l, notDefer o = true)
  | [], a, a', h => by simp only [moves] at h; cases h; exact ⟨rfl, by simp⟩
  | o :: l, a, a', h => by
    simp only [moves] at h
    have hp : ∀ v, (a.put o.dst v).defers = a.defers := by intro v; cases o.dst <;> rfl
    split at h
    · rename_i ho
      obtain ⟨h1, h2⟩ := moves_defers l _ _ h
      exact ⟨h1.trans (hp _), fun q hq => by cases hq with | head => simp [notDefer, ho] | tail _ hq => exact h2 q hq⟩
    · rename_i ho
      obtain ⟨h1, h2⟩ := moves_defers l _ _ h
      exact ⟨h1.trans (hp _), fun q hq => by cases hq with | head => simp [notDefer, ho] | tail _ hq => exact h2 q hq⟩
    · cases h
theorem evalAssign_defers : ∀ {c : Code} {a a' : Act}, evalAssign c a = some a' → a'.defers = a.defers := by
  intro c
  induction c with
  | skip => intro a a' h; simp only [evalAssign] at h; cases h; rfl
  | region id ops draw =>
    intro a a' h
    cases draw with
    | true => cases h
    | false => exact (moves_defers _ _ _ h).1
  | seq x y ihx ihy =>
    intro a a' h
    simp only [evalAssign] at h
    split at h
    · rename_i a1 h1; exact (ihy h).trans (ihx h1)
    · cases h
  | _ => intro a a' h; cases h
theorem evalAssign_in {P : Program} {G : Fence} (hG : Good G) {n : Nat} {W : World} : ∀ {c : Code} {a a' : Act} {Q : Exit → Act → World → Prop}, evalAssign c a = some a' → Q .normal a' W → c.wpIn G n P Q a W := by
  intro c
  induction c with
  | skip => intro a a' Q h hq; simp only [evalAssign] at h; cases h; exact wpIn_skip hq
  | region id ops draw =>
    intro a a' Q h hq
    cases draw with
    | true => cases h
    | false =>
      simp only [evalAssign] at h
      exact regionY_in (cl := []) hG (List.all_eq_true.2 (moves_defers _ _ _ h).2) (moves_list _ _ _ _ h hq)
  | seq x y ihx ihy =>
    intro a a' Q h hq
    simp only [evalAssign] at h
    split at h
    · rename_i a1 h1
      exact wpIn_seq (ihx (Q := Exit.then (y.wpIn G n P Q) Q) h1 (ihy h hq))
    · cases h
  | _ => intro a a' Q h; cases h

def mk (D : Nat) : Deferred := { target := .collected D, args := #[] }
def MarksOk (ds : List Nat) (w : World) : Prop := ds.Nodup ∧ ∀ D ∈ ds, w.heap[D]? = some (.deferred (some []))
def shut : List Nat → World → World
  | [], w => w
  | D :: ds, w => shut ds (w.putObj D (.deferred none))

abbrev QR := Exit → Act → List Nat → World → Prop
def QR.then (next : Act → List Nat → World → Prop) (Q : QR) : QR
  | .normal, a, ds, w => next a ds w
  | e, a, ds, w => Q e a ds w
def QR.inBlock (id : Nat) (Q : QR) : QR
  | .exit id', a, ds, w => if id' = id then Q .normal a ds w else Q (.exit id') a ds w
  | e, a, ds, w => Q e a ds w
def Code.noRange : Code → Bool
  | .rangeFunc .. => false
  | .seq a b => Code.noRange a && Code.noRange b
  | .cond _ a b => Code.noRange a && Code.noRange b
  | .block _ c => Code.noRange c
  | .loop c => Code.noRange c
  | _ => true
def Code.leaves : Code → List Nat → List Nat
  | .exit id, bs => cond (bs.contains id) [] [id]
  | .seq a b, bs => Code.leaves a bs ++ Code.leaves b bs
  | .cond _ a b, bs => Code.leaves a bs ++ Code.leaves b bs
  | .block id c, bs => Code.leaves c (id :: bs)
  | .loop c, bs => Code.leaves c bs
  | _, _ => []
def dedup : List Nat → List Nat
  | [] => []
  | x :: l => cond (l.contains x) (dedup l) (x :: dedup l)
def allEx : List Nat → (Nat → Prop) → Prop → Prop
  | [], _, K => K
  | i :: l, F, K => F i ∧ allEx l F K
theorem allEx_elim : ∀ {l : List Nat} {F : Nat → Prop} {K : Prop}, allEx l F K → (∀ i ∈ l, F i) ∧ K
  | [], _, _, h => ⟨by simp, h⟩
  | i :: l, F, K, h => by
    obtain ⟨h1, h2⟩ := allEx_elim h.2
    exact ⟨fun j hj => by cases hj with | head => exact h.1 | tail _ hj => exact h1 j hj, h2⟩
theorem allEx_mono : ∀ {l : List Nat} {F F' : Nat → Prop} {K K' : Prop}, allEx l F K → (∀ i, F i → F' i) → (K → K') → allEx l F' K'
  | [], _, _, _, _, h, _, hk => hk h
  | _ :: _, _, _, _, _, h, hf, hk => ⟨hf _ h.1, allEx_mono h.2 hf hk⟩

structure AnnR extends Ann where
  ranges : List (Nat × List CTy) := []
  clos : List (Nat × Nat × Nat) := []
  inR : Bool := false
  unroll : List (Nat × Nat) := []

/-- a loop of at most n rounds, round by round -/
def roundsR (body : QR → Act → List Nat → World → Prop) (Q : QR) : Nat → Act → List Nat → World → Prop
  | 0, _, _, _ => False
  | n + 1, a, ds, w => body (QR.then (roundsR body Q n) Q) a ds w

def postR {α : Type} (exits : List Nat) (F : List Nat) (I : List Nat → List α → World → Prop) (Xr : List α → World → Prop) (Xe : Nat → List α → World → Prop) (xs : List α) (W : World) : Exit → Act → List Nat → World → Prop
  | .normal, _, _, W' => ∃ F', KeepF F F' W W' ∧ I F' xs W'
  | .ret, _, _, W' => Keep F W W' ∧ Xr xs W'
  | .exit id, _, _, W' => cond (exits.contains id) (Keep F W W' ∧ Xe id xs W') False
  | _, _, _, _ => False

def rangeVc (P : Program) (tys : List CTy) (exits : List Nat) (gv : Value) (act : Dn tys → Option Act) (body : QR → Act → List Nat → World → Prop) (Q : QR) (a : Act) (ds : List Nat) (w : World) : Prop :=
  match gv with
  | .func (.func gf) first lb => cond (first.size == 0 && callOk P gf)
      (∃ (M : List Nat) (xs : List (Dn tys)), SeqF P gf lb tys M xs w ∧
        ∃ (I : List Nat → List (Dn tys) → World → Prop) (Xr : List (Dn tys) → World → Prop) (Xe : Nat → List (Dn tys) → World → Prop), I M [] w ∧
          (∀ (F : List Nat) (pre : List (Dn tys)), Dn.all tys fun x => ∀ W0 W : World, I F pre W0 → Grown w.heap.size W0 W → (pre ++ [x]) <+: xs → match act x with
            | some a1 => body (postR exits F I Xr Xe (pre ++ [x]) W) a1 [] W
            | none => False) ∧
          (∀ (pre : List (Dn tys)) (W0 W : World) (D : Nat), pre <+: xs → Xr pre W0 → Grown w.heap.size W0 W → w.heap.size ≤ D → W.heap[D]? = some (.deferred (some [])) → Q .ret { a with defers := mk D :: a.defers } (D :: ds) W) ∧
          allEx exits (fun id => ∀ (pre : List (Dn tys)) (W0 W : World) (D : Nat), pre <+: xs → Xe id pre W0 → Grown w.heap.size W0 W → w.heap.size ≤ D → W.heap[D]? = some (.deferred (some [])) → Q (.exit id) { a with defers := mk D :: a.defers } (D :: ds) W)
          (∀ (F : List Nat) (W0 W : World) (D : Nat), I F xs W0 → Grown w.heap.size W0 W → w.heap.size ≤ D → W.heap[D]? = some (.deferred (some [])) → Q .normal { a with defers := mk D :: a.defers } (D :: ds) W))
      False
  | _ => False

def codeVcR (P : Program) (ann : AnnR) : Code → Bool → Nat → QR → Act → List Nat → World → Prop
  | .skip, _, _, Q, a, ds, w => Q .normal a ds w
  | .region _ ops draw, _, pos, Q, a, ds, w => cond (ops.toList.all notDefer) (match lookL ann.merges pos with
    | some live => cond draw
        (cond (P.follows .mixedOrders && Region.lexB .any ops) (∀ w', w' = w.drew → mergeVc P ops (live.filter fun i => (ops.toList.filterMap (·.dst)).contains i) (fun a w => Q .normal a ds w) a w') False)
        (mergeVc P ops (live.filter fun i => (ops.toList.filterMap (·.dst)).contains i) (fun a w => Q .normal a ds w) a w)
    | none => cond draw (drawVc P ops (fun a w => Q .normal a ds w) a w) (listVcY P ann.clos ops (fun a w => Q .normal a ds w) ops.toList 0 a w)) False
  | .seq x y, r, pos, Q, a, ds, w => match lookL ann.cuts pos with
    | some live => cond (Code.noRange x) (cutVc (keepIn (Code.writes x) live) (Code.writes x) (fun Q' a w => codeVcR P ann x r (2 * pos) (fun e a _ w => Q' e a w) a ds w) (fun _ a w => codeVcR P ann y r (2 * pos + 1) Q a ds w) (fun e a w => Q e a ds w) a w) False
    | none => codeVcR P ann x r (2 * pos) (QR.then (codeVcR P ann y r (2 * pos + 1) Q) Q) a ds w
  | .cond c x y, r, pos, Q, a, ds, w => match a.eval c with
    | .bool b => cond b (codeVcR P ann x r (2 * pos) Q a ds w) (codeVcR P ann y r (2 * pos + 1) Q a ds w)
    | _ => False
  | .block id c, r, pos, Q, a, ds, w => codeVcR P ann c r (2 * pos) (QR.inBlock id Q) a ds w
  | .loop c, r, pos, Q, a, ds, w => match lookL ann.unroll pos with
    | some n => roundsR (fun Q' a ds w => codeVcR P ann c r (2 * pos) Q' a ds w) Q n a ds w
    | none => cond (Code.noRange c)
      (loopVc (keepIn (Code.writes c) ((lookL ann.loops pos).getD [])) (Code.writes c) (fun Q' a w => codeVcR P ann c r (2 * pos) (fun e a _ w => Q' e a w) a ds w) (fun e a w => Q e a ds w) a w)
      (∃ (I : List Nat → Inv ((keepIn (Code.writes c) ((lookL ann.loops pos).getD [])).map (·.2))) (μ : Mes ((keepIn (Code.writes c) ((lookL ann.loops pos).getD [])).map (·.2))),
        Inv.at _ (I ds) (vals a ((keepIn (Code.writes c) ((lookL ann.loops pos).getD [])).map (·.1))) w ∧ MarksOk ds w ∧
        ∀ (g : Nat → Value) (es : List Nat), allC ((keepIn (Code.writes c) ((lookL ann.loops pos).getD [])).map (·.2)) fun vs => ∀ w, Inv.at _ (I es) vs w → MarksOk es w →
          codeVcR P ann c r (2 * pos) (QR.then (fun a' es' w' => Inv.at _ (I es') (vals a' ((keepIn (Code.writes c) ((lookL ann.loops pos).getD [])).map (·.1))) w' ∧ Mes.at _ μ (vals a' ((keepIn (Code.writes c) ((lookL ann.loops pos).getD [])).map (·.1))) w' < Mes.at _ μ vs w ∧ MarksOk es' w') Q)
            { (loopAct a (Code.writes c) g ((keepIn (Code.writes c) ((lookL ann.loops pos).getD [])).map (·.1)) vs) with defers := es.map mk } es w)
  | .exit id, _, _, Q, a, ds, w => Q (.exit id) a ds w
  | .label _, _, _, Q, a, ds, w => Q .normal a ds w
  | .ret, _, _, Q, a, ds, w => Q .ret a ds w
  | .rangeFunc g ps assign body, r, pos, Q, a, ds, w => cond (r || !Code.noRange body || !(((lookL ann.ranges pos).getD []).length == ps.size) || !assignOk assign) False
      (rangeVc P ((lookL ann.ranges pos).getD []) (dedup (Code.leaves body [])) (a.eval g)
        (fun x => evalAssign assign { tmps := (ps.zip (⟨Dn.vals _ x⟩ : Array Value)).foldl (fun t (p, v) => t.setIfInBounds p v) a.tmps, defers := [] })
        (fun Q' a ds w => codeVcR P ann body true (2 * pos + 1) Q' a ds w) Q a ds w)
  | _, _, _, _, _, _, _ => False
end Go.Vc
