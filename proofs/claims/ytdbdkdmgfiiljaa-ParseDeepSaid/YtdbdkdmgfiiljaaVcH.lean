/- The conditions of Go code: a library of this claim. -/
import Derived.Test.YtdbdkdmgfiiljaaVcG
namespace Go.Vc
open Go.RowKit (Below)
def plainO : Obj → Bool
  | .deferred _ => false
  | .loop _ => false
  | _ => true
structure Keep (m : List Nat) (w w' : World) : Prop where
  os : w'.os = w.os
  tape : w'.tape = w.tape
  output : w'.output = w.output
  size : w.heap.size ≤ w'.heap.size
  block : ∀ k, k < w.heap.size → k ∉ m → w'.heap[k]? = w.heap[k]?
structure Grown (B : Nat) (w w' : World) : Prop where
  os : w'.os = w.os
  tape : w'.tape = w.tape
  output : w'.output = w.output
  size : w.heap.size ≤ w'.heap.size
  block : ∀ k o, w.heap[k]? = some o → (k < B ∨ plainO o = true) → w'.heap[k]? = some o
theorem Grown.refl (B : Nat) (w : World) : Grown B w w := ⟨rfl, rfl, rfl, Nat.le_refl _, fun _ _ h _ => h⟩
theorem Grown.trans {B : Nat} {a b c : World} (h : Grown B a b) (k : Grown B b c) : Grown B a c :=
  ⟨k.os.trans h.os, k.tape.trans h.tape, k.output.trans h.output, Nat.le_trans h.size k.size, fun j o hj hc => k.block j o (h.block j o hj hc) hc⟩
theorem Grown.of {B : Nat} {W W' : World} {row : Option Nat} (hg : W.grownBy W' row) (hr : ∀ r, row = some r → B ≤ r ∧ ∃ o : Obj, W.heap[r]? = some o ∧ plainO o = false) : Grown B W W' := by
  refine ⟨hg.os, hg.tape, hg.output, hg.size, fun k o hk hc => ?_⟩
  rw [hg.block k (Array.getElem?_eq_some_iff.1 hk).1 (fun e => ?_)]
  · exact hk
  · obtain ⟨h1, o', h2, h3⟩ := hr k e.symm
    rw [hk] at h2
    cases h2
    rcases hc with h | h
    · omega
    · rw [h3] at h; cases h
structure KpM (M : List Nat) (B : Nat) (w w' : World) : Prop where
  os : w'.os = w.os
  tape : w'.tape = w.tape
  output : w'.output = w.output
  size : w.heap.size ≤ w'.heap.size
  block : ∀ k, k < B → k ∉ M → w'.heap[k]? = w.heap[k]?
theorem KpM.trans {M : List Nat} {B : Nat} {a b c : World} (h : KpM M B a b) (k : KpM M B b c) : KpM M B a c :=
  ⟨k.os.trans h.os, k.tape.trans h.tape, k.output.trans h.output, Nat.le_trans h.size k.size, fun j hj hm => (k.block j hj hm).trans (h.block j hj hm)⟩
theorem KpM.put {M : List Nat} {B : Nat} (W : World) (l : Nat) (o' : Obj) (hl : B ≤ l) : KpM M B W (W.putObj l o') :=
  ⟨rfl, rfl, rfl, by simp [World.putObj], fun k hk _ => by rw [World.putObj_heap_other (fun e => by omega)]⟩
structure KeepR (M : List Nat) (B : Nat) (w w' : World) : Prop where
  kp : KpM M B w w'
  rest : ∀ k o, B ≤ k → w.heap[k]? = some o → plainO o = false → w'.heap[k]? = some o
theorem KeepR.refl (M : List Nat) (B : Nat) (w : World) : KeepR M B w w := ⟨⟨rfl, rfl, rfl, Nat.le_refl _, fun _ _ _ => rfl⟩, fun _ _ _ h _ => h⟩
def CTy.den : CTy → Type
  | .int _ => Int
  | .bool => Bool
  | .string => List UInt8
  | .slice => Option Addr × Nat × Nat
  | .pointer => Option Addr
  | .map => Option Nat
  | .any => Value
def CTy.val : (c : CTy) → c.den → Value
  | .int k, n => .int k n
  | .bool, b => .bool b
  | .string, s => .string (mkS s)
  | .slice, x => .slice x.1 x.2.1 x.2.2
  | .pointer, p => .pointer p
  | .map, r => .map r
  | .any, v => v
def CTy.allD : (c : CTy) → (c.den → Prop) → Prop
  | .int _, F => ∀ n : Int, F n
  | .bool, F => ∀ b : Bool, F b
  | .string, F => ∀ s : List UInt8, F s
  | .slice, F => ∀ (a : Option Addr) (n c : Nat), F (a, n, c)
  | .pointer, F => ∀ p : Option Addr, F p
  | .map, F => ∀ r : Option Nat, F r
  | .any, F => ∀ v : Value, F v
def Dn : List CTy → Type
  | [] => Unit
  | [c] => c.den
  | c :: d :: cs => c.den × Dn (d :: cs)
def Dn.vals : (cs : List CTy) → Dn cs → List Value
  | [], _ => []
  | [c], x => [c.val x]
  | c :: d :: cs, x => c.val x.1 :: Dn.vals (d :: cs) x.2
def Dn.all : (cs : List CTy) → (Dn cs → Prop) → Prop
  | [], F => F ()
  | [c], F => c.allD F
  | c :: d :: cs, F => c.allD fun x => Dn.all (d :: cs) fun y => F (x, y)
theorem Dn.length : ∀ (cs : List CTy) (x : Dn cs), (Dn.vals cs x).length = cs.length
  | [], _ => rfl
  | [_], _ => rfl
  | _ :: d :: cs, (_, y) => by simp [Dn.vals, Dn.length (d :: cs) y]
def SeqOf (P : Program) (gf : Nat) (lb : Array Value) (tys : List CTy) (M : List Nat) (xs : List (Dn tys)) (w : World) : Prop :=
  ∀ (l : Nat) (J Jx : List (Dn tys) → World → Prop) (W : World), Grown w.heap.size w W →
    (∀ pre A B, J pre A → A.grownBy B none → J pre B) → (∀ pre A B, Jx pre A → A.grownBy B none → Jx pre B) →
    (∀ pre x W1, J pre W1 → (pre ++ [x]) <+: xs → YieldC P l ⟨Dn.vals tys x⟩ (fun b W' => cond b (J (pre ++ [x]) W' ∧ KpM M w.heap.size W1 W') (Jx (pre ++ [x]) W')) W1) →
    J [] W → Calls P gf (#[.func (.yield l) #[] #[]] ++ lb) W (Ret fun _ W' => J xs W' ∨ ∃ pre, pre <+: xs ∧ Jx pre W')
structure KeepF (F F' : List Nat) (w w' : World) : Prop where
  kp : Keep F w w'
  sub : ∀ k ∈ F', k ∈ F ∨ w.heap.size ≤ k
def SeqF (P : Program) (gf : Nat) (lb : Array Value) (tys : List CTy) (M : List Nat) (xs : List (Dn tys)) (w : World) : Prop :=
  (∀ b ∈ M, b < w.heap.size) ∧ ∀ (l : Nat) (J : List Nat → List (Dn tys) → World → Prop) (Jx : List (Dn tys) → World → Prop) (W : World), Grown w.heap.size w W →
    (∀ F pre A B, J F pre A → A.grownBy B none → J F pre B) → (∀ pre A B, Jx pre A → A.grownBy B none → Jx pre B) →
    (∀ F pre x W1, J F pre W1 → (pre ++ [x]) <+: xs → YieldC P l ⟨Dn.vals tys x⟩ (fun b W' => cond b (∃ F', J F' (pre ++ [x]) W' ∧ KeepF F F' W1 W') (Jx (pre ++ [x]) W')) W1) →
    J M [] W → Calls P gf (#[.func (.yield l) #[] #[]] ++ lb) W (Ret fun _ W' => (∃ F, J F xs W') ∨ ∃ pre, pre <+: xs ∧ Jx pre W')
theorem SeqF.of {P : Program} {gf : Nat} {lb : Array Value} {tys : List CTy} {M : List Nat} {xs : List (Dn tys)} {w : World} (hM : ∀ b ∈ M, b < w.heap.size) (h : SeqOf P gf lb tys M xs w) : SeqF P gf lb tys M xs w := by
  refine ⟨hM, fun l J Jx W hG hJ hX hY h0 => ?_⟩
  refine Calls.mono (h l (fun pre W1 => ∃ F, J F pre W1 ∧ (∀ k ∈ F, k ∈ M ∨ w.heap.size ≤ k) ∧ w.heap.size ≤ W1.heap.size) Jx W hG (fun pre A B ⟨F, h1, h2, h3⟩ hg => ⟨F, hJ _ _ _ _ h1 hg, h2, Nat.le_trans h3 hg.size⟩) hX ?_ ⟨M, h0, fun k hk => .inl hk, hG.size⟩) ?_
  · rintro pre x W1 ⟨F, h1, h2, h3⟩ hp
    refine YieldC.mono (hY F pre x W1 h1 hp) fun b W' hb => ?_
    cases b with
    | false => exact hb
    | true =>
      obtain ⟨F', h4, h5⟩ := hb
      refine ⟨⟨F', h4, fun k hk => ?_, Nat.le_trans h3 h5.kp.size⟩, h5.kp.os, h5.kp.tape, h5.kp.output, h5.kp.size, fun k hk hm => h5.kp.block k (by omega) fun hF => ?_⟩
      · rcases h5.sub k hk with h6 | h6
        · exact h2 k h6
        · exact .inr (by omega)
      · rcases h2 k hF with h6 | h6
        · exact hm h6
        · omega
  · intro e W' he
    cases e with
    | returned v =>
      rcases he with ⟨F, h1, _⟩ | h1
      · exact .inl ⟨F, h1⟩
      · exact .inr h1
    | _ => exact he
def mk (D : Nat) : Deferred := { target := .collected D, args := #[] }
def MarksOk (ds : List Nat) (w : World) : Prop := ds.Nodup ∧ ∀ D ∈ ds, w.heap[D]? = some (.deferred (some []))
abbrev QR := Exit → Act → List Nat → World → Prop
def QR.then (next : Act → List Nat → World → Prop) (Q : QR) : QR
  | .normal, a, ds, w => next a ds w
  | e, a, ds, w => Q e a ds w
def QR.inBlock (id : Nat) (Q : QR) : QR
  | .exit id', a, ds, w => if id' = id then Q .normal a ds w else Q (.exit id') a ds w
  | e, a, ds, w => Q e a ds w
def Code.leaves : Code → List Nat → List Nat
  | .exit id, bs => cond (bs.contains id) [] [id]
  | .seq a b, bs => Code.leaves a bs ++ Code.leaves b bs
  | .cond _ a b, bs => Code.leaves a bs ++ Code.leaves b bs
  | .block id c, bs => Code.leaves c (id :: bs)
  | .loop c, bs => Code.leaves c bs
  | _, _ => []
end Go.Vc
