/- Maps that were only added to, with keys of any plain kind. -/
import Derived.Test.YtdbdkdmgfiiljaaMemE
import Derived.MapKept
namespace Go.Vc
open Go.RowKit (Below)
structure KeyEnc (κ : Type) [BEq κ] where
  enc : κ → Value
  kd : TypeDesc
  same : ∀ a b, Instr.sameNow kd (enc a) (enc b) = some (b == a)
  key : ∀ a, MapKept.IsKey kd (enc a)
def kStr : KeyEnc (List UInt8) where
  enc := fun s => .string (mkS s)
  kd := .string
  same := fun a b => by
    have h : (mkS a == mkS b) = (b == a) := by
      have h2 : (mkS a == mkS b) = ((mkS a).data == (mkS b).data) := by rfl
      rw [h2, Bool.eq_iff_iff]
      simp [mkS]
      exact ⟨fun h => h.symm, fun h => h.symm⟩
    simp only [Instr.sameNow, h]
  key := fun a => by simp [MapKept.IsKey]
variable {κ : Type} [BEq κ]
def entsG (E : KeyEnc κ) : Nat → List (κ × Value) → List MapEntry
  | _, [] => []
  | i, (k, v) :: l => { key := E.enc k, val := v, born := i } :: entsG E (i + 1) l
def MapG (E : KeyEnc κ) (w : World) (b : Nat) (kvs : List (κ × Value)) : Prop := w.heap[b]? = some (.map (entsG E 0 kvs).toArray kvs.length)
def getG {α : Type} (kvs : List (κ × α)) (s : κ) : Option α := (kvs.find? (·.1 == s)).map (·.2)
theorem entsG_snoc (E : KeyEnc κ) : ∀ (l : List (κ × Value)) (i : Nat) (k : κ) (v : Value), entsG E i (l ++ [(k, v)]) = entsG E i l ++ [{ key := E.enc k, val := v, born := i + l.length }]
  | [], i, k, v => by simp [entsG]
  | (a, b) :: l, i, k, v => by
    simp only [List.cons_append, entsG, entsG_snoc E l (i + 1) k v, List.length_cons]
    rw [show i + 1 + l.length = i + (l.length + 1) by omega]
theorem findG_some (E : KeyEnc κ) (s : κ) : ∀ (l : List (κ × Value)) (i j : Nat), (getG l s = none → Instr.findNow E.kd (E.enc s) (entsG E j l) i = some none) ∧ (∀ v, getG l s = some v → ∃ k, Instr.findNow E.kd (E.enc s) (entsG E j l) i = some (some (k, v)))
  | [], i, j => ⟨fun _ => rfl, fun v h => by cases h⟩
  | (a, b) :: l, i, j => by
    unfold entsG Instr.findNow
    simp only [E.same]
    unfold getG
    rw [List.find?_cons]
    cases h : (a == s) with
    | true => exact ⟨fun h => (by cases h), fun v hv => ⟨i, by simp at hv; rw [hv]⟩⟩
    | false => exact findG_some E s l (i + 1) (j + 1)
theorem MapG.new {E : KeyEnc κ} {w w' : World} {b : Nat} (hb : b = w.heap.size) (hw : w' = w.alloc (.map #[] 0)) : MapG E w' b [] := by
  subst hb hw
  show (w.heap.push _)[w.heap.size]? = _
  simp [entsG]
theorem MapG.add {E : KeyEnc κ} {P : Program} {w : World} {b : Nat} {kvs : List (κ × Value)} (h : MapG E w b kvs) {t kt et : TypeId} (ht : P.underlying t = some (.map kt et)) (hk : P.underlying kt = some E.kd) {s : κ} {v : Value} (hs : getG kvs s = none)
    {K : Unit → World → Prop} (hK : ∀ w', MapG E w' b (kvs ++ [(s, v)]) → w.grownBy w' (some b) → K () w') : SemOk P (Instr.mapUpdate t (.map (some b)) (E.enc s) v) K w := by
  have hf := (findG_some E s kvs 0 0).1 hs
  have hc : (Instr.checkKey false 10000 kt (E.enc s)).run P w = .ok () w := MapKept.run_checkKey (k := E.enc s) hk (E.key s) false 9999
  refine ⟨(), { w with heap := w.heap.setIfInBounds b (.map (entsG E 0 (kvs ++ [(s, v)])).toArray (kvs.length + 1)) }, ?_, hK _ ?_ ?_⟩
  · simp [Instr.mapUpdate, run_underlying ht, MapKept.run_getObj_map h, hc, MapKept.run_findKey hk hf, MapKept.run_setObj_map _ h, Result.andThen, entsG_snoc]
  · have := (MapKept.heap_set (o' := .map (entsG E 0 (kvs ++ [(s, v)])).toArray (kvs.length + 1)) h).1
    unfold MapG
    simpa using this
  · exact ⟨rfl, rfl, rfl, by simp, fun k _ hr => (MapKept.heap_set h).2 k (fun e => hr (by rw [e]))⟩
theorem MapG.get {E : KeyEnc κ} {P : Program} {w : World} {b : Nat} {kvs : List (κ × Value)} (h : MapG E w b kvs) {t kt et : TypeId} (ht : P.underlying t = some (.map kt et)) (hk : P.underlying kt = some E.kd) {z : Value} (hz : (zeroValue et).run P w = .ok z w) (s : κ)
    {K : Value → World → Prop} (hK : K ((getG kvs s).getD z) w) : SemOk P (Instr.lookup t (.map (some b)) (E.enc s) false) K w := by
  have hf := findG_some E s kvs 0 0
  have hc : ∀ e, (Instr.checkKey e 10000 kt (E.enc s)).run P w = .ok () w := fun e => MapKept.run_checkKey (k := E.enc s) hk (E.key s) e 9999
  refine ⟨_, w, ?_, hK⟩
  cases hg : getG kvs s with
  | none =>
    have := hf.1 hg
    simp [Instr.lookup, run_underlying ht, MapKept.run_getObj_map h, hc, MapKept.run_findKey hk this, Result.andThen, hz]
  | some v =>
    obtain ⟨k, this⟩ := hf.2 v hg
    simp [Instr.lookup, run_underlying ht, MapKept.run_getObj_map h, hc, MapKept.run_findKey hk this, Result.andThen]
theorem getG_map {α β : Type} (f : α → β) (s : κ) : ∀ l : List (κ × α), getG (l.map fun p => (p.1, f p.2)) s = (getG l s).map f
  | [] => rfl
  | p :: l => by
    unfold getG
    rw [List.map_cons, List.find?_cons, List.find?_cons]
    cases h : (p.1 == s) with
    | true => rfl
    | false => exact getG_map f s l
end Go.Vc
