/- Maps with texts as keys that were only added to. -/
import Derived.Test.YtahppcghgmhkiaaMemE
import Derived.MapKept
namespace Go.Vc
open Go.RowKit (Below)

def entsFrom : Nat → List (List UInt8 × Value) → List MapEntry
  | _, [] => []
  | i, (k, v) :: l => { key := .string (mkS k), val := v, born := i } :: entsFrom (i + 1) l
def MapAt (w : World) (b : Nat) (kvs : List (List UInt8 × Value)) : Prop := w.heap[b]? = some (.map (entsFrom 0 kvs).toArray kvs.length)
def getK (kvs : List (List UInt8 × Value)) (s : List UInt8) : Option Value := (kvs.find? (·.1 == s)).map (·.2)
theorem entsFrom_snoc : ∀ (l : List (List UInt8 × Value)) (i : Nat) (k : List UInt8) (v : Value), entsFrom i (l ++ [(k, v)]) = entsFrom i l ++ [{ key := .string (mkS k), val := v, born := i + l.length }]
  | [], i, k, v => by simp [entsFrom]
  | (a, b) :: l, i, k, v => by
    simp only [List.cons_append, entsFrom, entsFrom_snoc l (i + 1) k v, List.length_cons]
    rw [show i + 1 + l.length = i + (l.length + 1) by omega]
theorem sameNow_str (a b : List UInt8) : Instr.sameNow .string (.string (mkS a)) (.string (mkS b)) = some (b == a) := by
  have h : (mkS a == mkS b) = (b == a) := by
    have h2 : (mkS a == mkS b) = ((mkS a).data == (mkS b).data) := by rfl
    rw [h2, Bool.eq_iff_iff]
    simp [mkS]
    exact ⟨fun h => h.symm, fun h => h.symm⟩
  simp only [Instr.sameNow, h]
theorem findNow_some (s : List UInt8) : ∀ (l : List (List UInt8 × Value)) (i j : Nat), (getK l s = none → Instr.findNow .string (.string (mkS s)) (entsFrom j l) i = some none) ∧ (∀ v, getK l s = some v → ∃ k, Instr.findNow .string (.string (mkS s)) (entsFrom j l) i = some (some (k, v)))
  | [], i, j => ⟨fun _ => rfl, fun v h => by cases h⟩
  | (a, b) :: l, i, j => by
    unfold entsFrom Instr.findNow
    simp only [sameNow_str]
    unfold getK
    rw [List.find?_cons]
    cases h : (a == s) with
    | true => exact ⟨fun h => (by cases h), fun v hv => ⟨i, by simp at hv; rw [hv]⟩⟩
    | false => exact findNow_some s l (i + 1) (j + 1)
theorem MapAt.ext {w w' : World} {b : Nat} {kvs : List (List UInt8 × Value)} (h : MapAt w b kvs) (e : Ext w w') : MapAt w' b kvs := e.block h
theorem MapAt.new {w w' : World} {b : Nat} (hb : b = w.heap.size) (hw : w' = w.alloc (.map #[] 0)) : MapAt w' b [] := by
  subst hb hw
  show (w.heap.push _)[w.heap.size]? = _
  simp [entsFrom]
theorem MapAt.add {P : Program} {w : World} {b : Nat} {kvs : List (List UInt8 × Value)} (h : MapAt w b kvs) {t kt et : TypeId} (ht : P.underlying t = some (.map kt et)) (hk : P.underlying kt = some .string) {s : List UInt8} {v : Value} (hs : getK kvs s = none)
    {K : Unit → World → Prop} (hK : ∀ w', MapAt w' b (kvs ++ [(s, v)]) → w.grownBy w' (some b) → K () w') : SemOk P (Instr.mapUpdate t (.map (some b)) (.string (mkS s)) v) K w := by
  have hf := (findNow_some s kvs 0 0).1 hs
  have hc : (Instr.checkKey false 10000 kt (.string (mkS s))).run P w = .ok () w := MapKept.run_checkKey (k := .string (mkS s)) hk (by simp [MapKept.IsKey]) false 9999
  refine ⟨(), { w with heap := w.heap.setIfInBounds b (.map (entsFrom 0 (kvs ++ [(s, v)])).toArray (kvs.length + 1)) }, ?_, hK _ ?_ ?_⟩
  · simp [Instr.mapUpdate, run_underlying ht, MapKept.run_getObj_map h, hc, MapKept.run_findKey hk hf, MapKept.run_setObj_map _ h, Result.andThen, entsFrom_snoc]
  · have := (MapKept.heap_set (o' := .map (entsFrom 0 (kvs ++ [(s, v)])).toArray (kvs.length + 1)) h).1
    unfold MapAt
    simpa using this
  · exact ⟨rfl, rfl, rfl, by simp, fun k _ hr => (MapKept.heap_set h).2 k (fun e => hr (by rw [e]))⟩
theorem MapAt.get {P : Program} {w : World} {b : Nat} {kvs : List (List UInt8 × Value)} (h : MapAt w b kvs) {t kt et : TypeId} (ht : P.underlying t = some (.map kt et)) (hk : P.underlying kt = some .string) {z : Value} (hz : (zeroValue et).run P w = .ok z w) (s : List UInt8)
    {K : Value → World → Prop} (hK : K ((getK kvs s).getD z) w) : SemOk P (Instr.lookup t (.map (some b)) (.string (mkS s)) false) K w := by
  have hf := findNow_some s kvs 0 0
  have hc : ∀ e, (Instr.checkKey e 10000 kt (.string (mkS s))).run P w = .ok () w := fun e => MapKept.run_checkKey (k := .string (mkS s)) hk (by simp [MapKept.IsKey]) e 9999
  refine ⟨_, w, ?_, hK⟩
  cases hg : getK kvs s with
  | none =>
    have := hf.1 hg
    simp [Instr.lookup, run_underlying ht, MapKept.run_getObj_map h, hc, MapKept.run_findKey hk this, Result.andThen, hz]
  | some v =>
    obtain ⟨k, this⟩ := hf.2 v hg
    simp [Instr.lookup, run_underlying ht, MapKept.run_getObj_map h, hc, MapKept.run_findKey hk this, Result.andThen]
end Go.Vc
