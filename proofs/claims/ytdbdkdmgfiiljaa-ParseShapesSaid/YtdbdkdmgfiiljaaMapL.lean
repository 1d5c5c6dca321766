/- Maps that a call owns. -/
import Derived.Test.YtdbdkdmgfiiljaaLv
import Derived.Test.YtdbdkdmgfiiljaaMapG
namespace Go.Lv
open Go.Vc
variable {n0 : Nat} {rs m0 : List Nat} {fr : List (List Nat × Nat × World)} {ds : List Nat} {w w' : World} {ps : List Pc} {κ : Type} [BEq κ]
def mapO (E : KeyEnc κ) (kvs : List (κ × Value)) : Obj := .map (entsG E 0 kvs).toArray kvs.length
def encM {α : Type} (f : α → Value) (L : List (κ × α)) : List (κ × Value) := L.map fun p => (p.1, f p.2)
omit [BEq κ] in
theorem encM_snoc {α : Type} (f : α → Value) (L : List (κ × α)) (s : κ) (x : α) : encM f L ++ [(s, f x)] = encM f (L ++ [(s, x)]) := by simp [encM]
theorem Mem.mapNew (o : Mem n0 rs m0 fr ds w ps) (E : KeyEnc κ) {α : Type} (f : α → Value) {b : Nat} (hb : b = w.heap.size) (e : w' = w.alloc (.map #[] 0)) : Mem n0 rs m0 fr ds w' (.raw b (mapO E (encM f ([] : List (κ × α)))) :: ps) :=
  o.push hb e (.raw b (mapO E [])) rfl ⟨MapG.new (E := E) hb e, rfl⟩
theorem Mem.mapNewS (E : KeyEnc κ) {α : Type} (f : α → Value) {b : Nat} (hb : b = w.heap.size) (e : w' = w.alloc (.map #[] 0)) : Step (ms ps m0) w (ms (.raw b (mapO E (encM f ([] : List (κ × α)))) :: ps) m0) w' :=
  Mem.addS (keep_alloc e) (.raw b (mapO E [])) (by rw [hb]; rfl)
theorem Mem.rawAt (o : Mem n0 rs m0 fr ds w ps) (k : Nat) {b : Nat} {ob : Obj} (hk : ps[k]? = some (.raw b ob)) : w.heap[b]? = some ob := (o.holds _ (List.mem_of_getElem? hk)).1
theorem Mem.mapPut (o : Mem n0 rs m0 fr ds w ps) (E : KeyEnc κ) (k : Nat) {b : Nat} {ob : Obj} {kvs : List (κ × Value)} (hk : ps[k]? = some (.raw b ob)) (hK : Keep [b] w w') (hm : w'.heap[b]? = some (mapO E kvs)) : Mem n0 rs m0 fr ds w' (ps.set k (.raw b (mapO E kvs))) :=
  o.upd k hk hK ⟨hm, rfl⟩ (fun _ h => .inl h)
theorem Mem.mapPutS (E : KeyEnc κ) (k : Nat) {b : Nat} {ob : Obj} {kvs : List (κ × Value)} (hk : ps[k]? = some (.raw b ob)) (hK : Keep [b] w w') : Step (ms ps m0) w (ms (ps.set k (.raw b (mapO E kvs))) m0) w' :=
  Mem.updS k hk hK (fun _ h => .inl h)
theorem map_put {P : Program} {E : KeyEnc κ} {b : Nat} {kvs : List (κ × Value)} (h : w.heap[b]? = some (mapO E kvs)) {t kt et : TypeId} (ht : P.underlying t = some (.map kt et)) (hk : P.underlying kt = some E.kd) {s : κ} {v : Value} (hs : getG kvs s = none)
    {K : Unit → World → Prop} (hK : ∀ w', Keep [b] w w' → w'.heap[b]? = some (mapO E (kvs ++ [(s, v)])) → K () w') : SemOk P (Instr.mapUpdate t (.map (some b)) (E.enc s) v) K w :=
  MapG.add h ht hk hs fun w' h1 h2 => hK w' ⟨h2.os, h2.tape, h2.output, h2.size, fun j hj hm => h2.block j hj (fun e => hm (by cases e; simp))⟩ h1
theorem getG_encM {α : Type} (f : α → Value) (L : List (κ × α)) (s : κ) : getG (encM f L) s = (getG L s).map f := getG_map f s L
theorem map_get {P : Program} {E : KeyEnc κ} {b : Nat} {α : Type} {f : α → Value} {L : List (κ × α)} (h : w.heap[b]? = some (mapO E (encM f L))) {t kt et : TypeId} (ht : P.underlying t = some (.map kt et)) (hk : P.underlying kt = some E.kd) {z : α} (hz : (zeroValue et).run P w = .ok (f z) w) (s : κ)
    {K : Value → World → Prop} (hK : K (f ((getG L s).getD z)) w) : SemOk P (Instr.lookup t (.map (some b)) (E.enc s) false) K w := by
  refine MapG.get h ht hk hz s ?_
  rw [getG_encM]
  cases hg : getG L s with
  | none => rw [hg] at hK; exact hK
  | some v => rw [hg] at hK; exact hK
end Go.Lv
