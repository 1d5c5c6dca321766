/- Maps that a call owns. -/
import Derived.Test.YthkbhlmijkegiaaGreatLv
import Derived.Test.YthkbhlmijkegiaaGreatMapG
namespace Go.Lv
open Go.Vc
variable {n0:Nat} {rs m0:List Nat} {fr:List (List Nat×Nat×World)} {ds:List Nat} {w w':World} {ps:List Pc} {κ:Type} [BEq κ]
def Lu (E:G2 κ) (fy:List (κ×Value)):Obj:= .map (Nr E 0 fy).toArray fy.length
def R3 {α:Type} (f:α->Value) (L:List (κ×α)):List (κ×Value):=L.map fun p=>(p.1,f p.2)
omit [BEq κ] in
theorem JI {α:Type} (f:α->Value) (L:List (κ×α)) (s:κ) (x:α):R3 f L++[(s,f x)]=R3 f (L++[(s,x)]):=by simp [R3]
theorem Mem.Bm6 (o:Mem n0 rs m0 fr ds w ps) (E:G2 κ) {α:Type} (f:α->Value) {b:Nat} (hb:b=w.heap.size) (e:w'=w.alloc (.map #[] 0)):Mem n0 rs m0 fr ds w' (.raw b (Lu E (R3 f ([]:List (κ×α))))::ps):=
 o.push hb e (.raw b (Lu E [])) rfl ⟨mD.new (E:=E) hb e,rfl⟩
theorem Mem.Bmb (E:G2 κ) {α:Type} (f:α->Value) {b:Nat} (hb:b=w.heap.size) (e:w'=w.alloc (.map #[] 0)):Step (ms ps m0) w (ms (.raw b (Lu E (R3 f ([]:List (κ×α))))::ps) m0) w':=
 Mem.Bp3 (Aq e) (.raw b (Lu E [])) (by rw [hb];rfl)
theorem Mem.xZ (o:Mem n0 rs m0 fr ds w ps) (k:Nat) {b:Nat} {ob:Obj} (hk:ps[k]? =some (.raw b ob)):w.heap[b]? =some ob:=(o.holds _ (List.mem_of_getElem? hk)).1
theorem Mem.Bm7 (o:Mem n0 rs m0 fr ds w ps) (E:G2 κ) (k:Nat) {b:Nat} {ob:Obj} {fy:List (κ×Value)} (hk:ps[k]? =some (.raw b ob)) (hK:Ai [b] w w') (hm:w'.heap[b]? =some (Lu E fy)):Mem n0 rs m0 fr ds w' (ps.set k (.raw b (Lu E fy))):=
 o.kG k hk hK ⟨hm,rfl⟩ (fun _ h=> .inl h)
theorem Mem.Bmc (E:G2 κ) (k:Nat) {b:Nat} {ob:Obj} {fy:List (κ×Value)} (hk:ps[k]? =some (.raw b ob)) (hK:Ai [b] w w'):Step (ms ps m0) w (ms (ps.set k (.raw b (Lu E fy))) m0) w':=
 Mem.qI k hk hK (fun _ h=> .inl h)
theorem JJ {P:Program} {E:G2 κ} {b:Nat} {fy:List (κ×Value)} (h:w.heap[b]? =some (Lu E fy)) {t kt et:TypeId} (ht:P.underlying t=some (.map kt et)) (hk:P.underlying kt=some E.kd) {s:κ} {v:Value} (hs:G3 fy s=none) {K:Unit->World->Prop} (hK:∀w',Ai [b] w w'->w'.heap[b]? =some (Lu E (fy++[(s,v)]))->K () w'):Bd P (Instr.mapUpdate t (.map (some b)) (E.enc s) v) K w:=
 mD.add h ht hk hs fun w' h1 h2=>hK w' ⟨h2.os,h2.tape,h2.output,h2.size,fun j hj hm=>h2.block j hj (fun e=>hm (by cases e;simp))⟩ h1
theorem JK {α:Type} (f:α->Value) (L:List (κ×α)) (s:κ):G3 (R3 f L) s=(G3 L s).map f:=JH f s L
theorem JL {P:Program} {E:G2 κ} {b:Nat} {α:Type} {f:α->Value} {L:List (κ×α)} (h:w.heap[b]? =some (Lu E (R3 f L))) {t kt et:TypeId} (ht:P.underlying t=some (.map kt et)) (hk:P.underlying kt=some E.kd) {z:α} (hz:(zeroValue et).run P w= .ok (f z) w) (s:κ) {K:Value->World->Prop} (hK:K (.tuple #[f ((G3 L s).getD z),.bool (G3 L s).isSome]) w):Bd P (Instr.lookup t (.map (some b)) (E.enc s) true) K w:=by
 refine mD.Bqa h ht hk hz s ?_;rw [JK];cases hg:G3 L s with
 |none=>rw [hg]at hK;exact hK
 |some v=>rw [hg]at hK;exact hK
end Go.Lv
