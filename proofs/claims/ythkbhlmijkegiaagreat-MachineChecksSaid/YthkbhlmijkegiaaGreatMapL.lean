/- Maps that a call owns. -/
import Derived.Test.YthkbhlmijkegiaaGreatLv
import Derived.Test.YthkbhlmijkegiaaGreatMapG
namespace Go.Lv
open Go.Vc
variable {n0:Nat} {rs m0:List Nat} {fr:List (List Nat×Nat×World)} {ds:List Nat} {w w':World} {ps:List Pc} {κ:Type} [BEq κ]
def Lq (E:G3 κ) (eS:List (κ×Value)):Obj:= .map (Np E 0 eS).toArray eS.length
def Rs {α:Type} (f:α->Value) (L:List (κ×α)):List (κ×Value):=L.map fun p=>(p.1,f p.2)
omit [BEq κ] in
theorem OS {α:Type} (f:α->Value) (L:List (κ×α)) (s:κ) (x:α):Rs f L++[(s,f x)]=Rs f (L++[(s,x)]):=by simp [Rs]
theorem Mem.Bl3 (o:Mem n0 rs m0 fr ds w ps) (E:G3 κ) {α:Type} (f:α->Value) {b:Nat} (hb:b=w.heap.size) (e:w'=w.alloc (.map #[] 0)):Mem n0 rs m0 fr ds w' (.raw b (Lq E (Rs f ([]:List (κ×α))))::ps):=
 o.push hb e (.raw b (Lq E [])) rfl ⟨mO.new (E:=E) hb e,rfl⟩
theorem Mem.Bk6 (E:G3 κ) {α:Type} (f:α->Value) {b:Nat} (hb:b=w.heap.size) (e:w'=w.alloc (.map #[] 0)):Step (ms ps m0) w (ms (.raw b (Lq E (Rs f ([]:List (κ×α))))::ps) m0) w':=
 Mem.Bqa (Ba e) (.raw b (Lq E [])) (by rw [hb];rfl)
theorem Mem.yx (o:Mem n0 rs m0 fr ds w ps) (k:Nat) {b:Nat} {ob:Obj} (hk:ps[k]? =some (.raw b ob)):w.heap[b]? =some ob:=(o.holds _ (List.mem_of_getElem? hk)).1
theorem Mem.Bl4 (o:Mem n0 rs m0 fr ds w ps) (E:G3 κ) (k:Nat) {b:Nat} {ob:Obj} {eS:List (κ×Value)} (hk:ps[k]? =some (.raw b ob)) (hK:Ai [b] w w') (hm:w'.heap[b]? =some (Lq E eS)):Mem n0 rs m0 fr ds w' (ps.set k (.raw b (Lq E eS))):=
 o.kB k hk hK ⟨hm,rfl⟩ (fun _ h=> .inl h)
theorem Mem.Bk7 (E:G3 κ) (k:Nat) {b:Nat} {ob:Obj} {eS:List (κ×Value)} (hk:ps[k]? =some (.raw b ob)) (hK:Ai [b] w w'):Step (ms ps m0) w (ms (ps.set k (.raw b (Lq E eS))) m0) w':=
 Mem.qV k hk hK (fun _ h=> .inl h)
theorem OT {P:Program} {E:G3 κ} {b:Nat} {eS:List (κ×Value)} (h:w.heap[b]? =some (Lq E eS)) {t kt et:TypeId} (ht:P.underlying t=some (.map kt et)) (hk:P.underlying kt=some E.kd) {s:κ} {v:Value} (hs:G4 eS s=none) {K:Unit->World->Prop} (hK:∀w',Ai [b] w w'->w'.heap[b]? =some (Lq E (eS++[(s,v)]))->K () w'):Bl P (Instr.mapUpdate t (.map (some b)) (E.enc s) v) K w:=
 mO.add h ht hk hs fun w' h1 h2=>hK w' ⟨h2.os,h2.tape,h2.output,h2.size,fun j hj hm=>h2.block j hj (fun e=>hm (by cases e;simp))⟩ h1
theorem OU {α:Type} (f:α->Value) (L:List (κ×α)) (s:κ):G4 (Rs f L) s=(G4 L s).map f:=OQ f s L
theorem OV {P:Program} {E:G3 κ} {b:Nat} {α:Type} {f:α->Value} {L:List (κ×α)} (h:w.heap[b]? =some (Lq E (Rs f L))) {t kt et:TypeId} (ht:P.underlying t=some (.map kt et)) (hk:P.underlying kt=some E.kd) {z:α} (hz:(zeroValue et).run P w= .ok (f z) w) (s:κ) {K:Value->World->Prop} (hK:K (.tuple #[f ((G4 L s).getD z),.bool (G4 L s).isSome]) w):Bl P (Instr.lookup t (.map (some b)) (E.enc s) true) K w:=by
 refine mO.Bqh h ht hk hz s ?_;rw [OU];cases hg:G4 L s with
 |none=>rw [hg]at hK;exact hK
 |some v=>rw [hg]at hK;exact hK
end Go.Lv
