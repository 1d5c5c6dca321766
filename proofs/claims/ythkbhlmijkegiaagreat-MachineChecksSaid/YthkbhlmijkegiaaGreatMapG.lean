/- Maps that were only added to, with keys of any plain kind. -/
import Derived.Test.YthkbhlmijkegiaaGreatMemE
import Derived.MapKept
namespace Go.Vc
open Go.RowKit (Below)
structure G3 (κ:Type) [BEq κ] where
 enc:κ->Value
 kd:TypeDesc
 same:∀a b,Instr.sameNow kd (enc a) (enc b)=some (b==a)
 key:∀a,MapKept.IsKey kd (enc a)
def Nn (k:IntKind):G3 Int where
 enc:=fun n=> .int k n
 kd:= .int k
 same:=fun a b=>by
  have h:(a==b)=(b==a):=by rw [Bool.eq_iff_iff];simp;exact⟨fun h=>h.symm,fun h=>h.symm⟩
  simp [Instr.sameNow,h]
 key:=fun a=>by simp [MapKept.IsKey]
variable {κ:Type} [BEq κ]
def Np (E:G3 κ):Nat->List (κ×Value)->List MapEntry
 |_,[]=>[]|i,(k,v)::l=> { key:=E.enc k,val:=v,born:=i } ::Np E (i+1) l
def mO (E:G3 κ) (w:World) (b:Nat) (eS:List (κ×Value)):Prop:=w.heap[b]? =some (.map (Np E 0 eS).toArray eS.length)
def G4 {α:Type} (eS:List (κ×α)) (s:κ):Option α:=(eS.find? (·.1==s)).map (·.2)
theorem OP (E:G3 κ):∀(l:List (κ×Value)) (i:Nat) (k:κ) (v:Value),Np E i (l++[(k,v)])=Np E i l++[{ key:=E.enc k,val:=v,born:=i+l.length }]
 |[],i,k,v=>by simp [Np]
 |(a,b)::l,i,k,v=>by
  simp only [List.cons_append,Np,OP E l (i+1) k v,List.length_cons];rw [show i+1+l.length=i+(l.length+1) by omega]
theorem Tb (E:G3 κ) (s:κ):∀(l:List (κ×Value)) (i j:Nat),(G4 l s=none->Instr.findNow E.kd (E.enc s) (Np E j l) i=some none)/\(∀v,G4 l s=some v->∃k,Instr.findNow E.kd (E.enc s) (Np E j l) i=some (some (k,v)))
 |[],i,j=>⟨fun _=>rfl,fun v h=>by cases h⟩
 |(a,b)::l,i,j=>by
  unfold Np Instr.findNow;simp only [E.same];unfold G4;rw [List.find?_cons];cases h:(a==s)with
  |true=>exact⟨fun h=>(by cases h),fun v hv=>⟨i,by simp at hv;rw [hv]⟩⟩
  |false=>exact Tb E s l (i+1) (j+1)
theorem mO.new {E:G3 κ} {w w':World} {b:Nat} (hb:b=w.heap.size) (hw:w'=w.alloc (.map #[] 0)):mO E w' b []:=by
 subst hb hw;show(w.heap.push _)[w.heap.size]? =_
 simp [Np]
theorem mO.add {E:G3 κ} {P:Program} {w:World} {b:Nat} {eS:List (κ×Value)} (h:mO E w b eS) {t kt et:TypeId} (ht:P.underlying t=some (.map kt et)) (hk:P.underlying kt=some E.kd) {s:κ} {v:Value} (hs:G4 eS s=none) {K:Unit->World->Prop} (hK:∀w',mO E w' b (eS++[(s,v)])->w.grownBy w' (some b)->K () w'):Bl P (Instr.mapUpdate t (.map (some b)) (E.enc s) v) K w:=by
 have hf:=(Tb E s eS 0 0).1 hs;have hc:(Instr.checkKey false 10000 kt (E.enc s)).run P w= .ok () w:=MapKept.run_checkKey (k:=E.enc s) hk (E.key s) false 9999;refine⟨(),{ w with heap:=w.heap.setIfInBounds b (.map (Np E 0 (eS++[(s,v)])).toArray (eS.length+1)) },?_,hK _ ?_ ?_⟩
 ·simp [Instr.mapUpdate,run_underlying ht,MapKept.run_getObj_map h,hc,MapKept.run_findKey hk hf,MapKept.run_setObj_map _ h,Result.andThen,OP]
 ·have:=(MapKept.heap_set (o':= .map (Np E 0 (eS++[(s,v)])).toArray (eS.length+1)) h).1;unfold mO;simpa using this
 ·exact⟨rfl,rfl,rfl,by simp,fun k _ hr=>(MapKept.heap_set h).2 k (fun e=>hr (by rw [e]))⟩
theorem mO.Bqh {E:G3 κ} {P:Program} {w:World} {b:Nat} {eS:List (κ×Value)} (h:mO E w b eS) {t kt et:TypeId} (ht:P.underlying t=some (.map kt et)) (hk:P.underlying kt=some E.kd) {z:Value} (hz:(zeroValue et).run P w= .ok z w) (s:κ) {K:Value->World->Prop} (hK:K (.tuple #[(G4 eS s).getD z,.bool (G4 eS s).isSome]) w):Bl P (Instr.lookup t (.map (some b)) (E.enc s) true) K w:=by
 have hf:=Tb E s eS 0 0;have hc:∀e,(Instr.checkKey e 10000 kt (E.enc s)).run P w= .ok () w:=fun e=>MapKept.run_checkKey (k:=E.enc s) hk (E.key s) e 9999
 refine⟨_,w,?_,hK⟩;cases hg:G4 eS s with
 |none=>
  have:=hf.1 hg;simp [Instr.lookup,run_underlying ht,MapKept.run_getObj_map h,hc,MapKept.run_findKey hk this,Result.andThen,hz]
 |some v=>
  obtain⟨k,this⟩:=hf.2 v hg;simp [Instr.lookup,run_underlying ht,MapKept.run_getObj_map h,hc,MapKept.run_findKey hk this,Result.andThen]
theorem OQ {α β:Type} (f:α->β) (s:κ):∀l:List (κ×α),G4 (l.map fun p=>(p.1,f p.2)) s=(G4 l s).map f
 |[]=>rfl
 |p::l=>by
  unfold G4;rw [List.map_cons,List.find?_cons,List.find?_cons];cases h:(p.1==s)with
  |true=>rfl
  |false=>exact OQ f s l
end Go.Vc
