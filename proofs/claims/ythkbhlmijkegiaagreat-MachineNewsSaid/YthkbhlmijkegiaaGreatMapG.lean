/- Maps that were only added to, with keys of any plain kind. -/
import Derived.Test.YthkbhlmijkegiaaGreatMemE
import Derived.MapKept
namespace Go.Vc
open Go.RowKit (Below)
structure G2 (κ:Type) [BEq κ] where
 enc:κ->Value
 kd:TypeDesc
 same:∀a b,Instr.sameNow kd (enc a) (enc b)=some (b==a)
 key:∀a,MapKept.IsKey kd (enc a)
def Nq (k:IntKind):G2 Int where
 enc:=fun n=> .int k n
 kd:= .int k
 same:=fun a b=>by
  have h:(a==b)=(b==a):=by rw [Bool.eq_iff_iff];simp;exact⟨fun h=>h.symm,fun h=>h.symm⟩
  simp [Instr.sameNow,h]
 key:=fun a=>by simp [MapKept.IsKey]
variable {κ:Type} [BEq κ]
def Nr (E:G2 κ):Nat->List (κ×Value)->List MapEntry
 |_,[]=>[]|i,(k,v)::l=> { key:=E.enc k,val:=v,born:=i } ::Nr E (i+1) l
def mD (E:G2 κ) (w:World) (b:Nat) (fy:List (κ×Value)):Prop:=w.heap[b]? =some (.map (Nr E 0 fy).toArray fy.length)
def G3 {α:Type} (fy:List (κ×α)) (s:κ):Option α:=(fy.find? (·.1==s)).map (·.2)
theorem JG (E:G2 κ):∀(l:List (κ×Value)) (i:Nat) (k:κ) (v:Value),Nr E i (l++[(k,v)])=Nr E i l++[{ key:=E.enc k,val:=v,born:=i+l.length }]
 |[],i,k,v=>by simp [Nr]
 |(a,b)::l,i,k,v=>by
  simp only [List.cons_append,Nr,JG E l (i+1) k v,List.length_cons];rw [show i+1+l.length=i+(l.length+1) by omega]
theorem Td (E:G2 κ) (s:κ):∀(l:List (κ×Value)) (i j:Nat),(G3 l s=none->Instr.findNow E.kd (E.enc s) (Nr E j l) i=some none)/\(∀v,G3 l s=some v->∃k,Instr.findNow E.kd (E.enc s) (Nr E j l) i=some (some (k,v)))
 |[],i,j=>⟨fun _=>rfl,fun v h=>by cases h⟩
 |(a,b)::l,i,j=>by
  unfold Nr Instr.findNow;simp only [E.same];unfold G3;rw [List.find?_cons];cases h:(a==s)with
  |true=>exact⟨fun h=>(by cases h),fun v hv=>⟨i,by simp at hv;rw [hv]⟩⟩
  |false=>exact Td E s l (i+1) (j+1)
theorem mD.new {E:G2 κ} {w w':World} {b:Nat} (hb:b=w.heap.size) (hw:w'=w.alloc (.map #[] 0)):mD E w' b []:=by
 subst hb hw;show(w.heap.push _)[w.heap.size]? =_
 simp [Nr]
theorem mD.add {E:G2 κ} {P:Program} {w:World} {b:Nat} {fy:List (κ×Value)} (h:mD E w b fy) {t kt et:TypeId} (ht:P.underlying t=some (.map kt et)) (hk:P.underlying kt=some E.kd) {s:κ} {v:Value} (hs:G3 fy s=none) {K:Unit->World->Prop} (hK:∀w',mD E w' b (fy++[(s,v)])->w.grownBy w' (some b)->K () w'):Bd P (Instr.mapUpdate t (.map (some b)) (E.enc s) v) K w:=by
 have hf:=(Td E s fy 0 0).1 hs;have hc:(Instr.checkKey false 10000 kt (E.enc s)).run P w= .ok () w:=MapKept.run_checkKey (k:=E.enc s) hk (E.key s) false 9999;refine⟨(),{ w with heap:=w.heap.setIfInBounds b (.map (Nr E 0 (fy++[(s,v)])).toArray (fy.length+1)) },?_,hK _ ?_ ?_⟩
 ·simp [Instr.mapUpdate,run_underlying ht,MapKept.run_getObj_map h,hc,MapKept.run_findKey hk hf,MapKept.run_setObj_map _ h,Result.andThen,JG]
 ·have:=(MapKept.heap_set (o':= .map (Nr E 0 (fy++[(s,v)])).toArray (fy.length+1)) h).1;unfold mD;simpa using this
 ·exact⟨rfl,rfl,rfl,by simp,fun k _ hr=>(MapKept.heap_set h).2 k (fun e=>hr (by rw [e]))⟩
theorem mD.Bqa {E:G2 κ} {P:Program} {w:World} {b:Nat} {fy:List (κ×Value)} (h:mD E w b fy) {t kt et:TypeId} (ht:P.underlying t=some (.map kt et)) (hk:P.underlying kt=some E.kd) {z:Value} (hz:(zeroValue et).run P w= .ok z w) (s:κ) {K:Value->World->Prop} (hK:K (.tuple #[(G3 fy s).getD z,.bool (G3 fy s).isSome]) w):Bd P (Instr.lookup t (.map (some b)) (E.enc s) true) K w:=by
 have hf:=Td E s fy 0 0;have hc:∀e,(Instr.checkKey e 10000 kt (E.enc s)).run P w= .ok () w:=fun e=>MapKept.run_checkKey (k:=E.enc s) hk (E.key s) e 9999
 refine⟨_,w,?_,hK⟩;cases hg:G3 fy s with
 |none=>
  have:=hf.1 hg;simp [Instr.lookup,run_underlying ht,MapKept.run_getObj_map h,hc,MapKept.run_findKey hk this,Result.andThen,hz]
 |some v=>
  obtain⟨k,this⟩:=hf.2 v hg;simp [Instr.lookup,run_underlying ht,MapKept.run_getObj_map h,hc,MapKept.run_findKey hk this,Result.andThen]
theorem JH {α β:Type} (f:α->β) (s:κ):∀l:List (κ×α),G3 (l.map fun p=>(p.1,f p.2)) s=(G3 l s).map f
 |[]=>rfl
 |p::l=>by
  unfold G3;rw [List.map_cons,List.find?_cons,List.find?_cons];cases h:(p.1==s)with
  |true=>rfl
  |false=>exact JH f s l
end Go.Vc
