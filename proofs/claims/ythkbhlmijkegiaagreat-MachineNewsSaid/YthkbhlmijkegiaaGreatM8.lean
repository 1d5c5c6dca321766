/- A part of the proof: conditions of the code, contracts, the plain law. -/
import Derived.Test.YthkbhlmijkegiaaGreatM7
import Derived.Test.YthkbhlmijkegiaaGreatM6
import Derived.Orders
import Derived.LoopNIn
import GoSem.ClaimWide
import Derived.Test.YthkbhlmijkegiaaGreatLoop
import Derived.KernelRfl
open Bool (and_eq_true or_eq_true not_eq_true')
open Nat (ble eq_of_beq_eq_true lor shiftLeft le_of_ble_eq_true lt_or_ge le_refl blt mod le_trans land)
open Array (getD_eq_getD_getElem? getElem?_eq_getElem replicate ext')
open List (mem_cons mem_of_getElem? length_append mem_append take_length mem_map)
open Option (getD_some)
namespace Go.Am
open Go.Vc
variable {R:Type}
def fz {β:Type} (n:Nat) (f:Nat->β):β:=Nat.casesOn (motive:=fun _=>β) (Nat.succ n) (f n) f
theorem vP {β:Type} (n:Nat) (f:Nat->β):fz n f=f n:=rfl
def an (a b:Bool):Bool:=Bool.casesOn (motive:=fun _=>Bool) a false b
theorem Q4 (a b:Bool):an a b=(a&&b):=by cases a<;>rfl
def no (a:Bool):Bool:=Bool.casesOn (motive:=fun _=>Bool) a true false
theorem vQ (a:Bool):no a= !a:=by cases a<;>rfl
def rv (a b c:Bool):Bool:=Bool.casesOn (motive:=fun _=>Bool) a c b
theorem yE (a b c:Bool):rv a b c=cond a b c:=by cases a<;>rfl
def W4 (m i:Nat):Bool:=Nat.beq (mod (Nat.shiftRight m i) 2) 1
theorem U9 (m i:Nat):W4 m i=m.testBit i:=by
 have h:(m>>>i)%2=(m.testBit i).toNat:=by
  rw [Nat.toNat_testBit,Nat.shiftRight_eq_div_pow]
 show Nat.beq ((m>>>i)%2) 1=_
 rw [h];cases m.testBit i<;>rfl
def Y2 (a b:Nat):Bool:=Nat.beq (land a b) a
theorem Vb {a b i:Nat} (h:Y2 a b=true) (hi:a.testBit i=true):b.testBit i=true:=by
 have h:a&&&b=a:=eq_of_beq_eq_true h;rw [←h,Nat.testBit_and]at hi;exact(and_eq_true _ _▸hi).2
def Ld (A j:Nat):Nat:=mod (Nat.shiftRight A (Nat.mul 64 j)) 18446744073709551616
theorem NR (A j i:Nat):(Ld A j).testBit i=(decide (i<64)&&A.testBit (64*j+i)):=by
 show((A>>>(64*j))%2^64).testBit i=_
 rw [Nat.testBit_mod_two_pow,Nat.testBit_shiftRight]
def gb (A i j:Nat):Bool:=W4 (Ld A j) i
theorem yF (A i j:Nat):gb A i j=(decide (i<64)&&A.testBit (64*j+i)):=by rw [gb,U9,NR]
theorem Fy (a b i:Nat):(lor a b).testBit i=(a.testBit i||b.testBit i):=Nat.testBit_or a b i
theorem Jd (i j:Nat):(shiftLeft 1 i).testBit j=decide (i=j):=by
 show(1<<<i).testBit j=_
 rw [Nat.shiftLeft_eq,Nat.one_mul,Nat.testBit_two_pow]
def Q5 (acc:Nat):List Edge->Nat
 |[]=>0|e::es=>cond (Region.binds .any e) (lor (lor (shiftLeft 1 e.on) (Ld acc e.on)) (Q5 acc es)) (Q5 acc es)
theorem Tw {acc b:Nat} :∀ {es:List Edge},(Q5 acc es).testBit b=true->∃e∈es,Region.binds .any e=true/\(b=e.on\/gb acc b e.on=true)
 |[],h=>by simp [Q5]at h
 |e::es,h=>by
  simp only [Q5]at h;cases hb:Region.binds .any e with
  |false=>
   rw [hb]at h;obtain⟨e',h1,h2⟩:=Tw h;exact⟨e',by simp [h1],h2⟩
  |true=>
   rw [hb]at h;simp only [cond_true,Fy,Jd,or_eq_true,decide_eq_true_eq]at h;rcases h with(h|h)|h
   ·exact⟨e,by simp,hb,.inl h.symm⟩
   ·exact⟨e,by simp,hb,.inr (by rw [gb,U9];exact h)⟩
   ·obtain⟨e',h1,h2⟩:=Tw h;exact⟨e',by simp [h1],h2⟩
def yG:List Oper->Nat->Nat->Nat
 |[],_,acc=>acc|o::l,j,acc=>fz (lor acc (shiftLeft (mod (Q5 acc o.after.toList) 18446744073709551616) (Nat.mul 64 j))) fun acc=>yG l (Nat.succ j) acc
def yH (ops:List Oper):Nat:=yG ops 0 0
def NS (ops:List Oper) (j acc:Nat):Prop:=∀k b,gb acc b k=true->k<j/\∃o,ops[k]? =some o/\∃e∈o.after.toList,Region.binds .any e=true/\(b=e.on\/gb acc b e.on=true/\e.on<k)
theorem NT {ops:List Oper} :∀(l:List Oper) (j acc:Nat),ops.drop j=l->NS ops j acc->∃j',NS ops j' (yG l j acc)
 |[],j,acc,_,h=>⟨j,h⟩
 |o::l,j,acc,hd,h=>by
  simp only [yG,vP];have ho:ops[j]? =some o:=by
   have:(ops.drop j)[0]? =some o:=by rw [hd];rfl
   simpa using this
  have hl:ops.drop (j+1)=l:=by
   rw [←List.drop_drop,hd];rfl
  refine NT l (j+1) _ hl ?_;have mono:∀ {b k:Nat},gb acc b k=true->gb (lor acc (shiftLeft (mod (Q5 acc o.after.toList) 18446744073709551616) (Nat.mul 64 j))) b k=true:=by
   intro b k hb;rw [yF]at hb⊢;rw [Fy];simp only [and_eq_true,or_eq_true]at hb⊢;exact⟨hb.1,.inl hb.2⟩
  intro k b hb;rw [yF,Fy]at hb;simp only [and_eq_true,or_eq_true,decide_eq_true_eq]at hb;obtain⟨Bq6,hb⟩:=hb;rcases hb with hb|hb
  ·obtain⟨h1,o',h2,e,h3,h4,h5⟩:=h k b (by rw [yF];simp [Bq6,hb]);exact⟨by omega,o',h2,e,h3,h4,h5.imp id fun h=>⟨mono h.1,h.2⟩⟩
  ·have hb:((Q5 acc o.after.toList%2^64)<<<(64*j)).testBit (64*k+b)=true:=hb;rw [Nat.testBit_shiftLeft,Nat.testBit_mod_two_pow]at hb;simp only [and_eq_true,decide_eq_true_eq]at hb;have z4:k=j:=by omega
   subst z4;have e1:64*k+b-64*k=b:=by omega
   rw [e1]at hb;obtain⟨e,h3,h4,h5⟩:=Tw hb.2.2;exact⟨by omega,o,ho,e,h3,h4,h5.imp id fun g=>⟨mono g,(h _ _ g).1⟩⟩
def Cl (ops:Array Oper) (L:Array Bool):Prop:=∀i o,ops[i]? =some o->L.getD i false=true->∀e∈o.after.toList,Region.binds .any e=true->L.getD e.on false=true
theorem NU {ops:Array Oper} {L:Array Bool} (hL:L.size=ops.size) (gN:Cl ops L):∀(j:Nat) (o:Oper),ops[j]? =some o->(∀e∈o.after.toList,Region.binds .any e=true->L.getD e.on false=true)->∀b,gb (yH ops.toList) b j=true->L.getD b false=true:=by
 obtain⟨j',hA⟩:=NT (ops:=ops.toList) ops.toList 0 0 rfl (fun k b h=>by rw [yF]at h;simp at h);intro j
 induction j using Nat.strongRecOn with
 |_ j ih=>
  intro o ho he b hb;obtain⟨_,o',h2,e,h3,h4,h5⟩:=hA j b hb;have:o'=o:=by
   rw [Array.getElem?_toList,ho]at h2;exact(Option.some.inj h2).symm
  subst this;have hd:=he e h3 h4;rcases h5 with rfl|⟨h5,aP⟩
  ·exact hd
  ·have NV:e.on<ops.size:=by
    rcases lt_or_ge e.on ops.size with h|h
    ·exact h
    ·rw [getD_eq_getD_getElem?,Array.getElem?_eq_none (by omega)]at hd;cases hd
   exact ih e.on aP ops[e.on] (by simp [NV]) (gN e.on _ (by simp [NV]) hd) b h5
def rz (o:Oper):Bool:=match o.op with
 | .move _| .assign _| .pick .. | .nilCheck _| .fieldAddr .. | .indexAddr .. | .slice .. | .field .. | .index .. | .extract .. | .build .. | .makeFunc .. | .binOp .. | .unOp .. | .makeInterface .. | .typeAssert .. | .load .. | .convert .. =>true| .call { callee:= .builtin .len,.. } | .call { callee:= .builtin .cap,.. } | .call { callee:= .builtin .min,.. } | .call { callee:= .builtin .max,.. } =>true|_=>false
def X1 (tm:Tm) (o:Oper):Bool:=match o.op with
 | .load .. =>true| .convert _ _ x=>match cV tm x with
  |some (.slice ..)=>true|_=>false
 |_=>false
def X2 (o:Oper):Bool:=match o.op with
 | .load .. =>true| .convert .. =>true|_=>false
theorem Axa {tm:Tm} {o:Oper} (h:X1 tm o=true):X2 o=true:=by
 unfold X1 at h;unfold X2;split at h
 ·rfl
 ·rfl
 ·cases h
def G7 (o:Oper):Bool:=match o.op with
 | .alloc _=>true| .box .. =>true| .buildSlice .. =>true|_=>false
def Jq (o:Oper):Bool:=no (rz o)
def J9 (o:Oper):Bool:=an (Jq o) (no (G7 o))
def vR (W am:Nat):List Nat->Bool
 |[]=>true|t::l=>an (Y2 (Ld W t) am) (vR W am l)
theorem NW {W am t:Nat} :∀ {l:List Nat},vR W am l=true->t∈l->Y2 (Ld W t) am=true
 |[],_,h=>by cases h
 |u::l,h,ht=>by
  simp only [vR,Q4,and_eq_true]at h;rcases mem_cons.1 ht with rfl|ht
  ·exact h.1
  ·exact NW h.2 ht
def tc (R i:Nat):List Nat->Nat
 |[]=>R|t::l=>lor (shiftLeft 1 (Nat.add (Nat.mul 64 t) i)) (tc R i l)
theorem NY {R i k:Nat} :∀ {l:List Nat},R.testBit k=true->(tc R i l).testBit k=true
 |[],h=>h
 |t::l,h=>by simp only [tc,Fy,NY h,Bool.or_true]
theorem NZ {R i t:Nat} :∀ {l:List Nat},t∈l->(tc R i l).testBit (64*t+i)=true
 |[],h=>by cases h
 |u::l,h=>by
  simp only [tc,Fy,or_eq_true];rcases mem_cons.1 h with rfl|h
  ·refine .inl ?_;rw [Jd];exact decide_eq_true rfl
  ·exact .inr (NZ h)
def td:List Edge->Nat
 |[]=>0|e::es=>cond (Region.binds .any e) (lor (shiftLeft 1 e.on) (td es)) (td es)
theorem N_ {e:Edge} (hb:Region.binds .any e=true):∀ {es:List Edge},e∈es->(td es).testBit e.on=true
 |[],h=>by cases h
 |e'::es,h=>by
  simp only [td];rcases mem_cons.1 h with rfl|h
  ·rw [hb,cond_true,Fy,Jd];simp
  ·have:=N_ hb h;cases Region.binds .any e' with
   |true=>rw [cond_true,Fy,this,Bool.or_true]
   |false=>exact this
def yI (W R am:Nat) (d:Option Nat):Bool:=match d with
 |none=>true|some t=>an (Nat.beq (Ld W t) 0) (Y2 (Ld R t) am)
def DQ (W i:Nat) (d:Option Nat):Nat:=match d with
 |none=>W|some t=>lor (shiftLeft 1 (Nat.add (Nat.mul 64 t) i)) W
def vS (ops:Array Oper) (A:Nat):List (Nat×Oper)->Nat->Nat->Nat->Nat->Nat->Option (Nat×Nat)
 |[],_,_,B,_,F=>some (B,F)|(i,o)::l,W,Rr,B,Mm,F=>fz (Ld A i) fun am=>
  cond (an (ble i 63) (an (no (W4 B i)) (an (Y2 (td o.after.toList) B) (an (vR W am (o.looksAt ops)) (an (yI W Rr am o.dst) (rv (J9 o) (Y2 Mm am) true))))))
   (fz (DQ W i o.dst) fun W=>fz (tc Rr i (o.looksAt ops)) fun Rr=>fz (lor (shiftLeft 1 i) B) fun B=>
    fz (lor (cond (an (X2 o) (Y2 Mm am)) (shiftLeft 1 i) 0) (cond (J9 o) (land F am) F)) fun F=>
    fz (cond (Jq o) (lor (shiftLeft 1 i) Mm) Mm) fun Mm=>vS ops A l W Rr B Mm F) none
structure yJ (ops:Array Oper) (A:Nat) (pre:List (Nat×Oper)) (y:Nat×Oper):Prop where
 ne:∀x∈pre,x.1≠y.1
 Bq7:∀e∈y.2.after.toList,Region.binds .any e=true->∃x∈pre,x.1=e.on
 dst:∀x∈pre,∀t,x.2.dst=some t->y.2.dst≠some t
 look:∀x∈pre,∀t,x.2.dst=some t->t∈y.2.looksAt ops->gb A x.1 y.1=true
 Bq8:∀x∈pre,∀t,y.2.dst=some t->t∈x.2.looksAt ops->gb A x.1 y.1=true
 mem:∀x∈pre,Jq x.2=true->J9 y.2=true->gb A x.1 y.1=true
structure OA (ops:Array Oper) (A:Nat) (pre:List (Nat×Oper)) (W Rr B Mm F:Nat):Prop where
 b:∀x∈pre,x.1<=63/\B.testBit x.1=true
 b':∀k,B.testBit k=true->∃x∈pre,x.1=k
 w:∀x∈pre,∀t,x.2.dst=some t->W.testBit (64*t+x.1)=true
 r:∀x∈pre,∀t,t∈x.2.looksAt ops->Rr.testBit (64*t+x.1)=true
 m:∀x∈pre,Jq x.2=true->Mm.testBit x.1=true
 vT:∀(q:Nat) y,pre[q]? =some y->yJ ops A (pre.take q) y
 f':∀k,F.testBit k=true->B.testBit k=true
 f:∀(p q:Nat) (x y:Nat×Oper),pre[p]? =some x->pre[q]? =some y->F.testBit x.1=true->Jq y.2=true->(q<p->gb A y.1 x.1=true)/\(p<q->J9 y.2=true->gb A x.1 y.1=true)
theorem Vd {A i j:Nat} (h:(Ld A j).testBit i=true):gb A i j=true:=by rw [gb,U9];exact h
theorem OB {ops:Array Oper} {A:Nat} :∀(l pre:List (Nat×Oper)) (W Rr B Mm F B' F':Nat),OA ops A pre W Rr B Mm F->vS ops A l W Rr B Mm F=some (B',F')->∃W' R' M',OA ops A (pre++l) W' R' B' M' F'
 |[],pre,W,Rr,B,Mm,F,B',F',h,hk=>by
  simp only [vS]at hk;cases hk;exact⟨W,Rr,Mm,by simpa using h⟩
 |(i,o)::l,pre,W,Rr,B,Mm,F,B',F',h,hk=>by
  simp only [vS,vP]at hk;cases hc:an (ble i 63) (an (no (W4 B i)) (an (Y2 (td o.after.toList) B) (an (vR W (Ld A i) (o.looksAt ops)) (an (yI W Rr (Ld A i) o.dst) (rv (J9 o) (Y2 Mm (Ld A i)) true)))))with
  |false=>rw [hc]at hk;cases hk
  |true=>
   rw [hc]at hk;simp only [Q4,vQ,yE,and_eq_true,not_eq_true',U9]at hc;obtain⟨c1,c2,c3,c4,c5,c6⟩:=hc;have c1:=le_of_ble_eq_true c1;have yK:∀x∈pre,x.1≠i:=fun x hx e=>by
    have:=(h.b x hx).2;rw [e,c2]at this;cases this
   have row:∀ {S t:Nat} {x:Nat×Oper},x∈pre->S.testBit (64*t+x.1)=true->(Ld S t).testBit x.1=true:=by
    intro S t x hx hs;rw [NR];have:=(h.b x hx).1;simp [hs];omega
   have o_:yJ ops A pre (i,o):=by
    refine⟨yK,fun e he hb=> ?_,fun x hx t vU rA=> ?_,fun x hx t vU ht=> ?_,fun x hx t rA ht=> ?_,fun x hx hm hl=> ?_⟩
    ·exact h.b' _ (Vb c3 (N_ hb he))
    ·have rA:o.dst=some t:=rA;rw [rA]at c5;simp only [yI,Q4,and_eq_true]at c5;have h0:=eq_of_beq_eq_true c5.1;have:=row hx (h.w x hx t vU);rw [h0]at this;simp at this
    ·exact Vd (Vb (NW c4 ht) (row hx (h.w x hx t vU)))
    ·have rA:o.dst=some t:=rA;rw [rA]at c5;simp only [yI,Q4,and_eq_true]at c5;exact Vd (Vb c5.2 (row hx (h.r x hx t ht)))
    ·have hl:J9 o=true:=hl;rw [hl]at c6;exact Vd (Vb c6 (h.m x hx hm))
   have yL:∀ {q:Nat} {y:Nat×Oper},(pre++[(i,o)])[q]? =some y->(q<pre.length/\pre[q]? =some y)\/(q=pre.length/\y=(i,o)):=by
    intro q y hq;rcases lt_or_ge q pre.length with aP|j9
    ·rw [List.getElem?_append_left aP]at hq;exact .inl ⟨aP,hq⟩
    ·rw [List.getElem?_append_right j9]at hq;have h0:q-pre.length=0:=by
      have:=(List.getElem?_eq_some_iff.1 hq).1;simp at this;omega
     rw [h0]at hq;exact .inr ⟨by omega,by simpa using hq.symm⟩
   have OC:=fun hI=>OB l (pre++[(i,o)]) _ _ _ _ _ B' F' hI hk
   rw [List.append_assoc]at OC;refine OC ?_
   ·refine⟨fun x hx=> ?_,fun k hk=> ?_,fun x hx t ht=> ?_,fun x hx t ht=> ?_,fun x hx hm=> ?_,fun q y hq=> ?_,fun k hk=> ?_,fun p q x y hp hq hF hm=> ?_⟩
    ·rcases mem_append.1 hx with hx|hx
     ·exact⟨(h.b x hx).1,by rw [Fy,(h.b x hx).2,Bool.or_true]⟩
     ·obtain rfl:x=(i,o):=by simpa using hx
      exact⟨c1,by rw [Fy,Jd];simp⟩
    ·rw [Fy,Jd,or_eq_true,decide_eq_true_eq]at hk;rcases hk with rfl|hk
     ·exact⟨(i,o),by simp,rfl⟩
     ·obtain⟨x,h1,h2⟩:=h.b' k hk;exact⟨x,by simp [h1],h2⟩
    ·rcases mem_append.1 hx with hx|hx
     ·have:=h.w x hx t ht;unfold DQ;split
      ·exact this
      ·rw [Fy,this,Bool.or_true]
     ·obtain rfl:x=(i,o):=by simpa using hx
      have ht:o.dst=some t:=ht;unfold DQ;rw [ht];simp only [Fy,Jd];rw [show decide (Nat.add (Nat.mul 64 t) i=64*t+i)=true from decide_eq_true rfl,Bool.true_or]
    ·rcases mem_append.1 hx with hx|hx
     ·exact NY (h.r x hx t ht)
     ·obtain rfl:x=(i,o):=by simpa using hx
      exact NZ ht
    ·rcases mem_append.1 hx with hx|hx
     ·have:=h.m x hx hm;cases Jq o with
      |true=>rw [cond_true,Fy,this,Bool.or_true]
      |false=>exact this
     ·obtain rfl:x=(i,o):=by simpa using hx
      have hm:Jq o=true:=hm;rw [hm,cond_true,Fy,Jd];simp
    ·rcases yL hq with⟨h1,h2⟩|⟨rfl,rfl⟩
     ·rw [List.take_append_of_le_length (Nat.le_of_lt h1)];exact h.vT q y h2
     ·rw [List.take_left' rfl];exact o_
    ·rw [Fy,or_eq_true]at hk;rw [Fy,Jd,or_eq_true,decide_eq_true_eq];rcases hk with hk|hk
     ·cases fH:an (X2 o) (Y2 Mm (Ld A i))with
      |true=>rw [fH,cond_true,Jd]at hk;exact .inl (of_decide_eq_true hk)
      |false=>rw [fH,cond_false]at hk;simp at hk
     ·refine .inr (h.f' k ?_);cases hl:J9 o with
      |true=>
       rw [hl,cond_true]at hk;have hk:(F&&&Ld A i).testBit k=true:=hk;rw [Nat.testBit_and,and_eq_true]at hk;exact hk.1
      |false=>rw [hl]at hk;exact hk
    ·rw [Fy,or_eq_true]at hF;have OD:(cond (J9 o) (land F (Ld A i)) F).testBit x.1=true->F.testBit x.1=true/\(J9 o=true->(Ld A i).testBit x.1=true):=by
      intro hk;cases hl:J9 o with
      |true=>
       rw [hl,cond_true]at hk;have hk:(F&&&Ld A i).testBit x.1=true:=hk;rw [Nat.testBit_and,and_eq_true]at hk;exact⟨hk.1,fun _=>hk.2⟩
      |false=>rw [hl]at hk;exact⟨hk,nofun⟩
     rcases yL hp with⟨dg,ig⟩|⟨rfl,rfl⟩
     ·have DR:x∈pre:=mem_of_getElem? ig;have hF:F.testBit x.1=true/\(J9 o=true->(Ld A i).testBit x.1=true):=by
       rcases hF with hF|hF
       ·cases fH:an (X2 o) (Y2 Mm (Ld A i))with
        |true=>rw [fH,cond_true,Jd]at hF;exact absurd (of_decide_eq_true hF).symm (yK x DR)
        |false=>rw [fH,cond_false]at hF;simp at hF
       ·exact OD hF
      rcases yL hq with⟨x_,DS⟩|⟨rfl,rfl⟩
      ·exact h.f p q x y ig DS hF.1 hm
      ·exact⟨fun aP=>by omega,fun _ hl=>Vd (hF.2 hl)⟩
     ·rcases yL hq with⟨x_,DS⟩|⟨rfl,rfl⟩
      ·refine⟨fun _=> ?_,fun aP=>by omega⟩;have rB:y∈pre:=mem_of_getElem? DS;rcases hF with hF|hF
       ·cases fH:an (X2 o) (Y2 Mm (Ld A i))with
        |true=>
         rw [Q4,and_eq_true]at fH;exact Vd (Vb fH.2 (h.m y rB hm))
        |false=>rw [fH,cond_false]at hF;simp at hF
       ·have:=h.f' _ (OD hF).1;rw [c2]at this;cases this
      ·exact⟨fun aP=>absurd aP (Nat.lt_irrefl _),fun aP=>absurd aP (Nat.lt_irrefl _)⟩
def yM (m acc:Nat):Nat->Nat->(List Nat->List Nat)
 |0,_=>fun l=>l
 |f+1,k=>cond (an (W4 m k) (no (W4 acc k))) (fun l=>k::yM m acc f (Nat.succ k) l) (yM m acc f (Nat.succ k))
def DT (A N:Nat):List Oper->Nat->Nat->List Nat
 |[],_,acc=>yM 18446744073709551615 acc N 0 []|o::l,i,acc=>cond (an (J9 o) (no (W4 acc i))) (fz (lor (shiftLeft 1 i) (lor acc (Ld A i))) fun Bq9=>yM (Ld A i) acc N 0 (i::DT A N l (Nat.succ i) Bq9)) (DT A N l (Nat.succ i) acc)
def yN {β:Type} :List Nat->(List Nat->β)->β
 |[],K=>K []|k::l,K=>fz k fun k=>yN l fun l=>K (k::l)
def Q6 (ops:List Oper):List Nat->List (Nat×Oper)
 |[]=>[]|i::l=>match ops[i]? with
  |some o=>(i,o)::Q6 ops l|none=>Q6 ops l
theorem W5 {ops:List Oper} :∀ {l:List Nat} {x:Nat×Oper},x∈Q6 ops l->ops[x.1]? =some x.2
 |[],_,h=>by cases h
 |i::l,x,h=>by
  simp only [Q6]at h;split at h
  ·rename_i o ho;rcases mem_cons.1 h with rfl|h
   ·exact ho
   ·exact W5 h
  ·exact W5 h
def yO (f:Oper->Bool):List (Nat×Oper)->Bool
 |[]=>false|x::l=>rv (f x.2) true (yO f l)
theorem OE {f:Oper->Bool} :∀ {l:List (Nat×Oper)} {x:Nat×Oper},yO f l=false->x∈l->f x.2=false
 |[],_,_,h=>by cases h
 |y::l,x,h,hx=>by
  simp only [yO,yE]at h;cases hf:f y.2 with
  |true=>rw [hf]at h;cases h
  |false=>
   rw [hf]at h;rcases mem_cons.1 hx with rfl|hx
   ·exact hf
   ·exact OE h hx
def yP (f:Nat×Oper->Bool):List (Nat×Oper)->Bool
 |[]=>false|x::l=>rv (f x) true (yP f l)
theorem OG {f:Nat×Oper->Bool} :∀ {l:List (Nat×Oper)} {x:Nat×Oper},yP f l=false->x∈l->f x=false
 |[],_,_,h=>by cases h
 |y::l,x,h,hx=>by
  simp only [yP,yE]at h;cases hf:f y with
  |true=>rw [hf]at h;cases h
  |false=>
   rw [hf]at h;rcases mem_cons.1 hx with rfl|hx
   ·exact hf
   ·exact OG h hx
structure vV where
 A:Nat
 jn:List (Nat×Oper)
 F:Nat
 ld:Bool
 al:Bool
def DU (ops:Array Oper):Option vV:=fz (yH ops.toList) fun A=>yN (DT A ops.size ops.toList 0 0) fun order=>
 match vS ops A (Q6 ops.toList order) 0 0 0 0 0 with
 |some (B,F)=>cond (Nat.beq B (Nat.sub (shiftLeft 1 ops.size) 1)) (some ⟨A,Q6 ops.toList order,F,yP (fun x=>an (X2 x.2) (no (W4 F x.1))) (Q6 ops.toList order),yO G7 (Q6 ops.toList order)⟩) none
 |none=>none
structure DV (ops:Array Oper) (g:vV):Prop where
 A:g.A=yH ops.toList
 at_:∀x∈g.jn,ops.toList[x.1]? =some x.2
 has:∀i,i<ops.size->∃x∈g.jn,x.1=i
 vT:∀(q:Nat) y,g.jn[q]? =some y->yJ ops g.A (g.jn.take q) y
 fix:∀(p q:Nat) (x y:Nat×Oper),g.jn[p]? =some x->g.jn[q]? =some y->W4 g.F x.1=true->Jq y.2=true->(q<p->gb g.A y.1 x.1=true)/\(p<q->J9 y.2=true->gb g.A x.1 y.1=true)
 ld:g.ld=false->∀x∈g.jn,X2 x.2=true->W4 g.F x.1=true
 al:g.al=false->∀x∈g.jn,G7 x.2=false
theorem OH {β:Type} :∀(l:List Nat) (K:List Nat->β),yN l K=K l
 |[],_=>rfl
 |k::l,K=>by simp only [yN,vP,OH l]
theorem Auj {ops:Array Oper} {g:vV} (h:DU ops=some g):DV ops g:=by
 unfold DU at h;rw [vP,OH]at h;split at h
 case h_2=>cases h
 rename_i B F hk;cases hb:Nat.beq B (Nat.sub (shiftLeft 1 ops.size) 1)with
 |false=>rw [hb]at h;cases h
 |true=>
  rw [hb]at h;cases h
  have hB:B=1<<<ops.size-1:=eq_of_beq_eq_true hb;obtain⟨W',R',M',hI⟩:=OB _ [] 0 0 0 0 0 B F ⟨by simp,by simp,by simp,by simp,by simp,by simp,by simp,by simp⟩ hk;rw [List.nil_append]at hI;refine⟨rfl,fun x hx=>W5 hx,fun i hi=> ?_,hI.vT,fun p q x y hp hq hF hm=>hI.f p q x y hp hq (by rw [←U9];exact hF) hm,fun hl x hx hs=> ?_,fun ha x hx=>OE ha hx⟩
  ·refine hI.b' i ?_;rw [hB,Nat.shiftLeft_eq,Nat.one_mul,Nat.testBit_two_pow_sub_one];exact decide_eq_true hi
  ·have:=OG hl hx;rw [hs,Q4,vQ,Bool.true_and,Bool.not_eq_false']at this;exact this
variable {R:Type}
def Ve (P:Program) (tm:Tm) (M:Tr aL) (o:Oper):Option AV:=match o.op with
 | .load t x=>sM P tm t x M some| .convert s d x=>match cV tm x with
  |some (.slice ..)=>yv P tm s d x M|_=>J8 P tm o
 |_=>J8 P tm o
theorem Auk {P:Program} {tm:Tm} {M:Tr aL} {n:Nat} {o:Oper} {av:AV} (h:Ve P tm M o=some av):fM P tm o M n av M n:=by
 unfold Ve at h;split at h
 ·rename_i t x ho;obtain⟨CJ,h1,h2⟩:=BZ (n:=n) ho h;cases h1
  exact h2
 ·rename_i s d x ho;split at h
  ·exact ME ho h
  ·exact fM.pure (Qx h)
 ·exact fM.pure (Qx h)
theorem Asa {P:Program} {tm:Tm} {M M':Tr aL} {o:Oper} (hl:X1 tm o=false):Ve P tm M o=Ve P tm M' o:=by
 unfold Ve;unfold X1 at hl;split
 ·rename_i ho;rw [ho]at hl;cases hl
 ·rename_i ho;rw [ho]at hl;split
  ·rename_i h;simp only [h]at hl;cases hl
  ·rfl
 ·rfl
def Q7 (P:Program) (tm:Tm) (M:Tr aL) (o:Oper) (av:AV):Prop:=Ve P tm M o=some av\/Ny P tm o av
theorem Q7.ok {P:Program} {tm:Tm} {M:Tr aL} {n:Nat} {o:Oper} {av:AV} (h:Q7 P tm M o av):fM P tm o M n av M n:=h.elim Auk fM.pure
theorem Q7.any {P:Program} {tm:Tm} {M M':Tr aL} {o:Oper} {av:AV} (hl:X1 tm o=false) (h:Q7 P tm M o av):Q7 P tm M' o av:=h.imp (fun h=>by rw [Asa (M':=M) hl];exact h) id
abbrev vW (R:Type):Type:=Tm->Tr aL->(AV->Option R)->Option R
def Ba6 (f:iE R):vW R:=fun tm _ K=>f tm K
def yQ (P:Program) (o:Oper):vW R:=fun tm M K=>match Ve P tm M o with
 |some av=>fO o av K|none=>none
def Ba7 (gx:Tm->Option AV):vW R:=fun tm M K=>s0 (gx tm) fun b k=>oK ((Tr.gB b).get M) fun x=>yD x fun l _=>oK ((s_ k).get l) K
def yR (P:Program) (o:Oper):Bx (vW R):=match yB P o with
 |some q=>b1 Ba6 q|none=>match o.op with
  | .load t x=>match o7 P t with
   |some false=>b1 Ba7 (dm x)|_=>⟨yQ P o⟩
  |_=>⟨yQ P o⟩
theorem OI {P:Program} {o:Oper} {tm:Tm} {M:Tr aL} {K:AV->Option R} {r:R} (h:yQ P o tm M K=some r):∃av,K av=some r/\Q7 P tm M o av:=by
 unfold yQ at h;split at h
 ·rename_i av fh;rw [NH]at h;exact⟨av,h,.inl fh⟩
 ·cases h
theorem Aul {P:Program} {o:Oper} {tm:Tm} {M:Tr aL} {K:AV->Option R} {r:R} (h:(yR P o).get tm M K=some r):∃av,K av=some r/\Q7 P tm M o av:=by
 unfold yR at h;split at h
 ·rename_i q hq;obtain⟨av,h1,h2⟩:=NC hq tm K r h;exact⟨av,h1,.inr h2⟩
 ·split at h
  ·rename_i t x ho;split at h
   ·rename_i ha;obtain⟨b,k,hx,h⟩:=Rq (show s0 ((dm x).get tm) _=some r from h);obtain⟨y,hb,h⟩:=Bs h;obtain⟨l,rw,rfl,h⟩:=Q3 h;obtain⟨av,hk,h⟩:=Bs h;rw [Ex]at hx;rw [Zv]at hk;refine⟨av,h,.inl ?_⟩;have hb:M.get b=some (.cells l rw):=hb;unfold Ve;rw [ho];simp only [sM,hx,hb,ha,hk]
   ·exact OI h
  ·exact OI h
abbrev vX (R:Type):Type:=Tm->(List AV->(Nat->AV)->Option R)->Option R
def vY (P:Program) (o:Oper):vX R:=fun tm K=>match Oy P tm o with
 |some (z,f)=>fL z fun z=>K z f
 |none=>none
def Ba8 (z:List AV):vX R:=fun _ K=>K z fun n=> .ptr n 0
def Bca (gx:Tm->Option AV):vX R:=fun tm K=>oK (gx tm) fun a=>eS (a1 a) (K [a] fun n=> .ptr n 0) (fL a.cells fun l=>K l fun n=> .ptr n 0)
def yS (P:Program) (o:Oper):Bx (vX R):=match o.op with
 | .alloc t=>match Lb P t with
  |some z=>match nY z some with
   |some z=>⟨Ba8 z⟩|none=>⟨vY P o⟩
  |none=>⟨vY P o⟩
 | .box _ x=>b1 Bca (dm x)|_=>⟨vY P o⟩
theorem Axe {P:Program} {o:Oper} {tm:Tm} {K:List AV->(Nat->AV)->Option R} {r:R} (h:(yS P o).get tm K=some r):∃z f,Oy P tm o=some (z,f)/\K z f=some r:=by
 have rn:vY P o tm K=some r->∃z f,Oy P tm o=some (z,f)/\K z f=some r:=by
  intro h;unfold vY at h;split at h
  ·rename_i z f hz;rw [Se]at h;exact⟨z,f,hz,h⟩
  ·cases h
 unfold yS at h;split at h
 ·rename_i t ho;split at h
  ·rename_i z hz;rw [vz]at h;exact⟨z,_,by unfold Oy;rw [ho];simp only [hz],h⟩
  ·exact rn h
 ·rename_i t x ho;obtain⟨a,hx,h⟩:=Bs (show oK ((dm x).get tm) _=some r from h);rw [Ex]at hx;refine⟨a.cells,_,by unfold Oy;rw [ho];simp only [hx];rfl,?_⟩;cases h1:a1 a with
  |true=>rw [h1]at h;rw [(DB h1).2];exact h
  |false=>
   rw [h1]at h;have h:fL a.cells _=some r:=h;rw [Se]at h;exact h
 ·exact rn h
def DW:Value->Value->Bool
 | .int k n,.int k' n'=>decide (k=k')&&decide (n=n')| .bool a,.bool b=>decide (a=b)| .string ⟨⟨s⟩⟩,.string ⟨⟨t⟩⟩=>decide (s=t)| .pointer none,.pointer none=>true| .slice none a b,.slice none c d=>Nat.beq a c&&Nat.beq b d| .map none,.map none=>true| .nilFunc,.nilFunc=>true| .nilIface,.nilIface=>true|_,_=>false
theorem Auo {v u:Value} (h:DW v u=true):v=u:=by
 unfold DW at h;split at h<;>simp_all
def yT:AV->AV->Bool
 | .lit v,.lit u=>DW v u| .ptr b o,.ptr c p=>Nat.beq b c&&Nat.beq o p| .slice b o n sz c x,.slice b' o' n' DX c' x'=>Nat.beq b b'&&Nat.beq o o'&&Nat.beq n n'&&Nat.beq sz DX&&Nat.beq c c'&&decide (x=x')| .map b,.map c=>Nat.beq b c| .nU k lo hi,.nU k' yo ft=>decide (k=k')&&decide (lo=yo)&&decide (hi=ft)| .same i k lo hi,.same i' k' yo ft=>Nat.beq i i'&&decide (k=k')&&decide (lo=yo)&&decide (hi=ft)| .m6,.m6=>true|_,_=>false
theorem OJ {v u:AV} (h:yT v u=true):v=u:=by
 unfold yT at h;split at h
 ·rw [Auo h]
 ·simp only [and_eq_true]at h;rw [eq_of_beq_eq_true h.1,eq_of_beq_eq_true h.2]
 ·simp only [and_eq_true,decide_eq_true_eq]at h;obtain⟨⟨⟨⟨⟨h1,h2⟩,h3⟩,h4⟩,h5⟩,h6⟩:=h;rw [eq_of_beq_eq_true h1,eq_of_beq_eq_true h2,eq_of_beq_eq_true h3,eq_of_beq_eq_true h4,eq_of_beq_eq_true h5,h6]
 ·rw [eq_of_beq_eq_true h]
 ·simp only [and_eq_true,decide_eq_true_eq]at h;rw [h.1.1,h.1.2,h.2]
 ·simp only [and_eq_true,decide_eq_true_eq]at h;rw [eq_of_beq_eq_true h.1.1.1,h.1.1.2,h.1.2,h.2]
 ·rfl
 ·cases h
def te:List AV->List AV->Bool
 |[],[]=>true|a::l,b::m=>yT a b&&te l m|_,_=>false
theorem OK:∀ {l m:List AV},te l m=true->l=m
 |[],[],_=>rfl
 |a::l,b::m,h=>by simp only [te,and_eq_true]at h;rw [OJ h.1,OK h.2]
 |[],_::_,h=>by simp [te]at h
 |_::_,[],h=>by simp [te]at h
def same:AV->AV->Bool
 | .agg l,.agg m=>te l m|a,b=>yT a b
theorem Axf {v u:AV} (h:same v u=true):v=u:=by
 unfold same at h;split at h
 ·rw [OK h]
 ·exact OJ h
structure Rc where
 i:Nat
 o:Oper
 tm:Tm
 av:AV
 z:List AV
 s:Nat
 w:Bool
def Rc.mem (x:Rc):Bool:=x.w&&Jq x.o
def Rc.gX (x:Rc):Bool:=x.w&&Jq x.o&& !G7 x.o
def Rc.alloc (x:Rc):Bool:=x.w&&Jq x.o&&G7 x.o
theorem Rc.DY {x:Rc} (h:x.mem=true):x.gX=true\/x.alloc=true:=by
 unfold Rc.mem at h;unfold Rc.gX Rc.alloc;rw [h];cases G7 x.o<;>simp
theorem Rc.vZ {x:Rc} (h:x.gX=true):x.mem=true:=by unfold Rc.gX at h;unfold Rc.mem;simp_all
theorem Rc.qf {x:Rc} (h:x.alloc=true):x.mem=true:=by unfold Rc.alloc at h;unfold Rc.mem;simp_all
theorem Rc.Bk8 {x:Rc} (h:x.gX=true) (k:x.alloc=true):False:=by unfold Rc.gX at h;unfold Rc.alloc at k;simp_all
abbrev Gj:Type:=Tr aL×Nat
abbrev Le (R:Type):Type:=Ba R->Nat->Tm->Tr aL->Nat->Nat->List Rc->List Gj->(Tm->List Rc->List Gj->Option R)->Option R
def Bcb:Le R:=fun _ _ tm _ _ _ recs eT K=>K tm recs eT
def OL (i:Nat) (o:Oper) (p:ru R) (g:Le R):Le R:=fun call n0 tm M n s recs eT K=>p tm (.lit undef) fun bE=>g call n0 bE M n s (⟨i,o,tm,.lit undef,[],s,false⟩::recs) eT K
def Ba9 (i:Nat) (o:Oper) (c:vW R) (p:ru R) (g:Le R):Le R:=fun call n0 tm M n s recs eT K=>c tm M fun av=>p tm av fun bE=>g call n0 bE M n s (⟨i,o,tm,av,[],s,true⟩::recs) eT K
def Bcc (i:Nat) (o:Oper) (c:vX R) (p:ru R) (g:Le R):Le R:=fun call n0 tm M n s recs eT K=>c tm fun z f=>fN (Nat.add n0 i) fun b=>i4 (Tr.sB b) fun q=>q M (some (.cells z true)) fun M'=>fA (f b) fun av=>p tm av fun bE=>fN (Nat.succ s) fun s'=>g call n0 bE M' n s' (⟨i,o,tm,av,z,s,true⟩::recs) ((M',n)::eT) K
def Bba (i:Nat) (o:Oper) (f:lY R) (p:ru R) (g:Le R):Le R:=fun call n0 tm M n s recs eT K=>f call tm M n fun av M' n'=>p tm av fun bE=>fN (Nat.succ s) fun s'=>g call n0 bE M' n' s' (⟨i,o,tm,av,[],s,true⟩::recs) ((M',n')::eT) K
def Bcd (q:Tm->Option R->Option R->Option R) (f g:Le R):Le R:=fun call n0 tm M n s recs eT K=>q tm (f call n0 tm M n s recs eT K) (g call n0 tm M n s recs eT K)
def yU (P:Program) (sz:Nat) (i:Nat) (o:Oper) (g:Bx (Le R)):Bx (Le R):=cond (rz o) (b3 (Ba9 i o) (yR P o) (Wz sz o.dst) g) (cond (G7 o) (b3 (Bcc i o) (yS P o) (Wz sz o.dst) g) (b3 (Bba i o) (qe P o) (Wz sz o.dst) g))
def Pj (P:Program) (sz:Nat) (ops:Array Oper):List (Nat×Oper)->Bx (Le R)
 |[]=>⟨Bcb⟩|(i,o)::rest=>match o.guard with
  |none=>yU P sz i o (Pj P sz ops rest)|some _=>b3 Bcd (tb ops o) (yU P sz i o (Pj P sz ops rest)) (b2 (OL i o) (Wz sz o.dst) (Pj P sz ops rest))
def E6 (l:List Rc):Nat:=(l.filter Rc.mem).length
structure Q8 (P:Program) (sz:Nat) (ops:Array Oper) (nb:Nat) (gY:Tm) (M0:Tr aL) (n0:Nat) (l:List Rc) (tm:Tm) (ss:List Gj):Prop where
 first:ss[0]? =some (M0,n0)
 len:ss.length=E6 l+1
 j_:∀(i:Nat) (x:Rc),l[i]? =some x->x.s=E6 (l.take i)
 want:∀(i:Nat) (x:Rc),l[i]? =some x->F8 ops x.o x.tm=some x.w
 no:∀(i:Nat) (x:Rc),l[i]? =some x->x.w=false->x.av= .lit undef
 calm:∀(i:Nat) (x:Rc),l[i]? =some x->x.w=true->rz x.o=true->∃m:Gj,ss[x.s]? =some m/\Q7 P x.tm m.1 x.o x.av
 gX:∀(i:Nat) (x:Rc),l[i]? =some x->x.gX=true->∃m m':Gj,ss[x.s]? =some m/\ss[x.s+1]? =some m'/\fM P x.tm x.o m.1 m.2 x.av m'.1 m'.2
 alloc:∀(i:Nat) (x:Rc),l[i]? =some x->x.alloc=true->∃(m m':Gj) (f:Nat->AV),ss[x.s]? =some m/\ss[x.s+1]? =some m'/\Tn P x.tm x.o x.z f/\x.av=f (nb+x.i)/\(∀j,m'.1.get j=if j=nb+x.i then some (.cells x.z true)else m.1.get j)/\m'.2=m.2
 OM:∀(i:Nat) (x:Rc),l[i]? =some x->∀t,x.tm.get t=(match((l.take i).reverse.find? fun y=>y.o.dst==some t)with|some y=>some y.av|none=>gY.get t)
 tm:∀t,tm.get t=(match(l.reverse.find? fun y=>y.o.dst==some t)with|some y=>some y.av|none=>gY.get t)
 fits:∀(i:Nat) (x:Rc),l[i]? =some x->∀d,x.o.dst=some d->d<sz
theorem Aup {sz:Nat} {tm:Tm} {d:Option Nat} {av:AV} {K:Tm->Option R} {r:R} (h:qd sz tm d av K=some r):∃bE,K bE=some r/\(∀t,bE.get t=if d=some t then some av else tm.get t)/\∀t,d=some t->t<sz:=by
 unfold qd at h;split at h
 ·exact⟨tm,h,fun t=>by simp,nofun⟩
 ·rename_i d;cases hc:ble (d+1) sz with
  |false=>rw [hc]at h;cases h
  |true=>
   rw [hc]at h;obtain⟨bE,h1,h2⟩:=Tm.BJ h;refine⟨bE,h1,fun t=> ?_,fun t ht=>by cases ht;exact le_of_ble_eq_true hc⟩;rw [h2];by_cases e:t=d
   ·subst e;simp
   ·rw [if_neg e,if_neg (fun h=>e (Option.some.inj h).symm)]
theorem Ks (l:List Rc) (x:Rc):E6 (l++[x])=E6 l+(if x.mem then 1 else 0):=by
 unfold E6;rw [List.filter_append,length_append];cases hx:x.mem<;>simp [hx]
theorem O1 {P:Program} {sz:Nat} {ops:Array Oper} {nb:Nat} {gY tm bE:Tm} {M0:Tr aL} {n0:Nat} {l:List Rc} {ss tf:List Gj} {i0:Nat} {o:Oper} {av:AV} {z:List AV} {w:Bool} (h:Q8 P sz ops nb gY M0 n0 l tm ss)
 (hw:F8 ops o tm=some w) (fG:w=false->av= .lit undef) (gJ:∀t,bE.get t=if o.dst=some t then some av else tm.get t) (h_:∀t,o.dst=some t->t<sz)
 (hs:(w&&Jq o)=false/\tf=ss\/(w&&Jq o)=true/\∃m m',ss[E6 l]? =some m/\tf=ss++[m']/\(G7 o=false/\fM P tm o m.1 m.2 av m'.1 m'.2\/
 G7 o=true/\∃f:Nat->AV,Tn P tm o z f/\av=f (nb+i0)/\(∀j,m'.1.get j=if j=nb+i0 then some (.cells z true)else m.1.get j)/\m'.2=m.2))
 (yV:w=true->rz o=true->∃m:Gj,ss[E6 l]? =some m/\Q7 P tm m.1 o av):
 Q8 P sz ops nb gY M0 n0 (l++[⟨i0,o,tm,av,z,E6 l,w⟩]) bE tf:=by
 have fU:∀(i:Nat) (m:Gj),ss[i]? =some m->tf[i]? =some m:=by
  intro i m hi;rcases hs with⟨_,rfl⟩|⟨_,_,m',_,rfl,_⟩
  ·exact hi
  ·rw [List.getElem?_append_left (List.getElem?_eq_some_iff.1 hi).1];exact hi
 have snoc:∀ {i:Nat} {x:Rc},(l++[(⟨i0,o,tm,av,z,E6 l,w⟩:Rc)])[i]? =some x->(l[i]? =some x/\(l++[(⟨i0,o,tm,av,z,E6 l,w⟩:Rc)]).take i=l.take i)\/(x=⟨i0,o,tm,av,z,E6 l,w⟩/\(l++[(⟨i0,o,tm,av,z,E6 l,w⟩:Rc)]).take i=l):=by
  intro i x hi;rcases lt_or_ge i l.length with aP|j9
  ·rw [List.getElem?_append_left aP]at hi;exact .inl ⟨hi,List.take_append_of_le_length (Nat.le_of_lt aP)⟩
  ·rw [List.getElem?_append_right j9]at hi;have h0:i-l.length=0:=by
    have:=(List.getElem?_eq_some_iff.1 hi).1;simp at this;omega
   rw [h0]at hi;have:i=l.length:=by omega
   subst this;exact .inr ⟨by simpa using hi.symm,List.take_left' rfl⟩
 have tg:∀ {m':Gj},tf=ss++[m']->tf[E6 l+1]? =some m':=by
  intro m' e;rw [e,List.getElem?_append_right (by rw [h.len];exact le_refl _),h.len];simp
 refine⟨fU 0 _ h.first,?_,fun i x hi=> ?_,fun i x hi=> ?_,fun i x hi=> ?_,fun i x hi=> ?_,fun i x hi=> ?_,fun i x hi=> ?_,fun i x hi=> ?_,fun t=> ?_,fun i x hi=> ?_⟩
 ·rw [Ks];rcases hs with⟨h1,rfl⟩|⟨h1,_,m',_,rfl,_⟩
  ·rw [if_neg (by unfold Rc.mem;simp [h1])];exact h.len
  ·rw [if_pos (by unfold Rc.mem;exact h1),length_append,h.len];rfl
 ·rcases snoc hi with⟨g1,g2⟩|⟨rfl,g2⟩
  ·rw [g2];exact h.j_ i x g1
  ·rw [g2]
 ·rcases snoc hi with⟨g1,g2⟩|⟨rfl,g2⟩
  ·exact h.want i x g1
  ·exact hw
 ·rcases snoc hi with⟨g1,g2⟩|⟨rfl,g2⟩
  ·exact h.no i x g1
  ·exact fG
 ·rcases snoc hi with⟨g1,g2⟩|⟨rfl,g2⟩
  ·intro e1 e2;obtain⟨m,k1,k2⟩:=h.calm i x g1 e1 e2;exact⟨m,fU _ _ k1,k2⟩
  ·intro e1 e2;obtain⟨m,k1,k2⟩:=yV e1 e2;exact⟨m,fU _ _ k1,k2⟩
 ·rcases snoc hi with⟨g1,g2⟩|⟨rfl,g2⟩
  ·intro e1;obtain⟨m,m',k1,k2,k3⟩:=h.gX i x g1 e1;exact⟨m,m',fU _ _ k1,fU _ _ k2,k3⟩
  ·intro e1;have e0:(w&&Jq o)=true:=Rc.vZ e1;have e2:G7 o=false:=by unfold Rc.gX at e1;simp at e1;exact e1.2
   rcases hs with⟨h1,_⟩|⟨_,m,m',k1,DZ,k3⟩
   ·rw [h1]at e0;cases e0
   ·rcases k3 with⟨_,k3⟩|⟨k3,_⟩
    ·exact⟨m,m',fU _ _ k1,tg DZ,k3⟩
    ·rw [e2]at k3;cases k3
 ·rcases snoc hi with⟨g1,g2⟩|⟨rfl,g2⟩
  ·intro e1;obtain⟨m,m',f,k1,k2,k3⟩:=h.alloc i x g1 e1;exact⟨m,m',f,fU _ _ k1,fU _ _ k2,k3⟩
  ·intro e1;have e0:(w&&Jq o)=true:=Rc.qf e1;have e2:G7 o=true:=by unfold Rc.alloc at e1;simp at e1;exact e1.2
   rcases hs with⟨h1,_⟩|⟨_,m,m',k1,DZ,k3⟩
   ·rw [h1]at e0;cases e0
   ·rcases k3 with⟨k3,_⟩|⟨_,f,k3⟩
    ·rw [e2]at k3;cases k3
    ·exact⟨m,m',f,fU _ _ k1,tg DZ,k3⟩
 ·rcases snoc hi with⟨g1,g2⟩|⟨rfl,g2⟩
  ·rw [g2];exact h.OM i x g1
  ·rw [g2];exact h.tm
 ·rw [gJ,List.reverse_append];simp only [List.reverse_cons,List.reverse_nil,List.nil_append,List.singleton_append,List.find?_cons];by_cases e:o.dst=some t
  ·simp [e]
  ·have:(o.dst==some t)=false:=by simpa using e
   rw [if_neg e,this];exact h.tm t
 ·rcases snoc hi with⟨g1,g2⟩|⟨rfl,g2⟩
  ·exact h.fits i x g1
  ·exact h_
theorem Q9 {P:Program} {call:Ba R} (dL:E5 P call) {sz:Nat} {ops:Array Oper} {nb:Nat} {gY:Tm} {M0:Tr aL} {n0:Nat} {K:Tm->List Rc->List Gj->Option R} {r:R} :∀ {rest:List (Nat×Oper)} {tm:Tm} {M:Tr aL} {n s:Nat} {recs:List Rc} {eT:List Gj},(Pj P sz ops rest).get call nb tm M n s recs eT K=some r->
 Q8 P sz ops nb gY M0 n0 recs.reverse tm eT.reverse->s=E6 recs.reverse->eT.head? =some (M,n)->
 ∃bE nd nf,K bE nd nf=some r/\Q8 P sz ops nb gY M0 n0 nd.reverse bE nf.reverse/\nd.reverse.map (fun x=>(x.i,x.o))=recs.reverse.map (fun x=>(x.i,x.o))++rest
 |[],tm,M,n,s,recs,eT,h,hp,hs,hh=>⟨tm,recs,eT,h,hp,by simp⟩
 |(i,o)::rest,tm,M,n,s,recs,eT,h,hp,hs,hh=>by
  have pb:eT.reverse[E6 recs.reverse]? =some (M,n):=by
   have h1:=hp.len;have h2:eT≠[]:=by intro e;rw [e]at hh;cases hh
   obtain⟨m,ms,rfl⟩:=List.exists_cons_of_ne_nil h2;simp only [List.head?_cons,Option.some.injEq]at hh;subst hh;simp only [List.reverse_cons,length_append,List.length_singleton]at h1⊢;rw [List.getElem?_append_right (by omega),show E6 recs.reverse-ms.reverse.length=0 by omega];rfl
  have jM:∀ {av:AV} {K':Tm->Option R},(Wz sz o.dst).get tm av K'=some r->∃bE,K' bE=some r/\(∀t,bE.get t=if o.dst=some t then some av else tm.get t)/\∀t,o.dst=some t->t<sz:=by
   intro av K' h;rw [DL]at h;exact Aup h
  have un:F8 ops o tm=some false->OL i o (Wz sz o.dst).get (Pj P sz ops rest).get call nb tm M n s recs eT K=some r->∃bE nd nf,K bE nd nf=some r/\Q8 P sz ops nb gY M0 n0 nd.reverse bE nf.reverse/\nd.reverse.map (fun x=>(x.i,x.o))=recs.reverse.map (fun x=>(x.i,x.o))++(i,o)::rest:=by
   intro hw h;obtain⟨bE,h1,h2,h3⟩:=jM h;have kj:=O1 (i0:=i) (z:=[]) hp hw (fun _=>rfl) h2 h3 (.inl ⟨rfl,rfl⟩) nofun;subst hs;obtain⟨ng,rC,rD,g1,g2,g3⟩:=Q9 dL h1 (by simpa using kj) (by simp [Ks,Rc.mem]) hh;exact⟨ng,rC,rD,g1,g2,by rw [g3];simp⟩
  have yes:F8 ops o tm=some true->(yU P sz i o (Pj P sz ops rest)).get call nb tm M n s recs eT K=some r->∃bE nd nf,K bE nd nf=some r/\Q8 P sz ops nb gY M0 n0 nd.reverse bE nf.reverse/\nd.reverse.map (fun x=>(x.i,x.o))=recs.reverse.map (fun x=>(x.i,x.o))++(i,o)::rest:=by
   intro hw h;unfold yU at h;cases hc:rz o with
   |true=>
    rw [hc]at h;obtain⟨av,h,fh⟩:=Aul (show(yR P o).get tm M _=some r from h);obtain⟨bE,h1,h2,h3⟩:=jM h;have kj:=O1 (i0:=i) (z:=[]) (w:=true) hp hw nofun h2 h3 (.inl ⟨by simp [Jq,no,hc],rfl⟩) (fun _ _=>⟨_,pb,fh⟩);subst hs;obtain⟨ng,rC,rD,g1,g2,g3⟩:=Q9 dL h1 (by simpa using kj) (by simp [Ks,Rc.mem,Jq,no,hc]) hh;exact⟨ng,rC,rD,g1,g2,by rw [g3];simp⟩
   |false=>
    rw [hc]at h;simp only [cond_false]at h;cases ha:G7 o with
    |true=>
     rw [ha]at h;obtain⟨z,f,hz,h⟩:=Axe (show(yS P o).get tm _=some r from h);rw [Ez]at h;obtain⟨M',k1,k2⟩:=Tr.jF (f:=FU) (show Tr.i5 FU M (nb+i) _ _=some r from h);rw [Qu]at k1;obtain⟨bE,h1,h2,h3⟩:=jM k1;rw [Ez]at h1;have kj:=O1 (i0:=i) (z:=z) (w:=true) hp hw nofun h2 h3 (.inr ⟨by simp [Jq,no,hc],(M,n),(M',n),pb,rfl,.inr ⟨ha,f,LR hz,rfl,k2,rfl⟩⟩) (fun _ e=>by rw [hc]at e;cases e);subst hs;obtain⟨ng,rC,rD,g1,g2,g3⟩:=Q9 dL h1 (by simpa using kj) (by simp [Ks,Rc.mem,Jq,no,hc]) rfl;exact⟨ng,rC,rD,g1,g2,by rw [g3];simp⟩
    |false=>
     rw [ha]at h;obtain⟨av,M',n',k1,k2⟩:=NN P o dL (show(qe P o).get call tm M n _=some r from h);obtain⟨bE,h1,h2,h3⟩:=jM k1;rw [Ez]at h1;have kj:=O1 (i0:=i) (z:=[]) (w:=true) hp hw nofun h2 h3 (.inr ⟨by simp [Jq,no,hc],(M,n),(M',n'),pb,rfl,.inl ⟨ha,k2⟩⟩) (fun _ e=>by rw [hc]at e;cases e);subst hs;obtain⟨ng,rC,rD,g1,g2,g3⟩:=Q9 dL h1 (by simpa using kj) (by simp [Ks,Rc.mem,Jq,no,hc]) rfl;exact⟨ng,rC,rD,g1,g2,by rw [g3];simp⟩
  unfold Pj at h;split at h
  ·rename_i hg;exact yes (by unfold F8;rw [hg]) h
  ·rename_i j hg;rcases NP (show(tb ops o).get tm _ _=some r from h)with⟨h1,h2⟩|⟨h1,h2⟩
   ·exact yes h1 h2
   ·exact un h1 h2
theorem Azs {a b:Nat} (h:a<b):blt a b=true:=Nat.ble_eq_true_of_le h
theorem Azt {a b:Nat} (h:blt a b=true):a<b:=le_of_ble_eq_true h
def allI {α:Type} (f:Nat->α->Bool):List α->Nat->Bool
 |[],_=>true|x::l,i=>f i x&&allI f l (i+1)
theorem Vf {α:Type} {f:Nat->α->Bool} :∀ {l:List α} {i j:Nat} {x:α},allI f l i=true->l[j]? =some x->f (i+j) x=true
 |[],_,_,_,_,h=>by simp at h
 |y::l,i,0,x,h,hx=>by
  simp only [allI,and_eq_true]at h;simp only [List.getElem?_cons_zero,Option.some.injEq]at hx;subst hx;exact h.1
 |y::l,i,j+1,x,h,hx=>by
  simp only [allI,and_eq_true]at h;simp only [List.getElem?_cons_succ]at hx;rw [show i+(j+1)=i+1+j by omega];exact Vf h.2 hx
theorem OO {α:Type} {f:Nat->α->Bool} :∀ {l:List α} {i:Nat},(∀(j:Nat) (x:α),l[j]? =some x->f (i+j) x=true)->allI f l i=true
 |[],_,_=>rfl
 |y::l,i,h=>by
  simp only [allI,and_eq_true];exact⟨h 0 y rfl,OO fun j x hx=>by rw [show i+1+j=i+(j+1) by omega];exact h (j+1) x (by simpa using hx)⟩
def yW (A:Nat) (l:List Rc) (i s:Nat):Bool:=allI (fun _ y=>cond y.mem (cond (blt y.s s) (!gb A i y.i) (cond (G7 y.o) true (!gb A y.i i))) true) l 0
def th (nb s:Nat) (A xi:Nat):List Rc->Tr aL->(Tr aL->Option R)->Option R
 |[],M,K=>K M|y::l,M,K=>cond (y.alloc&&ble s y.s&&gb A y.i xi) (fN (nb+y.i) fun b=>Tr.i5 FU M b (some (.cells y.z true)) fun M'=>th nb s A xi l M' K) (th nb s A xi l M K)
theorem W6 {nb s A xi:Nat} {r:R} :∀ {l:List Rc} {M:Tr aL} {K:Tr aL->Option R},th nb s A xi l M K=some r->
 ∃M',K M'=some r/\∀j x,M'.get j=some x->M.get j=some x\/∃y∈l,y.alloc=true/\s<=y.s/\gb A y.i xi=true/\j=nb+y.i/\x= .cells y.z true
 |[],M,K,h=>⟨M,h,fun _ _ h=> .inl h⟩
 |y::l,M,K,h=>by
  simp only [th]at h;cases hc:(y.alloc&&ble s y.s&&gb A y.i xi)with
  |true=>
   rw [hc]at h;simp only [cond_true,Ez]at h;simp only [and_eq_true]at hc;obtain⟨M1,h1,h2⟩:=Tr.jF (f:=FU) h;obtain⟨M',h3,h4⟩:=W6 h1;refine⟨M',h3,fun j x hx=> ?_⟩;rcases h4 j x hx with g|⟨z,g1,g2⟩
   ·rw [h2]at g;split at g
    ·rename_i e;cases g
     exact .inr ⟨y,by simp,hc.1.1,le_of_ble_eq_true hc.1.2,hc.2,e,rfl⟩
    ·exact .inl g
   ·exact .inr ⟨z,by simp [g1],g2⟩
  |false=>
   rw [hc]at h;simp only [cond_false]at h;obtain⟨M',h3,h4⟩:=W6 h;refine⟨M',h3,fun j x hx=> ?_⟩;rcases h4 j x hx with g|⟨z,g1,g2⟩
   ·exact .inl g
   ·exact .inr ⟨z,by simp [g1],g2⟩
def D_ (P:Program) (x:Rc) (M:Tr aL):Option Unit:=match Ve P x.tm M x.o with
 |some av=>cond (same av x.av) (some ()) none|none=>none
def OP {α:Type} :Option α->Bool
 |none=>true|some _=>false
theorem Azu {α:Type} {o:Option α} (h:OP o=true):o=none:=by cases o;rfl;cases h
def EA {α:Type} :Option α->Bool
 |none=>false|some _=>true
theorem Azv {α:Type} {o:Option α} (h:EA o=true):∃x,o=some x:=by cases o;cases h;exact⟨_,rfl⟩
def yX (k:Nat):List Gj->Bool
 |[]=>true|m::l=>an (ble k m.2) (yX k l)
theorem OQ {k:Nat} :∀ {l:List Gj} {m:Gj},yX k l=true->m∈l->k<=m.2
 |[],_,_,h=>by cases h
 |y::l,m,h,hm=>by
  simp only [yX,Q4,and_eq_true]at h;rcases mem_cons.1 hm with rfl|hm
  ·exact le_of_ble_eq_true h.1
  ·exact OQ h.2 hm
def Azw (nb:Nat) (l:List Rc) (ss:List Gj):Bool:=allI (fun s m=>allI (fun _ y=>cond (y.alloc&&ble s y.s) (OP (m.1.get (nb+y.i))) true) l 0) ss 0
def Bbb (P:Program) (nb A F:Nat) (l:List Rc) (ss:List Gj):Bool:=allI (fun _ x=>cond (x.w&&X1 x.tm x.o&& !W4 F x.i) (allI (fun s m=>cond (yW A l x.i s) (EA (th nb s A x.i l m.1 (D_ P x))) true) ss 0) true) l 0
def EB (P:Program) (nb N A F:Nat) (ld al:Bool) (recs:List Rc) (eT:List Gj):Bool:=an (yX (Nat.add nb N) eT) (an (rv al (Azw nb recs.reverse eT.reverse) true) (rv ld (Bbb P nb A F recs.reverse eT.reverse) true))
def EC (eT:List Gj) (K:Tr aL->Nat->Option R):Option R:=List.casesOn (motive:=fun _=>Option R) eT none (fun m _=>Prod.casesOn (motive:=fun _=>Option R) m K)
theorem Ao8 {eT:List Gj} {K:Tr aL->Nat->Option R} {r:R} (h:EC eT K=some r):∃M n l,eT=(M,n)::l/\K M n=some r:=by
 cases eT with
 |nil=>cases h
 |cons m l=>exact⟨m.1,m.2,l,rfl,h⟩
def ti (P:Program) (N A F:Nat) (ld al:Bool) (f:Le R):nc R:=fun call tm M n K=>fN (Nat.add n N) fun n1=>f call n tm M n1 0 [] [(M,n1)] fun bE recs eT=>eS (EB P n N A F ld al recs eT) (EC eT fun M' n'=>K bE M' n') none
def X3 (P:Program) (sz:Nat) (ops:Array Oper):Bx (nc R):=cond (ops.toList.all Be) (match DU ops with
 |some ⟨A,jn,F,ld,al⟩=>fz A fun A=>fz F fun F=>fz ops.size fun N=>match ld,al with
  |true,true=>b1 (ti P N A F true true) (Pj P sz ops jn)|true,false=>b1 (ti P N A F true false) (Pj P sz ops jn)|false,true=>b1 (ti P N A F false true) (Pj P sz ops jn)|false,false=>b1 (ti P N A F false false) (Pj P sz ops jn)
 |none=>⟨fun _ _ _ _ _=>none⟩) ⟨fun _ _ _ _ _=>none⟩
theorem N2 {l:List Rc} {i:Nat} {x:Rc} (h:l[i]? =some x):E6 (l.take (i+1))=E6 (l.take i)+(if x.mem then 1 else 0):=by
 rw [List.take_add_one,h];exact Ks _ _
theorem Kt (l:List Rc):∀ {i j:Nat},i<=j->E6 (l.take i)<=E6 (l.take j)
 |i,j,h=>by
  have:l.take i<+:l.take j:=List.take_prefix_take_left h;obtain⟨t,ht⟩:=this;rw [←ht];unfold E6;rw [List.filter_append,length_append];omega
theorem ED {l:List Rc} {i:Nat} {x:Rc} (h:l[i]? =some x) (hx:x.mem=true):E6 (l.take i)<E6 l:=by
 have h1:=N2 h;rw [hx,if_pos rfl]at h1;have h2:=Kt l (i:=i+1) (j:=l.length) (List.getElem?_eq_some_iff.1 h).1;rw [take_length]at h2;omega
theorem Vg (l:List Rc):∀(i s:Nat),s<E6 (l.take i)->∃k x,k<i/\l[k]? =some x/\x.mem=true/\E6 (l.take k)=s
 |0,s,h=>by simp [E6]at h
 |i+1,s,h=>by
  cases hx:l[i]? with
  |none=>
   have:l.take (i+1)=l.take i:=by rw [List.take_add_one,hx];simp
   rw [this]at h;obtain⟨k,x,h1,h2⟩:=Vg l i s h;exact⟨k,x,by omega,h2⟩
  |some x=>
   rw [N2 hx]at h;by_cases hs:s<E6 (l.take i)
   ·obtain⟨k,y,h1,h2⟩:=Vg l i s hs;exact⟨k,y,by omega,h2⟩
   ·cases hl:x.mem with
    |false=>rw [hl]at h;simp at h;omega
    |true=>rw [hl]at h;simp only [if_true]at h;exact⟨i,x,by omega,hx,hl,by omega⟩
theorem EE {l:List Rc} {i k:Nat} {x y:Rc} (hi:l[i]? =some x) (hk:l[k]? =some y) (hx:x.mem=true) (hy:y.mem=true) (h:E6 (l.take i)=E6 (l.take k)):i=k:=by
 rcases Nat.lt_trichotomy i k with h'|h'|h'
 ·have h1:=N2 hi;rw [hx,if_pos rfl]at h1;have h2:=Kt l (i:=i+1) (j:=k) h';omega
 ·exact h'
 ·have h1:=N2 hk;rw [hy,if_pos rfl]at h1;have h2:=Kt l (i:=k+1) (j:=i) h';omega
section
variable {P:Program} {b0:Base} {d0:List Deferred} {sz nb:Nat} {ops:Array Oper} {gY bE:Tm} {M0:Tr aL} {n0:Nat} {l:List Rc} {ss:List Gj}
def yY (b0:Base) (nb:Nat) (l:List Rc) (L:Array Bool) (s:Nat) (e:Env) (m:Gj) (w:World):Prop:=∃F:Mm,(∀(k:Nat) (y:Rc),l[k]? =some y->y.alloc=true->L.getD y.i false=true->s<=y.s->F (nb+y.i)=some (.cells y.z true))/\(∀j,(∀(k:Nat) (y:Rc),l[k]? =some y->y.alloc=true->L.getD y.i false=true->s<=y.s->j≠nb+y.i)->F j=m.1.get j)/\Bc b0 e F m.2 w
structure Vh (d0:List Deferred) (b0:Base) (sz nb:Nat) (ops:Array Oper) (gY:Tm) (l:List Rc) (ss:List Gj) (L:Array Bool) (s:Nat) (e:Env) (a:Act) (w:World):Prop where
 size:L.size=ops.size
 cl:Cl ops L
 low:∀(k:Nat) (y:Rc),l[k]? =some y->y.mem=true->y.s<s->L.getD y.i false=true
 high:∀(k:Nat) (y:Rc),l[k]? =some y->y.gX=true->L.getD y.i false=true->y.s<s
 le:s<=E6 l
 mem:∀m:Gj,ss[s]? =some m->yY b0 nb l L s e m w
 free:∀i,i<ops.size->L.getD i false=false->e (nb+i)=none
 qg:a.tmps.size=sz
 defers:a.defers=d0
 done:∀(k:Nat) (y:Rc) (t:Nat),l[k]? =some y->y.o.dst=some t->L.getD y.i false=true->y.av.rep e (a.tmps.getD t undef)
 old:∀(t:Nat) (av:AV),gY.get t=some av->(∀(k:Nat) (y:Rc),l[k]? =some y->y.o.dst=some t->L.getD y.i false=false)->t<sz/\av.rep e (a.tmps.getD t undef)
theorem Vh.Bnc (hp:Q8 P sz ops nb gY M0 n0 l bE ss) {L:Array Bool} {s:Nat} {e:Env} {a:Act} {w:World} (hD:Vh d0 b0 sz nb ops gY l ss L s e a w) {k:Nat} {y:Rc} (hk:l[k]? =some y) (hy:y.alloc=true) (hs:y.s=s) (hL:L.getD y.i false=true):Vh d0 b0 sz nb ops gY l ss L (s+1) e a w:=by
 obtain⟨m,m',f,k1,k2,_,_,k5,k6⟩:=hp.alloc k y hk hy;rw [hs]at k1 k2;have one:∀ {k':Nat} {y':Rc},l[k']? =some y'->y'.mem=true->y'.s=s->y'=y:=by
  intro k' y' h h1 h2;have:=EE h hk h1 (Rc.qf hy) (by rw [←hp.j_ k' y' h,←hp.j_ k y hk,h2,hs]);subst this;rw [hk]at h;cases h;rfl
 refine⟨hD.size,hD.cl,fun k' y' h h1 h2=> ?_,fun k' y' h h1 h2=> ?_,?_,fun m2 kA=> ?_,hD.free,hD.qg,hD.defers,hD.done,hD.old⟩
 ·by_cases h3:y'.s=s
  ·rw [one h h1 h3];exact hL
  ·exact hD.low k' y' h h1 (by omega)
 ·have:=hD.high k' y' h h1 h2;omega
 ·have:=ED hk (Rc.qf hy);rw [←hp.j_ k y hk,hs]at this;exact this
 ·rw [k2]at kA;cases kA
  obtain⟨F,f1,f2,f3⟩:=hD.mem m k1;refine⟨F,fun k' y' h h1 h2 h3=>f1 k' y' h h1 h2 (by omega),fun j hj=> ?_,by rw [k6];exact f3⟩;rw [k5];split
  ·rename_i e;subst e;exact f1 k y hk hy hL (by omega)
  ·rename_i e;refine f2 j fun k' y' h h1 h2 h3=> ?_
   by_cases h4:y'.s=s
   ·rw [one h (Rc.qf h1) h4];exact e
   ·exact hj k' y' h h1 h2 (by omega)
theorem X4 {l:List Rc} {t:Nat} {y:Rc} (h:(l.reverse.find? fun y=>y.o.dst==some t)=some y):∃k:Nat,l[k]? =some y/\k<l.length/\y.o.dst=some t:=by
 have h1:=List.mem_of_find?_eq_some h;have h2:=List.find?_some h;obtain⟨k,hk,rfl⟩:=List.mem_iff_getElem.1 (List.mem_reverse.1 h1);exact⟨k,by simp [hk],hk,by simpa using h2⟩
theorem X5 {l:List Rc} {t:Nat} (h:(l.reverse.find? fun y=>y.o.dst==some t)=none):∀(k:Nat) (y:Rc),l[k]? =some y->y.o.dst≠some t:=by
 intro k y hk e;have:=List.find?_eq_none.1 h y (List.mem_reverse.2 (mem_of_getElem? hk));simp [e]at this
theorem Aus (hp:Q8 P sz ops nb gY M0 n0 l bE ss):∀(d:Nat) {s t:Nat} {m m':Gj},s+d=t->ss[s]? =some m->ss[t]? =some m'->(∀(k:Nat) (y:Rc),l[k]? =some y->y.mem=true->s<=y.s->y.s<t->y.alloc=true)->∀j z,m'.1.get j=some z->(∃(k:Nat) (y:Rc),l[k]? =some y/\y.alloc=true/\s<=y.s/\y.s<t/\j=nb+y.i/\z= .cells y.z true)\/m.1.get j=some z:=by
 intro d
 induction d with
 |zero=>
  intro s t m m' eJ hm jq _ j z hz;rw [Nat.add_zero]at eJ;subst eJ;rw [hm]at jq;cases jq;exact .inr hz
 |succ d ih=>
  intro s t m m' eJ hm jq iP j z hz;have ht:t<ss.length:=(List.getElem?_eq_some_iff.1 jq).1;rw [hp.len]at ht;obtain⟨k,y,g1,g2,g3,g4⟩:=Vg l l.length (t-1) (by rw [take_length];omega);have v7:y.s=t-1:=by rw [hp.j_ k y g2,g4]
  have v8:=iP k y g2 g3 (by omega) (by omega);obtain⟨m1,m2,f,k1,k2,_,_,k5,_⟩:=hp.alloc k y g2 v8;rw [v7]at k1 k2;rw [show t-1+1=t by omega,jq]at k2;cases k2
  rw [k5]at hz;split at hz
  ·rename_i hj;cases hz
   exact .inl ⟨k,y,g2,v8,by omega,by omega,hj,rfl⟩
  ·rcases ih (t:=t-1) (by omega) hm k1 (fun k y hk hy h1 h2=>iP k y hk hy h1 (by omega)) j z hz with⟨k',y',q1,q2,q3,q4,q5,q6⟩|q
   ·exact .inl ⟨k',y',q1,q2,q3,by omega,q5,q6⟩
   ·exact .inr q
theorem Asc (hp:Q8 P sz ops nb gY M0 n0 l bE ss):∀(d:Nat) {s t:Nat} {m m':Gj},s+d=t->ss[s]? =some m->ss[t]? =some m'->(∀(k:Nat) (y:Rc),l[k]? =some y->y.mem=true->s<=y.s->y.s<t->y.alloc=true)->∀j z,m.1.get j=some z->(∀(k:Nat) (y:Rc),l[k]? =some y->y.alloc=true->s<=y.s->y.s<t->j≠nb+y.i)->m'.1.get j=some z:=by
 intro d
 induction d with
 |zero=>
  intro s t m m' eJ hm jq _ j z hz _;rw [Nat.add_zero]at eJ;subst eJ;rw [hm]at jq;cases jq;exact hz
 |succ d ih=>
  intro s t m m' eJ hm jq iP j z hz cf;have ht:t<ss.length:=(List.getElem?_eq_some_iff.1 jq).1;rw [hp.len]at ht;obtain⟨k,y,g1,g2,g3,g4⟩:=Vg l l.length (t-1) (by rw [take_length];omega);have v7:y.s=t-1:=by rw [hp.j_ k y g2,g4]
  have v8:=iP k y g2 g3 (by omega) (by omega);obtain⟨m1,m2,f,k1,k2,_,_,k5,_⟩:=hp.alloc k y g2 v8;rw [v7]at k1 k2;rw [show t-1+1=t by omega,jq]at k2;cases k2
  rw [k5,if_neg (cf k y g2 v8 (by omega) (by omega))];exact ih (t:=t-1) (by omega) hm k1 (fun k y hk hy h1 h2=>iP k y hk hy h1 (by omega)) j z hz (fun k y hk hy h1 h2=>cf k y hk hy h1 (by omega))
theorem Aut {g:vV} (hg:DV ops g) {A:Nat} (EF:g.A=A) (hp:Q8 P sz ops nb gY M0 n0 l bE ss) (hl:l.map (fun x=>(x.i,x.o))=g.jn) (pY:∀ {s:Nat} {m:Gj},ss[s]? =some m->nb+ops.size<=m.2) (EG:∀ {s:Nat} {m:Gj} {k:Nat} {y:Rc},ss[s]? =some m->l[k]? =some y->y.alloc=true->s<=y.s->m.1.get (nb+y.i)=none) (Boj:∀ {p:Nat} {x:Rc},l[p]? =some x->x.w=true->X1 x.tm x.o=true->W4 g.F x.i=true\/∀ {s:Nat} {m:Gj},ss[s]? =some m->yW A l x.i s=true->EA (th nb s A x.i l m.1 (D_ P x))=true) (hRb:∀b,b0.R b->b<nb) {X:Exit->Act->World->Prop} {e0:Env} (hX:∀e a w (m:Gj),ss[E6 l]? =some m->A0 e0 e->Bc b0 e m.1.get m.2 w->Jv sz d0 e bE a->X .normal a w): ∀(fuel:Nat) (L:Array Bool) (s:Nat) (e:Env) (a:Act) (w:World),Vh d0 b0 sz nb ops gY l ss L s e a w->A0 e0 e->(L.toList.filter (! ·)).length<=fuel->wpAny P .any ops X fuel L a w:=by
 have OS:A=yH ops.toList:=by rw [←EF];exact hg.A
 have tj:∀ {k:Nat} {y:Rc},l[k]? =some y->g.jn[k]? =some (y.i,y.o):=by
  intro k y hk;rw [←hl,List.getElem?_map,hk];rfl
 have tl:∀ {k:Nat} {y:Rc},l[k]? =some y->ops[y.i]? =some y.o:=by
  intro k y hk;have:=hg.at_ _ (mem_of_getElem? (tj hk));simpa using this
 have aP:∀ {k:Nat} {y:Rc},l[k]? =some y->y.i<ops.size:=fun hk=>(Array.getElem?_eq_some_iff.1 (tl hk)).1
 have OT:∀ {i:Nat},i<ops.size->∃(k:Nat) (y:Rc),l[k]? =some y/\y.i=i:=by
  intro i hi;obtain⟨z,h2,h3⟩:=hg.has i hi;rw [←hl]at h2;obtain⟨y,h4,rfl⟩:=mem_map.1 h2;obtain⟨k,hk,v9⟩:=List.mem_iff_getElem.1 h4;exact⟨k,y,by rw [List.getElem?_eq_getElem hk,v9],h3⟩
 have o_:∀ {i j:Nat} {x y:Rc},l[i]? =some x->l[j]? =some y->i<j->(x.i,x.o)∈g.jn.take j/\yJ ops A (g.jn.take j) (y.i,y.o):=by
  intro i j x y hi hj aP;refine⟨?_,EF▸hg.vT j _ (tj hj)⟩;refine mem_of_getElem? (i:=i) ?_;rw [List.getElem?_take_of_lt aP];exact tj hi
 have t_:∀ {i j:Nat} {x y:Rc},l[i]? =some x->l[j]? =some y->i≠j->x.i≠y.i:=by
  intro i j x y hi hj cf h;rcases Nat.lt_or_gt_of_ne cf with aP|aP
  ·obtain⟨g1,g2⟩:=o_ hi hj aP;exact g2.ne _ g1 h
  ·obtain⟨g1,g2⟩:=o_ hj hi aP;exact g2.ne _ g1 h.symm
 have EH:∀ {i j:Nat} {x y:Rc},l[i]? =some x->l[j]? =some y->x.i=y.i->i=j:=by
  intro i j x y hi hj h;by_cases cf:i=j
  ·exact cf
  ·exact absurd h (t_ hi hj cf)
 have qE:∀ {i j:Nat} {x y:Rc} {t:Nat},l[i]? =some x->l[j]? =some y->i≠j->x.o.dst=some t->y.o.dst≠some t:=by
  intro i j x y t hi hj cf hx hy;rcases Nat.lt_or_gt_of_ne cf with aP|aP
  ·obtain⟨g1,g2⟩:=o_ hi hj aP;exact g2.dst _ g1 t hx hy
  ·obtain⟨g1,g2⟩:=o_ hj hi aP;exact g2.dst _ g1 t hy hx
 have OU:∀ {i j:Nat} {x y:Rc} {t:Nat},l[i]? =some x->l[j]? =some y->i≠j->x.o.dst=some t->t∈y.o.looksAt ops->(i<j->gb A x.i y.i=true)/\(j<i->gb A y.i x.i=true):=by
  intro i j x y t hi hj cf hx ht;constructor
  ·intro aP;obtain⟨g1,g2⟩:=o_ hi hj aP;exact g2.look _ g1 t hx ht
  ·intro aP;obtain⟨g1,g2⟩:=o_ hj hi aP;exact g2.Bq8 _ g1 t hx ht
 have Bne:∀ {i j:Nat} {x y:Rc},l[i]? =some x->l[j]? =some y->x.mem=true->y.gX=true->i<j->gb A x.i y.i=true:=by
  intro i j x y hi hj hx hy aP;obtain⟨g1,g2⟩:=o_ hi hj aP;unfold Rc.mem at hx;unfold Rc.gX at hy;simp only [and_eq_true,not_eq_true']at hx hy;exact g2.mem _ g1 hx.2 (by unfold J9;rw [Q4,vQ,hy.1.2,hy.2];rfl)
 have Bra:∀ {i:Nat} {x:Rc},l[i]? =some x->∀e∈x.o.after.toList,Region.binds .any e=true->∃(k:Nat) (y:Rc),k<i/\l[k]? =some y/\y.i=e.on:=by
  intro i x hi e he hb;obtain⟨z,h2,h3⟩:=(hg.vT i _ (tj hi)).Bq7 e he hb;rw [←hl,←List.map_take]at h2;obtain⟨y,h4,rfl⟩:=mem_map.1 h2;obtain⟨k,hk,v9⟩:=List.mem_iff_getElem.1 h4;have vw:k<i:=by rw [List.length_take]at hk;omega
  refine⟨k,y,vw,?_,h3⟩;rw [←List.getElem?_take_of_lt vw,List.getElem?_eq_getElem hk,v9]
 have EI:∀ {s:Nat},s<=E6 l->∃m,ss[s]? =some m:=fun {s} hs=>⟨ss[s]'(by rw [hp.len];omega),by simp⟩
 have OV:∀(d:Nat) {L:Array Bool} {s t:Nat} {e:Env} {a:Act} {w:World},Vh d0 b0 sz nb ops gY l ss L s e a w->t<=E6 l->s+d=t->(∀(k:Nat) (y:Rc),l[k]? =some y->y.mem=true->s<=y.s->y.s<t->L.getD y.i false=true)->Vh d0 b0 sz nb ops gY l ss L t e a w:=by
  intro d
  induction d with
  |zero=>intro L s t e a w hD _ eJ _;rw [Nat.add_zero]at eJ;exact eJ▸hD
  |succ d ih=>
   intro L s t e a w hD ht eJ OW;have h':s<E6 (l.take l.length):=by rw [take_length];omega
   obtain⟨k,y,h1,h2,h3,h4⟩:=Vg l l.length s h';have v7:y.s=s:=by rw [hp.j_ k y h2,h4]
   have qh:=OW k y h2 h3 (by omega) (by omega);rcases Rc.DY h3 with h5|h5
   ·have:=hD.high k y h2 h5 qh;omega
   ·exact ih (hD.Bnc hp h2 h5 v7 qh) ht (by omega) fun k y hk hy g1 g2=>OW k y hk hy (by omega) g2
 have m_:∀ {L:Array Bool} {s:Nat} {e:Env} {a:Act} {w:World},Vh d0 b0 sz nb ops gY l ss L s e a w->A0 e0 e->(∀k,k<ops.size->L.getD k false=true)->X .normal a w:=by
  intro L s e a w v_ lr gw;have hle:=v_.le;have hD:=OV (E6 l-s) v_ (le_refl _) (by omega) fun k y hk _ _ _=>gw _ (aP hk)
  obtain⟨m,hm⟩:=EI (le_refl _);obtain⟨F,f1,f2,f3⟩:=hD.mem m hm;refine hX e a w m hm lr (f3.same fun j=> ?_) ⟨⟨fun t av ht=> ?_⟩,hD.qg,hD.defers⟩
  ·rw [f2 j fun k y hk hy _ hs=> ?_];have:=ED hk (Rc.qf hy);rw [←hp.j_ k y hk]at this;omega
  ·rw [hp.tm]at ht;split at ht
   ·rename_i y hy;cases ht
    obtain⟨k,h1,h2,h3⟩:=X4 hy;exact⟨by rw [hD.qg];exact hp.fits k y h1 t h3,hD.done k y t h1 h3 (gw _ (aP h1))⟩
   ·rename_i hn;obtain⟨g1,g2⟩:=hD.old t av ht fun k y hk hy=>absurd hy (X5 hn k y hk)
    exact⟨by rw [hD.qg];exact g1,g2⟩
 have EJ:∀ {L:Array Bool} {i:Nat},i<L.size->∀k,(L.setIfInBounds i true).getD k false=(if i=k then true else L.getD k false):=by
  intro L i rm k;rw [getD_eq_getD_getElem?,Array.getElem?_setIfInBounds,getD_eq_getD_getElem?];split
  ·subst_vars;simp
  ·rfl
 have yZ:∀ {L:Array Bool} {s s':Nat} {e e':Env} {a:Act} {w w':World} {i:Nat} {x:Rc} {v:Value},Vh d0 b0 sz nb ops gY l ss L s e a w->l[i]? =some x->L.getD x.i false=false->(∀ed∈x.o.after.toList,Region.binds .any ed=true->L.getD ed.on false=true)->
  A0 e e'->x.av.rep e' v->(x.gX=true->x.s=s/\s'=s+1/\s<E6 l)->(x.gX=false->s'=s)->(∀m:Gj,ss[s']? =some m->yY b0 nb l (L.setIfInBounds x.i true) s' e' m w')->(∀j,j<ops.size->j≠x.i->L.getD j false=false->e' (nb+j)=none)->Vh d0 b0 sz nb ops gY l ss (L.setIfInBounds x.i true) s' e' (a.put x.o.dst v) w':=by
  intro L s s' e e' a w w' i x v hD hx hi hed kU hv kx ky ia jL;have rm:x.i<L.size:=by rw [hD.size];exact aP hx
  have gJ:=EJ rm;have jM:∀t,(a.put x.o.dst v).tmps.getD t undef=(if x.o.dst=some t/\t<a.tmps.size then v else a.tmps.getD t undef):=by
   intro t;cases hd:x.o.dst with
   |none=>simp [Act.put]
   |some d=>
    show(a.tmps.setIfInBounds d v).getD t undef=_
    rw [getD_eq_getD_getElem?,Array.getElem?_setIfInBounds,getD_eq_getD_getElem?];by_cases e:d=t
    ·subst e;by_cases aP:d<a.tmps.size
     ·simp [aP]
     ·simp [aP]
    ·have:¬(some d=some t/\t<a.tmps.size):=fun h=>e (Option.some.inj h.1)
     rw [if_neg e,if_neg this]
  have eU:(a.put x.o.dst v).tmps.size=a.tmps.size:=by
   cases x.o.dst<;>simp [Act.put]
  have OX:∀ {k:Nat} {y:Rc},l[k]? =some y->x.i=y.i->i=k/\y=x:=by
   intro k y hk h;have:=EH hx hk h;subst this;rw [hx]at hk;cases hk;exact⟨rfl,rfl⟩
  refine⟨by rw [Array.size_setIfInBounds];exact hD.size,fun j o ho hj ed he hb=> ?_,fun k y hk hy hs=> ?_,fun k y hk hy hL=> ?_,?_,ia,fun j hj ml=> ?_,by rw [eU];exact hD.qg,by cases x.o.dst<;>exact hD.defers,fun k y t hk hy kB=> ?_,fun t av ht fG=> ?_⟩
  ·rw [gJ]at hj⊢;split at hj
   ·rename_i lE;subst lE;have:=tl hx;rw [ho]at this;cases this
    have:=hed ed he hb;split
    ·rfl
    ·exact this
   ·have:=hD.cl j o ho hj ed he hb;split
    ·rfl
    ·exact this
  ·rw [gJ];split
   ·rfl
   ·rename_i cf;cases gr:x.gX with
    |false=>rw [ky gr]at hs;exact hD.low k y hk hy hs
    |true=>
     obtain⟨g1,g2,_⟩:=kx gr;by_cases h3:y.s=s
     ·have:=EE hx hk (Rc.vZ gr) hy (by rw [←hp.j_ i x hx,←hp.j_ k y hk,g1,h3]);subst this;rw [hx]at hk;cases hk;exact absurd rfl cf
     ·exact hD.low k y hk hy (by omega)
  ·rw [gJ]at hL;split at hL
   ·rename_i cf;obtain⟨_,rfl⟩:=OX hk cf;obtain⟨g1,g2,_⟩:=kx hy;omega
   ·have:=hD.high k y hk hy hL;cases gr:x.gX with
    |false=>rw [ky gr];exact this
    |true=>obtain⟨g1,g2,_⟩:=kx gr;omega
  ·cases gr:x.gX with
   |false=>rw [ky gr];exact hD.le
   |true=>obtain⟨_,g2,g3⟩:=kx gr;omega
  ·rw [gJ]at ml;split at ml
   ·cases ml
   ·rename_i cf;exact jL j hj (Ne.symm cf) ml
  ·rw [jM];rw [gJ]at kB;by_cases wb:x.i=y.i
   ·obtain⟨_,rfl⟩:=OX hk wb;have hts:t<a.tmps.size:=by rw [hD.qg];exact hp.fits i y hx t hy
    rw [if_pos ⟨hy,hts⟩];exact hv
   ·rw [if_neg wb]at kB;rw [if_neg (fun h=>qE hx hk (fun h=>by subst h;rw [hx]at hk;cases hk;exact wb rfl) h.1 hy)];exact E9 kU (hD.done k y t hk hy kB)
  ·have sa:x.o.dst≠some t:=by
    intro hy;have:=fG i x hx hy;rw [gJ,if_pos rfl]at this;cases this
   obtain⟨g1,g2⟩:=hD.old t av ht fun k y hk hy=>by
    have:=fG k y hk hy;rw [gJ]at this;split at this
    ·cases this
    ·exact this
   rw [jM,if_neg (fun h=>sa h.1)];exact⟨g1,E9 kU g2⟩
 have px:∀ {L:Array Bool} {s:Nat} {e:Env} {w:World} {m:Gj} {i:Nat} {x:Rc},L.size=ops.size->l[i]? =some x->x.alloc=false->yY b0 nb l L s e m w->yY b0 nb l (L.setIfInBounds x.i true) s e m w:=by
  intro L s e w m i x eU hx ha ⟨F,f1,f2,f3⟩;have gJ:=EJ (L:=L) (i:=x.i) (by rw [eU];exact aP hx);have OY:∀ {k:Nat} {y:Rc},l[k]? =some y->y.alloc=true->((L.setIfInBounds x.i true).getD y.i false=true↔L.getD y.i false=true):=by
   intro k y hk hy;rw [gJ];split
   ·rename_i y0;have:=EH hx hk y0;subst this;rw [hx]at hk;cases hk;rw [ha]at hy;cases hy
   ·exact Iff.rfl
  exact⟨F,fun k y hk hy hL hs=>f1 k y hk hy ((OY hk hy).1 hL) hs,fun j hj=>f2 j fun k y hk hy hL hs=>hj k y hk hy ((OY hk hy).2 hL) hs,f3⟩
 intro fuel
 induction fuel with
 |zero=>
  intro L s e a w hD lr y1;have gw:∀k,k<ops.size->L.getD k false=true:=by
   intro k hk;have mw:L.toList.filter (! ·)=[]:=List.eq_nil_of_length_eq_zero (by omega);have:=List.filter_eq_nil_iff.1 mw (L[k]'(by rw [hD.size];exact hk)) (by simp);rw [getD_eq_getD_getElem?,getElem?_eq_getElem (by rw [hD.size];exact hk)];simpa using this
  refine⟨?_,m_ hD lr gw⟩;unfold Region.ready;refine List.filter_eq_nil_iff.2 fun k hk=> ?_
  have hk:=List.mem_range.1 hk;have h1:=gw k hk;rw [getD_eq_getD_getElem?,getElem?_eq_getElem (by rw [hD.size];exact hk)]at h1;have h1:L[k]'(by rw [hD.size];exact hk)=true:=h1;rw [getD_eq_getD_getElem?,getElem?_eq_getElem (by rw [hD.size];exact hk),getD_some,h1];simp
 |succ fuel ih=>
  intro L s e a w hD lr y1;have OZ:∀k,k∈Region.ready .any ops L↔k<ops.size/\L.getD k false=false/\∀o,ops[k]? =some o->∀ed∈o.after.toList,Region.binds .any ed=true->L.getD ed.on false=true:=by
   intro k;unfold Region.ready;rw [List.mem_filter,List.mem_range];constructor
   ·rintro⟨h1,h2⟩;simp only [and_eq_true]at h2;refine⟨h1,?_,fun o ho ed he hb=> ?_⟩
    ·have:=h2.1;rw [getD_eq_getD_getElem?,getElem?_eq_getElem (by rw [hD.size];exact h1)]at this⊢;simpa using this
    ·have:=h2.2;rw [ho]at this;simp only [Option.map_some,getD_some,Array.all_eq_true_iff_forall_mem]at this;have:=this ed (by simpa using he);rw [hb]at this;simpa using this
   ·rintro⟨h1,h2,h3⟩;refine⟨h1,?_⟩;simp only [and_eq_true];constructor
    ·rw [getD_eq_getD_getElem?,getElem?_eq_getElem (by rw [hD.size];exact h1)]at h2⊢;simpa using h2
    ·rw [getElem?_eq_getElem h1];simp only [Option.map_some,getD_some,Array.all_eq_true_iff_forall_mem];intro ed he;cases hb:Region.binds .any ed with
     |false=>rfl
     |true=>simpa using h3 ops[k] (by simp [h1]) ed (by simpa using he) hb
  refine⟨fun mw=>m_ hD lr ?_,fun i hi=> ?_⟩
  ·have iq:∀(k:Nat) (y:Rc),l[k]? =some y->L.getD y.i false=true:=by
    intro k
    induction k using Nat.strongRecOn with
    |_ k ihk=>
     intro y hk;cases hc:L.getD y.i false with
     |true=>rfl
     |false=>
      have:y.i∈Region.ready .any ops L:=(OZ y.i).2 ⟨aP hk,hc,fun o ho ed he hb=>by
       rw [tl hk]at ho;cases ho
       obtain⟨k',y',g1,g2,g3⟩:=Bra hk ed he hb;rw [←g3];exact ihk k' g1 y' g2⟩
      rw [mw]at this;cases this
   intro i hi;obtain⟨k,y,h1,rfl⟩:=OT hi;exact iq k y h1
  ·obtain⟨h1,h2,h3⟩:=(OZ i).1 hi;obtain⟨p,x,hx,rfl⟩:=OT h1;have EK:=tl hx;have h3:=h3 x.o EK;have wc:∀b,gb A b x.i=true->L.getD b false=true:=by rw [OS];exact NU hD.size hD.cl x.i x.o EK h3
   have EL:∀ {k:Nat} {y:Rc},l[k]? =some y->L.getD y.i false=true->∀b,gb A b y.i=true->L.getD b false=true:=by
    rw [OS];exact fun hk kB=>NU hD.size hD.cl _ _ (tl hk) (hD.cl _ _ (tl hk) kB)
   have y2:vN e x.tm a ops x.o:=by
    intro t av ht fh;rw [hp.OM p x hx]at fh;split at fh
    ·rename_i y hy;cases fh
     obtain⟨k,g1,g2,g3⟩:=X4 hy;have pv:k<p:=by simp at g2;omega
     rw [List.getElem?_take_of_lt pv]at g1;have jP:=(OU g1 hx (by omega) g3 ht).1 pv;exact⟨by rw [hD.qg];exact hp.fits k y g1 t g3,hD.done k y t g1 g3 (wc _ jP)⟩
    ·rename_i hn;obtain⟨g1,g2⟩:=hD.old t av fh fun k y hk hy=>by
      rcases Nat.lt_trichotomy k p with h|h|h
      ·exact absurd hy (X5 hn k y (by rw [List.getElem?_take_of_lt h];exact hk))
      ·subst h;rw [hx]at hk;cases hk;exact h2
      ·cases kB:L.getD y.i false with
       |false=>rfl
       |true=>
        have:=EL hk kB x.i ((OU hk hx (by omega) hy ht).2 h);rw [h2]at this;cases this
     exact⟨by rw [hD.qg];exact g1,g2⟩
   have hw:=Tv (hp.want p x hx) y2;have y7:((L.setIfInBounds x.i true).toList.filter (! ·)).length<=fuel:=by
    have hiL:x.i<L.toList.length:=by rw [Array.length_toList,hD.size];exact h1
    have e1:L.toList=L.toList.take x.i++L.toList[x.i]::L.toList.drop (x.i+1):=by rw [List.getElem_cons_drop,List.take_append_drop]
    have e2:(L.setIfInBounds x.i true).toList=L.toList.take x.i++true::L.toList.drop (x.i+1):=by
     rw [Array.toList_setIfInBounds,List.set_eq_take_append_cons_drop,if_pos hiL]
    have e3:L.toList[x.i]=false:=by
     rw [getD_eq_getD_getElem?,getElem?_eq_getElem (by rw [hD.size];exact h1)]at h2;simpa using h2
    rw [e1,e3]at y1;rw [e2];simp only [List.filter_append,List.filter_cons,length_append]at y1⊢;simp at y1⊢;omega
   have iG:∀ {e':Env},(∀j,j<ops.size->L.getD j false=false->e' (nb+j)=none)->∀j,j<ops.size->j≠x.i->L.getD j false=false->e' (nb+j)=none:=fun h j hj _ hL=>h j hj hL
   unfold wpOp;rw [EK];simp only [hw];cases tn:x.w with
   |false=>
    have gr:x.gX=false:=by unfold Rc.gX;rw [tn];rfl
    have lu:x.alloc=false:=by unfold Rc.alloc;rw [tn];rfl
    simp only [Bool.false_eq_true,if_false];exact ih _ s e _ w (yZ hD hx h2 h3 (A0.refl e) (by rw [hp.no p x hx tn];simp only [AV.rep]) (fun h=>by rw [gr]at h;cases h) (fun _=>rfl) (fun m hm=>px hD.size hx lu (hD.mem m hm)) (iG hD.free)) lr y7
   |true=>
    simp only [if_true];refine .inl (So ?_);cases gr:x.gX with
    |true=>
     have lu:x.alloc=false:=by cases h:x.alloc;rfl;exact absurd h fun h=>Rc.Bk8 gr h
     have j9:s<=x.s:=by
      rcases lt_or_ge x.s s with h|h
      ·have:=hD.low p x hx (Rc.vZ gr) h;rw [h2]at this;cases this
      ·exact h
     have O_:x.s<E6 l:=by rw [hp.j_ p x hx];exact ED hx (Rc.vZ gr)
     have hD:=OV (x.s-s) hD (Nat.le_of_lt O_) (by omega) fun k y hk hy g1 g2=>by
      refine wc _ (Bne hk hx hy gr ?_);rcases lt_or_ge k p with h|h
      ·exact h
      ·have:=Kt l h;rw [←hp.j_ p x hx,←hp.j_ k y hk]at this;omega
     obtain⟨m,m',k1,k2,k3⟩:=hp.gX p x hx gr;obtain⟨F,f1,f2,f3⟩:=hD.mem m k1;have Boo:∀j,(∃(k:Nat) (y:Rc),l[k]? =some y/\y.alloc=true/\L.getD y.i false=true/\x.s<=y.s/\j=nb+y.i)->m.1.get j=none:=by
      rintro j ⟨k,y,g1,g2,g3,g4,rfl⟩;exact EG k1 g1 g2 g4
     have fG:∀ {j},¬(∃(k:Nat) (y:Rc),l[k]? =some y/\y.alloc=true/\L.getD y.i false=true/\x.s<=y.s/\j=nb+y.i)->F j=m.1.get j:=fun h=>f2 _ fun k y g1 g2 g3 g4 g5=>h ⟨k,y,g1,g2,g3,g4,g5⟩
     obtain⟨b1,ca,we,EM⟩:=f3.frame (f:=m.1.get) (fun j=>∃(k:Nat) (y:Rc),l[k]? =some y/\y.alloc=true/\L.getD y.i false=true/\x.s<=y.s/\j=nb+y.i)
      (fun b=>b0.R b\/∃j,j<ops.size/\L.getD j false=false/\b=nb+j) (fun b h=> .inl h)
      (fun b h=>by
       rcases h with h|⟨j,g1,g2,rfl⟩
       ·exact⟨f3.res b h,f3.new b (.inr h)⟩
       ·have:=pY k1;exact⟨by omega,hD.free j g1 g2⟩)
      (fun j z hz=>by
       have PA:¬(∃(k:Nat) (y:Rc),l[k]? =some y/\y.alloc=true/\L.getD y.i false=true/\x.s<=y.s/\j=nb+y.i):=fun h=>by rw [Boo j h]at hz;cases hz
       exact⟨by rw [fG PA];exact hz,PA⟩)
     refine k3 b1 e a w we y2.dm _ fun e' v w' kU hM hv=> ?_
     refine ih _ (x.s+1) e' _ w' (yZ hD hx h2 h3 kU hv (fun _=>⟨rfl,rfl,O_⟩) (fun h=>by rw [gr]at h;cases h) (fun m2 kA=> ?_) (iG fun j hj ml=>hM.new _ (.inr (by rw [ca];exact .inr ⟨j,hj,ml,rfl⟩)))) (lr.trans kU) y7;rw [k2]at kA;cases kA
     refine px hD.size hx lu ?_;have cf:∀ {k:Nat} {y:Rc},l[k]? =some y->y.alloc=true->x.s<=y.s->x.s+1<=y.s:=by
      intro k y hk hy hs;rcases lt_or_ge x.s y.s with h|h
      ·exact h
      ·have:=EE hx hk (Rc.vZ gr) (Rc.qf hy) (by rw [←hp.j_ p x hx,←hp.j_ k y hk];omega);subst this;rw [hx]at hk;cases hk;rw [lu]at hy;cases hy
     open Classical in
     refine⟨fun j=>if(∃(k:Nat) (y:Rc),l[k]? =some y/\y.alloc=true/\L.getD y.i false=true/\x.s<=y.s/\j=nb+y.i)then F j else m'.1.get j,fun k y g1 g2 g3 g4=> ?_,fun j hj=> ?_,EM e' m'.1.get m'.2 w' kU hM _ fun j z hz=> ?_⟩
     ·exact(if_pos ⟨k,y,g1,g2,g3,by omega,rfl⟩).trans (f1 k y g1 g2 g3 (by omega))
     ·exact if_neg fun⟨k,y,g1,g2,g3,g4,g5⟩=>hj k y g1 g2 g3 (cf g1 g2 g4) g5
     ·split at hz
      ·rename_i h;exact .inl ⟨h,hz⟩
      ·rename_i h;exact .inr ⟨h,hz⟩
    |false=>
    cases lu:x.alloc with
    |true=>
     obtain⟨mm,mm',f,_,_,k3,k4,_,_⟩:=hp.alloc p x hx lu;have j9:s<=x.s:=by
      rcases lt_or_ge x.s s with h|h
      ·have:=hD.low p x hx (Rc.qf lu) h;rw [h2]at this;cases this
      ·exact h
     obtain⟨m,hm⟩:=EI hD.le;obtain⟨F,f1,f2,f3⟩:=hD.mem m hm;obtain⟨zs,T,v,g1,g2,g3⟩:=k3 e a w y2.dm;rw [g1];have Brb:=pY hm;obtain⟨l1,l2⟩:=LN (M':=fun j=>if j=nb+x.i then some (.cells x.z true)else F j) T f3 (hD.free x.i h1 h2) (fun h=>by have:=hRb _ h;omega) (le_refl m.2) (show nb+x.i<m.2 by omega) g2 (fun j=>rfl);have hv:x.av.rep (e.put (nb+x.i) (w.heap.size,zs.length)) v:=by rw [k4];exact g3 _ _ (Gi _ _ _)
     refine ih _ s _ _ _ (yZ hD hx h2 h3 l1 hv (fun h=>by rw [gr]at h;cases h) (fun _=>rfl) (fun m2 kA=> ?_) (fun j hj cf ml=> ?_)) (lr.trans l1) y7
     ·rw [hm]at kA;cases kA
      have gJ:=EJ (L:=L) (i:=x.i) (by rw [hD.size];exact h1);refine⟨_,fun k y hk hy qh hs=> ?_,fun j hj=> ?_,l2⟩
      ·by_cases y0:x.i=y.i
       ·have:=EH hx hk y0;subst this;rw [hx]at hk;cases hk;exact if_pos rfl
       ·rw [if_neg (by omega)];rw [gJ,if_neg y0]at qh;exact f1 k y hk hy qh hs
      ·have hjx:j≠nb+x.i:=hj p x hx lu (by rw [gJ,if_pos rfl]) j9;rw [if_neg hjx];refine f2 j fun k y hk hy qh hs=>hj k y hk hy (by rw [gJ];split;rfl;exact qh) hs
     ·rw [Qr (by omega)];exact hD.free j hj ml
    |false=>
     have yV:rz x.o=true:=by
      unfold Rc.gX at gr;unfold Rc.alloc at lu;rw [tn]at gr lu;cases h:rz x.o with
      |true=>rfl
      |false=>
       rw [show Jq x.o=true by unfold Jq;rw [h];rfl]at gr lu;cases h':G7 x.o<;>rw [h']at gr lu<;>simp at gr lu
     obtain⟨m,hm⟩:=EI hD.le;obtain⟨m0,pI,PD⟩:=hp.calm p x hx tn yV;obtain⟨F,f1,f2,f3⟩:=hD.mem m hm;have hF:∃M:Tr aL,(∀j z,M.get j=some z->F j=some z)/\Q7 P x.tm M x.o x.av:=by
      cases wh:X1 x.tm x.o with
      |false=>
       exact⟨Tr.nil,(fun j z hz=>by rw [Tr.get_nil]at hz;cases hz),PD.any wh⟩
      |true=>
       rcases Boj hx tn wh with zD|gW
       ·
        have DR:x.mem=false:=by
         unfold Rc.mem;rw [show Jq x.o=false by unfold Jq;rw [yV];rfl];simp
        have PE:∀ {k:Nat} {y:Rc},l[k]? =some y->y.mem=true->(k<p->gb A y.i x.i=true)/\(p<k->y.gX=true->gb A x.i y.i=true):=by
         intro k y hk hy;have rB:Jq y.o=true:=by unfold Rc.mem at hy;simp only [and_eq_true]at hy;exact hy.2
         have:=hg.fix p k _ _ (tj hx) (tj hk) zD rB;rw [EF]at this;refine⟨this.1,fun h1 h2=>this.2 h1 ?_⟩;unfold Rc.gX at h2;simp only [and_eq_true,not_eq_true']at h2;show J9 y.o=true
         unfold J9;rw [Q4,vQ,h2.1.2,h2.2];rfl
        have PF:∀ {k:Nat} {y:Rc},l[k]? =some y->y.mem=true->(y.s<x.s↔k<p):=by
         intro k y hk hy;rw [hp.j_ p x hx,hp.j_ k y hk];constructor
         ·intro h;rcases lt_or_ge k p with h'|h'
          ·exact h'
          ·have:=Kt l h';omega
         ·intro h;have h1:=N2 hk;rw [hy,if_pos rfl]at h1;have h2:=Kt l (i:=k+1) (j:=p) h;omega
        refine⟨m0.1,fun j z hz=> ?_,PD⟩;have cf:∀ {s':Nat} {m':Gj} {z:aL},ss[s']? =some m'->m'.1.get j=some z->∀(k:Nat) (y:Rc),l[k]? =some y->y.alloc=true->s'<=y.s->j≠nb+y.i:=by
         intro s' m' z j3 lF k y hk hy hle hj;subst hj;rw [EG j3 hk hy hle]at lF;cases lF
        rcases Nat.le_total s x.s with hsx|hsx
        ·have iP:∀(k:Nat) (y:Rc),l[k]? =some y->y.mem=true->s<=y.s->y.s<x.s->y.alloc=true/\L.getD y.i false=true:=by
          intro k y hk hy wi wj;have hd:=wc _ ((PE hk hy).1 ((PF hk hy).1 wj));rcases Rc.DY hy with h5|h5
          ·have:=hD.high k y hk h5 hd;omega
          ·exact⟨h5,hd⟩
         rcases Aus hp (x.s-s) (by omega) hm pI (fun k y hk hy wi wj=>(iP k y hk hy wi wj).1) j z hz with⟨k,y,q1,q2,q3,q4,rfl,rfl⟩|q
         ·exact f1 k y q1 q2 (iP k y q1 (Rc.qf q2) q3 q4).2 q3
         ·rw [f2 j fun k y hk hy _ hs=>cf hm q k y hk hy hs];exact q
        ·have iP:∀(k:Nat) (y:Rc),l[k]? =some y->y.mem=true->x.s<=y.s->y.s<s->y.alloc=true:=by
          intro k y hk hy wi wj;have hd:=hD.low k y hk hy wj;rcases Rc.DY hy with h5|h5
          ·have z5:p<k:=by
            rcases Nat.lt_trichotomy p k with h|h|h
            ·exact h
            ·subst h;rw [hx]at hk;cases hk;rw [DR]at hy;cases hy
            ·have:=(PF hk hy).2 h;omega
           have:=EL hk hd x.i ((PE hk hy).2 z5 h5);rw [h2]at this;cases this
          ·exact h5
         have lF:=Asc hp (s-x.s) (by omega) pI hm iP j z hz (fun k y hk hy wi _=>cf pI hz k y hk hy wi);rw [f2 j fun k y hk hy _ hs=>cf hm lF k y hk hy hs];exact lF
       ·have Bor:yW A l x.i s=true:=by
         unfold yW;refine OO fun k y hk=> ?_
         cases rB:y.mem with
         |false=>rfl
         |true=>
          simp only [cond_true];cases hb:blt y.s s with
          |true=>
           simp only [cond_true,not_eq_true'];have ml:=hD.low k y hk rB (Azt hb);cases jP:gb A x.i y.i with
           |false=>rfl
           |true=>
            have:=EL hk ml x.i jP;rw [h2]at this;cases this
          |false=>
           simp only [cond_false];cases ha:G7 y.o with
           |true=>rfl
           |false=>
            simp only [cond_false,not_eq_true'];have hyl:y.gX=true:=by unfold Rc.mem at rB;unfold Rc.gX;rw [rB,ha];rfl
            cases jP:gb A y.i x.i with
            |false=>rfl
            |true=>
             have:=hD.high k y hk hyl (wc _ jP);have:blt y.s s=true:=Azs this;rw [hb]at this;cases this
        obtain⟨u,h6⟩:=Azv (gW hm Bor);obtain⟨M,h7,h8⟩:=W6 h6;refine⟨M,fun j z hz=> ?_,?_⟩
        ·rcases h8 j z hz with g|⟨y,g1,g2,g3,g4,rfl,rfl⟩
         ·rw [f2 j fun k y hk hy qh hs hj=> ?_]
          ·exact g
          ·subst hj;rw [EG hm hk hy hs]at g;cases g
         ·obtain⟨k,hk,v9⟩:=List.mem_iff_getElem.1 g1;exact f1 k y (by rw [List.getElem?_eq_getElem hk,v9]) g2 (wc _ g4) g3
        ·unfold D_ at h7;split at h7
         ·rename_i av fh;cases PG:same av x.av with
          |true=>rw [Axf PG]at fh;exact .inl fh
          |false=>rw [PG]at h7;cases h7
         ·cases h7
     obtain⟨M,sU,Brc⟩:=hF;obtain⟨b1,ca,we,EM⟩:=f3.frame (f:=M.get) (fun j=>M.get j=none) (fun b=>b0.R b\/∃j,j<ops.size/\L.getD j false=false/\b=nb+j) (fun b h=> .inl h)
      (fun b h=>by
       rcases h with h|⟨j,g1,g2,rfl⟩
       ·exact⟨f3.res b h,f3.new b (.inr h)⟩
       ·have:=pY hm;exact⟨by omega,hD.free j g1 g2⟩)
      (fun j z hz=>⟨sU j z hz,fun h=>by rw [hz]at h;cases h⟩)
     refine Q7.ok (n:=m.2) Brc b1 e a w we y2.dm _ fun e' v w' kU hM hv=> ?_
     refine ih _ s e' _ w' (yZ hD hx h2 h3 kU hv (fun h=>by rw [gr]at h;cases h) (fun _=>rfl) (fun m2 kA=> ?_) (iG fun j hj ml=>hM.new _ (.inr (by rw [ca];exact .inr ⟨j,hj,ml,rfl⟩)))) (lr.trans kU) y7;rw [hm]at kA;cases kA
     refine px hD.size hx lu ⟨F,f1,f2,EM e' M.get m.2 w' kU hM F fun j z hz=> ?_⟩;cases hc:M.get j with
     |none=>exact .inl ⟨rfl,hz⟩
     |some z'=>
      have:=sU j z' hc;rw [hz]at this;cases this
      exact .inr ⟨nofun,rfl⟩
end
theorem Auu {P:Program} {call:Ba R} (dL:E5 P call) {sz:Nat} {ops:Array Oper} {g:vV} (hg:DV ops g) {tm:Tm} {M:Tr aL} {n:Nat} {K:Tm->Tr aL->Nat->Option R} {r:R} (h:ti P ops.size g.A g.F g.ld g.al (Pj P sz ops g.jn).get call tm M n K=some r): ∃bE M' n',K bE M' n'=some r/\∀(X:Exit->Act->World->Prop) b0 d0 e a w,Bc b0 e M.get n w->Jv sz d0 e tm a->(∀e' a' w',A0 e e'->Bc b0 e' M'.get n' w'->Jv sz d0 e' bE a'->X .normal a' w')->wpAny P .any ops X ops.size (replicate ops.size false) a { w with drawn:=w.drawn+1 } :=by
 unfold ti at h;rw [Ez]at h;have Bnf:Q8 P sz ops n tm M (n+ops.size) ([]:List Rc) tm [(M,n+ops.size)]:=
  ⟨rfl,rfl,fun i x hi=>by simp at hi,fun i x hi=>by simp at hi,fun i x hi=>by simp at hi,fun i x hi=>by simp at hi,fun i x hi=>by simp at hi,fun i x hi=>by simp at hi,fun i x hi=>by simp at hi,fun t=>by simp,fun i x hi=>by simp at hi⟩
 obtain⟨bE,recs,eT,h1,h2,h3⟩:=Q9 dL (recs:=[]) (eT:=[(M,n+ops.size)]) h (by simpa using Bnf) rfl rfl;simp only [List.reverse_nil,List.map_nil,List.nil_append]at h3;cases wk:EB P n ops.size g.A g.F g.ld g.al recs eT with
 |false=>rw [wk]at h1;cases h1
 |true=>
 rw [wk]at h1;obtain⟨M',n',nf,rfl,h1⟩:=Ao8 (show EC eT _=some r from h1);unfold EB at wk;simp only [Q4,yE,and_eq_true]at wk;obtain⟨d1,d2,d3⟩:=wk;have PH:∀ {k:Nat} {y:Rc},recs.reverse[k]? =some y->(y.i,y.o)∈g.jn:=by
  intro k y hk;rw [←h3];exact mem_map.2 ⟨y,mem_of_getElem? hk,rfl⟩
 refine⟨bE,M',n',h1,fun X b0 d0 e a w hM hA hX=> ?_⟩;have pd:((M',n')::nf).reverse[E6 recs.reverse]? =some (M',n'):=by
  have hlen:=h2.len;simp only [List.reverse_cons,length_append,List.length_singleton]at hlen⊢;rw [List.getElem?_append_right (by omega),show E6 recs.reverse-nf.reverse.length=0 by omega];rfl
 have lr:∀k,(replicate ops.size false).getD k false=false:=by
  intro k;rw [getD_eq_getD_getElem?];simp only [Array.getElem?_replicate];split<;>rfl
 refine Aut hg rfl h2 h3 (fun {s m} hm=>OQ d1 (List.mem_reverse.1 (mem_of_getElem? hm))) (fun {s m k y} rl hk hy hs=> ?_) (fun {p x} hx hw wh=> ?_) hM.res (X:=X) (e0:=e) (fun e' a' w' m wm kU sU hAA=> ?_) ops.size (replicate ops.size false) 0 e a _ ⟨by simp,fun i o ho hi=> ?_,fun k y hk hy hs=>absurd hs (Nat.not_lt_zero _),fun k y hk hy kB=> ?_,Nat.zero_le _,fun m wm=> ?_,fun i hi _=>hM.new _ (.inl (Nat.le_add_right _ _)),hA.size,hA.defers,fun k y t hk hy kB=> ?_,fun t av ht _=> ?_⟩ (A0.refl e) ?_
 ·cases iP:g.al with
  |false=>
   have:=hg.al iP _ (PH hk);unfold Rc.alloc at hy;rw [this]at hy;simp at hy
  |true=>
   rw [iP]at d2;have h1:=Vf (show allI _ _ 0=true from d2) rl;have h2:=Vf h1 hk;rw [Nat.zero_add,hy,show ble s y.s=true from Nat.ble_eq_true_of_le hs]at h2;exact Azu h2
 ·cases PI:g.ld with
  |false=>exact .inl (hg.ld PI _ (PH hx) (Axa wh))
  |true=>
   cases hb:W4 g.F x.i with
   |true=>exact .inl rfl
   |false=>
    refine .inr fun {s m} rl hpo=> ?_
    rw [PI]at d3;have h4:=Vf (show allI _ _ 0=true from d3) hx;simp only [hw,wh,hb,Bool.and_self,Bool.not_false,cond_true]at h4;have h5:=Vf h4 rl;rw [Nat.zero_add,hpo]at h5;exact h5
 ·rw [pd]at wm;cases wm
  exact hX e' a' w' kU sU hAA
 ·rw [lr]at hi;cases hi
 ·rw [lr]at kB;cases kB
 ·rw [h2.first]at wm;cases wm
  exact⟨M.get,⟨fun k y hk hy kB=>by (rw [lr]at kB;cases kB),fun j _=>rfl,(hM.drew _).more (Nat.le_add_right _ _)⟩⟩
 ·rw [lr]at kB;cases kB
 ·have:=hA.tm.at_ t av ht;rw [hA.size]at this;exact this
 ·refine le_trans (List.length_filter_le _ _) (by simp)
theorem Asd {P:Program} {call:Ba R} {sz:Nat} {ops:Array Oper} {tm:Tm} {M:Tr aL} {n:Nat} {K:Tm->Tr aL->Nat->Option R} {r:R} (h:(X3 P sz ops).get call tm M n K=some r):∀(i:Nat) (o:Oper),ops[i]? =some o->Be o=true:=by
 intro i o ho;unfold X3 at h;cases hd:ops.toList.all Be with
 |true=>exact List.all_eq_true.1 hd o (by simpa using Array.mem_of_getElem? ho)
 |false=>rw [hd]at h;cases h
theorem Auv {P:Program} {call:Ba R} (dL:E5 P call) {sz:Nat} {ops:Array Oper} {tm:Tm} {M:Tr aL} {n:Nat} {K:Tm->Tr aL->Nat->Option R} {r:R} (h:(X3 P sz ops).get call tm M n K=some r): ∃bE M' n',K bE M' n'=some r/\∀(X:Exit->Act->World->Prop) b0 d0 e a w,Bc b0 e M.get n w->Jv sz d0 e tm a->(∀e' a' w',A0 e e'->Bc b0 e' M'.get n' w'->Jv sz d0 e' bE a'->X .normal a' w')->wpAny P .any ops X ops.size (replicate ops.size false) a { w with drawn:=w.drawn+1 } :=by
 unfold X3 at h;cases hd:ops.toList.all Be with
 |false=>rw [hd]at h;cases h
 |true=>
 rw [hd]at h;simp only [cond_true]at h;split at h
 case h_2=>cases h
 rename_i A jn F ld al hr;have hg:=Auj hr;simp only [vP]at h;cases ld<;>cases al<;>exact Auu dL hg h
variable {R:Type}
abbrev tp (R:Type):Type:=Tm->Tr aL->Nat->(iD->Tm->Tr aL->Nat->Option R)->Option R
abbrev Jr (R:Type):Type:=Ba R->tp R
def EN (f g:Jr R):Jr R:=fun call tm M n K=>f call tm M n fun ex tm M n=>iD.casesOn (motive:=fun _=>Option R) ex (g call tm M n K) (K .ret tm M n) (fun i=>K (.exit i) tm M n)
def PJ (f:nc R):Jr R:=fun call tm M n K=>f call tm M n fun tm M n=>K .normal tm M n
def PM (f:nc R) (g:Jr R):Jr R:=fun call tm M n K=>f call tm M n fun tm M n=>g call tm M n K
def Bbd (x y:Bx (Jr R)) (gc:Tm->Option AV):Jr R:=fun call tm M n K=>vK (gc tm) fun b=>eS b (i4 x fun f=>f call tm M n K) (i4 y fun f=>f call tm M n K)
def Azz (id:Nat) (f:Jr R):Jr R:=fun call tm M n K=>f call tm M n fun ex tm M n=>iD.casesOn (motive:=fun _=>Option R) ex (K .normal tm M n) (K .ret tm M n) (fun i=>eS (Nat.beq i id) (K .normal tm M n) (K (.exit i) tm M n))
abbrev tq (R:Type):Type:=tp R->Tm->Tr aL->Nat->(iD->Tm->Tr aL->Nat->Option R)->(Tm->Tr aL->Nat->Option R)->Option R
def PN:tq R:=fun body tm M n K N=>body tm M n fun ex tm M n=>iD.casesOn (motive:=fun _=>Option R) ex (N tm M n) (K .ret tm M n) (fun i=>K (.exit i) tm M n)
def PO (i:tq R):tq R:=fun body tm M n K N=>i body tm M n K fun tm M n=>i body tm M n K N
def y8:Nat->Bx (tq R)
 |0=>⟨PN⟩|j+1=>b1 PO (y8 j)
def PQ (i:tq R) (f:Jr R):Jr R:=fun call tm M n K=>i (f call) tm M n K fun _ _ _=>none
def PS:Jr R:=fun _ _ _ _ _=>none
def EO (v:Value) (f:FuncId->List AV->Option R):Option R:=match v with
 | .func (.func g) ⟨[]⟩ ⟨l⟩=>fL (l.map .lit) fun l=>f g l
 |_=>none
def PT (x:AV) (f:FuncId->List AV->Option R):Option R:=AV.casesOn (motive_1:=fun _=>Option R) x (fun v=>EO v f) (fun _ _=>none) (fun _ _ _ _ _ _=>none) (fun _=>none) (fun _=>none) (fun g first kz=>List.casesOn (motive:=fun _=>Option R) first (f g kz) (fun _ _=>none)) (fun _=>none) (fun _ _=>none) (fun _=>none) (fun _ _ _=>none) none (fun _ _ _ _=>none)
def wo (x:aL) (f:Tm->Nat->List Nat->Code->Code->Nat->iD->Option R):Option R:=aL.casesOn (motive:=fun _=>Option R) x (fun _ _=>none) (fun _ _=>none) (fun r=>rf.casesOn (motive:=fun _=>Option R) r f)
def PU (P:Program) (sz:Nat) (ps:List Nat) (assign body:Code) (gf:Tm->Option AV):Jr R:=fun call tm M n K=>oK (gf tm) fun f=>PT f fun g kz=>eS (an (ble (Nat.succ g) YB) (Cd P g)) (i4 (Tr.sB n) fun s=>s M (some (.loop ⟨tm,sz,ps,assign,body,0,.normal⟩)) fun M1=>fN (Nat.succ n) fun n1=>call g (.yield n::kz) M1 n1 fun _ M2 n2=>oK ((Tr.gB n).get M2) fun x=>wo x fun _ _ _ _ _ st o5=>eS (no (Nat.beq st 1)) (i4 (Tr.sB n) fun s=>s M2 none fun M3=>iD.casesOn (motive:=fun _=>Option R) o5 (K .normal tm M3 n2) (K .ret tm M3 n2) (fun i=>K (.exit i) tm M3 n2)) none) none
def Fl (P:Program) (sz:Nat) (lf:Nat) (cS:Bool):Code->Bx (Jr R)
 | .skip=>⟨fun _ tm M n K=>K .normal tm M n⟩
 | .label _=>⟨fun _ tm M n K=>K .normal tm M n⟩
 | .ret=>⟨fun _ tm M n K=>K .ret tm M n⟩
 | .exit id=>⟨fun _ tm M n K=>K (.exit id) tm M n⟩
 | .seq x y=>match x with
  | .region _ ops false=>b2 PM (Sh P sz ops ops.toList) (Fl P sz lf cS y)| .region _ ops true=>b2 PM (X3 P sz ops) (Fl P sz lf cS y)|_=>b2 EN (Fl P sz lf cS x) (Fl P sz lf cS y)
 | .cond c x y=>b1 (Bbd (Fl P sz lf cS x) (Fl P sz lf cS y)) (dm c)| .block id c=>b1 (Azz id) (Fl P sz lf cS c)| .loop c=>b2 PQ (y8 lf) (Fl P sz lf cS c)| .scope c=>Fl P sz lf cS c| .region _ ops false=>b1 PJ (Sh P sz ops ops.toList)| .region _ ops true=>b1 PJ (X3 P sz ops)| .rangeFunc f ps assign body=>cond cS ⟨PS⟩ (b1 (PU P sz ps.toList assign body) (dm f))|_=>⟨PS⟩
def O2 (b:Base) (ds:List Nat):Prop:=ds.Nodup/\∀D∈ds,b.X D/\b.w.heap[D]? =some (.deferred (some []))
structure Ext (b:Base) (ds:List Nat) (b':Base) (ct:List Nat):Prop where
 kept:Kept b b'.w
 X:∀k,b.X k->b'.X k
 R:b'.R=b.R
 new:∀D∈ct,D∈ds\/¬b.X D
theorem Ext.refl (b:Base) (ds:List Nat):Ext b ds b ds:=⟨⟨rfl,rfl,rfl,le_refl _,fun _ _=>rfl⟩,fun _ h=>h,rfl,fun _ h=> .inl h⟩
theorem Ext.trans {b b1 b2:Base} {ds np EP:List Nat} (h:Ext b ds b1 np) (k:Ext b1 np b2 EP):Ext b ds b2 EP:=
 ⟨⟨k.kept.os.trans h.kept.os,k.kept.tape.trans h.kept.tape,k.kept.output.trans h.kept.output,le_trans h.kept.size k.kept.size,fun j hj=>(k.kept.block j (h.X j hj)).trans (h.kept.block j hj)⟩,fun j hj=>k.X j (h.X j hj),k.R.trans h.R,fun D hD=>by
   rcases k.new D hD with h1|h1
   ·exact h.new D h1
   ·exact .inr fun h2=>h1 (h.X D h2)⟩
def Ra (cS:Bool) (sz:Nat) (b0:Base) (ds:List Nat) (e:Env) (bE:Tm) (M':Tr aL) (n':Nat) (a':Act) (w':World):Prop:=∃e' b' ct,A0 e e'/\Ext b0 ds b' ct/\(cS=true->b'=b0/\ct=ds)/\Bc b' e' M'.get n' w'/\Jv sz (ct.map mk) e' bE a'/\O2 b' ct
theorem Ra.later {cS:Bool} {sz:Nat} {b0 b1:Base} {ds np:List Nat} {e e1:Env} {bE:Tm} {M':Tr aL} {n':Nat} {a':Act} {w':World} (hl:A0 e e1) (hx:Ext b0 ds b1 np) (hr:cS=true->b1=b0/\np=ds) (h:Ra cS sz b1 np e1 bE M' n' a' w'):Ra cS sz b0 ds e bE M' n' a' w':=by
 obtain⟨e',b',ct,h1,h2,h3,h4⟩:=h;exact⟨e',b',ct,hl.trans h1,hx.trans h2,fun hh=>⟨(h3 hh).1.trans (hr hh).1,(h3 hh).2.trans (hr hh).2⟩,h4⟩
def y9 (cS:Bool) (G:Fence):Prop:=Vc.Good G/\(cS=false->G=Fence.wide)
def Bbh (P:Program) (cS:Bool) (sz:Nat) (c:Code) (tm:Tm) (M:Tr aL) (n:Nat) (ex:iD) (bE:Tm) (M':Tr aL) (n':Nat):Prop:=∀(G:Fence) (n0:Nat) b0 ds e a w,y9 cS G->Bc b0 e M.get n w->Jv sz (ds.map mk) e tm a->O2 b0 ds->c.wpIn G n0 P (fun x a' w'=>x=ex.nV/\Ra cS sz b0 ds e bE M' n' a' w') a w
def M8 (P:Program) (cS:Bool) (sz:Nat) (c:Code) (body:tp R):Prop:=∀tm M n K r,body tm M n K=some r->∃ex bE M' n',K ex bE M' n'=some r/\Bbh P cS sz c tm M n ex bE M' n'
theorem Ku {cS:Bool} {sz:Nat} {b0:Base} {ds:List Nat} {e e':Env} {tm:Tm} {M:Tr aL} {n:Nat} {a:Act} {w:World} (hl:A0 e e') (hM:Bc b0 e' M.get n w) (hA:Jv sz (ds.map mk) e' tm a) (hD:O2 b0 ds):Ra cS sz b0 ds e tm M n a w:=
 ⟨e',b0,ds,hl,Ext.refl _ _,fun _=>⟨rfl,rfl⟩,hM,hA,hD⟩
theorem Am1 {A A':Act->World->Prop} {Q Q':Exit->Act->World->Prop} (h1:∀a w,A a w->A' a w) (h2:∀x a w,Q x a w->Q' x a w):∀x a w,Exit.then A Q x a w->Exit.then A' Q' x a w:=by
 intro x a w h;cases x<;>first|exact h1 _ _ h|exact h2 _ _ _ h
theorem Sj {G:Fence} {n0:Nat} {P:Program} {c:Code} {Q Q':Exit->Act->World->Prop} (hq:∀x a w,Q x a w->Q' x a w):∀(k:Nat) {a:Act} {w:World},Code.roundsIn G n0 P c Q k a w->Code.roundsIn G n0 P c Q' k a w
 |0,_,_,h=>h
 |k+1,_,_,h=>by
  rw [roundsIn_succ]at h⊢;exact wpIn_mono h (Am1 (fun _ _=>Sj hq k) hq)
def Bbi (P:Program) (cS:Bool) (sz:Nat) (c:Code) (k:Nat) (tm:Tm) (M:Tr aL) (n:Nat) (bE:Tm) (M':Tr aL) (n':Nat):Prop:=∀(G:Fence) (n0:Nat) (Q:Exit->Act->World->Prop) (m:Nat) b0 ds e a w,y9 cS G->Bc b0 e M.get n w->Jv sz (ds.map mk) e tm a->O2 b0 ds->(∀a' w',Ra cS sz b0 ds e bE M' n' a' w'->Code.roundsIn G n0 P c Q m a' w')->Code.roundsIn G n0 P c Q (k+m) a w
def PV (P:Program) (cS:Bool) (sz:Nat) (c:Code) (tm:Tm) (M:Tr aL) (n:Nat) (ex:iD) (bE:Tm) (M':Tr aL) (n':Nat):Prop:=∃k,∀(G:Fence) (n0:Nat) b0 ds e a w,y9 cS G->Bc b0 e M.get n w->Jv sz (ds.map mk) e tm a->O2 b0 ds->Code.roundsIn G n0 P c (fun x a' w'=>x=ex.nV/\Ra cS sz b0 ds e bE M' n' a' w') k a w
def y_ (P:Program) (cS:Bool) (sz:Nat) (c:Code) (k:Nat) (it:Tm->Tr aL->Nat->(iD->Tm->Tr aL->Nat->Option R)->(Tm->Tr aL->Nat->Option R)->Option R):Prop:=∀ {tm M n K N r},it tm M n K N=some r->(∃ex bE M' n',K ex bE M' n'=some r/\PV P cS sz c tm M n ex bE M' n')\/ ∃bE M' n',N bE M' n'=some r/\Bbi P cS sz c k tm M n bE M' n'
theorem Axi {P:Program} {cS:Bool} {sz:Nat} {c:Code} {body:tp R} (hb:M8 P cS sz c body):y_ P cS sz c 1 (PN body):=by
 intro tm M n K N r h;obtain⟨ex,iO,M1,n1,h1,h2⟩:=hb _ _ _ _ _ h;have out:∀ {y:iD},y.nV≠.normal->ex=y->K y iO M1 n1=some r->∃ex bE M' n',K ex bE M' n'=some r/\PV P cS sz c tm M n ex bE M' n':=by
  intro y hy hex hk;subst hex;refine⟨ex,iO,M1,n1,hk,1,fun G n0 b0 ds e a w hG hM hA hD=> ?_⟩;rw [roundsIn_succ];refine wpIn_mono (h2 G n0 b0 ds e a w hG hM hA hD) ?_;rintro x a' w' ⟨rfl,hx⟩;cases PW:ex.nV with
  |normal=>exact absurd PW hy
  |_=>exact⟨PW▸rfl,hx⟩
 cases ex with
 |normal=>
  refine .inr ⟨iO,M1,n1,h1,fun G n0 Q m b0 ds e a w hG hM hA hD hN=> ?_⟩;rw [Nat.add_comm,roundsIn_succ];refine wpIn_mono (h2 G n0 b0 ds e a w hG hM hA hD) ?_;rintro x a' w' ⟨rfl,hp⟩;exact hN a' w' hp
 |ret=>exact .inl (out (by simp [iD.nV]) rfl h1)
 |exit id=>exact .inl (out (by simp [iD.nV]) rfl h1)
theorem Axj {P:Program} {cS:Bool} {sz:Nat} {c:Code} {k:Nat} {i:tq R} {body:tp R} (hi:y_ P cS sz c k (i body)):y_ P cS sz c (k+k) (PO i body):=by
 intro tm M n K N r h;rcases hi h with h1|⟨iO,M1,n1,h1,h2⟩
 ·exact .inl h1
 ·rcases hi h1 with⟨ex,bE,M',n',h3,m,h4⟩|⟨bE,M',n',h3,h4⟩
  ·refine .inl ⟨ex,bE,M',n',h3,k+m,fun G n0 b0 ds e a w hG hM hA hD=>h2 G n0 _ m b0 ds e a w hG hM hA hD fun a' w' hp=> ?_⟩;obtain⟨e',b',ct,g1,g2,g3,g4,g5,g6⟩:=hp;exact Sj (fun x a w ⟨hx,hp⟩=>⟨hx,hp.later g1 g2 g3⟩) m (h4 G n0 b' ct e' a' w' hG g4 g5 g6)
  ·refine .inr ⟨bE,M',n',h3,fun G n0 Q m b0 ds e a w hG hM hA hD hN=> ?_⟩;rw [Nat.add_assoc];refine h2 G n0 Q (k+m) b0 ds e a w hG hM hA hD fun a' w' hp=> ?_
   obtain⟨e',b',ct,g1,g2,g3,g4,g5,g6⟩:=hp;exact h4 G n0 Q m b' ct e' a' w' hG g4 g5 g6 fun jK jr kj=>hN jK jr (kj.later g1 g2 g3)
theorem PX {P:Program} {cS:Bool} {sz:Nat} {c:Code} {body:tp R} (hb:M8 P cS sz c body):∀j,y_ P cS sz c (2^j) ((y8 j).get body)
 |0=>Axi hb
 |j+1=>by
  rw [Nat.pow_succ,Nat.mul_two];exact Axj (PX hb j)
theorem Auy {P:Program} {cS:Bool} {sz:Nat} {c:Code} {f:Jr R} {call:Ba R} (hb:M8 P cS sz c (f call)) (j:Nat):M8 P cS sz (.loop c) (PQ (y8 j).get f call):=by
 intro tm M n K r h;rcases PX hb j h with⟨ex,bE,M',n',h3,k,h4⟩|⟨_,_,_,h1,_⟩
 ·exact⟨ex,bE,M',n',h3,fun G n0 b0 ds e a w hG hM hA hD=>wpIn_loop_rounds k (h4 G n0 b0 ds e a w hG hM hA hD)⟩
 ·cases h1
theorem Axk {P:Program} {cS:Bool} {sz:Nat} {x y:Code} {f g:Jr R} {call:Ba R} (hf:M8 P cS sz x (f call)) (hg:M8 P cS sz y (g call)):M8 P cS sz (.seq x y) (EN f g call):=by
 intro tm M n K r h;obtain⟨ex,iO,M1,n1,h1,h2⟩:=hf _ _ _ _ _ h;cases ex with
 |normal=>
  obtain⟨ex,bE,M',n',h3,h4⟩:=hg _ _ _ _ _ h1;refine⟨ex,bE,M',n',h3,fun G n0 b0 ds e a w hG hM hA hD=>wpIn_seq (wpIn_mono (h2 G n0 b0 ds e a w hG hM hA hD) ?_)⟩;rintro x a' w' ⟨rfl,e',b',ct,g1,g2,g3,g4,g5,g6⟩;exact wpIn_mono (h4 G n0 b' ct e' a' w' hG g4 g5 g6) fun x a w ⟨hx,hp⟩=>⟨hx,hp.later g1 g2 g3⟩
 |ret=>exact⟨.ret,iO,M1,n1,h1,fun G n0 b0 ds e a w hG hM hA hD=>wpIn_seq (wpIn_mono (h2 G n0 b0 ds e a w hG hM hA hD) (by rintro x a' w' ⟨rfl,hx⟩;exact⟨rfl,hx⟩))⟩
 |exit id=>exact⟨.exit id,iO,M1,n1,h1,fun G n0 b0 ds e a w hG hM hA hD=>wpIn_seq (wpIn_mono (h2 G n0 b0 ds e a w hG hM hA hD) (by rintro x a' w' ⟨rfl,hx⟩;exact⟨rfl,hx⟩))⟩
theorem Am2 {v:Value} {f:FuncId->List AV->Option R} {r:R} (h:EO v f=some r):∃g l,v= .func (.func g) #[] ⟨l⟩/\f g (l.map .lit)=some r:=by
 unfold EO at h;split at h
 ·rw [Se]at h;exact⟨_,_,rfl,h⟩
 ·cases h
theorem Ase {x:AV} {f:FuncId->List AV->Option R} {r:R} (h:PT x f=some r):∃g kz,f g kz=some r/\∀e v,x.rep e v->∃us,v= .func (.func g) #[] ⟨us⟩/\AV.bI e kz us:=by
 cases x with
 |lit v=>
  obtain⟨g,l,rfl,h'⟩:=Am2 h;exact⟨g,_,h',fun e v hv=>by simp only [AV.rep]at hv;exact⟨l,hv,La l⟩⟩
 |func g first kz=>
  cases first with
  |nil=>
   refine⟨g,kz,h,fun e v hv=> ?_⟩;simp only [AV.rep,AV.bI]at hv;obtain⟨vs,us,h1,rfl,h2⟩:=hv;exact⟨us,h1,h2⟩
  |cons a l=>cases h
 |_=>cases h
theorem O3 {x:aL} {f:Tm->Nat->List Nat->Code->Code->Nat->iD->Option R} {r:R} (h:wo x f=some r):∃l:rf,x= .loop l/\f l.tm l.sz l.ps l.assign l.body l.st l.o5=some r:=by
 cases x with
 |loop l=>exact⟨l,rfl,h⟩
 |_=>cases h
theorem Lf {P:Program} {g:FuncId} (eM:Cd P g=true) (args:Array Value) (w:World):(callFunc g args).run P w= .ok (.enter g args) w:=by
 unfold Cd at eM;split at eM
 ·rename_i f hf;simp only [and_eq_true,not_eq_true']at eM;have hb:f.body.isNone=false:=by cases tQ:f.body<;>simp_all
  simp only [callFunc,Sem.run_bind,run_program,Result.andThen_ok,hf,eM.2,Bool.false_eq_true,if_false,hb,Sem.run_pure]
 ·cases eM
theorem Vi (w:World) (B:Nat) (o:Obj):w.grownBy (w.putObj B o) (some B):=grownBy_putObj' w B o
theorem Bc.loop {b0:Base} {w:World} {e:Env} {M:Tr aL} {n b B t:Nat} {r r':rf} {S S':Loop} {M':Tr aL} (h:Bc b0 e M.get n w) (hx:M.get b=some (.loop r)) (he:e b=some (B,t)) (hS:w.heap[B]? =some (.loop S)) (hB:¬b0.X B) (hM:∀j,M'.get j=if j=b then some (.loop r')else M.get j) (hr:sH e r' S'):Bc b0 e M'.get n (w.putObj B (.loop S')):=
 h.kG hx he hB (Vi w B _) hM ⟨B,t,S',he,World.putObj_heap_same (Array.getElem?_eq_some_iff.1 hS).1,hr,hB⟩
theorem Bc.getLoop {b0:Base} {w:World} {e:Env} {M:Tr aL} {n b B t:Nat} {r:rf} (h:Bc b0 e M.get n w) (hx:M.get b=some (.loop r)) (he:e b=some (B,t)):∃S,w.heap[B]? =some (.loop S)/\sH e r S/\¬b0.X B:=by
 obtain⟨B',t',S,h1,h2,h3,h4⟩:=h.bK b _ hx;rw [he]at h1;cases h1;exact⟨S,h2,h3,h4⟩
theorem Asf {P:Program} {call:Ba R} (dL:E5 P call) {sz:Nat} {f:Operand} {ps:Array Tmp} {assign body:Code} :M8 P false sz (.rangeFunc f ps assign body) (PU P sz ps.toList assign body (dm f).get call):=by
 intro tm M n K r h;obtain⟨av,hf,h⟩:=Bs h;rw [Ex]at hf;obtain⟨g,kz,h,jQ⟩:=Ase h;obtain⟨za,h⟩:=Jo h;rw [Q4,and_eq_true]at za;obtain⟨M1,h,we⟩:=Tr.jF (f:=FU) (show Tr.i5 FU M n _ _=some r from h);rw [Ez]at h;obtain⟨CJ,M2,n2,h,sK⟩:=dL _ _ _ _ _ _ h;obtain⟨x,hx,h⟩:=Bs h;obtain⟨l2,rfl,h⟩:=O3 h;obtain⟨eJ,h⟩:=Jo h;obtain⟨M3,h,ER⟩:=Tr.jF (f:=FU) (show Tr.i5 FU M2 n _ _=some r from h);have eJ:l2.st≠1:=fun e=>by rw [vQ,e]at eJ;cases eJ
 have hx:M2.get n=some (.loop l2):=hx;have sK:=sK.1 (le_of_ble_eq_true za.1);refine⟨l2.o5,tm,M3,n2,by cases hp:l2.o5<;>rw [hp]at h<;>exact h,fun G n0 b0 ds e a w hG hM hA hD=> ?_⟩;have zP:=hG.2 rfl;subst zP;obtain⟨us,mj,i6⟩:=jQ e _ (Zt hA.tm hf);refine wpIn_rangeFunc fun fn _=> ?_
 obtain⟨D,qi⟩:∃D,D=w.heap.size:=⟨_,rfl⟩
 obtain⟨S,hS⟩:∃S:Loop,S= { state:= .ready,pending:=none,fn,tmps:=a.tmps,params:=ps,assign,body,defers:=w.heap.size } :=⟨_,rfl⟩
 have wq:∀ {k},b0.X k->k<D:=fun hk=>by rw [qi];exact Nat.lt_of_lt_of_le (b0.lt _ hk) hM.kept.size
 let wD:World:=w.alloc (.deferred (some []))
 have zb:wD.heap.size=D+1:=by rw [qi];exact World.size_alloc _ _
 let b1:Base:=⟨wD,fun k=>b0.X k\/k=D,fun k hk=>by
  rw [zb];rcases hk with hk|hk
  ·have:=wq hk;omega
  ·omega,b0.R⟩
 have hold:∀ {k},k<D->wD.heap[k]? =w.heap[k]? :=fun hk=>by
  have:=World.grownBy_alloc w (.deferred (some [])) none;exact this.block _ (by omega) (by simp)
 have ES:=World.grownBy_alloc w (.deferred (some [])) none;have Brd:wD.heap[D]? =some (.deferred (some [])):=by rw [qi];exact World.alloc_heap_new w _
 have lp:Kept b0 wD:=⟨ES.os.trans hM.kept.os,ES.tape.trans hM.kept.tape,ES.output.trans hM.kept.output,le_trans hM.kept.size (by rw [zb];omega),fun k hk=>(hold (wq hk)).trans (hM.kept.block k hk)⟩
 have xc:Bc b1 e M.get n wD:=by
  refine⟨hM.new,hM.res,fun b x hb=> ?_,hM.ff,⟨rfl,rfl,rfl,le_refl _,fun _ _=>rfl⟩⟩;have wt:=hM.bK b x hb;obtain⟨B',t',g1,g2,_⟩:=wt.at;refine wt.bo (A0.refl e) (fun B t hB hX hc=> ?_) fun B t hB=> ?_
  ·rw [g1]at hB;cases hB;rcases hc with hc|hc
   ·exact hX hc
   ·omega
  ·rw [g1]at hB;cases hB;exact hold (by omega)
 have jG:e n=none:=hM.new n (.inl (le_refl _));have Bre:Bc b1 (e.put n (wD.heap.size,0)) M1.get (n+1) (wD.alloc (.loop S)):=by
  refine xc.push rfl jG (fun h=>Nat.lt_irrefl _ (hM.res n h)) (Nat.le_succ n) (Nat.lt_succ_self n) we ⟨wD.heap.size,0,S,Gi _ _ _,World.alloc_heap_new _ _,?_,fun hc=> ?_⟩
  ·rw [hS];exact⟨rfl,rfl,hA.size,fun t av ht=>⟨(hA.tm.at_ t av ht).1,E9 (A0.put jG _) (hA.tm.at_ t av ht).2⟩,rfl,rfl,rfl⟩
  ·rcases hc with hc|hc
   ·have:=wq hc;omega
   ·omega
 have PY:AV.bI (e.put n (wD.heap.size,0)) (.yield n::kz) (.func (.yield (D+1)) #[] #[]::us):=by
  simp only [AV.bI];exact⟨_,_,rfl,by simp only [AV.rep];exact⟨_,_,Gi _ _ _,by rw [zb]⟩,Er (A0.put jG _) i6⟩
 refine⟨D+1,[mk D],wD.alloc (.loop S),{ target:= .fn (.func g) ⟨us⟩,args:= #[.func (.yield (D+1)) #[] #[]] },wD.alloc (.loop S),g,#[.func (.yield (D+1)) #[] #[]]++⟨us⟩,wD.alloc (.loop S),?_,?_,fun _ _=>trivial,?_,fun h=>(by cases h),callsIn_wide.2 ?_⟩
 ·rw [hS,qi];exact run_enterLoop_outer _ _ _ _ _
 ·simp only [resolve,mj];simp [go_sem]
 ·simp [invoke,go_sem,Lf za.2]
 have hc:=sK b1 _ _ _ Bre PY (fun v w'=>rangePost Fence.wide n0 P (D+1) (fun x a' w'=>x=l2.o5.nV/\Ra false sz b0 ds e tm M3 n2 a' w') { a with defers:=[mk D]++a.defers } (.returned v) w') ?_
 ·rw [Lf za.2]at hc;have e1:(⟨.func (.yield (D+1)) #[] #[]::us⟩:Array Value)= #[.func (.yield (D+1)) #[] #[]]++⟨us⟩:=by apply ext';simp
  rw [e1]at hc;refine Calls.mono (hc:Calls P g _ _ _) fun en w' h=> ?_
  cases en with
  |returned v=>exact h
  |panicked c=>exact(h:False).elim
  |outgrown=>exact(h:False).elim
 ·intro e2 v w2 ky PZ _;have ET:e2 n=some (D+1,0):=by have:=ky n _ (Gi _ _ _);rwa [zb]at this
  obtain⟨S2,wu,kC,qj⟩:=PZ.getLoop hx ET;have Bou:S2.state≠.busy:=by
   rw [kC.state]
   match hs:l2.st with
   |0=>simp [pS]
   |1=>exact absurd hs eJ
   |2=>simp [pS]
   |k+3=>simp [pS]
  have py:=run_endLoop (P:=P) wu Bou;refine⟨S2.pending,_,py,?_⟩;have EU:Bc b1 e2 M3.get n2 (w2.putObj (D+1) (.loop { S2 with state:= .exhausted })):=by
   obtain⟨M4,P_⟩:∃M4:Mm,∀j,M4 j=if j=n then some (.loop { l2 with st:=3 })else M2.get j:=⟨_,fun j=>rfl⟩
   have h4:Bc b1 e2 M4 n2 (w2.putObj (D+1) (.loop { S2 with state:= .exhausted })):=
    PZ.kG hx ET qj (Vi w2 _ _) P_ ⟨_,_,_,ET,World.putObj_heap_same (Array.getElem?_eq_some_iff.1 wu).1,⟨rfl,kC.pending,kC.size,kC.tmps,kC.params,kC.assign,kC.body⟩,qj⟩
   refine h4.sub fun j z hz=> ?_
   rw [ER]at hz;split at hz
   ·cases hz
   ·rename_i hj;rw [P_,if_neg hj];exact hz
  have kU:A0 e e2:=(A0.put jG _).trans ky;have yK:∀D'∈D::ds,D'∈ds\/¬b0.X D':=by
   intro D' h';rcases mem_cons.1 h' with rfl|h'
   ·exact .inr fun hc=>by have:=wq hc;omega
   ·exact .inl h'
  have wv:Ra false sz b0 ds e tm M3 n2 { a with defers:=[mk D]++a.defers } (w2.putObj (D+1) (.loop { S2 with state:= .exhausted })):=by
   refine⟨e2,b1,D::ds,kU,⟨lp,fun k hk=> .inl hk,rfl,yK⟩,nofun,EU,⟨⟨fun t av ht=> ?_⟩,hA.size,by simp [hA.defers]⟩,List.nodup_cons.2 ⟨fun hc=> ?_,hD.1⟩,fun D' h'=> ?_⟩
   ·exact⟨(hA.tm.at_ t av ht).1,E9 kU (hA.tm.at_ t av ht).2⟩
   ·have:=wq (hD.2 D hc).1;omega
   ·rcases mem_cons.1 h' with rfl|h'
    ·exact⟨.inr rfl,Brd⟩
    ·have QA:=(hD.2 D' h').1;exact⟨.inl QA,(lp.block D' QA).trans (hD.2 D' h').2⟩
  have hpe:=kC.pending
  revert wv
  generalize w2.putObj (D+1) (.loop { S2 with state:= .exhausted })=w5;intro wv;rw [hpe];cases hlp:l2.o5 with
  |normal=>exact⟨rfl,wv⟩
  |ret=>exact wpIn_ret ⟨rfl,wv⟩
  |exit i=>exact wpIn_exit ⟨rfl,wv⟩
theorem Hh {P:Program} {b:Frame} {a:Act} {k:List Item} {cs:List Frame} {w:World} {c:Code} :step P (lone (b.atR a (.code (.scope c)::k)) cs w)= .next (lone (b.atR a (.code c::.inScope c::k)) cs w):=
 step_lone_go (by simp [stepG,stepG.exec,Frame.atR])
theorem Ae3 {P:Program} {b:Frame} {a:Act} {k:List Item} {cs:List Frame} {w:World} {c:Code} :step P (lone (b.atR a (.inScope c::k)) cs w)= .next (lone (b.atR a k) cs w):=
 step_lone_go (by simp [stepG,stepG.exec,Frame.atR])
theorem Apa {F:Fence} {n:Nat} {P:Program} {c:Code} {Q:Exit->Act->World->Prop} {a:Act} {w:World} (hn:∀l a w,¬Q (.goto l) a w) (h:c.wpIn F n P Q a w):(Code.scope c).wpIn F n P Q a w:=by
 intro b k cs hro hb hr;have h0:(lone (b.atR a (.code (.scope c)::k)) cs w).fenced P F:=fenced_calm hb hr rfl;obtain⟨e,a₁,w₁,hq,tr⟩:=h b (.inScope c::k) cs hro hb hr;cases e with
 |normal=>exact⟨.normal,a₁,w₁,hq,.head h0 Hh (StepsIn.trans tr (.one (fenced_calm hb hr rfl) Ae3))⟩
 |exit id=>
  have hx:exitTo id (.inScope c::k)=exitTo id k:=by simp [exitTo]
  exact⟨.exit id,a₁,w₁,hq,fun k' hk=> .head h0 Hh (tr.1 k' (by rw [hx];exact hk)),
   fun mi hk=>let ⟨k₁,h1,h2⟩:=tr.2 mi (by rw [hx];exact hk);⟨k₁,h1,.head h0 Hh h2⟩⟩
 |goto l=>exact absurd hq (hn l a₁ w₁)
 |ret=>exact⟨_,a₁,w₁,hq,.of_steps (.one h0 Hh) tr⟩
 |panic ch=>exact⟨_,a₁,w₁,hq,.of_steps (.one h0 Hh) tr⟩
 |outgrown=>exact⟨_,a₁,w₁,hq,.of_steps (.one h0 Hh) tr⟩
theorem EV {P:Program} {call:Ba R} (dL:E5 P call) (hm:P.follows .mixedOrders=true) {sz lf:Nat} {cS:Bool} :∀(c:Code),M8 P cS sz c ((Fl P sz lf cS c).get call):=by
 intro c
 induction c with
 |skip=>exact fun tm M n K r h=>⟨.normal,tm,M,n,h,fun G n0 b0 ds e a w hG hM hA hD=>wpIn_skip ⟨rfl,Ku (A0.refl e) hM hA hD⟩⟩
 |label l=>exact fun tm M n K r h=>⟨.normal,tm,M,n,h,fun G n0 b0 ds e a w hG hM hA hD=>wpIn_label ⟨rfl,Ku (A0.refl e) hM hA hD⟩⟩
 |ret=>exact fun tm M n K r h=>⟨.ret,tm,M,n,h,fun G n0 b0 ds e a w hG hM hA hD=>wpIn_ret ⟨rfl,Ku (A0.refl e) hM hA hD⟩⟩
 |exit id=>exact fun tm M n K r h=>⟨.exit id,tm,M,n,h,fun G n0 b0 ds e a w hG hM hA hD=>wpIn_exit ⟨rfl,Ku (A0.refl e) hM hA hD⟩⟩
 |seq x y gT gU=>
  have gen:M8 P cS sz (.seq x y) (EN (Fl P sz lf cS x).get (Fl P sz lf cS y).get call):=Axk gT gU;unfold Fl;split
  ·rename_i i ops;intro tm M n K r h;refine gen tm M n K r ?_;exact h
  ·rename_i i ops;intro tm M n K r h;refine gen tm M n K r ?_;exact h
  ·exact gen
 |cond c x y gT gU=>
  intro tm M n K r h;obtain⟨b,hc,h⟩:=Tq (show vK ((dm c).get tm) _=some r from h);rw [Ex]at hc;cases b with
  |true=>
   obtain⟨ex,bE,M',n',h3,h4⟩:=gT _ _ _ _ _ (show(Fl P sz lf cS x).get call tm M n K=some r from h);exact⟨ex,bE,M',n',h3,fun G n0 b0 ds e a w hG hM hA hD=>wpIn_cond_true (by have:=Zt hA.tm hc;simpa only [AV.rep] using this) (h4 G n0 b0 ds e a w hG hM hA hD)⟩
  |false=>
   obtain⟨ex,bE,M',n',h3,h4⟩:=gU _ _ _ _ _ (show(Fl P sz lf cS y).get call tm M n K=some r from h);exact⟨ex,bE,M',n',h3,fun G n0 b0 ds e a w hG hM hA hD=>wpIn_cond_false (by have:=Zt hA.tm hc;simpa only [AV.rep] using this) (h4 G n0 b0 ds e a w hG hM hA hD)⟩
 |block id c ih=>
  intro tm M n K r h;obtain⟨ex,iO,M1,n1,h1,h2⟩:=ih _ _ _ _ _ (show(Fl P sz lf cS c).get call tm M n _=some r from h);cases ex with
  |normal=>exact⟨.normal,iO,M1,n1,h1,fun G n0 b0 ds e a w hG hM hA hD=>wpIn_block (wpIn_mono (h2 G n0 b0 ds e a w hG hM hA hD) (by rintro x a' w' ⟨rfl,hx⟩;exact⟨rfl,hx⟩))⟩
  |ret=>exact⟨.ret,iO,M1,n1,h1,fun G n0 b0 ds e a w hG hM hA hD=>wpIn_block (wpIn_mono (h2 G n0 b0 ds e a w hG hM hA hD) (by rintro x a' w' ⟨rfl,hx⟩;exact⟨rfl,hx⟩))⟩
  |exit i=>
   simp only at h1;cases hi:Nat.beq i id with
   |true=>
    rw [hi]at h1;have:=eq_of_beq_eq_true hi;subst this;exact⟨.normal,iO,M1,n1,h1,fun G n0 b0 ds e a w hG hM hA hD=>wpIn_block (wpIn_mono (h2 G n0 b0 ds e a w hG hM hA hD) (by rintro x a' w' ⟨rfl,hx⟩;show if i=i then _ else _;rw [if_pos rfl];exact⟨rfl,hx⟩))⟩
   |false=>
    rw [hi]at h1;have cf:i≠id:=fun e=>by subst e;simp at hi
    exact⟨.exit i,iO,M1,n1,h1,fun G n0 b0 ds e a w hG hM hA hD=>wpIn_block (wpIn_mono (h2 G n0 b0 ds e a w hG hM hA hD) (by rintro x a' w' ⟨rfl,hx⟩;show if i=id then _ else _;rw [if_neg cf];exact⟨rfl,hx⟩))⟩
 |loop c ih=>exact Auy ih lf
 |scope c ih=>
  intro tm M n K r h;obtain⟨ex,iO,M1,n1,h1,h2⟩:=ih _ _ _ _ _ (show(Fl P sz lf cS c).get call tm M n K=some r from h);exact⟨ex,iO,M1,n1,h1,fun G n0 b0 ds e a w hG hM hA hD=>Apa (fun l a w hq=>by cases ex<;>cases hq.1) (h2 G n0 b0 ds e a w hG hM hA hD)⟩
 |region id ops draw=>
  intro tm M n K r h;cases draw with
  |false=>
   obtain⟨bE,M',n',h3,h6⟩:=DN dL ops.toList 0 (by simp) (show(Sh P sz ops ops.toList).get call tm M n _=some r from h);refine⟨.normal,bE,M',n',h3,fun G n0 b0 ds e a w hG hM hA hD=>wpIn_region ?_⟩;have:=h6 G n0 (fun x a' w'=>x=iD.normal.nV/\Ra cS sz b0 ds e bE M' n' a' w') b0 (ds.map mk) e a w hG.1 hM hA fun e' a' w' hl f_ tu=>⟨rfl,Ku hl f_ tu hD⟩
   rw [List.range_eq_range'];simpa using this
  |true=>
   have gw:=Asd (show(X3 P sz ops).get call tm M n _=some r from h);obtain⟨bE,M',n',h3,h6⟩:=Auv dL (show(X3 P sz ops).get call tm M n _=some r from h);refine⟨.normal,bE,M',n',h3,fun G n0 b0 ds e a w hG hM hA hD=> ?_⟩;have:=h6 (B7 fun a' w'=>Ra cS sz b0 ds e bE M' n' a' w') b0 (ds.map mk) e a w hM hA fun e' a' w' hl f_ tu=>Ku hl f_ tu hD
   refine wpIn_mono (wpIn_region_any hm (V2 hG.1 gw K0 _ _ _ _ this)) fun x a w h=> ?_
   cases x<;>first|exact⟨rfl,h⟩|exact(h:False).elim
 |rangeFunc f ps assign body _ _=>
  unfold Fl;cases cS with
  |true=>intro tm M n K r h;cases h
  |false=>exact Asf dL
 |_=>intro tm M n K r h;cases h
def zd (sz:Nat):List Nat->List AV->Tm->(Tm->Option R)->Option R
 |[],[],tm,K=>K tm|p::ps,a::az,tm,K=>qd sz tm (some p) a fun tm=>zd sz ps az tm K
 |_,_,_,_=>none
theorem QB {sz:Nat} :∀ {ps:List Nat} {az:List AV} {tm:Tm} {K:Tm->Option R} {r:R},zd sz ps az tm K=some r->∃bE,K bE=some r/\ps.length=az.length/\
 ∀e vs (T:Array Value),AV.bI e az vs->Jv sz [] e tm { tmps:=T,defers:=[] } ->Jv sz [] e bE { tmps:=(ps.zip vs).foldl (fun T (x:Nat×Value)=>T.setIfInBounds x.1 x.2) T,defers:=[] }
 |[],[],tm,K,r,h=>⟨tm,h,rfl,fun e vs T hv hA=>by simpa using hA⟩
 |p::ps,a::az,tm,K,r,h=>by
  obtain⟨iO,h1,h2⟩:=DF (show qd sz tm (some p) a (fun tm=>zd sz ps az tm K)=some r from h);obtain⟨bE,h3,h4,h5⟩:=QB h1;refine⟨bE,h3,by simp [h4],fun e vs T hv hA=> ?_⟩;simp only [AV.bI]at hv;obtain⟨x,xs,rfl,hx,oJ⟩:=hv;exact h5 e xs _ oJ (h2 [] e e _ x hA (A0.refl e) hx)
 |[],_::_,_,_,_,h=>by cases h
 |_::_,[],_,_,_,h=>by cases h
def EW (P:Program) (lf:Nat) (call:Ba R) (b:Nat) (az:List AV) (M:Tr aL) (n:Nat) (K:AV->Tr aL->Nat->Option R):Option R:=oK ((Tr.gB b).get M) fun x=>wo x fun tm sz ps assign body st _=>eS (Nat.beq st 0) (zd sz ps az tm fun iO=>i4 (Fl P sz lf true assign) fun fa=>fa call iO M n fun ex ng M2 n2=>iD.casesOn (motive:=fun _=>Option R) ex (oK ((Tr.gB b).get M2) fun x2=>wo x2 fun bE DX ps' az' Bov rE Bow=>eS (Nat.beq rE 0) (i4 (Tr.sB b) fun s=>s M2 (some (.loop ⟨bE,DX,ps',az',Bov,1,Bow⟩)) fun M3=>i4 (Fl P sz lf true body) fun fb=>fb call ng M3 n2 fun od _ M4 n4=>oK ((Tr.gB b).get M4) fun x4=>wo x4 fun EX EY EZ E_ FA _ _=>iD.casesOn (motive:=fun _=>Option R) od (i4 (Tr.sB b) fun s=>s M4 (some (.loop ⟨EX,EY,EZ,E_,FA,0,.normal⟩)) fun M5=>K (.lit (.bool true)) M5 n4) (i4 (Tr.sB b) fun s=>s M4 (some (.loop ⟨EX,EY,EZ,E_,FA,2,.ret⟩)) fun M5=>K (.lit (.bool false)) M5 n4) (fun i=>i4 (Tr.sB b) fun s=>s M4 (some (.loop ⟨EX,EY,EZ,E_,FA,2,.exit i⟩)) fun M5=>K (.lit (.bool false)) M5 n4)) none) none (fun _=>none)) none
theorem Asg {P:Program} {call:Ba R} (dL:E5 P call) (hm:P.follows .mixedOrders=true) {lf b:Nat} {az:List AV} {M:Tr aL} {n:Nat} {K:AV->Tr aL->Nat->Option R} {r:R} (h:EW P lf call b az M n K=some r):∃av M' n',K av M' n'=some r/\ND P b az M n av M' n':=by
 obtain⟨x,hx,h⟩:=Bs h;obtain⟨l,rfl,h⟩:=O3 h;obtain⟨eJ,h⟩:=Jo h;have eJ:=eq_of_beq_eq_true eJ;obtain⟨iO,h,hlen,dg⟩:=QB h;obtain⟨ex,ng,M2,n2,h,cN⟩:=EV dL hm (cS:=true) l.assign _ _ _ _ _ (show(Fl P l.sz lf true l.assign).get call iO M n _=some r from h);cases ex with
 |ret=>cases h
 |exit i=>cases h
 |normal=>
 obtain⟨x2,oe,h⟩:=Bs (show oK ((Tr.gB b).get M2) _=some r from h);obtain⟨l2,rfl,h⟩:=O3 h;obtain⟨FB,h⟩:=Jo h;have FB:=eq_of_beq_eq_true FB;obtain⟨M3,h,ER⟩:=Tr.jF (f:=FU) (show Tr.i5 FU M2 b _ _=some r from h);obtain⟨od,tm3,M4,n4,h,oZ⟩:=EV dL hm (cS:=true) l.body _ _ _ _ _ (show(Fl P l.sz lf true l.body).get call ng M3 n2 _=some r from h);obtain⟨x4,ze,h⟩:=Bs h;obtain⟨l4,rfl,h⟩:=O3 h;have hx:M.get b=some (.loop l):=hx;have oe:M2.get b=some (.loop l2):=oe;have ze:M4.get b=some (.loop l4):=ze;obtain⟨bb,FC,M5,hK,tQ,hM5⟩:∃(bb:Bool) (FC:Nat) (M5:Tr aL),K (.lit (.bool bb)) M5 n4=some r/\(bb=od.jump.isNone/\pS FC=if od.jump.isNone then .ready else .done)/\∀j,M5.get j=if j=b then some (.loop { l4 with st:=FC,o5:=od })else M4.get j:=by
  cases od with
  |normal=>
   obtain⟨M5,h1,h2⟩:=Tr.jF (f:=FU) (show Tr.i5 FU M4 b _ _=some r from h);exact⟨true,0,M5,h1,⟨rfl,rfl⟩,h2⟩
  |ret=>
   obtain⟨M5,h1,h2⟩:=Tr.jF (f:=FU) (show Tr.i5 FU M4 b _ _=some r from h);exact⟨false,2,M5,h1,⟨rfl,rfl⟩,h2⟩
  |exit i=>
   obtain⟨M5,h1,h2⟩:=Tr.jF (f:=FU) (show Tr.i5 FU M4 b _ _=some r from h);exact⟨false,2,M5,h1,⟨rfl,rfl⟩,h2⟩
 refine⟨_,M5,n4,hK,fun b0 e w vs hM j0 B t hB next hk n0=> ?_⟩;obtain⟨S,hS,hL,hXB⟩:=hM.getLoop hx hB;have vB:=A7 j0;have eU:(⟨vs⟩:Array Value).size=S.params.size:=by rw [hL.params];simp;omega
 have hy:=run_yield (P:=P) (args:=(⟨vs⟩:Array Value)) hS eU;refine⟨S.fn,_,S.assign,S.body,hy,roundIn_of_wpIn trivial ?_⟩;rw [hL.assign,hL.body];have htm:(S.params.zip (⟨vs⟩:Array Value)).foldl (fun tmps (x:Nat×Value)=>tmps.setIfInBounds x.1 x.2) S.tmps=(l.ps.zip vs).foldl (fun T (x:Nat×Value)=>T.setIfInBounds x.1 x.2) S.tmps:=by
  rw [hL.params];have:(⟨l.ps⟩:Array Nat).zip (⟨vs⟩:Array Value)=⟨l.ps.zip vs⟩:=by apply ext';simp
  rw [this];simp
 have zf:Jv l.sz [] e l.tm { tmps:=S.tmps,defers:=[] } :=⟨⟨fun t av ht=>hL.tmps t av ht⟩,hL.size,rfl⟩
 have QC:=dg e vs S.tmps j0 zf;rw [←htm]at QC;have hG:y9 true (Fence.wide.inRound B):=⟨.inr ⟨B,rfl⟩,nofun⟩
 have v_:O2 b0 []:=⟨List.nodup_nil,nofun⟩
 refine wpIn_mono (cN (Fence.wide.inRound B) n0 b0 [] e _ w hG hM QC v_) ?_;rintro x a2 w2 ⟨rfl,e2,b2,EP,g1,_,g3,g4,g5,_⟩;obtain⟨rfl,rfl⟩:=g3 rfl;have qj:=g1 _ _ hB;obtain⟨S2,wu,kC,Brf⟩:=g4.getLoop oe qj;refine⟨_,run_beginRound wu (by rw [kC.state,FB];rfl),?_⟩;have EU:Bc b2 e2 M3.get n2 (w2.putObj B (.loop { S2 with state:= .busy })):=
  g4.loop oe qj wu Brf ER ⟨rfl,kC.pending,kC.size,kC.tmps,kC.params,kC.assign,kC.body⟩
 refine wpIn_mono (oZ (Fence.wide.inRound B) n0 b2 [] e2 a2 _ hG EU g5 v_) ?_;rintro x a4 w4 ⟨rfl,e4,b4,ds4,k1,_,k3,k4,k5,_⟩;obtain⟨rfl,rfl⟩:=k3 rfl;have zg:=k1 _ _ qj;obtain⟨S4,QD,wx,Brg⟩:=k4.getLoop ze zg;have py:=run_endRound (P:=P) od.jump QD;have Brh:Bc b4 e4 M5.get n4 (w4.putObj B (.loop { S4 with state:=(if od.jump.isNone then .ready else .done),pending:=od.jump })):=
  k4.loop ze zg QD Brg hM5 ⟨tQ.2.symm,rfl,wx.size,wx.tmps,wx.params,wx.assign,wx.body⟩
 have m_:=hk e4 (.bool bb) _ (g1.trans k1) Brh (by simp only [AV.rep]);rw [←tQ.1]at py m_;cases od with
 |normal=>exact⟨_,_,py,bb,rfl,m_⟩
 |ret=>exact⟨_,_,py,bb,rfl,m_⟩
 |exit i=>exact⟨_,_,py,bb,rfl,m_⟩
variable {R:Type}
def wy:Nat->List AV->Tm->(Tm->Option R)->Option R
 |_,[],tm,K=>K tm|i,a::l,tm,K=>i4 (Tm.sB i) fun s=>s tm (some a) fun tm=>fN (i+1) fun i=>wy i l tm K
theorem QE {sz:Nat} :∀ {l:List AV} {i:Nat} {tm:Tm} {K:Tm->Option R} {r:R},wy i l tm K=some r->∃bE,K bE=some r/\∀(t:Nat) av,bE.get t=some av->(∃j,l[j]? =some av/\t=i+j)\/tm.get t=some av
 |[],i,tm,K,r,h=>⟨tm,h,fun t av ht=> .inr ht⟩
 |a::l,i,tm,K,r,h=>by
  simp only [wy]at h;obtain⟨iO,h1,h2⟩:=Tm.BJ h;rw [Ez]at h1;obtain⟨bE,h3,h4⟩:=QE (sz:=sz) h1;refine⟨bE,h3,fun t av ht=> ?_⟩;rcases h4 t av ht with⟨j,g1,g2⟩|g
  ·exact .inl ⟨j+1,by simpa using g1,by omega⟩
  ·rw [h2]at g;split at g
   ·rename_i hti;exact .inl ⟨0,by simpa using g,by omega⟩
   ·exact .inr g
def Zy (P:Program) (tm:Tm) (M:Tr aL):ResultVar->Option AV
 | .tmp t=>tm.get t| .cell s t=>match tm.get s with
  |some (.ptr b k)=>match M.get b with
   |some (.cells l _)=>match o7 P t with
    |some true=>match P.info? t with
     |some i=>cond (ble (k+i.size) l.length) (some (.agg ((l.drop k).take i.size))) none|none=>none
    |some false=>l[k]?|none=>none
   |_=>none
  |_=>none
def qk (P:Program) (tm:Tm) (M:Tr aL):List ResultVar->Option (List AV)
 |[]=>some []|x::l=>match Zy P tm M x with
  |some a=>match qk P tm M l with
   |some az=>some (a::az)|none=>none
  |none=>none
def tv:List AV->AV
 |[v]=>v|vs=> .tuple vs
theorem Apc {P:Program} {b0:Base} {e:Env} {tm:Tm} {M:Tr aL} {n:Nat} {a:Act} {w:World} (hM:Bc b0 e M.get n w) (hT:m8 e tm a) {x:ResultVar} {av:AV} (h:Zy P tm M x=some av): ∃v,av.rep e v/\(Ob a.tmps x).run P w= .ok v w:=by
 cases x with
 |tmp t=>exact⟨_,(hT.at_ t av h).2,rfl⟩
 |cell s t=>
  simp only [Zy]at h;split at h
  case h_2=>cases h
  rename_i b k hs;split at h
  case h_2=>cases h
  rename_i l rw hb;obtain⟨B,tt,vs,rest,h1,h2,h3,h4,h5⟩:=hM.bK b _ hb;have hr:=(hT.at_ s _ hs).2;simp only [AV.rep]at hr;obtain⟨B',t',q1,q2⟩:=hr;rw [h1]at q1;cases q1;split at h
  ·rename_i ha;split at h
   case h_2=>cases h
   rename_i i hi;cases hc:ble (k+i.size) l.length with
   |false=>rw [hc]at h;cases h
   |true=>
    rw [hc]at h;cases h;have hle:=le_of_ble_eq_true hc;have hlen:=A7 h4;have nG:((vs.drop k).take i.size).length=i.size:=by simp;omega
    have mb:Ad w ⟨B,k,none⟩ ((vs.drop k).take i.size):=h2.cells k fun j hj=>by
     rw [nG]at hj;rw [List.getElem?_append_left (by omega),List.getElem?_eq_getElem (by omega)];simp
    have hl:=H7 (P:=P) (w:=w) (a:=⟨B,k,none⟩) ((vs.drop k).take i.size) 0 #[] (fun j hj=>by simpa using mb j hj);rw [nG]at hl;refine⟨.agg ⟨(vs.drop k).take i.size⟩,by simp only [AV.rep];exact⟨_,rfl,Ew (F7 h4)⟩,?_⟩;simp only [Ob,q2,asAddr,loadVar,Sem.run_bind,Sem.run_pure,Result.andThen_ok,Nz ha,if_true,sizeOf,typeInfo,run_program,hi,loadCells,hl];simp
  ·rename_i ha;obtain⟨v,hv,hr⟩:=Jm h4 h;have aP:=(List.getElem?_eq_some_iff.1 hv).1;have hc:w.cell? ⟨B,k,none⟩=some v:=h2.cell (by rw [List.getElem?_append_left aP];exact hv);refine⟨v,hr,?_⟩;simp only [Ob,q2,asAddr,loadVar,Sem.run_bind,Sem.run_pure,Result.andThen_ok,Nz ha,Bool.false_eq_true,if_false,run_load,hc]
  ·cases h
theorem QF {P:Program} {b0:Base} {e:Env} {tm:Tm} {M:Tr aL} {n:Nat} {a:Act} {w:World} (hM:Bc b0 e M.get n w) (hT:m8 e tm a):∀ {l:List ResultVar} {az:List AV},qk P tm M l=some az->
 ∃vs,AV.bI e az vs/\(l.mapM (Ob a.tmps)).run P w= .ok vs w
 |[],_,h=>by simp only [qk]at h;cases h;exact⟨[],by simp [AV.bI],rfl⟩
 |x::l,_,h=>by
  simp only [qk]at h;split at h
  ·rename_i av fh;split at h
   ·rename_i az has;cases h
    obtain⟨v,h1,h2⟩:=Apc hM hT fh;obtain⟨vs,h3,h4⟩:=QF hM hT has;refine⟨v::vs,by simp only [AV.bI];exact⟨_,_,rfl,h1,h3⟩,?_⟩;simp only [List.mapM_cons,Sem.run_bind,h2,h4,Result.andThen_ok,Sem.run_pure]
   ·cases h
  ·cases h
theorem Auz {e:Env} {az:List AV} {vs:List Value} (h:AV.bI e az vs):(tv az).rep e (Ja vs):=by
 match az,h with
 |[],h=>simp only [AV.bI]at h;subst h;simp only [tv,Ja,AV.rep];exact⟨[],rfl,by simp [AV.bI]⟩
 |[a],h=>
  simp only [AV.bI]at h;obtain⟨x,xs,rfl,h1,rfl⟩:=h;exact h1
 |a::b::l,h=>
  have h':=h;simp only [AV.bI]at h;obtain⟨x,xs,rfl,h1,y,ys,rfl,h2⟩:=h;simp only [tv,Ja,AV.rep];exact⟨_,rfl,h'⟩
abbrev zh (R:Type):Type:=Tm->Tr aL->(AV->Option R)->Option R
def QG (P:Program) (l:List ResultVar):zh R:=fun tm M K=>match qk P tm M l with
 |some az=>fL az fun az=>fA (tv az) K
 |none=>none
def Bce (g:Tm->Option AV):zh R:=fun tm _ K=>oK (g tm) K
def zi (P:Program) (l:List ResultVar):Bx (zh R):=match l with
 |[]=>⟨fun _ _ K=>K (.tuple [])⟩
 |[.tmp t]=>b1 Bce (Tm.gB t)|_=>⟨QG P l⟩
theorem QH {P:Program} {l:List ResultVar} {tm:Tm} {M:Tr aL} {K:AV->Option R} {r:R} (h:(zi P l).get tm M K=some r):∃az,qk P tm M l=some az/\K (tv az)=some r:=by
 unfold zi at h;split at h
 ·exact⟨[],rfl,h⟩
 ·rename_i t;obtain⟨a,h1,h2⟩:=Bs (show oK (tm.get t) K=some r from h);exact⟨[a],by simp only [qk,Zy,h1],h2⟩
 ·simp only [QG]at h;split at h
  ·rename_i az has;rw [Se,Qu]at h;exact⟨az,has,h⟩
  ·cases h
def FD (nt:Nat) (f:Jr R) (q:zh R):Ba R->Ba R:=fun call _ args M n K=>eS (ble args.length nt) (wy 0 args Tm.nil fun tm=>f call tm M n fun ex tm M n=>iD.casesOn (motive:=fun _=>Option R) ex (q tm M fun av=>K av M n) (q tm M fun av=>K av M n) (fun _=>none)) none
def FE (P:Program):Ba R->Ba R:=fun _ g args M n K=>match AV.vals? args with
 |some vs=>match o6 P (callFunc g ⟨vs⟩)with
  |some (.value v)=>fV v fun v=>K (.lit v) M n
  |_=>none
 |none=>none
def QI:Ba R->Ba R:=fun _ _ _ _ _ _=>none
def zj (P:Program) (lf:Nat) (g:FuncId):Bx (Ba R->Ba R):=match P.funcs[g]? with
 |some fn=>cond (fn.name== "runtime.NumGoroutine") ⟨QI⟩ (match fn.body with
  |some c=>b2 (FD fn.ntmps) (Fl P fn.ntmps lf false c) (zi P fn.results.toList)|none=>⟨FE P⟩)
 |none=>⟨QI⟩
def FG (P:Program) (ext:Ba R->Ba R) (lf:Nat) (call:Ba R):Ba R:=ext fun g args M n K=>eS (ble YB g) (fN (Nat.sub g YB) fun b=>EW P lf call b args M n K) (i4 (zj P lf g) fun f=>f call g args M n K)
def FH (P:Program) (ext:Ba R->Ba R) (lf:Nat):Nat->Bx (Ba R)
 |0=>⟨fun _ _ _ _ _=>none⟩
 |k+1=>b1 (FG P ext lf) (FH P ext lf k)
def rF (P:Program) (ext:Ba R->Ba R) (lf:Nat) (k:Nat):Ba R:=fun g args M n K=>i4 (FH P ext lf k) fun f=>f g args M n K
def R9 (P:Program) (ext:Ba R->Ba R):Prop:=∀call,E5 P call->E5 P (ext call)
theorem Lg (P:Program):R9 P (fun c:Ba R=>c):=fun _ h=>h
theorem Tx:∀(ds:List Nat) (w:World) {k:Nat},k∉ds->(shut ds w).heap[k]? =w.heap[k]?
 |[],_,_,_=>rfl
 |D::ds,w,k,h=>by
  simp only [mem_cons,not_or]at h;simp only [shut];rw [Tx ds _ h.2];exact World.putObj_heap_other h.1
theorem QJ:∀(ds:List Nat) (w:World),(shut ds w).os=w.os/\(shut ds w).tape=w.tape/\(shut ds w).output=w.output/\(shut ds w).heap.size=w.heap.size
 |[],_=>⟨rfl,rfl,rfl,rfl⟩
 |D::ds,w=>by
  obtain⟨h1,h2,h3,h4⟩:=QJ ds (w.putObj D (.deferred none));exact⟨h1,h2,h3,by rw [shut,h4];simp [World.putObj]⟩
theorem Bc.shut {b0 b':Base} {ct:List Nat} {e':Env} {M':Mm} {n':Nat} {w':World} (hM:Bc b' e' M' n' w') (hx:Ext b0 [] b' ct) (hD:O2 b' ct):Bc b0 e' M' n' (shut ct w'):=by
 obtain⟨f1,f2,f3,f4⟩:=QJ ct w';refine⟨fun b hb=>hM.new b (hb.imp id fun h=>by rw [hx.R];exact h),fun b hb=>hM.res b (by rw [hx.R];exact hb),fun b x hb=> ?_,hM.ff,⟨f1.trans (hM.kept.os.trans hx.kept.os),f2.trans (hM.kept.tape.trans hx.kept.tape),f3.trans (hM.kept.output.trans hx.kept.output),le_trans hx.kept.size (by rw [f4];exact hM.kept.size),fun k hk=> ?_⟩⟩
 ·have wt:=hM.bK b x hb;obtain⟨B',t',g1,g2,g3⟩:=wt.at;refine wt.bo (A0.refl e') (fun B t hB hX hc=>hX (hx.X B hc)) fun B t hB=> ?_
  rw [g1]at hB;cases hB;exact Tx ct w' fun hc=>g3 (hD.2 B' hc).1
 ·rw [Tx ct w' fun hc=> ?_]
  ·exact(hM.kept.block k (hx.X k hk)).trans (hx.kept.block k hk)
  ·rcases hx.new k hc with h|h
   ·cases h
   ·exact h hk
theorem Au3 {P:Program} (hm:P.follows .mixedOrders=true) {lf:Nat} {call:Ba R} (dL:E5 P call) {g:FuncId} {fn:Func} {c:Code} (rV:P.funcs[g]? =some fn) (hc:fn.body=some c) (wz:(fn.name== "runtime.NumGoroutine")=false)
 {args:List AV} {M:Tr aL} {n:Nat} {K:AV->Tr aL->Nat->Option R} {r:R} (h:FD fn.ntmps (Fl P fn.ntmps lf false c).get (zi P fn.results.toList).get call g args M n K=some r):∃av M' n',K av M' n'=some r/\yC P g args M n av M' n':=by
 unfold FD at h;cases hn:ble args.length fn.ntmps with
 |false=>rw [hn]at h;cases h
 |true=>
  rw [hn]at h;have hn:=le_of_ble_eq_true hn;obtain⟨gY,h1,h2⟩:=QE (sz:=0) (show wy 0 args Tm.nil _=some r from h);obtain⟨ex,tm,M',n',h3,h4⟩:=EV dL hm (cS:=false) c _ _ _ _ _ h1;have hx:∃az,qk P tm M' fn.results.toList=some az/\K (tv az) M' n'=some r/\(ex.nV= .normal\/ex.nV= .ret):=by
   cases ex with
   |exit i=>cases h3
   |normal=>obtain⟨az,q1,q2⟩:=QH h3;exact⟨az,q1,q2,.inl rfl⟩
   |ret=>obtain⟨az,q1,q2⟩:=QH h3;exact⟨az,q1,q2,.inr rfl⟩
  obtain⟨az,g1,g2,g3⟩:=hx;refine⟨_,M',n',g2,fun b0 e w vs hM j0 next hk=> ?_⟩;have dL:Cd P g=true:=by unfold Cd;rw [rV];simp [hc,wz]
  have eU:(⟨vs⟩:Array Value).size=args.length:=by simp [A7 j0]
  have hA:Jv fn.ntmps (([]:List Nat).map mk) e gY { tmps:=(⟨vs⟩:Array Value)++replicate (fn.ntmps-(⟨vs⟩:Array Value).size) undef,defers:=[] } :=by
   refine⟨⟨fun t av ht=> ?_⟩,?_,rfl⟩
   ·rcases h2 t av ht with⟨j,q1,q2⟩|q
    ·obtain⟨v,q3,q4⟩:=Jm j0 q1;have hj:=(List.getElem?_eq_some_iff.1 q3).1;rw [Nat.zero_add]at q2;subst q2;refine⟨by simp;omega,?_⟩;have:((⟨vs⟩:Array Value)++replicate (fn.ntmps-(⟨vs⟩:Array Value).size) undef).getD t undef=v:=by
      rw [getD_eq_getD_getElem?,Array.getElem?_append_left (by simpa using hj)];have:(⟨vs⟩:Array Value)[t]? =some v:=by simpa using q3
      rw [this];rfl
     rw [this];exact q4
    ·rw [Tm.get_nil]at q;cases q
   ·simp only [Array.size_append,Array.size_replicate];rw [eU];omega
  refine L5 dL (callsIn_wide.1 (callsIn_of_wp_marks (n:=0) rV hc trivial ?_));refine wpIn_mono (h4 Fence.wide 0 b0 [] e _ w ⟨.inl rfl,fun _=>rfl⟩ hM hA ⟨List.nodup_nil,nofun⟩) ?_;rintro x a' w' ⟨rfl,e',b',ct,hl,vU,_,f_,tu,zk⟩;have QK:=f_.shut vU zk;obtain⟨us,r1,r2⟩:=QF QK tu.tm g1;have Bri:=L6 (fn:=fn) r2;have tg:=hk e' (Ja us) _ hl QK (Auz r1);have pz:Cc ct w':=⟨zk.1,fun D QL=>(f_.kept.block D (zk.2 D QL).1).trans (zk.2 D QL).2⟩
  have key:LeavesInM Fence.wide 0 P fn a'.tmps (aG next) a'.defers .returning w':=by
   rw [tu.defers];exact Od (R:=aG next) ct w' pz Bri tg
  rcases g3 with g3|g3<;>rw [g3]<;>exact key
theorem Axo {P:Program} {call:Ba R} {g:FuncId} {args:List AV} {M:Tr aL} {n:Nat} {K:AV->Tr aL->Nat->Option R} {r:R} (h:FE P call g args M n K=some r):∃av M' n',K av M' n'=some r/\yC P g args M n av M' n':=by
 unfold FE at h;split at h
 case h_2=>cases h
 rename_i vs j0;split at h
 case h_2=>cases h
 rename_i v hv;rw [KW]at h;refine⟨.lit v,M,n,h,fun b0 e w us hM i6 next hk=> ?_⟩;have:=Qs j0 i6;subst this;rw [K_ hv w];exact hk e v w (A0.refl e) hM (by simp only [AV.rep])
theorem Au4 {P:Program} (hm:P.follows .mixedOrders=true) {ext:Ba R->Ba R} (he:R9 P ext) {lf:Nat} {call:Ba R} (dL:E5 P call):E5 P (FG P ext lf call):=by
 unfold FG;refine he _ ?_;intro g args M n K r h;have h:eS (ble YB g) (fN (Nat.sub g YB) fun b=>EW P lf call b args M n K) (i4 (zj P lf g) fun f=>f call g args M n K)=some r:=h;cases hY:ble YB g with
 |true=>
  rw [hY]at h;have hY:YB<=g:=le_of_ble_eq_true hY;have h:=(Jo (b:=true) h).2;rw [Ez]at h;obtain⟨av,M',n',h1,h2⟩:=Asg dL hm h;refine⟨av,M',n',h1,fun aP=>absurd aP (Nat.not_lt.2 hY),fun b hb=> ?_⟩;have:Nat.sub g YB=b:=by rw [hb];exact Nat.add_sub_cancel_left YB b
  rw [this]at h2;exact h2
 |false=>
  rw [hY]at h;have hY:¬YB<=g:=fun hh=>by rw [Nat.ble_eq_true_of_le hh]at hY;cases hY
  have h:(zj P lf g).get call g args M n K=some r:=h
  suffices∃av M' n',K av M' n'=some r/\yC P g args M n av M' n' by
   obtain⟨av,M',n',h1,h2⟩:=this;exact⟨av,M',n',h1,fun _=>h2,fun b hb=>absurd (hb▸Nat.le_add_right YB b) hY⟩
  unfold zj at h;split at h
  case h_2=>cases h
  rename_i fn rV;cases wz:(fn.name== "runtime.NumGoroutine")with
  |true=>rw [wz]at h;cases h
  |false=>
   rw [wz]at h;simp only [cond_false]at h;split at h
   ·rename_i c hc;exact Au3 hm dL rV hc wz h
   ·exact Axo (call:=call) h
theorem QM {P:Program} (hm:P.follows .mixedOrders=true) {ext:Ba R->Ba R} (he:R9 P ext) {lf:Nat} :∀k,E5 P (FH P ext lf k).get
 |0=>fun g args M n K r h=>by cases h
 |k+1=>Au4 hm he (QM hm he k)
theorem FI {P:Program} (hm:P.follows .mixedOrders=true) {ext:Ba R->Ba R} (he:R9 P ext) {lf:Nat} (k:Nat):E5 P (rF P ext lf k):=QM hm he k
theorem Ape {P:Program} (hm:P.follows .mixedOrders=true) {ext:Ba AV->Ba AV} (he:R9 P ext) {lf k:Nat} {g:FuncId} {v:Value} (lX:ble (Nat.succ g) YB=true) (h:rF P ext lf k g [] Tr.nil 0 (fun av _ _=>some av)=some (.lit v)) (w:World): D6 P (fun u w'=>u=v/\RowKit.Below w.heap.size w w') ((callFunc g #[]).run P w):=by
 obtain⟨av,M',n',h1,h2⟩:=FI hm he k _ _ _ _ _ _ h;cases h1
 have wA:g<YB:=le_of_ble_eq_true lX;refine h2.1 wA (base w) (fun _=>none) w [] (Bc.start w) (by simp [AV.bI]) _ fun e' u w' _ f_ hu=> ?_
 simp only [AV.rep]at hu;exact⟨hu,f_.below⟩
open Go.RowKit (Below)
variable {R:Type}
def FJ (P:Program) (g:FuncId) (v:Value):Prop:=∀w,D6 P (fun u w'=>u=v/\Below w.heap.size w w') ((callFunc g #[]).run P w)
theorem Ash {P:Program} (hm:P.follows .mixedOrders=true) {ext:Ba AV->Ba AV} (he:R9 P ext) {lf k:Nat} {g:FuncId} {v:Value} (lX:ble (Nat.succ g) YB=true) (h:rF P ext lf k g [] Tr.nil 0 (fun av _ _=>some av)=some (.lit v)):FJ P g v:=fun w=>Ape hm he lX h w
theorem Ajw {P:Program} {g:FuncId} {v:Value} (eM:Cd P g=true) (h:FJ P g v) (w:World):Calls P g #[] w (aG fun u w'=>u=v/\Below w.heap.size w w'):=by
 have:=h w;rw [Lf eM]at this;refine Calls.mono (this:Calls P g _ w _) fun en w' h=> ?_
 cases en with
 |returned v=>exact h
 |panicked c=>exact(h:False).elim
 |outgrown=>exact(h:False).elim
theorem Am8 {P:Program} (hm:P.follows .mixedOrders=true) {ext:Ba AV->Ba AV} (he:R9 P ext) {lf k:Nat} {g:FuncId} {l:List AV} {vs:List Value} (hl:AV.vals? l=some vs) (lX:ble (Nat.succ g) YB=true) (eM:Cd P g=true) (h:rF P ext lf k g [] Tr.nil 0 (fun av _ _=>some av)=some (.agg l)) (w:World): Calls P g #[] w (aG fun u w'=>u= .agg ⟨vs⟩/\Below w.heap.size w w'):=by
 obtain⟨av,M',n',h1,h2⟩:=FI hm he k _ _ _ _ _ _ h;cases h1
 have wA:g<YB:=le_of_ble_eq_true lX;have:=h2.1 wA (base w) (fun _=>none) w [] (Bc.start w) (by simp [AV.bI]) (fun u w'=>u= .agg ⟨vs⟩/\Below w.heap.size w w') fun e' u w' _ f_ hu=>by
  simp only [AV.rep]at hu;obtain⟨us,rfl,hu⟩:=hu;rw [Qs hl hu];exact⟨rfl,f_.below⟩
 rw [Lf eM]at this;refine Calls.mono (this:Calls P g _ w _) fun en w' h=> ?_
 cases en with
 |returned v=>exact h
 |panicked c=>exact(h:False).elim
 |outgrown=>exact(h:False).elim
end Go.Am
namespace Go.Proofs.YthkbhlmijkegiaaGreat
open Go.Vc Go.Lv Go.Ty
theorem mixed:Tryz.prog.follows .mixedOrders=true:=by kernel_rfl
def zl:List Ao:=[⟨[],0,0,0⟩,⟨[109,97,114,107],1,0,0⟩,⟨[112,117,115,104],1,0,1⟩,⟨[108,111,97,100],1,0,1⟩,⟨[115,116,111,114,101],1,1,0⟩,⟨[97,112,112,108,121],1,0,1⟩,⟨[106,117,109,112],1,0,0⟩,⟨[122,101,114,111],1,1,0⟩,⟨[111,110,101],1,1,0⟩,⟨[99,104,97,110],2,0,1⟩,⟨[115,101,110,100],0,2,0⟩,⟨[114,101,99,118],1,1,0⟩,⟨[100,114,97,119],1,1,0⟩,⟨[115,108,101,101,112],0,1,0⟩,⟨[115,116,97,114,116],2,0,0⟩,⟨[112,114,105,110,116],0,1,0⟩,⟨[97,115,115,101,114,116],0,1,0⟩,⟨[115,107,105,112],0,0,0⟩,⟨[115,116,111,112],0,0,0⟩,⟨[111,110,114,101,99,118],2,1,0⟩,⟨[111,110,115,101,110,100],1,2,0⟩,⟨[97,102,116,101,114],1,1,0⟩,⟨[101,108,115,101],1,0,0⟩,⟨[115,101,108,101,99,116],0,0,0⟩,⟨[101,110,100],0,0,0⟩,⟨[99,104,111,111,115,101],0,0,0⟩]
theorem Au5:Go.Am.rF Tryz.prog (fun c:Go.Am.Ba Go.Am.AV=>c) 12 60 227 [] Go.Am.Tr.nil 0 (fun av _ _=>some av)=some (.agg [.lit (.string (bS [])),.lit (.int .i64 0),.lit (.int .i64 0),.lit (.int .i64 0),.lit (.string (bS [109,97,114,107])),.lit (.int .i64 1),.lit (.int .i64 0),.lit (.int .i64 0),.lit (.string (bS [112,117,115,104])),.lit (.int .i64 1),.lit (.int .i64 0),.lit (.int .i64 1),.lit (.string (bS [108,111,97,100])),.lit (.int .i64 1),.lit (.int .i64 0),.lit (.int .i64 1),.lit (.string (bS [115,116,111,114,101])),.lit (.int .i64 1),.lit (.int .i64 1),.lit (.int .i64 0),.lit (.string (bS [97,112,112,108,121])),.lit (.int .i64 1),.lit (.int .i64 0),.lit (.int .i64 1),.lit (.string (bS [106,117,109,112])),.lit (.int .i64 1),.lit (.int .i64 0),.lit (.int .i64 0),.lit (.string (bS [122,101,114,111])),.lit (.int .i64 1),.lit (.int .i64 1),.lit (.int .i64 0),.lit (.string (bS [111,110,101])),.lit (.int .i64 1),.lit (.int .i64 1),.lit (.int .i64 0),.lit (.string (bS [99,104,97,110])),.lit (.int .i64 2),.lit (.int .i64 0),.lit (.int .i64 1),.lit (.string (bS [115,101,110,100])),.lit (.int .i64 0),.lit (.int .i64 2),.lit (.int .i64 0),.lit (.string (bS [114,101,99,118])),.lit (.int .i64 1),.lit (.int .i64 1),.lit (.int .i64 0),.lit (.string (bS [100,114,97,119])),.lit (.int .i64 1),.lit (.int .i64 1),.lit (.int .i64 0),.lit (.string (bS [115,108,101,101,112])),.lit (.int .i64 0),.lit (.int .i64 1),.lit (.int .i64 0),.lit (.string (bS [115,116,97,114,116])),.lit (.int .i64 2),.lit (.int .i64 0),.lit (.int .i64 0),.lit (.string (bS [112,114,105,110,116])),.lit (.int .i64 0),.lit (.int .i64 1),.lit (.int .i64 0),.lit (.string (bS [97,115,115,101,114,116])),.lit (.int .i64 0),.lit (.int .i64 1),.lit (.int .i64 0),.lit (.string (bS [115,107,105,112])),.lit (.int .i64 0),.lit (.int .i64 0),.lit (.int .i64 0),.lit (.string (bS [115,116,111,112])),.lit (.int .i64 0),.lit (.int .i64 0),.lit (.int .i64 0),.lit (.string (bS [111,110,114,101,99,118])),.lit (.int .i64 2),.lit (.int .i64 1),.lit (.int .i64 0),.lit (.string (bS [111,110,115,101,110,100])),.lit (.int .i64 1),.lit (.int .i64 2),.lit (.int .i64 0),.lit (.string (bS [97,102,116,101,114])),.lit (.int .i64 1),.lit (.int .i64 1),.lit (.int .i64 0),.lit (.string (bS [101,108,115,101])),.lit (.int .i64 1),.lit (.int .i64 0),.lit (.int .i64 0),.lit (.string (bS [115,101,108,101,99,116])),.lit (.int .i64 0),.lit (.int .i64 0),.lit (.int .i64 0),.lit (.string (bS [101,110,100])),.lit (.int .i64 0),.lit (.int .i64 0),.lit (.int .i64 0),.lit (.string (bS [99,104,111,111,115,101])),.lit (.int .i64 0),.lit (.int .i64 0),.lit (.int .i64 0)]):=by kernel_rfl
theorem Axp:ble (Nat.succ (227:FuncId)) Go.Am.YB=true:=by kernel_rfl
theorem Axq:Cd Tryz.prog 227=true:=by kernel_rfl
set_option maxRecDepth 100000 in
theorem Au6:Nn:=fun w=>Ac (@Go.Am.Am8 Tryz.prog mixed (fun c=>c) (Go.Am.Lg Tryz.prog) 12 60 227 [.lit (.string (bS [])),.lit (.int .i64 0),.lit (.int .i64 0),.lit (.int .i64 0),.lit (.string (bS [109,97,114,107])),.lit (.int .i64 1),.lit (.int .i64 0),.lit (.int .i64 0),.lit (.string (bS [112,117,115,104])),.lit (.int .i64 1),.lit (.int .i64 0),.lit (.int .i64 1),.lit (.string (bS [108,111,97,100])),.lit (.int .i64 1),.lit (.int .i64 0),.lit (.int .i64 1),.lit (.string (bS [115,116,111,114,101])),.lit (.int .i64 1),.lit (.int .i64 1),.lit (.int .i64 0),.lit (.string (bS [97,112,112,108,121])),.lit (.int .i64 1),.lit (.int .i64 0),.lit (.int .i64 1),.lit (.string (bS [106,117,109,112])),.lit (.int .i64 1),.lit (.int .i64 0),.lit (.int .i64 0),.lit (.string (bS [122,101,114,111])),.lit (.int .i64 1),.lit (.int .i64 1),.lit (.int .i64 0),.lit (.string (bS [111,110,101])),.lit (.int .i64 1),.lit (.int .i64 1),.lit (.int .i64 0),.lit (.string (bS [99,104,97,110])),.lit (.int .i64 2),.lit (.int .i64 0),.lit (.int .i64 1),.lit (.string (bS [115,101,110,100])),.lit (.int .i64 0),.lit (.int .i64 2),.lit (.int .i64 0),.lit (.string (bS [114,101,99,118])),.lit (.int .i64 1),.lit (.int .i64 1),.lit (.int .i64 0),.lit (.string (bS [100,114,97,119])),.lit (.int .i64 1),.lit (.int .i64 1),.lit (.int .i64 0),.lit (.string (bS [115,108,101,101,112])),.lit (.int .i64 0),.lit (.int .i64 1),.lit (.int .i64 0),.lit (.string (bS [115,116,97,114,116])),.lit (.int .i64 2),.lit (.int .i64 0),.lit (.int .i64 0),.lit (.string (bS [112,114,105,110,116])),.lit (.int .i64 0),.lit (.int .i64 1),.lit (.int .i64 0),.lit (.string (bS [97,115,115,101,114,116])),.lit (.int .i64 0),.lit (.int .i64 1),.lit (.int .i64 0),.lit (.string (bS [115,107,105,112])),.lit (.int .i64 0),.lit (.int .i64 0),.lit (.int .i64 0),.lit (.string (bS [115,116,111,112])),.lit (.int .i64 0),.lit (.int .i64 0),.lit (.int .i64 0),.lit (.string (bS [111,110,114,101,99,118])),.lit (.int .i64 2),.lit (.int .i64 1),.lit (.int .i64 0),.lit (.string (bS [111,110,115,101,110,100])),.lit (.int .i64 1),.lit (.int .i64 2),.lit (.int .i64 0),.lit (.string (bS [97,102,116,101,114])),.lit (.int .i64 1),.lit (.int .i64 1),.lit (.int .i64 0),.lit (.string (bS [101,108,115,101])),.lit (.int .i64 1),.lit (.int .i64 0),.lit (.int .i64 0),.lit (.string (bS [115,101,108,101,99,116])),.lit (.int .i64 0),.lit (.int .i64 0),.lit (.int .i64 0),.lit (.string (bS [101,110,100])),.lit (.int .i64 0),.lit (.int .i64 0),.lit (.int .i64 0),.lit (.string (bS [99,104,111,111,115,101])),.lit (.int .i64 0),.lit (.int .i64 0),.lit (.int .i64 0)] [.string (bS []),.int .i64 0,.int .i64 0,.int .i64 0,.string (bS [109,97,114,107]),.int .i64 1,.int .i64 0,.int .i64 0,.string (bS [112,117,115,104]),.int .i64 1,.int .i64 0,.int .i64 1,.string (bS [108,111,97,100]),.int .i64 1,.int .i64 0,.int .i64 1,.string (bS [115,116,111,114,101]),.int .i64 1,.int .i64 1,.int .i64 0,.string (bS [97,112,112,108,121]),.int .i64 1,.int .i64 0,.int .i64 1,.string (bS [106,117,109,112]),.int .i64 1,.int .i64 0,.int .i64 0,.string (bS [122,101,114,111]),.int .i64 1,.int .i64 1,.int .i64 0,.string (bS [111,110,101]),.int .i64 1,.int .i64 1,.int .i64 0,.string (bS [99,104,97,110]),.int .i64 2,.int .i64 0,.int .i64 1,.string (bS [115,101,110,100]),.int .i64 0,.int .i64 2,.int .i64 0,.string (bS [114,101,99,118]),.int .i64 1,.int .i64 1,.int .i64 0,.string (bS [100,114,97,119]),.int .i64 1,.int .i64 1,.int .i64 0,.string (bS [115,108,101,101,112]),.int .i64 0,.int .i64 1,.int .i64 0,.string (bS [115,116,97,114,116]),.int .i64 2,.int .i64 0,.int .i64 0,.string (bS [112,114,105,110,116]),.int .i64 0,.int .i64 1,.int .i64 0,.string (bS [97,115,115,101,114,116]),.int .i64 0,.int .i64 1,.int .i64 0,.string (bS [115,107,105,112]),.int .i64 0,.int .i64 0,.int .i64 0,.string (bS [115,116,111,112]),.int .i64 0,.int .i64 0,.int .i64 0,.string (bS [111,110,114,101,99,118]),.int .i64 2,.int .i64 1,.int .i64 0,.string (bS [111,110,115,101,110,100]),.int .i64 1,.int .i64 2,.int .i64 0,.string (bS [97,102,116,101,114]),.int .i64 1,.int .i64 1,.int .i64 0,.string (bS [101,108,115,101]),.int .i64 1,.int .i64 0,.int .i64 0,.string (bS [115,101,108,101,99,116]),.int .i64 0,.int .i64 0,.int .i64 0,.string (bS [101,110,100]),.int .i64 0,.int .i64 0,.int .i64 0,.string (bS [99,104,111,111,115,101]),.int .i64 0,.int .i64 0,.int .i64 0] rfl Axp Axq Au5 w) fun v w' h=>⟨h.1,Ai.oD h.2⟩
def rowOf (op:Int):Ao:=if 1<=op/\op<=25 then zl.getD op.toNat ⟨[],0,0,0⟩else⟨[],0,0,0⟩
def W7 (op:Int):Bool:=decide (1<=op/\op<=25)
def nz (op:Int):Int:=(rowOf op).Nk
theorem zm {p:Int->Ao->Bool} (h:∀k:Fin 26,1<=k.val->p (k.val:Int) (zl.getD k.val ⟨[],0,0,0⟩)=true) {op:Int} (ho:1<=op/\op<=25):p op (rowOf op)=true:=by
 have:=h ⟨op.toNat,by omega⟩ (by show 1<=op.toNat;omega);simp only at this;rw [Int.toNat_of_nonneg (by omega)]at this;unfold rowOf;rw [if_pos ho];exact this
theorem FK (op:Int) (K:Ao->Bool->Prop) (h:K (rowOf op) (W7 op)):K3 op K:=by
 refine Aeu _ _ (Ab (fun hc=> ?_) fun hc=>⟨Au6,⟨?_,?_⟩,fun x hx=> ?_⟩)
 ·have hn:¬(1<=op/\op<=25):=by simp at hc;omega
  unfold rowOf W7 at h;rw [if_neg hn,decide_eq_false hn]at h;exact h
 ·simp at hc;omega
 ·simp at hc;omega
 ·have hp:1<=op/\op<=25:=by simp at hc;omega
  change zl[op.toNat]? =some x at hx;unfold rowOf W7 at h;rw [if_pos hp,decide_eq_true hp]at h;have:zl.getD op.toNat ⟨[],0,0,0⟩=x:=by simp [List.getD,hx]
  rw [this]at h;exact h
theorem Au7 (op:Int):nz op=0\/nz op=1\/nz op=2:=by
 by_cases ho:1<=op/\op<=25
 ·have:=zm (p:=fun _ r=>r.Nk==0||r.Nk==1||r.Nk==2) (by decide) ho;simp at this;unfold nz;omega
 ·left;unfold nz rowOf;rw [if_neg ho]
def two (op:Int):Bool:=op==9||op==14||op==19
def one (op:Int):Bool:=op==1||(op==2||(op==3||(op==4||(op==5||(op==6||(op==7||(op==8||(op==11||(op==12||(op==20||(op==21||op==22)))))))))))
theorem Bbk (op:Int):nz op=if two op then 2 else if one op then 1 else 0:=by
 by_cases ho:1<=op/\op<=25
 ·have:=zm (p:=fun op r=>r.Nk==if two op then 2 else if one op then 1 else 0) (by decide) ho;exact eq_of_beq this
 ·have h1:two op=false:=by simp [two];omega
  have h2:one op=false:=by simp [one];omega
  unfold nz rowOf;rw [if_neg ho,h1,h2];rfl
theorem Axr (op:Int) (K:Int->Prop) (h:K (nz op)):S6 op K:=by
 rw [Bbk]at h;refine Ad7 _ _ ⟨fun b=>b=two op,?_,?_⟩
 ·unfold two;cases op==9<;>cases op==14<;>rfl
 ·rintro _ rfl;refine Ab (fun hc=>by rw [hc]at h;exact h) fun hc=>⟨fun b=>b=one op,?_,?_⟩
  ·unfold one;cases op==1
   ·cases op==2
    ·cases op==3
     ·cases op==4
      ·cases op==5
       ·cases op==6
        ·cases op==7
         ·cases op==8
          ·cases op==11
           ·cases op==12
            ·cases op==20
             ·cases op==21<;>rfl
             ·rfl
            ·rfl
           ·rfl
          ·rfl
         ·rfl
        ·rfl
       ·rfl
      ·rfl
     ·rfl
    ·rfl
   ·rfl
  ·rintro _ rfl;rw [hc]at h;exact Ab (fun hd=>by rw [hd]at h;exact h) fun hd=>by rw [hd]at h;exact h
def pe (x:Ay):Bool:= !W7 x.op||((decide (nz x.op<1)&&x.a !=0)||(decide (nz x.op<2)&&x.b !=0))
def X6 (x:Ay):Bool:=(x.op !=14||decide (x.b>=0))&&(x.op !=5||decide (3<=x.a/\x.a<=17))
def B9 (x:Ay):Bool:= !pe x&&X6 x
theorem Az1 (op:Int) (K:Int->Prop) (h:∀n,(decide (n>0))=decide (3<=op/\op<=17)->K n):E2 op K:=by
 refine Pe _ _ (Ab (fun hc=>h 1 ?_) fun hc=>Ab (fun hd=>h 2 ?_) fun hd=>h 0 ?_)
 ·rw [Bool.eq_iff_iff];simp at hc⊢;omega
 ·rw [Bool.eq_iff_iff];simp at hd⊢;omega
 ·rw [Bool.eq_iff_iff];simp at hc hd⊢;omega
theorem FL (x:Ay) (K:Bool->Prop) (h:K (B9 x)):Jk x K:=by
 refine Abv _ _ (FK _ _ ⟨fun b=>b=pe x,?_,?_⟩)
 ·unfold pe nz;cases W7 x.op<;>cases decide ((rowOf x.op).Nk<1)<;>cases x.a !=0<;>cases decide ((rowOf x.op).Nk<2)<;>rfl
 ·rintro _ rfl;refine Ab (fun hc=>by unfold B9 at h;rw [hc]at h;exact h) fun hc=> ?_
  have h:K (X6 x):=by unfold B9 at h;rw [hc]at h;simpa using h
  unfold X6 at h;have hw:∀K':Bool->Prop,K' (decide (3<=x.a/\x.a<=17))->E2 x.a (fun x1=>K' (decide (x1>0))):=fun K' hk=>Az1 _ _ fun n hn=>by rw [hn];exact hk
  refine Ab (fun kV=>Ab (fun h5=> ?_) fun h5=>hw _ ?_) fun kV=>Ab (fun hb=>Ab (fun h5=> ?_) fun h5=>hw _ ?_) fun hb=> ?_
  ·rw [kV,h5]at h;exact h
  ·rw [kV,h5]at h;simpa using h
  ·rw [kV,hb,h5]at h;exact h
  ·rw [kV,hb,h5]at h;simpa using h
  ·rw [kV,hb]at h;exact h
theorem FM (x:Ay) (K:Bool->Prop) (h:K (B9 x)):Jj x K:=by
 have hnz:=Au7 x.op;refine Abh _ _ (Axr _ _ ⟨fun b=>b=pe x,?_,?_⟩)
 ·refine Ab (fun hc=> ?_) fun hc=>Ab (fun hd=> ?_) fun hd=> ?_
  ·have:W7 x.op=false:=by simp at hc;simp [W7];omega
   unfold pe;rw [this];rfl
  ·have:W7 x.op=false:=by simp at hd;simp [W7];omega
   unfold pe;rw [this];rfl
  ·have:W7 x.op=true:=by simp at hc hd;simp [W7];omega
   have e:(nz x.op==0)=decide (nz x.op<1):=by rw [Bool.eq_iff_iff];simp;omega
   unfold pe;rw [this,e];cases decide (nz x.op<1)<;>cases x.a !=0<;>cases decide (nz x.op<2)<;>rfl
 ·rintro _ rfl;refine Ab (fun hc=>by unfold B9 at h;rw [hc]at h;exact h) fun hc=> ?_
  have h:K (X6 x):=by unfold B9 at h;rw [hc]at h;simpa using h
  refine⟨fun b=>b= !X6 x,?_,?_⟩
  ·have e1:decide (x.b>=0)= !decide (x.b<0):=by rw [Bool.eq_iff_iff];simp
   have e2:decide (3<=x.a/\x.a<=17)= !(decide (x.a<3)||decide (x.a>17)):=by rw [Bool.eq_iff_iff];simp
   unfold X6;rw [e1,e2,show(x.op !=14)= !(x.op==14) from rfl,show(x.op !=5)= !(x.op==5) from rfl];cases x.op==14<;>cases decide (x.b<0)<;>cases x.op==5<;>cases decide (x.a<3)<;>cases decide (x.a>17)<;>rfl
  ·rintro _ rfl;refine Ab (fun hd=> ?_) fun hd=> ?_
   ·rw [show X6 x=false by simpa using hd]at h;exact h
   ·rw [show X6 x=true by simpa using hd]at h;exact h
end Go.Proofs.YthkbhlmijkegiaaGreat
