/- The conditions of Go code: a library of this claim. -/
import Derived.Test.YthkbhlmijkegiaaGreatVcD
import Derived.Scope
namespace Go.Vc
def Code.writes:Code->List Nat
 | .region _ ops _=>ops.toList.filterMap (·.dst)| .seq a b=>Code.writes a++Code.writes b| .cond _ a b=>Code.writes a++Code.writes b| .block _ c=>Code.writes c| .loop c=>Code.writes c| .scope c=>Code.writes c|_=>[]
structure Fr (wr:List Nat) (a a':Act):Prop where
 size:a'.tmps.size=a.tmps.size
 defers:a'.defers=a.defers
 same:∀i,i∉wr->a'.tmps[i]? =a.tmps[i]?
theorem Fr.refl (wr:List Nat) (a:Act):Fr wr a a:=⟨rfl,rfl,fun _ _=>rfl⟩
theorem Fr.put {wr:List Nat} {a a':Act} (h:Fr wr a a') {dst:Option Nat} (hd:∀d,dst=some d->d∈wr) (v:Value):Fr wr a (a'.put dst v):=by
 cases dst with
 |none=>exact h
 |some d=>
  refine⟨by simp [Act.put,h.size],h.defers,fun i hi=> ?_⟩;have:d≠i:=fun e=>hi (e▸hd d rfl)
  simp [Act.put,Array.getElem?_setIfInBounds_ne this,h.same i hi]
theorem WL {P:Program} {ops:Array Oper} {Q Q':Act->World->Prop} {wr:List Nat} {a0:Act} (hq:∀a w,Q a w->Fr wr a0 a->Q' a w):∀(l:List Oper) (i:Nat) (a:Act) (w:World),(∀o∈l,∀d,o.dst=some d->d∈wr)->Fr wr a0 a->Kv P ops Q l i a w->Kv P ops Q' l i a w:=by
 intro l
 induction l with
 |nil=>intro i a w _ hf h;exact hq _ _ h hf
 |cons o rest ih=>
  intro i a w hd hf h;simp only [Kv]at h⊢;have dU:=hd o (by simp);have hr:∀o∈rest,∀d,o.dst=some d->d∈wr:=fun o ho=>hd o (by simp [ho])
  cases hw:Region.wanted o (yielded ops a.tmps)with
  |false=>rw [hw]at h;exact ih _ _ _ hr (hf.put dU _) h
  |true=>
   rw [hw]at h;refine Cq h fun v w' h=> ?_
   rw [Av]at h⊢;exact ih _ _ _ hr (hf.put dU _) h
theorem Jg {P:Program} {ops:Array Oper} {Q Q':Act->World->Prop} {wr:List Nat} {a0:Act} (hq:∀a w,Q a w->Fr wr a0 a->Q' a w):∀(l:List Oper) (i:Nat) (a:Act) (w:World),(∀o∈l,∀d,o.dst=some d->d∈wr)->Fr wr a0 a->Eu P ops Q l i a w->Eu P ops Q' l i a w:=by
 intro l
 induction l with
 |nil=>intro i a w _ hf h;exact hq _ _ h hf
 |cons o rest ih=>
  intro i a w hd hf h;simp only [Eu]at h⊢;have dU:=hd o (by simp);have hr:∀o∈rest,∀d,o.dst=some d->d∈wr:=fun o ho=>hd o (by simp [ho])
  cases hw:Region.wanted o (yielded ops a.tmps)with
  |false=>rw [hw]at h;exact ih _ _ _ hr (hf.put dU _) h
  |true=>
   rw [hw]at h;simp only [cond_true]at h⊢;split at h
   ·refine gZ.pn h fun v h=> ?_
    rw [Av]at h⊢;exact ih _ _ _ hr (hf.put dU _) h
   ·split at h
    ·refine Kw h fun v w' h=> ?_
     rw [Av]at h⊢;exact ih _ _ _ hr (hf.put dU _) h
    ·exact h
theorem WM {P:Program} {ops:Array Oper} {Q Q':Act->World->Prop} {wr:List Nat} {a0:Act} (hq:∀a w,Q a w->Fr wr a0 a->Q' a w):∀(l:List Oper) (i:Nat) (a:Act) (w:World),(∀o∈l,∀d,o.dst=some d->d∈wr)->Fr wr a0 a->Hs P ops Q l i a w->Hs P ops Q' l i a w:=by
 intro l
 induction l with
 |nil=>intro i a w _ hf h;exact hq _ _ h hf
 |cons o rest ih=>
  intro i a w hd hf h;simp only [Hs]at h⊢;have dU:=hd o (by simp);have hr:∀o∈rest,∀d,o.dst=some d->d∈wr:=fun o ho=>hd o (by simp [ho])
  cases hw:Region.wanted o (yielded ops a.tmps)with
  |false=>rw [hw]at h;exact ih _ _ _ hr (hf.put dU _) h
  |true=>
   rw [hw]at h;simp only [cond_true]at h⊢;split at h
   ·refine gZ.pn h fun v h=> ?_
    rw [Av]at h⊢;exact ih _ _ _ hr (hf.put dU _) h
   ·cases hl:(Cx o||N9 P o)with
    |true=>
     rw [hl]at h;refine Kw h fun v w' h=> ?_
     rw [Av]at h⊢;exact ih _ _ _ hr (hf.put dU _) h
    |false=>rw [hl]at h;exact h.elim
theorem Oa:∀ {l:List Nat} {F G:Nat->Prop},(∀i∈l,F i->G i)->Z9 l F->Z9 l G
 |[],_,_,_,_=>trivial
 |[j],_,_,hk,h=>hk j (by simp) h
 |j::k::l,_,_,hk,h=>⟨hk j (by simp) h.1,Oa (fun i hi=>hk i (by simp [hi])) h.2⟩
theorem WN {P:Program} {ops:Array Oper} {Q Q':Act->World->Prop} {wr:List Nat} {a0:Act} (hq:∀a w,Q a w->Fr wr a0 a->Q' a w) (hd:∀(i:Nat) (o:Oper),ops[i]? =some o->∀d,o.dst=some d->d∈wr): ∀(n:Nat) (listed:Array Bool) (a:Act) (w:World),Fr wr a0 a->Nc P ops Q n listed a w->Nc P ops Q' n listed a w:=by
 intro n
 induction n with
 |zero=>
  intro listed a w hf h;simp only [Nc]at h⊢;cases hr:(Region.ready .any ops listed).isEmpty with
  |true=>rw [hr]at h;exact hq _ _ h hf
  |false=>rw [hr]at h;exact h
 |succ n ih=>
  intro listed a w hf h;simp only [Nc]at h⊢;split at h
  ·split at h
   ·rename_i i _ o ho;cases hw:Region.wanted o (yielded ops a.tmps)with
    |false=>rw [hw]at h;exact ih _ _ _ (hf.put (hd _ _ ho) _) h
    |true=>
     rw [hw]at h;simp only [cond_true]at h⊢;split at h
     ·refine gZ.pn h fun v h=> ?_
      rw [Av]at h⊢;exact ih _ _ _ (hf.put (hd _ _ ho) _) h
     ·exact h
   ·exact h
  ·split at h
   ·exact hq _ _ h hf
   ·refine Oa (fun i _ h=> ?_) h;split at h
    ·rename_i o ho;cases hw:Region.wanted o (yielded ops a.tmps)with
     |false=>rw [hw]at h;exact ih _ _ _ (hf.put (hd _ _ ho) _) h
     |true=>
      rw [hw]at h;refine Cq h fun v w' h=> ?_
      rw [Av]at h⊢;exact ih _ _ _ (hf.put (hd _ _ ho) _) h
    ·exact h
theorem WO {P:Program} {ops:Array Oper} {Q Q':Act->World->Prop} {S:World->Prop} {late:Nat->Bool} {wr:List Nat} {a0:Act} (hq:∀a w,Q a w->Fr wr a0 a->Q' a w) (hd:∀(i:Nat) (o:Oper),ops[i]? =some o->∀d,o.dst=some d->d∈wr): ∀(n:Nat) (listed:Array Bool) (early:Bool) (a:Act) (w:World),Fr wr a0 a->Ei P ops Q S late n listed early a w->Ei P ops Q' S late n listed early a w:=by
 intro n
 induction n with
 |zero=>
  intro listed early a w hf h;simp only [Ei]at h⊢;cases hr:(Region.ready .any ops listed).isEmpty with
  |true=>rw [hr]at h;exact hq _ _ h hf
  |false=>rw [hr]at h;exact h
 |succ n ih=>
  intro listed early a w hf h;simp only [Ei]at h⊢;split at h
  ·split at h
   ·rename_i i _ o ho;cases hw:Region.wanted o (yielded ops a.tmps)with
    |false=>rw [hw]at h;exact ih _ _ _ _ (hf.put (hd _ _ ho) _) h
    |true=>
     rw [hw]at h;simp only [cond_true]at h⊢;split at h
     ·refine gZ.pn h fun v h=> ?_
      rw [Av]at h⊢;exact ih _ _ _ _ (hf.put (hd _ _ ho) _) h
     ·exact h
   ·exact h
  ·split at h
   ·split at h
    ·rename_i i _ o ho;cases hw:Region.wanted o (yielded ops a.tmps)with
     |false=>rw [hw]at h;exact ih _ _ _ _ (hf.put (hd _ _ ho) _) h
     |true=>
      rw [hw]at h;refine Xi h fun v h=> ?_
      rw [Av]at h⊢;exact ih _ _ _ _ (hf.put (hd _ _ ho) _) h
    ·exact h
   ·split at h
    ·exact hq _ _ h hf
    ·refine Oa (fun i _ h=> ?_) h;split at h
     ·rename_i o ho;cases hw:Region.wanted o (yielded ops a.tmps)with
      |false=>rw [hw]at h;exact ih _ _ _ _ (hf.put (hd _ _ ho) _) h
      |true=>
       rw [hw]at h;simp only [cond_true]at h⊢;refine Cq h fun v w' h=> ?_
       cases aP:late i with
       |true=>
        rw [aP]at h;simp only [cond_true]at h⊢;rw [Av]at h⊢;exact ih _ _ _ _ (hf.put (hd _ _ ho) _) h
       |false=>
       rw [aP]at h;refine⟨h.1,?_⟩;have h:=h;have h:=h.2;rw [Av]at h⊢;exact ih _ _ _ _ (hf.put (hd _ _ ho) _) h
     ·exact h
theorem WQ {P:Program} {ops:Array Oper} {Q Q':Act->World->Prop} {S:World->Prop} {late:Nat->Bool} {kp:Bool} {wr:List Nat} {a0:Act} (hq:∀a w,Q a w->Fr wr a0 a->Q' a w) (hd:∀(i:Nat) (o:Oper),ops[i]? =some o->∀d,o.dst=some d->d∈wr): ∀(n:Nat) (listed:Array Bool) (early:Bool) (a:Act) (w:World),Fr wr a0 a->Fp P ops Q S late kp n listed early a w->Fp P ops Q' S late kp n listed early a w:=by
 intro n
 induction n with
 |zero=>
  intro listed early a w hf h;simp only [Fp]at h⊢;cases hr:(Region.ready .any ops listed).isEmpty with
  |true=>rw [hr]at h;exact hq _ _ h hf
  |false=>rw [hr]at h;exact h
 |succ n ih=>
  intro listed early a w hf h;simp only [Fp]at h⊢;split at h
  ·split at h
   ·rename_i i _ o ho;cases hw:Region.wanted o (yielded ops a.tmps)with
    |false=>rw [hw]at h;exact ih _ _ _ _ (hf.put (hd _ _ ho) _) h
    |true=>
     rw [hw]at h;simp only [cond_true]at h⊢;split at h
     ·refine gZ.pn h fun v h=> ?_
      rw [Av]at h⊢;exact ih _ _ _ _ (hf.put (hd _ _ ho) _) h
     ·exact h
   ·exact h
  ·split at h
   ·split at h
    ·rename_i i _ o ho;cases hw:Region.wanted o (yielded ops a.tmps)with
     |false=>rw [hw]at h;exact ih _ _ _ _ (hf.put (hd _ _ ho) _) h
     |true=>
      rw [hw]at h;refine Xi h fun v h=> ?_
      rw [Av]at h⊢;exact ih _ _ _ _ (hf.put (hd _ _ ho) _) h
    ·exact h
   ·cases qw:(!early&&zF P ops listed)with
    |true=>
     rw [qw]at h;simp only [cond_true]at h⊢;exact WO hq hd (n+1) listed true a w hf h
    |false=>
    rw [qw]at h;simp only [cond_false]at h⊢;split at h
    ·exact hq _ _ h hf
    ·refine Oa (fun i _ h=> ?_) h;split at h
     ·rename_i o ho;cases hw:Region.wanted o (yielded ops a.tmps)with
      |false=>rw [hw]at h;exact ih _ _ _ _ (hf.put (hd _ _ ho) _) h
      |true=>
       rw [hw]at h;simp only [cond_true]at h⊢;refine Cq h fun v w' h=> ?_
       cases aP:late i with
       |true=>
        rw [aP]at h;simp only [cond_true]at h⊢;rw [Av]at h⊢;exact ih _ _ _ _ (hf.put (hd _ _ ho) _) h
       |false=>
       rw [aP]at h;refine⟨h.1,?_⟩;have h:=h;have h:=h.2;rw [Av]at h⊢;exact ih _ _ _ _ (hf.put (hd _ _ ho) _) h
     ·exact h
def Inv:List dv->Type
 |[]=>World->Prop| .int _::ts=>Int->Inv ts| .bool::ts=>Bool->Inv ts| .string::ts=>List UInt8->Inv ts| .slice::ts=>Option Addr->Nat->Nat->Inv ts| .pointer::ts=>Option Addr->Inv ts| .map::ts=>Option Nat->Inv ts| .any::ts=>Value->Inv ts
def Inv.at:(ts:List dv)->Inv ts->List Value->World->Prop
 |[],I,[],w=>I w| .int k::ts,I,.int k' n::vs,w=>cond (decide (k=k')) (Inv.at ts (I n) vs w) False| .bool::ts,I,.bool b::vs,w=>Inv.at ts (I b) vs w| .string::ts,I,.string s::vs,w=>Inv.at ts (I (sl s)) vs w| .slice::ts,I,.slice a n c::vs,w=>Inv.at ts (I a n c) vs w| .pointer::ts,I,.pointer p::vs,w=>Inv.at ts (I p) vs w| .map::ts,I,.map r::vs,w=>Inv.at ts (I r) vs w| .any::ts,I,v::vs,w=>Inv.at ts (I v) vs w|_,_,_,_=>False
def ib:List dv->Type
 |[]=>World->Nat| .int _::ts=>Int->ib ts| .bool::ts=>Bool->ib ts| .string::ts=>List UInt8->ib ts| .slice::ts=>Option Addr->Nat->Nat->ib ts| .pointer::ts=>Option Addr->ib ts| .map::ts=>Option Nat->ib ts| .any::ts=>Value->ib ts
def ib.at:(ts:List dv)->ib ts->List Value->World->Nat
 |[],I,[],w=>I w| .int _::ts,I,.int _ n::vs,w=>ib.at ts (I n) vs w| .bool::ts,I,.bool b::vs,w=>ib.at ts (I b) vs w| .string::ts,I,.string s::vs,w=>ib.at ts (I (sl s)) vs w| .slice::ts,I,.slice a n c::vs,w=>ib.at ts (I a n c) vs w| .pointer::ts,I,.pointer p::vs,w=>ib.at ts (I p) vs w| .map::ts,I,.map r::vs,w=>ib.at ts (I r) vs w| .any::ts,I,v::vs,w=>ib.at ts (I v) vs w|_,_,_,_=>0
def Mn:List dv->(List Value->Prop)->Prop
 |[],F=>F []| .int k::ts,F=>∀n:Int,Mn ts fun vs=>F (.int k n::vs)
 | .bool::ts,F=>∀b:Bool,Mn ts fun vs=>F (.bool b::vs)
 | .string::ts,F=>∀s:List UInt8,Mn ts fun vs=>F (.string (bS s)::vs)
 | .slice::ts,F=>∀(a:Option Addr) (n c:Nat),Mn ts fun vs=>F (.slice a n c::vs)
 | .pointer::ts,F=>∀p:Option Addr,Mn ts fun vs=>F (.pointer p::vs)
 | .map::ts,F=>∀r:Option Nat,Mn ts fun vs=>F (.map r::vs)
 | .any::ts,F=>∀v:Value,Mn ts fun vs=>F (v::vs)
theorem Gx:∀(ts:List dv) (I:Inv ts) (vs:List Value) (w:World) (F:List Value->Prop),Inv.at ts I vs w->Mn ts F->F vs
 |[],_,[],_,_,_,hF=>hF
 | .int k::ts,I,.int k' n::vs,w,F,h,hF=>by
  by_cases hk:k=k'
  ·subst hk;have h':Inv.at ts (I n) vs w:=by simpa only [Inv.at,decide_true,cond_true] using h
   exact Gx ts (I n) vs w _ h' (hF n)
  ·simp only [Inv.at,decide_eq_false hk,cond_false]at h
 | .bool::ts,I,.bool b::vs,w,_,h,hF=>Gx ts (I b) vs w _ h (hF b)
 | .string::ts,I,.string s::vs,w,_,h,hF=>Gx ts (I (sl s)) vs w _ h (hF (sl s))
 | .slice::ts,I,.slice a n c::vs,w,_,h,hF=>Gx ts (I a n c) vs w _ h (hF a n c)
 | .pointer::ts,I,.pointer p::vs,w,_,h,hF=>Gx ts (I p) vs w _ h (hF p)
 | .map::ts,I,.map r::vs,w,_,h,hF=>Gx ts (I r) vs w _ h (hF r)
 | .any::ts,I,v::vs,w,_,h,hF=>by
  have h':Inv.at ts (I v) vs w:=by cases v<;>exact h
  exact Gx ts (I v) vs w _ h' (hF v)
theorem Nd:∀ {ts:List dv} {F G:List Value->Prop},Mn ts F->(∀vs,F vs->G vs)->Mn ts G:=by
 intro ts
 induction ts with
 |nil=>intro F G h hk;exact hk _ h
 |cons t ts ih=>
  intro F G h hk;cases t<;>simp only [Mn]at h⊢<;>intros<;>exact ih (h _ ..) fun vs h=>hk _ h
def Kx (wr:List Nat) (g:Nat->Value):Nat->List Value->List Value
 |_,[]=>[]|i,v::l=>cond (wr.contains i) (g i) v::Kx wr g (i+1) l
def H9:List Nat->List Value->List Value->List Value
 |s::ss,v::vs,l=>H9 ss vs (l.set s v)|_,_,l=>l
def E0 (a:Act) (wr:List Nat) (g:Nat->Value) (live:List Nat) (vs:List Value):Act:={ a with tmps:=⟨H9 live vs (Kx wr g 0 a.tmps.toList)⟩ }
def Fc (a:Act) (live:List Nat):List Value:=live.map fun i=>a.tmps.getD i undef
theorem Ih {wr:List Nat} {g:Nat->Value} :∀(l:List Value) (i j:Nat),(Kx wr g i l)[j]? =l[j]?.map fun v=>cond (wr.contains (i+j)) (g (i+j)) v:=by
 intro l
 induction l with
 |nil=>intro i j;simp [Kx]
 |cons v l ih=>
  intro i j;cases j with
  |zero=>simp [Kx]
  |succ j=>simp only [Kx,List.getElem?_cons_succ,ih];rw [show i+1+j=i+(j+1) by omega]
theorem WR {wr:List Nat} {g:Nat->Value} :∀(l:List Value) (i:Nat),(Kx wr g i l).length=l.length:=by
 intro l
 induction l with
 |nil=>intro i;rfl
 |cons v l ih=>intro i;simp [Kx,ih]
theorem WS:∀(live:List Nat) (l:List Value),H9 live (live.map fun i=>l.getD i undef) l=l:=by
 intro live
 induction live with
 |nil=>intro l;rfl
 |cons s ss ih=>
  intro l;simp only [List.map_cons,H9];have:l.set s (l.getD s undef)=l:=by
   apply List.ext_getElem?;intro i;rw [List.getElem?_set];by_cases h:s=i
   ·subst h;simp only [if_true];split
    ·rename_i aP;simp [List.getD,aP]
    ·rename_i aP;simp at aP;simp [List.getElem?_eq_none aP]
   ·simp [h]
  rw [this];exact ih l
theorem E1 {wr:List Nat} {a a':Act} (h:Fr wr a a') (live:List Nat):E0 a wr (fun i=>a'.tmps.getD i undef) live (Fc a' live)=a':=by
 obtain⟨⟨l'⟩,d'⟩:=a';obtain⟨⟨l⟩,d⟩:=a;have eU:l'.length=l.length:=h.size;have hd:d'=d:=h.defers;have hl:Kx wr (fun i=>(Array.mk l').getD i undef) 0 l=l':=by
  apply List.ext_getElem?;intro i;rw [Ih];simp only [Nat.zero_add];by_cases hi:i∈wr
  ·have hc:wr.contains i=true:=by simpa using hi
   simp only [hc,cond_true];by_cases aP:i<l.length
   ·have wW:i<l'.length:=by omega
    simp [aP,wW]
   ·have wW:¬i<l'.length:=by omega
    simp at aP wW;simp [List.getElem?_eq_none aP,List.getElem?_eq_none wW]
  ·have hc:wr.contains i=false:=by simpa using hi
   simp only [hc,cond_false];have:=h.same i hi;simp at this;rw [this];cases l[i]? <;>rfl
 have hv:Fc { tmps:=Array.mk l',defers:=d' } live=live.map fun i=>l'.getD i undef:=by
  unfold Fc;apply List.map_congr_left;intro i _;simp [List.getD]
 unfold E0;simp only;rw [hl,hv,WS,hd]
def V0 (live:List (Nat×dv)) (wr:List Nat) (body:(Exit->Act->World->Prop)->Act->World->Prop) (Q:Exit->Act->World->Prop) (a:Act) (w:World):Prop:=∃(I:Inv (live.map (·.2))) (μ:ib (live.map (·.2))),Inv.at _ I (Fc a (live.map (·.1))) w/\∀g:Nat->Value,Mn (live.map (·.2)) fun vs=>∀w,Inv.at _ I vs w->body (Exit.then (fun a' w'=>Inv.at _ I (Fc a' (live.map (·.1))) w'/\ib.at _ μ (Fc a' (live.map (·.1))) w'<ib.at _ μ vs w) Q) (E0 a wr g (live.map (·.1)) vs) w
def Ii (live:List (Nat×dv)) (wr:List Nat) (x y:(Exit->Act->World->Prop)->Act->World->Prop) (Q:Exit->Act->World->Prop) (a:Act) (w:World):Prop:=∃J:Inv (live.map (·.2)),x (Exit.then (fun a' w'=>Inv.at _ J (Fc a' (live.map (·.1))) w') Q) a w/\∀g:Nat->Value,Mn (live.map (·.2)) fun vs=>∀w,Inv.at _ J vs w->y Q (E0 a wr g (live.map (·.1)) vs) w
def Fk (P:Program) (ops:Array Oper) (live:List Nat) (Q:Act->World->Prop) (a:Act) (w:World):Prop:=
 match merged P ops live ops.toList 0 a with
 |some (ps,vs)=>Ue ps (∀g:Nat->Value,Q (E0 a (ops.toList.filterMap (·.dst)) g live vs) w)|none=>False
structure qx where
 loops:List (Nat×List (Nat×dv)):=[]
 dH:List (Nat×List (Nat×dv)):=[]
 jJ:List (Nat×List Nat):=[]
def Ec {α:Type} :List (Nat×α)->Nat->Option α
 |[],_=>none|(k,v)::l,b=>cond (k==b) (some v) (Ec l b)
def Ev {α:Type} (wr:List Nat) (l:List (Nat×α)):List (Nat×α):=l.filter fun p=>wr.contains p.1
def D7 (P:Program) (cA:qx):Code->Nat->(Exit->Act->World->Prop)->Act->World->Prop
 | .skip,_,Q,a,w=>Q .normal a w| .region _ ops draw,pos,Q,a,w=>match Ec cA.jJ pos with
  |some live=>cond draw
   (cond (P.follows .mixedOrders&&Region.lexB .any ops) (∀w',w'=w.drew->Fk P ops (live.filter fun i=>(ops.toList.filterMap (·.dst)).contains i) (Q .normal) a w') False)
   (Fk P ops (live.filter fun i=>(ops.toList.filterMap (·.dst)).contains i) (Q .normal) a w)
  |none=>cond draw (Ml P ops (Q .normal) a w) (Kv P ops (Q .normal) ops.toList 0 a w)
 | .seq x y,pos,Q,a,w=>match Ec cA.dH pos with
  |some live=>Ii (Ev (Code.writes x) live) (Code.writes x) (D7 P cA x (2*pos)) (D7 P cA y (2*pos+1)) Q a w|none=>D7 P cA x (2*pos) (Exit.then (D7 P cA y (2*pos+1) Q) Q) a w
 | .cond c x y,pos,Q,a,w=>match a.eval c with
  | .bool b=>cond b (D7 P cA x (2*pos) Q a w) (D7 P cA y (2*pos+1) Q a w)|_=>False
 | .block id c,pos,Q,a,w=>D7 P cA c (2*pos) (Exit.inBlock id Q) a w| .loop c,pos,Q,a,w=>V0 (Ev (Code.writes c) ((Ec cA.loops pos).getD [])) (Code.writes c) (D7 P cA c (2*pos)) Q a w| .scope c,pos,Q,a,w=>D7 P cA c (2*pos) (Exit.noGoto Q) a w| .exit id,_,Q,a,w=>Q (.exit id) a w| .label _,_,Q,a,w=>Q .normal a w| .ret,_,Q,a,w=>Q .ret a w|_,_,_,_,_=>False
theorem Zr {ops:Array Oper} {o:Oper} (h:o∈ops.toList) {d:Nat} (hd:o.dst=some d):d∈ops.toList.filterMap (·.dst):=List.mem_filterMap.2 ⟨o,h,hd⟩
theorem WT:∀(ss:List Nat) (vs:List Value) (l:List Value),(H9 ss vs l).length=l.length:=by
 intro ss
 induction ss with
 |nil=>intro vs l;rfl
 |cons s ss ih=>intro vs l;cases vs with|nil=>rfl|cons v vs=>simp [H9,ih]
theorem WU:∀(ss:List Nat) (vs:List Value) (l:List Value) (i:Nat),i∉ss->(H9 ss vs l)[i]? =l[i]? :=by
 intro ss
 induction ss with
 |nil=>intro vs l i _;rfl
 |cons s ss ih=>
  intro vs l i hi;cases vs with
  |nil=>rfl
  |cons v vs=>
   simp only [List.mem_cons,not_or]at hi;simp only [H9];rw [ih _ _ _ hi.2,List.getElem?_set_ne (fun e=>hi.1 e.symm)]
theorem Fq {wr qy:List Nat} {a0 a:Act} (h:Fr wr a0 a) (ov:∀i∈qy,i∈wr) {live:List Nat} (qz:∀i∈live,i∈wr) (g:Nat->Value) (vs:List Value):Fr wr a0 (E0 a qy g live vs):=by
 refine⟨?_,h.defers,fun i hi=> ?_⟩
 ·show(H9 live vs (Kx qy g 0 a.tmps.toList)).length=_
  rw [WT,WR];exact h.size
 ·have h1:(E0 a qy g live vs).tmps[i]? =(H9 live vs (Kx qy g 0 a.tmps.toList))[i]? :=by simp [E0]
  rw [h1,WU _ _ _ _ (fun hm=>hi (qz i hm)),Ih];have hc:qy.contains (0+i)=false:=by
   simp only [Nat.zero_add];cases fH:qy.contains i with
   |false=>rfl
   |true=>exact absurd (ov i (by simpa using fH)) hi
  simp only [hc,cond_false];have:=h.same i hi;rw [←this];cases hh:a.tmps.toList[i]? <;>simp_all
end Go.Vc
