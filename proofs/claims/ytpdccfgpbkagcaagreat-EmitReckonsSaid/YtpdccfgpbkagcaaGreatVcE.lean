/- The conditions of Go code: a library of this claim. -/
import Derived.Test.YtpdccfgpbkagcaaGreatVcD
import Derived.Scope
namespace Go.Vc
def Code.writes:Code->List Nat
 | .region _ ops _=>ops.toList.filterMap (·.dst)| .seq a b=>Code.writes a++Code.writes b| .cond _ a b=>Code.writes a++Code.writes b| .block _ c=>Code.writes c| .loop c=>Code.writes c| .scope c=>Code.writes c|_=>[]
structure Fr (wr:List Nat) (a a':Act):Prop where
 size:a'.tmps.size=a.tmps.size
 defers:a'.defers=a.defers
 same:∀i,i∉wr->a'.tmps[i]? =a.tmps[i]?
theorem Fr.refl (wr:List Nat) (a:Act):Fr wr a a:=⟨rfl,rfl,fun _ _=>rfl⟩
theorem Fr.put {wr:List Nat} {a a':Act} (h:Fr wr a a') {dst:Option Nat} (hd:∀d,dst=some d->d∈wr) (v:Value):Fr wr a (a'.put dst v):=by
 cases dst with
 |none=>exact h
 |some d=>
  refine⟨by simp [Act.put,h.size],h.defers,fun i hi=> ?_⟩;have:d≠i:=fun e=>hi (e▸hd d rfl)
  simp [Act.put,Array.getElem?_setIfInBounds_ne this,h.same i hi]
theorem Ahw {P:Program} {ops:Array Oper} {Q Q':Act->World->Prop} {wr:List Nat} {a0:Act} (hq:∀a w,Q a w->Fr wr a0 a->Q' a w):∀(l:List Oper) (i:Nat) (a:Act) (w:World),(∀o∈l,∀d,o.dst=some d->d∈wr)->Fr wr a0 a->Jy P ops Q l i a w->Jy P ops Q' l i a w:=by
 intro l
 induction l with
 |nil=>intro i a w _ hf h;exact hq _ _ h hf
 |cons o rest ih=>
  intro i a w hd hf h;simp only [Jy]at h⊢;have d6:=hd o (by simp);have hr:∀o∈rest,∀d,o.dst=some d->d∈wr:=fun o ho=>hd o (by simp [ho])
  cases hw:Region.wanted o (yielded ops a.tmps)with
  |false=>rw [hw]at h;exact ih _ _ _ hr (hf.put d6 _) h
  |true=>
   rw [hw]at h;refine C7 h fun v w' h=> ?_
   rw [A6]at h⊢;exact ih _ _ _ hr (hf.put d6 _) h
theorem Ho {P:Program} {ops:Array Oper} {Q Q':Act->World->Prop} {wr:List Nat} {a0:Act} (hq:∀a w,Q a w->Fr wr a0 a->Q' a w):∀(l:List Oper) (i:Nat) (a:Act) (w:World),(∀o∈l,∀d,o.dst=some d->d∈wr)->Fr wr a0 a->Dz P ops Q l i a w->Dz P ops Q' l i a w:=by
 intro l
 induction l with
 |nil=>intro i a w _ hf h;exact hq _ _ h hf
 |cons o rest ih=>
  intro i a w hd hf h;simp only [Dz]at h⊢;have d6:=hd o (by simp);have hr:∀o∈rest,∀d,o.dst=some d->d∈wr:=fun o ho=>hd o (by simp [ho])
  cases hw:Region.wanted o (yielded ops a.tmps)with
  |false=>rw [hw]at h;exact ih _ _ _ hr (hf.put d6 _) h
  |true=>
   rw [hw]at h;simp only [cond_true]at h⊢;split at h
   ·refine ig.rH h fun v h=> ?_
    rw [A6]at h⊢;exact ih _ _ _ hr (hf.put d6 _) h
   ·split at h
    ·refine Jz h fun v w' h=> ?_
     rw [A6]at h⊢;exact ih _ _ _ hr (hf.put d6 _) h
    ·exact h
theorem Ahx {P:Program} {ops:Array Oper} {Q Q':Act->World->Prop} {wr:List Nat} {a0:Act} (hq:∀a w,Q a w->Fr wr a0 a->Q' a w):∀(l:List Oper) (i:Nat) (a:Act) (w:World),(∀o∈l,∀d,o.dst=some d->d∈wr)->Fr wr a0 a->Gp P ops Q l i a w->Gp P ops Q' l i a w:=by
 intro l
 induction l with
 |nil=>intro i a w _ hf h;exact hq _ _ h hf
 |cons o rest ih=>
  intro i a w hd hf h;simp only [Gp]at h⊢;have d6:=hd o (by simp);have hr:∀o∈rest,∀d,o.dst=some d->d∈wr:=fun o ho=>hd o (by simp [ho])
  cases hw:Region.wanted o (yielded ops a.tmps)with
  |false=>rw [hw]at h;exact ih _ _ _ hr (hf.put d6 _) h
  |true=>
   rw [hw]at h;simp only [cond_true]at h⊢;split at h
   ·refine ig.rH h fun v h=> ?_
    rw [A6]at h⊢;exact ih _ _ _ hr (hf.put d6 _) h
   ·cases hl:(Ct o||Mg P o)with
    |true=>
     rw [hl]at h;refine Jz h fun v w' h=> ?_
     rw [A6]at h⊢;exact ih _ _ _ hr (hf.put d6 _) h
    |false=>rw [hl]at h;exact h.elim
theorem Mh:∀ {l:List Nat} {F G:Nat->Prop},(∀i∈l,F i->G i)->Ym l F->Ym l G
 |[],_,_,_,_=>trivial
 |[j],_,_,hk,h=>hk j (by simp) h
 |j::k::l,_,_,hk,h=>⟨hk j (by simp) h.1,Mh (fun i hi=>hk i (by simp [hi])) h.2⟩
theorem All {P:Program} {ops:Array Oper} {Q Q':Act->World->Prop} {wr:List Nat} {a0:Act} (hq:∀a w,Q a w->Fr wr a0 a->Q' a w) (hd:∀(i:Nat) (o:Oper),ops[i]? =some o->∀d,o.dst=some d->d∈wr): ∀(n:Nat) (listed:Array Bool) (a:Act) (w:World),Fr wr a0 a->Lm P ops Q n listed a w->Lm P ops Q' n listed a w:=by
 intro n
 induction n with
 |zero=>
  intro listed a w hf h;simp only [Lm]at h⊢;cases hr:(Region.ready .any ops listed).isEmpty with
  |true=>rw [hr]at h;exact hq _ _ h hf
  |false=>rw [hr]at h;exact h
 |succ n ih=>
  intro listed a w hf h;simp only [Lm]at h⊢;split at h
  ·split at h
   ·rename_i i _ o ho;cases hw:Region.wanted o (yielded ops a.tmps)with
    |false=>rw [hw]at h;exact ih _ _ _ (hf.put (hd _ _ ho) _) h
    |true=>
     rw [hw]at h;simp only [cond_true]at h⊢;split at h
     ·refine ig.rH h fun v h=> ?_
      rw [A6]at h⊢;exact ih _ _ _ (hf.put (hd _ _ ho) _) h
     ·exact h
   ·exact h
  ·split at h
   ·exact hq _ _ h hf
   ·refine Mh (fun i _ h=> ?_) h;split at h
    ·rename_i o ho;cases hw:Region.wanted o (yielded ops a.tmps)with
     |false=>rw [hw]at h;exact ih _ _ _ (hf.put (hd _ _ ho) _) h
     |true=>
      rw [hw]at h;refine C7 h fun v w' h=> ?_
      rw [A6]at h⊢;exact ih _ _ _ (hf.put (hd _ _ ho) _) h
    ·exact h
theorem Aeo {P:Program} {ops:Array Oper} {Q Q':Act->World->Prop} {S:World->Prop} {late:Nat->Bool} {wr:List Nat} {a0:Act} (hq:∀a w,Q a w->Fr wr a0 a->Q' a w) (hd:∀(i:Nat) (o:Oper),ops[i]? =some o->∀d,o.dst=some d->d∈wr): ∀(n:Nat) (listed:Array Bool) (early:Bool) (a:Act) (w:World),Fr wr a0 a->Dk P ops Q S late n listed early a w->Dk P ops Q' S late n listed early a w:=by
 intro n
 induction n with
 |zero=>
  intro listed early a w hf h;simp only [Dk]at h⊢;cases hr:(Region.ready .any ops listed).isEmpty with
  |true=>rw [hr]at h;exact hq _ _ h hf
  |false=>rw [hr]at h;exact h
 |succ n ih=>
  intro listed early a w hf h;simp only [Dk]at h⊢;split at h
  ·split at h
   ·rename_i i _ o ho;cases hw:Region.wanted o (yielded ops a.tmps)with
    |false=>rw [hw]at h;exact ih _ _ _ _ (hf.put (hd _ _ ho) _) h
    |true=>
     rw [hw]at h;simp only [cond_true]at h⊢;split at h
     ·refine ig.rH h fun v h=> ?_
      rw [A6]at h⊢;exact ih _ _ _ _ (hf.put (hd _ _ ho) _) h
     ·exact h
   ·exact h
  ·split at h
   ·split at h
    ·rename_i i _ o ho;cases hw:Region.wanted o (yielded ops a.tmps)with
     |false=>rw [hw]at h;exact ih _ _ _ _ (hf.put (hd _ _ ho) _) h
     |true=>
      rw [hw]at h;refine Wa h fun v h=> ?_
      rw [A6]at h⊢;exact ih _ _ _ _ (hf.put (hd _ _ ho) _) h
    ·exact h
   ·split at h
    ·exact hq _ _ h hf
    ·refine Mh (fun i _ h=> ?_) h;split at h
     ·rename_i o ho;cases hw:Region.wanted o (yielded ops a.tmps)with
      |false=>rw [hw]at h;exact ih _ _ _ _ (hf.put (hd _ _ ho) _) h
      |true=>
       rw [hw]at h;simp only [cond_true]at h⊢;refine C7 h fun v w' h=> ?_
       cases aE:late i with
       |true=>
        rw [aE]at h;simp only [cond_true]at h⊢;rw [A6]at h⊢;exact ih _ _ _ _ (hf.put (hd _ _ ho) _) h
       |false=>
       rw [aE]at h;refine⟨h.1,?_⟩;have h:=h;have h:=h.2;rw [A6]at h⊢;exact ih _ _ _ _ (hf.put (hd _ _ ho) _) h
     ·exact h
theorem Ahy {P:Program} {ops:Array Oper} {Q Q':Act->World->Prop} {S:World->Prop} {late:Nat->Bool} {kp:Bool} {wr:List Nat} {a0:Act} (hq:∀a w,Q a w->Fr wr a0 a->Q' a w) (hd:∀(i:Nat) (o:Oper),ops[i]? =some o->∀d,o.dst=some d->d∈wr): ∀(n:Nat) (listed:Array Bool) (early:Bool) (a:Act) (w:World),Fr wr a0 a->E6 P ops Q S late kp n listed early a w->E6 P ops Q' S late kp n listed early a w:=by
 intro n
 induction n with
 |zero=>
  intro listed early a w hf h;simp only [E6]at h⊢;cases hr:(Region.ready .any ops listed).isEmpty with
  |true=>rw [hr]at h;exact hq _ _ h hf
  |false=>rw [hr]at h;exact h
 |succ n ih=>
  intro listed early a w hf h;simp only [E6]at h⊢;split at h
  ·split at h
   ·rename_i i _ o ho;cases hw:Region.wanted o (yielded ops a.tmps)with
    |false=>rw [hw]at h;exact ih _ _ _ _ (hf.put (hd _ _ ho) _) h
    |true=>
     rw [hw]at h;simp only [cond_true]at h⊢;split at h
     ·refine ig.rH h fun v h=> ?_
      rw [A6]at h⊢;exact ih _ _ _ _ (hf.put (hd _ _ ho) _) h
     ·exact h
   ·exact h
  ·split at h
   ·split at h
    ·rename_i i _ o ho;cases hw:Region.wanted o (yielded ops a.tmps)with
     |false=>rw [hw]at h;exact ih _ _ _ _ (hf.put (hd _ _ ho) _) h
     |true=>
      rw [hw]at h;refine Wa h fun v h=> ?_
      rw [A6]at h⊢;exact ih _ _ _ _ (hf.put (hd _ _ ho) _) h
    ·exact h
   ·cases qu:(!early&&Yo P ops listed)with
    |true=>
     rw [qu]at h;simp only [cond_true]at h⊢;exact Aeo hq hd (n+1) listed true a w hf h
    |false=>
    rw [qu]at h;simp only [cond_false]at h⊢;split at h
    ·exact hq _ _ h hf
    ·refine Mh (fun i _ h=> ?_) h;split at h
     ·rename_i o ho;cases hw:Region.wanted o (yielded ops a.tmps)with
      |false=>rw [hw]at h;exact ih _ _ _ _ (hf.put (hd _ _ ho) _) h
      |true=>
       rw [hw]at h;simp only [cond_true]at h⊢;refine C7 h fun v w' h=> ?_
       cases aE:late i with
       |true=>
        rw [aE]at h;simp only [cond_true]at h⊢;rw [A6]at h⊢;exact ih _ _ _ _ (hf.put (hd _ _ ho) _) h
       |false=>
       rw [aE]at h;refine⟨h.1,?_⟩;have h:=h;have h:=h.2;rw [A6]at h⊢;exact ih _ _ _ _ (hf.put (hd _ _ ho) _) h
     ·exact h
def Inv:List cX->Type
 |[]=>World->Prop| .int _::ts=>Int->Inv ts| .bool::ts=>Bool->Inv ts| .string::ts=>List UInt8->Inv ts| .slice::ts=>Option Addr->Nat->Nat->Inv ts| .pointer::ts=>Option Addr->Inv ts| .map::ts=>Option Nat->Inv ts| .any::ts=>Value->Inv ts
def Inv.at:(ts:List cX)->Inv ts->List Value->World->Prop
 |[],I,[],w=>I w| .int k::ts,I,.int k' n::vs,w=>cond (decide (k=k')) (Inv.at ts (I n) vs w) False| .bool::ts,I,.bool b::vs,w=>Inv.at ts (I b) vs w| .string::ts,I,.string s::vs,w=>Inv.at ts (I (sl s)) vs w| .slice::ts,I,.slice a n c::vs,w=>Inv.at ts (I a n c) vs w| .pointer::ts,I,.pointer p::vs,w=>Inv.at ts (I p) vs w| .map::ts,I,.map r::vs,w=>Inv.at ts (I r) vs w| .any::ts,I,v::vs,w=>Inv.at ts (I v) vs w|_,_,_,_=>False
def iu:List cX->Type
 |[]=>World->Nat| .int _::ts=>Int->iu ts| .bool::ts=>Bool->iu ts| .string::ts=>List UInt8->iu ts| .slice::ts=>Option Addr->Nat->Nat->iu ts| .pointer::ts=>Option Addr->iu ts| .map::ts=>Option Nat->iu ts| .any::ts=>Value->iu ts
def iu.at:(ts:List cX)->iu ts->List Value->World->Nat
 |[],I,[],w=>I w| .int _::ts,I,.int _ n::vs,w=>iu.at ts (I n) vs w| .bool::ts,I,.bool b::vs,w=>iu.at ts (I b) vs w| .string::ts,I,.string s::vs,w=>iu.at ts (I (sl s)) vs w| .slice::ts,I,.slice a n c::vs,w=>iu.at ts (I a n c) vs w| .pointer::ts,I,.pointer p::vs,w=>iu.at ts (I p) vs w| .map::ts,I,.map r::vs,w=>iu.at ts (I r) vs w| .any::ts,I,v::vs,w=>iu.at ts (I v) vs w|_,_,_,_=>0
def Sk:List cX->(List Value->Prop)->Prop
 |[],F=>F []| .int k::ts,F=>∀n:Int,Sk ts fun vs=>F (.int k n::vs)
 | .bool::ts,F=>∀b:Bool,Sk ts fun vs=>F (.bool b::vs)
 | .string::ts,F=>∀s:List UInt8,Sk ts fun vs=>F (.string (aI s)::vs)
 | .slice::ts,F=>∀(a:Option Addr) (n c:Nat),Sk ts fun vs=>F (.slice a n c::vs)
 | .pointer::ts,F=>∀p:Option Addr,Sk ts fun vs=>F (.pointer p::vs)
 | .map::ts,F=>∀r:Option Nat,Sk ts fun vs=>F (.map r::vs)
 | .any::ts,F=>∀v:Value,Sk ts fun vs=>F (v::vs)
theorem F5:∀(ts:List cX) (I:Inv ts) (vs:List Value) (w:World) (F:List Value->Prop),Inv.at ts I vs w->Sk ts F->F vs
 |[],_,[],_,_,_,hF=>hF
 | .int k::ts,I,.int k' n::vs,w,F,h,hF=>by
  by_cases hk:k=k'
  ·subst hk;have h':Inv.at ts (I n) vs w:=by simpa only [Inv.at,decide_true,cond_true] using h
   exact F5 ts (I n) vs w _ h' (hF n)
  ·simp only [Inv.at,decide_eq_false hk,cond_false]at h
 | .bool::ts,I,.bool b::vs,w,_,h,hF=>F5 ts (I b) vs w _ h (hF b)
 | .string::ts,I,.string s::vs,w,_,h,hF=>F5 ts (I (sl s)) vs w _ h (hF (sl s))
 | .slice::ts,I,.slice a n c::vs,w,_,h,hF=>F5 ts (I a n c) vs w _ h (hF a n c)
 | .pointer::ts,I,.pointer p::vs,w,_,h,hF=>F5 ts (I p) vs w _ h (hF p)
 | .map::ts,I,.map r::vs,w,_,h,hF=>F5 ts (I r) vs w _ h (hF r)
 | .any::ts,I,v::vs,w,_,h,hF=>by
  have h':Inv.at ts (I v) vs w:=by cases v<;>exact h
  exact F5 ts (I v) vs w _ h' (hF v)
theorem Ln:∀ {ts:List cX} {F G:List Value->Prop},Sk ts F->(∀vs,F vs->G vs)->Sk ts G:=by
 intro ts
 induction ts with
 |nil=>intro F G h hk;exact hk _ h
 |cons t ts ih=>
  intro F G h hk;cases t<;>simp only [Sk]at h⊢<;>intros<;>exact ih (h _ ..) fun vs h=>hk _ h
def J0 (wr:List Nat) (g:Nat->Value):Nat->List Value->List Value
 |_,[]=>[]|i,v::l=>cond (wr.contains i) (g i) v::J0 wr g (i+1) l
def Hj:List Nat->List Value->List Value->List Value
 |s::ss,v::vs,l=>Hj ss vs (l.set s v)|_,_,l=>l
def Ej (a:Act) (wr:List Nat) (g:Nat->Value) (live:List Nat) (vs:List Value):Act:={ a with tmps:=⟨Hj live vs (J0 wr g 0 a.tmps.toList)⟩ }
def Fx (a:Act) (live:List Nat):List Value:=live.map fun i=>a.tmps.getD i undef
theorem Yp {wr:List Nat} {g:Nat->Value} :∀(l:List Value) (i j:Nat),(J0 wr g i l)[j]? =l[j]?.map fun v=>cond (wr.contains (i+j)) (g (i+j)) v:=by
 intro l
 induction l with
 |nil=>intro i j;simp [J0]
 |cons v l ih=>
  intro i j;cases j with
  |zero=>simp [J0]
  |succ j=>simp only [J0,List.getElem?_cons_succ,ih];rw [show i+1+j=i+(j+1) by omega]
theorem Aa8 {wr:List Nat} {g:Nat->Value} :∀(l:List Value) (i:Nat),(J0 wr g i l).length=l.length:=by
 intro l
 induction l with
 |nil=>intro i;rfl
 |cons v l ih=>intro i;simp [J0,ih]
theorem Aep:∀(live:List Nat) (l:List Value),Hj live (live.map fun i=>l.getD i undef) l=l:=by
 intro live
 induction live with
 |nil=>intro l;rfl
 |cons s ss ih=>
  intro l;simp only [List.map_cons,Hj];have:l.set s (l.getD s undef)=l:=by
   apply List.ext_getElem?;intro i;rw [List.getElem?_set];by_cases h:s=i
   ·subst h;simp only [if_true];split
    ·rename_i aE;simp [List.getD,aE]
    ·rename_i aE;simp at aE;simp [List.getElem?_eq_none aE]
   ·simp [h]
  rw [this];exact ih l
theorem Ek {wr:List Nat} {a a':Act} (h:Fr wr a a') (live:List Nat):Ej a wr (fun i=>a'.tmps.getD i undef) live (Fx a' live)=a':=by
 obtain⟨⟨l'⟩,d'⟩:=a';obtain⟨⟨l⟩,d⟩:=a;have dL:l'.length=l.length:=h.size;have hd:d'=d:=h.defers;have hl:J0 wr (fun i=>(Array.mk l').getD i undef) 0 l=l':=by
  apply List.ext_getElem?;intro i;rw [Yp];simp only [Nat.zero_add];by_cases hi:i∈wr
  ·have hc:wr.contains i=true:=by simpa using hi
   simp only [hc,cond_true];by_cases aE:i<l.length
   ·have uu:i<l'.length:=by omega
    simp [aE,uu]
   ·have uu:¬i<l'.length:=by omega
    simp at aE uu;simp [List.getElem?_eq_none aE,List.getElem?_eq_none uu]
  ·have hc:wr.contains i=false:=by simpa using hi
   simp only [hc,cond_false];have:=h.same i hi;simp at this;rw [this];cases l[i]? <;>rfl
 have hv:Fx { tmps:=Array.mk l',defers:=d' } live=live.map fun i=>l'.getD i undef:=by
  unfold Fx;apply List.map_congr_left;intro i _;simp [List.getD]
 unfold Ej;simp only;rw [hl,hv,Aep,hd]
def Ur (live:List (Nat×cX)) (wr:List Nat) (body:(Exit->Act->World->Prop)->Act->World->Prop) (Q:Exit->Act->World->Prop) (a:Act) (w:World):Prop:=∃(I:Inv (live.map (·.2))) (μ:iu (live.map (·.2))),Inv.at _ I (Fx a (live.map (·.1))) w/\∀g:Nat->Value,Sk (live.map (·.2)) fun vs=>∀w,Inv.at _ I vs w->body (Exit.then (fun a' w'=>Inv.at _ I (Fx a' (live.map (·.1))) w'/\iu.at _ μ (Fx a' (live.map (·.1))) w'<iu.at _ μ vs w) Q) (Ej a wr g (live.map (·.1)) vs) w
def MR (live:List (Nat×cX)) (wr:List Nat) (x y:(Exit->Act->World->Prop)->Act->World->Prop) (Q:Exit->Act->World->Prop) (a:Act) (w:World):Prop:=∃J:Inv (live.map (·.2)),x (Exit.then (fun a' w'=>Inv.at _ J (Fx a' (live.map (·.1))) w') Q) a w/\∀g:Nat->Value,Sk (live.map (·.2)) fun vs=>∀w,Inv.at _ J vs w->y Q (Ej a wr g (live.map (·.1)) vs) w
def Ex (P:Program) (ops:Array Oper) (live:List Nat) (Q:Act->World->Prop) (a:Act) (w:World):Prop:=
 match merged P ops live ops.toList 0 a with
 |some (ps,vs)=>Sj ps (∀g:Nat->Value,Q (Ej a (ops.toList.filterMap (·.dst)) g live vs) w)|none=>False
structure sS where
 loops:List (Nat×List (Nat×cX)):=[]
 dN:List (Nat×List (Nat×cX)):=[]
 j_:List (Nat×List Nat):=[]
def Dl {α:Type} :List (Nat×α)->Nat->Option α
 |[],_=>none|(k,v)::l,b=>cond (k==b) (some v) (Dl l b)
def D0 {α:Type} (wr:List Nat) (l:List (Nat×α)):List (Nat×α):=l.filter fun p=>wr.contains p.1
def Da (P:Program) (bW:sS):Code->Nat->(Exit->Act->World->Prop)->Act->World->Prop
 | .skip,_,Q,a,w=>Q .normal a w| .region _ ops draw,pos,Q,a,w=>match Dl bW.j_ pos with
  |some live=>cond draw
   (cond (P.follows .mixedOrders&&Region.lexB .any ops) (∀w',w'=w.drew->Ex P ops (live.filter fun i=>(ops.toList.filterMap (·.dst)).contains i) (Q .normal) a w') False)
   (Ex P ops (live.filter fun i=>(ops.toList.filterMap (·.dst)).contains i) (Q .normal) a w)
  |none=>cond draw (La P ops (Q .normal) a w) (Jy P ops (Q .normal) ops.toList 0 a w)
 | .seq x y,pos,Q,a,w=>match Dl bW.dN pos with
  |some live=>MR (D0 (Code.writes x) live) (Code.writes x) (Da P bW x (2*pos)) (Da P bW y (2*pos+1)) Q a w|none=>Da P bW x (2*pos) (Exit.then (Da P bW y (2*pos+1) Q) Q) a w
 | .cond c x y,pos,Q,a,w=>match a.eval c with
  | .bool b=>cond b (Da P bW x (2*pos) Q a w) (Da P bW y (2*pos+1) Q a w)|_=>False
 | .block id c,pos,Q,a,w=>Da P bW c (2*pos) (Exit.inBlock id Q) a w| .loop c,pos,Q,a,w=>Ur (D0 (Code.writes c) ((Dl bW.loops pos).getD [])) (Code.writes c) (Da P bW c (2*pos)) Q a w| .scope c,pos,Q,a,w=>Da P bW c (2*pos) (Exit.noGoto Q) a w| .exit id,_,Q,a,w=>Q (.exit id) a w| .label _,_,Q,a,w=>Q .normal a w| .ret,_,Q,a,w=>Q .ret a w|_,_,_,_,_=>False
theorem X2 {ops:Array Oper} {o:Oper} (h:o∈ops.toList) {d:Nat} (hd:o.dst=some d):d∈ops.toList.filterMap (·.dst):=List.mem_filterMap.2 ⟨o,h,hd⟩
theorem Yq:∀(ss:List Nat) (vs:List Value) (l:List Value),(Hj ss vs l).length=l.length:=by
 intro ss
 induction ss with
 |nil=>intro vs l;rfl
 |cons s ss ih=>intro vs l;cases vs with|nil=>rfl|cons v vs=>simp [Hj,ih]
theorem Ahz:∀(ss:List Nat) (vs:List Value) (l:List Value) (i:Nat),i∉ss->(Hj ss vs l)[i]? =l[i]? :=by
 intro ss
 induction ss with
 |nil=>intro vs l i _;rfl
 |cons s ss ih=>
  intro vs l i hi;cases vs with
  |nil=>rfl
  |cons v vs=>
   simp only [List.mem_cons,not_or]at hi;simp only [Hj];rw [ih _ _ _ hi.2,List.getElem?_set_ne (fun e=>hi.1 e.symm)]
theorem E7 {wr sU:List Nat} {a0 a:Act} (h:Fr wr a0 a) (m7:∀i∈sU,i∈wr) {live:List Nat} (sV:∀i∈live,i∈wr) (g:Nat->Value) (vs:List Value):Fr wr a0 (Ej a sU g live vs):=by
 refine⟨?_,h.defers,fun i hi=> ?_⟩
 ·show(Hj live vs (J0 sU g 0 a.tmps.toList)).length=_
  rw [Yq,Aa8];exact h.size
 ·have h1:(Ej a sU g live vs).tmps[i]? =(Hj live vs (J0 sU g 0 a.tmps.toList))[i]? :=by simp [Ej]
  rw [h1,Ahz _ _ _ _ (fun hm=>hi (sV i hm)),Yp];have hc:sU.contains (0+i)=false:=by
   simp only [Nat.zero_add];cases dV:sU.contains i with
   |false=>rfl
   |true=>exact absurd (m7 i (by simpa using dV)) hi
  simp only [hc,cond_false];have:=h.same i hi;rw [←this];cases hh:a.tmps.toList[i]? <;>simp_all
end Go.Vc
