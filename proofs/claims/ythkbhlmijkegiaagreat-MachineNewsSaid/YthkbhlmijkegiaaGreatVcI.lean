/- The conditions of Go code: a library of this claim. -/
import Derived.Test.YthkbhlmijkegiaaGreatVcH
import Derived.LoopNIn
open Bool (and_eq_true)
namespace Go.Vc
open Go.RowKit (Below)
structure j2 (wr:List Nat) (a a':Act):Prop where
 size:a'.tmps.size=a.tmps.size
 same:∀i,i∉wr->a'.tmps[i]? =a.tmps[i]?
theorem j2.refl (wr:List Nat) (a:Act):j2 wr a a:=⟨rfl,fun _ _=>rfl⟩
theorem j2.fr {wr:List Nat} {a a':Act} (h:j2 wr a a'):Fr wr { a with defers:=a'.defers } a':=⟨h.size,rfl,h.same⟩
theorem Fr.tZ {wr:List Nat} {a a':Act} {d:List Deferred} (h:Fr wr { a with defers:=d } a'):j2 wr a a':=⟨h.size,h.same⟩
def wY (b:Bool) (nr:List Nat) (d0:List Deferred) (ds:List Nat) (a:Act):Prop:=b=true->ds=nr/\a.defers=d0
theorem Oc {P:Program} {cA:r9} {wr:List Nat} {a0:Act} {b:Bool} {nr:List Nat} {d0:List Deferred} :∀(c:Code) (r:Bool) (cur:Nat) (Q Q':QR) (a:Act) (ds:List Nat) (w:World),(∀i∈Code.writes c,i∈wr)->(b=true->Code.gL c=true)->(∀e a ds w,Q e a ds w->j2 wr a0 a->wY b nr d0 ds a->Q' e a ds w)->j2 wr a0 a->wY b nr d0 ds a->B3 P cA c r cur Q a ds w->B3 P cA c r cur Q' a ds w:=by
 intro c
 induction c with
 |skip=>intro r cur Q Q' a ds w _ _ hq hf hs h;exact hq _ _ _ _ h hf hs
 |region id ops draw=>
  intro r cur Q Q' a ds w hw _ hq hf hs h;have hd:∀o∈ops.toList,∀d,o.dst=some d->d∈wr:=fun o ho d hd=>hw d (Zr ho hd)
  simp only [B3]at h⊢;cases ns:ops.toList.all Be with
  |false=>rw [ns]at h;exact h
  |true=>
   rw [ns]at h;simp only [cond_true]at h⊢;have r_:∀a' w',Q .normal a' ds w'->Fr wr { a0 with defers:=a.defers } a'->Q' .normal a' ds w':=fun a' w' h dq=>hq _ _ _ _ h dq.tZ (fun hb=>⟨(hs hb).1,by have:=dq.defers;simp only at this;rw [this];exact(hs hb).2⟩)
   split at h
   ·rename_i live _;have hm:∀w',Fk P ops (live.filter fun i=>(ops.toList.filterMap (·.dst)).contains i) (fun a w=>Q .normal a ds w) a w'->Fk P ops (live.filter fun i=>(ops.toList.filterMap (·.dst)).contains i) (fun a w=>Q' .normal a ds w) a w':=by
     intro w' h;unfold Fk at h⊢;split at h
     ·refine N7 h fun h g=>r_ _ _ (h g) (Fq hf.fr hw (fun i hi=>hw i (List.contains_iff_mem.1 (List.mem_filter.1 hi).2)) g _)
     ·exact h
    cases draw with
    |false=>exact hm _ h
    |true=>
     simp only [cond_true]at h⊢;cases hc:(P.follows .mixedOrders&&Region.lexB .any ops)with
     |false=>rw [hc]at h;exact h
     |true=>rw [hc]at h;exact fun w' j1=>hm w' (h w' j1)
   ·cases draw with
    |true=>exact P3 (fun a w h hf=>XD h fun h=>r_ a w h hf) hd hf.fr h
    |false=>exact Uf (fun a w=>r_ a w) _ _ _ _ hd hf.fr h
 |seq x y gT gU=>
  intro r cur Q Q' a ds w hw hn hq hf hs h;simp only [B3]at h⊢;simp only [Code.writes,List.mem_append]at hw;have sa:b=true->Code.gL x=true:=fun hb=>by have:=hn hb;simp only [Code.gL,and_eq_true]at this;exact this.1
  have wZ:b=true->Code.gL y=true:=fun hb=>by have:=hn hb;simp only [Code.gL,and_eq_true]at this;exact this.2
  split at h
  ·rename_i live _;cases js:Code.gL x with
   |false=>rw [js]at h;exact h
   |true=>
    rw [js]at h;simp only [cond_true]at h⊢;obtain⟨J,h1,h2⟩:=h;refine⟨J,?_,fun g=>Nd (h2 g) fun vs h w hJ=> ?_⟩
    ·refine gT r _ _ _ _ _ _ (fun i hi=>hw i (.inl hi)) sa (fun e a' ct w' he dq j3=> ?_) hf hs h1;cases e with
     |normal=>exact he
     |_=>exact hq _ _ _ _ he dq (fun hb=>⟨(hs hb).1,(j3 hb).2⟩)
    ·refine gU r _ _ _ _ _ _ (fun i hi=>hw i (.inr hi)) wZ hq ?_ (fun hb=>⟨(hs hb).1,(hs hb).2⟩) (h w hJ);have:=Fq hf.fr (fun i hi=>hw i (.inl hi)) (live:=(Ev (Code.writes x) live).map (·.1)) (fun i hi=>by
      obtain⟨p,hp,rfl⟩:=List.mem_map.1 hi;exact hw _ (.inl (by simpa using(List.mem_filter.1 hp).2))) g vs
     exact this.tZ
  ·refine gT r _ _ _ _ _ _ (fun i hi=>hw i (.inl hi)) sa (fun e a' ct w' he dq j3=> ?_) hf hs h;cases e with
   |normal=>exact gU r _ _ _ _ _ _ (fun i hi=>hw i (.inr hi)) wZ hq dq j3 he
   |_=>exact hq _ _ _ _ he dq j3
 |cond c x y gT gU=>
  intro r cur Q Q' a ds w hw hn hq hf hs h;simp only [B3]at h⊢;simp only [Code.writes,List.mem_append]at hw;have sa:b=true->Code.gL x=true:=fun hb=>by have:=hn hb;simp only [Code.gL,and_eq_true]at this;exact this.1
  have wZ:b=true->Code.gL y=true:=fun hb=>by have:=hn hb;simp only [Code.gL,and_eq_true]at this;exact this.2
  split at h
  ·rename_i t _;cases t with
   |true=>exact gT _ _ _ _ _ _ _ (fun i hi=>hw i (.inl hi)) sa hq hf hs h
   |false=>exact gU _ _ _ _ _ _ _ (fun i hi=>hw i (.inr hi)) wZ hq hf hs h
  ·exact h
 |block id c ih=>
  intro r cur Q Q' a ds w hw hn hq hf hs h;simp only [B3]at h⊢;refine ih _ _ _ _ _ _ _ hw hn (fun e a' ct w' he dq j3=> ?_) hf hs h;cases e with
  |exit tT=>
   simp only [QR.inBlock]at he⊢;split
   ·rename_i heq;simp only [heq,if_true]at he;exact hq _ _ _ _ he dq j3
   ·rename_i cf;simp only [cf,if_false]at he;exact hq _ _ _ _ he dq j3
  |_=>exact hq _ _ _ _ he dq j3
 |loop c ih=>
  intro r cur Q Q' a ds w hw hn hq hf hs h;simp only [B3]at h⊢;cases hu:Ec cA.zK cur with
  |some n=>
   rw [hu]at h;simp only at h⊢;clear hu
   induction n generalizing a ds w with
   |zero=>exact h
   |succ n XI=>
    refine ih _ _ _ _ _ _ _ hw hn (fun e a' ct w' he dq j3=> ?_) hf hs h;cases e with
    |normal=>exact XI _ _ _ dq j3 he
    |_=>exact hq _ _ _ _ he dq j3
  |none=>
  rw [hu]at h;simp only at h⊢;have qz:∀i∈(Ev (Code.writes c) ((Ec cA.loops cur).getD [])).map (·.1),i∈wr:=by
   intro i hi;obtain⟨p,hp,rfl⟩:=List.mem_map.1 hi;have:=(List.mem_filter.1 hp).2;exact hw _ (by simp only [Code.writes];simpa using this)
  cases js:Code.gL c with
  |true=>
   rw [js]at h;simp only [cond_true,V0]at h⊢;obtain⟨I,μ,h0,h1⟩:=h;refine⟨I,μ,h0,fun g=>Nd (h1 g) fun vs h w hI=> ?_⟩;refine ih _ _ _ _ _ _ _ hw hn (fun e a' ct w' he dq j3=> ?_) (Fq hf.fr hw qz g vs).tZ (fun hb=>⟨(hs hb).1,(hs hb).2⟩) (h w hI);cases e with
   |normal=>exact he
   |_=>exact hq _ _ _ _ he dq (fun hb=>⟨(hs hb).1,(j3 hb).2⟩)
  |false=>
   rw [js]at h;simp only [cond_false]at h⊢;have hb:b=false:=by
    cases hb:b with
    |false=>rfl
    |true=>have:=hn hb;simp only [Code.gL]at this;rw [this]at js;cases js
   have eJ:∀ds a,wY b nr d0 ds a:=fun ds a h=>by rw [hb]at h;cases h
   obtain⟨I,μ,h0,hm,h1⟩:=h;refine⟨I,μ,h0,hm,fun g es=>Nd (h1 g es) fun vs h w hI hM=> ?_⟩;have jL:j2 wr a0 { (E0 a (Code.writes c) g ((Ev (Code.writes c) ((Ec cA.loops cur).getD [])).map (·.1)) vs)with defers:=es.map mk } :=⟨(Fq hf.fr hw qz g vs).tZ.size,(Fq hf.fr hw qz g vs).tZ.same⟩
   refine ih _ _ _ _ _ _ _ hw (fun h=>by rw [hb]at h;cases h) (fun e a' ct w' he dq j3=> ?_) jL (eJ _ _) (h w hI hM);cases e with
   |normal=>exact he
   |_=>exact hq _ _ _ _ he dq j3
 |exit id=>intro r cur Q Q' a ds w _ _ hq hf hs h;exact hq _ _ _ _ h hf hs
 |label l=>intro r cur Q Q' a ds w _ _ hq hf hs h;exact hq _ _ _ _ h hf hs
 |ret=>intro r cur Q Q' a ds w _ _ hq hf hs h;exact hq _ _ _ _ h hf hs
 |rangeFunc g ps assign body _ _=>
  intro r cur Q Q' a ds w hw hn hq hf hs h;have hb:b=false:=by
   cases hb:b with
   |false=>rfl
   |true=>have:=hn hb;cases this
  have eJ:∀ds a,wY b nr d0 ds a:=fun ds a h=>by rw [hb]at h;cases h
  have jL:∀d,j2 wr a0 { a with defers:=d } :=fun d=>⟨hf.size,hf.same⟩
  simp only [B3]at h⊢
  revert h
  generalize (r|| !Code.gL body|| !(((Ec cA.ranges cur).getD []).length==ps.size)|| !Code.gL assign)=t;intro h;cases t with
  |true=>exact h
  |false=>
   simp only [cond_false]at h⊢;unfold zL at h⊢;split at h
   ·rename_i gf first lb _
    revert h
    generalize (first.size==0&&Cd P gf)=t;intro h;cases t with
    |false=>exact h
    |true=>
     obtain⟨M,xs,oy,I,Xr,Xe,h0,h1,h2,h3⟩:=h;refine⟨M,xs,oy,I,Xr,Xe,h0,h1,fun pre W0 W D k1 k2 k3 k4 k5=>hq _ _ _ _ (h2 pre W0 W D k1 k2 k3 k4 k5) (jL _) (eJ _ _),Iq h3 (fun id h pre W0 W D k1 k2 k3 k4 k5=>hq _ _ _ _ (h pre W0 W D k1 k2 k3 k4 k5) (jL _) (eJ _ _)) fun h F W0 W D k2 k3 k4 k5=>hq _ _ _ _ (h F W0 W D k2 k3 k4 k5) (jL _) (eJ _ _)⟩
   ·exact h
 |_=>intros;rename_i h;exact h.elim
theorem Iw {P:Program} {n:Nat} {dK:List iH} {exits:List Nat} {g:Operand} {ps:Array Tmp} {assign body:Code} {Q:Exit->Act->World->Prop} {a:Act} {w:World} {gf:Nat} {lb:Array Value} (hg:a.eval g= .func (.func gf) #[] lb) (eM:Cd P gf=true) (mf:dK.length=ps.size)
 {M:List Nat} {xs:List (Dn dK)} (oy:qC P gf lb dK M xs w) {I:List Nat->List (Dn dK)->World->Prop} {Xr:List (Dn dK)->World->Prop} {Xe:Nat->List (Dn dK)->World->Prop} (h0:I M [] w)
 (w_:∀(F:List Nat) (pre:List (Dn dK)) (x:Dn dK) (W0 W:World),I F pre W0->Grown w.heap.size W0 W->(pre++[x])<+:xs->
 ∀l n,assign.wpIn (Fence.wide.inRound l) n P (Exit.then (fun a1 W1=>Ai [] W W1/\∀W2,Grown w.heap.size W1 W2->body.wpIn (Fence.wide.inRound l) n P (fun e a' w'=>tY exits F I Xr Xe (pre++[x]) W2 e a' [] w') a1 W2) (fun _ _ _=>False)) { tmps:=(ps.zip (⟨Dn.Fc _ x⟩:Array Value)).foldl (fun t (p,v)=>t.setIfInBounds p v) a.tmps,defers:=[] } W)
 (qD:∀(pre:List (Dn dK)) (W0 W:World) (D:Nat),pre<+:xs->Xr pre W0->Grown w.heap.size W0 W->w.heap.size<=D->W.heap[D]? =some (.deferred (some []))->Q .ret { a with defers:=mk D::a.defers } W)
 (hex:∀id∈exits,∀(pre:List (Dn dK)) (W0 W:World) (D:Nat),pre<+:xs->Xe id pre W0->Grown w.heap.size W0 W->w.heap.size<=D->W.heap[D]? =some (.deferred (some []))->Q (.exit id) { a with defers:=mk D::a.defers } W)
 (zM:∀(F:List Nat) (W0 W:World) (D:Nat),I F xs W0->Grown w.heap.size W0 W->w.heap.size<=D->W.heap[D]? =some (.deferred (some []))->Q .normal { a with defers:=mk D::a.defers } W):
 (Code.rangeFunc g ps assign body).wpIn Fence.wide n P Q a w:=by
 refine wpIn_rangeFunc fun fn _=> ?_
 obtain⟨D,hD⟩:∃D,D=w.heap.size:=⟨_,rfl⟩
 obtain⟨r,hr⟩:∃r:Loop,r= { state:= .ready,pending:=none,fn,tmps:=a.tmps,params:=ps,assign,body,defers:=w.heap.size } :=⟨_,rfl⟩
 obtain⟨W1,xb⟩:∃W1,W1=(w.alloc (.deferred (some []))).alloc (.loop r):=⟨_,rfl⟩
 have Ix:Grown w.heap.size w W1:=by
  refine(Grown.of (World.grownBy_alloc w (.deferred (some [])) none) (fun r e=>by cases e)).trans ?_;rw [xb];exact Grown.of (World.grownBy_alloc _ _ none) (fun r e=>by cases e)
 have XJ:W1.heap[D]? =some (.deferred (some [])):=by
  rw [xb,hD];exact(Below.heap_alloc _ _ _ (by simp)).trans (World.alloc_heap_new w _)
 have XK:W1.heap[D+1]? =some (.loop r):=by
  rw [xb,hD];have:=World.alloc_heap_new (w.alloc (.deferred (some []))) (.loop r);rwa [World.size_alloc]at this
 have jM:∀ {W:World} {o:Obj} (o':Obj),W.heap[D+1]? =some o->H3 o=false->Grown w.heap.size W (W.putObj (D+1) o'):=fun {W} {o} o' ho hc=>
  Grown.of (grownBy_putObj' W (D+1) o') (fun k e=>by cases e;exact⟨by omega,o,ho,hc⟩)
 have XL:∀args w,(callFunc gf args).run P w= .ok (.enter gf args) w:=by
  intro args w;unfold Cd at eM;split at eM
  ·rename_i f hf;simp only [and_eq_true,Bool.not_eq_true']at eM;have hb:f.body.isNone=false:=by cases tQ:f.body<;>simp_all
   simp only [callFunc,Sem.run_bind,run_program,Result.andThen_ok,hf,eM.2,Bool.false_eq_true,if_false,hb,Sem.run_pure]
  ·cases eM
 refine⟨D+1,[mk D],W1,{ target:= .fn (.func gf) lb,args:= #[.func (.yield (D+1)) #[] #[]] },W1,gf,#[.func (.yield (D+1)) #[] #[]]++lb,W1,?_,?_,fun _ _=>trivial,?_,fun h=>(by cases h),callsIn_wide.2 ?_⟩
 ·rw [xb,hr,hD];exact run_enterLoop_outer _ _ _ _ _
 ·simp only [resolve,hg];simp [go_sem]
 ·simp [invoke,go_sem,XL]
 let HI:List Nat->List (Dn dK)->World->Prop:=fun F pre W=>∃W0,I F pre W0/\Grown w.heap.size W0 W
 let HX:Code->List (Dn dK)->World->Prop:=fun c pre W=>match c with| .ret=>∃W0,Xr pre W0/\Grown w.heap.size W0 W| .exit id=>id∈exits/\∃W0,Xe id pre W0/\Grown w.heap.size W0 W|_=>False
 have Iy:∀c pre A B,HX c pre A->Grown w.heap.size A B->HX c pre B:=by
  intro c pre A B h hG;cases c<;>simp only [HX]at h⊢<;>first
   |exact h
   |(obtain⟨W0,h1,h2⟩:=h;exact⟨W0,h1,h2.trans hG⟩)
   |(obtain⟨h0,W0,h1,h2⟩:=h;exact⟨h0,W0,h1,h2.trans hG⟩)
 have px:∀ {A B:World} {k:Nat} {o:Obj},A.grownBy B none->A.heap[k]? =some o->B.heap[k]? =some o:=fun hg ho=>by rw [hg.block _ (Array.getElem?_eq_some_iff.1 ho).1 (by simp)];exact ho
 have Iz:∀ {A B:World},A.grownBy B none->Grown w.heap.size A B:=fun hg=>Grown.of hg (fun r e=>by cases e)
 have xc:∀k,D<=k->k∉M:=fun k hk h=>by have:=oy.1 k h;omega
 have dL:=oy.2 (D+1) (fun F pre W=>HI F pre W/\W.heap[D+1]? =some (.loop r)/\W.heap[D]? =some (.deferred (some []))/\D∉F/\D+1∉F)
  (fun pre W=>∃c,HX c pre W/\W.heap[D+1]? =some (.loop { r with state:= .done,pending:=some c })/\W.heap[D]? =some (.deferred (some []))) W1 Ix
  (fun F pre A B ⟨⟨W0,hI,hG⟩,hl,hd,hF⟩ hg=>⟨⟨W0,hI,hG.trans (Iz hg)⟩,px hg hl,px hg hd,hF⟩)
  (fun pre A B ⟨c,hX,hl,hd⟩ hg=>⟨c,Iy c pre A B hX (Iz hg),px hg hl,px hg hd⟩) ?_ ⟨⟨w,h0,Ix⟩,XK,XJ,xc _ (Nat.le_refl _),xc _ (by omega)⟩
 ·refine Calls.mono dL fun e W2 he=> ?_
  cases e with
  |panicked c=>exact he.elim
  |outgrown=>exact he.elim
  |returned v=>
   rcases he with⟨F,⟨W0,hI,hG⟩,hl,hd,_⟩|⟨pre,fU,c,hX,hl,hd⟩
   ·refine⟨none,_,by have:=run_endLoop (P:=P) hl (by rw [hr];simp);rw [hr]at this;exact this,?_⟩;exact zM F W0 _ D hI (hG.trans (jM _ hl rfl)) (by omega) ((World.putObj_heap_other (by omega)).trans hd)
   ·have py:=run_endLoop (P:=P) hl (by simp);refine⟨some c,_,py,?_⟩;have xd:=Iy c pre _ _ hX (jM (.loop { r with state:= .exhausted,pending:=some c }) hl rfl);have xe:(W2.putObj (D+1) (.loop { r with state:= .exhausted,pending:=some c })).heap[D]? =some (.deferred (some [])):=(World.putObj_heap_other (by omega)).trans hd;cases c<;>simp only [HX]at xd<;>first
     |exact xd.elim
     |(obtain⟨W0,h1,h2⟩:=xd;exact wpIn_ret (qD pre W0 _ D fU h1 h2 (by omega) xe))
     |(obtain⟨h0,W0,h1,h2⟩:=xd;exact wpIn_exit (hex _ h0 pre W0 _ D fU h1 h2 (by omega) xe))
 ·rintro F pre x W ⟨⟨W0,hI,hG⟩,hl,hd,IA,IB⟩ fU n';have hy:=run_yield (P:=P) (args:=(⟨Dn.Fc dK x⟩:Array Value)) hl (by rw [hr];simp [Dn.length,mf]);have hy:(Instr.yield (D+1) (⟨Dn.Fc dK x⟩:Array Value)).run P W= .ok (.round (D+1) fn ((ps.zip (⟨Dn.Fc dK x⟩:Array Value)).foldl (fun t (p,v)=>t.setIfInBounds p v) a.tmps) assign body) W:=by rw [hy,hr]
  have aP:D+1<W.heap.size:=(Array.getElem?_eq_some_iff.1 hl).1;refine⟨fn,_,assign,body,hy,roundIn_of_wpIn trivial (wpIn_mono (w_ F pre x W0 W hI hG fU _ _) ?_)⟩;intro e a1 W1 he;cases e with
  |normal=> ?_
  |_=>exact he
  obtain⟨iR,ca⟩:=he;have XM:=hl;have hdW:=hd;have hl:W1.heap[D+1]? =some (.loop r):=(iR.block _ aP (by simp)).trans hl;have hd:W1.heap[D]? =some (.deferred (some [])):=(iR.block _ (by omega) (by simp)).trans hd;have XN:D+1<W1.heap.size:=Nat.lt_of_lt_of_le aP iR.size;refine⟨_,run_beginRound hl (by rw [hr]),wpIn_mono (ca _ (jM _ hl rfl)) ?_⟩;intro e a3 W3 hp;have eU:(W1.putObj (D+1) (.loop { r with state:= .busy })).heap.size=W1.heap.size:=by simp [World.putObj]
  have fin:Ai F (W1.putObj (D+1) (.loop { r with state:= .busy })) W3->W3.heap[D+1]? =some (.loop { r with state:= .busy })/\W3.heap[D]? =some (.deferred (some [])):=fun hk=>
   ⟨(hk.block _ (by omega) IB).trans (World.putObj_heap_same XN),(hk.block _ (by omega) IA).trans ((World.putObj_heap_other (by omega)).trans hd)⟩
  have hdj:∀jump,(W3.putObj (D+1) (.loop { r with state:=(if jump.isNone then .ready else .done),pending:=jump })).heap[D]? =W3.heap[D]? :=fun jump=>World.putObj_heap_other (by omega)
  cases e with
  |normal=>
   obtain⟨F',hk,XO⟩:=hp;obtain⟨lx,t7⟩:=fin hk.kp;have ov:∀k∈F',k∈F\/W.heap.size<=k:=fun k h=>by
    have:=hk.sub k h;rw [eU]at this;rcases this with h|h
    ·exact .inl h
    ·exact .inr (Nat.le_trans iR.size h)
   have Br2:(W3.putObj (D+1) (.loop { r with state:= .ready,pending:=none })).heap[D+1]? =some (.loop r):=by
    rw [World.putObj_heap_same (Array.getElem?_eq_some_iff.1 lx).1,hr]
   refine⟨_,_,run_endRound (P:=P) none lx,true,rfl,F',⟨⟨W3,XO,jM _ lx rfl⟩,?_,?_,?_,?_⟩,⟨?_,?_,?_,?_,?_⟩,ov⟩
   ·rw [World.putObj_heap_same (Array.getElem?_eq_some_iff.1 lx).1,hr];rfl
   ·exact(World.putObj_heap_other (by omega)).trans t7
   ·intro h;rcases ov _ h with h|h
    ·exact IA h
    ·omega
   ·intro h;rcases ov _ h with h|h
    ·exact IB h
    ·omega
   ·exact hk.kp.os.trans iR.os
   ·exact hk.kp.tape.trans iR.tape
   ·exact hk.kp.output.trans iR.output
   ·have:=hk.kp.size;have h1:=iR.size;simp only [World.putObj,Array.size_setIfInBounds]at this⊢;omega
   ·intro k ic XP;by_cases e:k=D+1
    ·subst e;rw [World.putObj_heap_same (Array.getElem?_eq_some_iff.1 lx).1,XM,hr];rfl
    ·rw [World.putObj_heap_other e,hk.kp.block k (by have:=iR.size;omega) XP,World.putObj_heap_other e];exact iR.block k ic (by simp)
  |ret=>
   obtain⟨hk,zN⟩:=hp;obtain⟨lx,t7⟩:=fin hk;refine⟨_,_,run_endRound (P:=P) (some .ret) lx,false,rfl,.ret,⟨W3,zN,jM _ lx rfl⟩,?_,(World.putObj_heap_other (by omega)).trans t7⟩;rw [World.putObj_heap_same (Array.getElem?_eq_some_iff.1 lx).1];rfl
  |exit id=>
   simp only [tY]at hp;cases hc:exits.contains id with
   |false=>rw [hc]at hp;exact hp.elim
   |true=>
    rw [hc]at hp;obtain⟨hk,zN⟩:=hp;obtain⟨lx,t7⟩:=fin hk;refine⟨_,_,run_endRound (P:=P) (some (.exit id)) lx,false,rfl,.exit id,⟨List.contains_iff_mem.1 hc,W3,zN,jM _ lx rfl⟩,?_,(World.putObj_heap_other (by omega)).trans t7⟩;rw [World.putObj_heap_same (Array.getElem?_eq_some_iff.1 lx).1];rfl
  |_=>exact(hp:False).elim
theorem XQ {P:Program} {n:Nat} {dK:List iH} {exits:List Nat} {g:Operand} {ps:Array Tmp} {assign body:Code} {Q:Exit->Act->World->Prop} {a:Act} {w:World} {gf:Nat} {lb:Array Value} (hg:a.eval g= .func (.func gf) #[] lb) (eM:Cd P gf=true) (mf:dK.length=ps.size) (_has:Ng assign=true)
 {M:List Nat} {xs:List (Dn dK)} (oy:qC P gf lb dK M xs w) {I:List Nat->List (Dn dK)->World->Prop} {Xr:List (Dn dK)->World->Prop} {Xe:Nat->List (Dn dK)->World->Prop} (h0:I M [] w)
 (w_:∀(F:List Nat) (pre:List (Dn dK)) (x:Dn dK) (W0 W:World),I F pre W0->Grown w.heap.size W0 W->(pre++[x])<+:xs->∃a1,D8 assign { tmps:=(ps.zip (⟨Dn.Fc _ x⟩:Array Value)).foldl (fun t (p,v)=>t.setIfInBounds p v) a.tmps,defers:=[] } =some a1/\
 ∀l n,body.wpIn (Fence.wide.inRound l) n P (fun e a' w'=>tY exits F I Xr Xe (pre++[x]) W e a' [] w') a1 W)
 (qD:∀(pre:List (Dn dK)) (W0 W:World) (D:Nat),pre<+:xs->Xr pre W0->Grown w.heap.size W0 W->w.heap.size<=D->W.heap[D]? =some (.deferred (some []))->Q .ret { a with defers:=mk D::a.defers } W)
 (hex:∀id∈exits,∀(pre:List (Dn dK)) (W0 W:World) (D:Nat),pre<+:xs->Xe id pre W0->Grown w.heap.size W0 W->w.heap.size<=D->W.heap[D]? =some (.deferred (some []))->Q (.exit id) { a with defers:=mk D::a.defers } W)
 (zM:∀(F:List Nat) (W0 W:World) (D:Nat),I F xs W0->Grown w.heap.size W0 W->w.heap.size<=D->W.heap[D]? =some (.deferred (some []))->Q .normal { a with defers:=mk D::a.defers } W):
 (Code.rangeFunc g ps assign body).wpIn Fence.wide n P Q a w:=by
 refine Iw hg eM mf oy h0 (fun F pre x W0 W hI hG hp l n=> ?_) qD hex zM;obtain⟨a1,t8,_⟩:=w_ F pre x W0 W hI hG hp;refine XC (.inr ⟨_,rfl⟩) t8 ⟨⟨rfl,rfl,rfl,Nat.le_refl _,fun _ _ _=>rfl⟩,fun W2 t9=> ?_⟩;obtain⟨a2,IC,di⟩:=w_ F pre x W0 W2 hI (hG.trans t9) hp;rw [t8]at IC;cases IC
 exact di _ _
theorem XR {P:Program} {ops:Array Oper} {Q:Act->World->Prop} :∀(l:List Oper) (i:Nat) (a:Act) (w:World),Eu P ops Q l i a w->Dr P [] ops Q l i a w:=by
 intro l
 induction l with
 |nil=>intro i a w h;exact h
 |cons o rest ih=>
  intro i a w h;simp only [Eu]at h;simp only [Dr];cases hw:Region.wanted o (yielded ops a.tmps)with
  |false=>rw [hw]at h;exact ih _ _ _ h
  |true=>
   rw [hw]at h;simp only [cond_true]at h⊢;split at h
   ·rename_i p hp;have kj:B0 P a.eval (Et ops.toList o)=some p:=by rw [Uc];exact hp
    refine WX kj ?_;unfold Hj;rw [kj];refine gZ.pn h fun v h=> ?_
    rw [Av]at h⊢;exact ih _ _ _ h
   ·rename_i hp;split at h
    ·rename_i t x hl;rw [Ub _ _ t x hl];have h2:Hj P a.eval o (Dz (B1 ops.toList i) fun v w'=>Dr P [] ops Q rest (i+1) (a.put o.dst v) w') w:=by
      unfold Hj;rw [hp];refine Kw h fun v w' h=> ?_
      rw [Av]at h⊢;exact ih _ _ _ h
     unfold O9;rw [hl];exact h2
    ·exact h.elim
theorem XS {P:Program} {cA:r9} :∀(c:Code) (r:Bool) (cur:Nat) (Q:QR) (a:Act) (ds:List Nat) (w:World) (G:Fence) (n:Nat),Good G->(r=false->G=Fence.wide)->a.defers=ds.map mk->B3 P cA c r cur Q a ds w->c.wpIn G n P (fun e a' w'=>∃ct,a'.defers=ct.map mk/\Q e a' ct w') a w:=by
 intro c
 induction c with
 |skip=>intro r cur Q a ds w G n hG _ hd h;exact wpIn_skip ⟨ds,hd,h⟩
 |region id ops draw=>
  intro r cur Q a ds w G n hG _ hd h;simp only [B3]at h;cases ns:ops.toList.all Be with
  |false=>rw [ns]at h;exact h.elim
  |true=>
   rw [ns]at h;simp only [cond_true]at h;have qE:∀o∈ops.toList,∀d,o.dst=some d->d∈ops.toList.filterMap (·.dst):=fun o ho d hd=>Zr ho hd
   have fin:∀a' w',Q .normal a' ds w'->Fr (ops.toList.filterMap (·.dst)) a a'->∃ct,a'.defers=ct.map mk/\Q .normal a' ct w':=fun a' w' h hf=>⟨ds,by rw [hf.defers,hd],h⟩
   split at h
   ·rename_i live _;generalize (live.filter fun i=>(ops.toList.filterMap (·.dst)).contains i)=lv at h;have hm:∀w',Fk P ops lv (fun a w=>Q .normal a ds w) a w'->Eu P ops (fun a w=>Q .normal a ds w) ops.toList 0 a w':=by
     intro w' h;unfold Fk at h;split at h
     ·rename_i ps vs hp;obtain⟨h1,h2⟩:=N6 h;refine Jg (wr:=ops.toList.filterMap (·.dst)) (a0:=a) (fun a' jr h hf=> ?_) _ _ _ _ qE (Fr.refl _ _) (Xh _ _ _ hp h1 (w:=w'));obtain⟨rfl,hv⟩:=h;have:=h2 (fun i=>a'.tmps.getD i undef);rw [←hv]at this;have e:E0 a (ops.toList.filterMap (·.dst)) (fun i=>a'.tmps.getD i undef) lv (wT a' lv)=a':=E1 hf lv;rw [e]at this;exact this
     ·exact h.elim
    cases draw with
    |false=>
     have h2:=Jg (wr:=ops.toList.filterMap (·.dst)) (a0:=a) fin _ _ _ _ qE (Fr.refl _ _) (hm _ h);have h3:Dr P [] ops (fun a' w'=>∃ct,a'.defers=ct.map mk/\Q .normal a' ct w') ops.toList 0 a w:=XR _ _ _ _ h2;exact Sq hG ns h3
    |true=>
     simp only [cond_true]at h;cases hc:(P.follows .mixedOrders&&Region.lexB .any ops)with
     |false=>rw [hc]at h;exact h.elim
     |true=>
      rw [hc]at h;simp only [and_eq_true]at hc;have h2:=Jg (wr:=ops.toList.filterMap (·.dst)) (a0:=a) fin _ _ _ _ qE (Fr.refl _ _) (hm _ (h _ rfl));exact XB hG ns hc.1 hc.2 h2
   ·cases draw with
    |true=>exact XA hG ns (P3 (Q':=fun a' w'=>∃ct,a'.defers=ct.map mk/\Q .normal a' ct w') (fun a' w' h hf=>fin a' w' (XE h) hf) qE (Fr.refl _ _) h)
    |false=>exact Sq hG ns (Uf (Q':=fun a' w'=>∃ct,a'.defers=ct.map mk/\Q .normal a' ct w') fin _ _ _ _ qE (Fr.refl _ _) h)
 |seq x y gT gU=>
  intro r cur Q a ds w G n hG hr hd h;simp only [B3]at h;split at h
  ·rename_i live _;cases js:Code.gL x with
   |false=>rw [js]at h;exact h.elim
   |true=>
    rw [js]at h;simp only [cond_true]at h;generalize Ev (Code.writes x) live=lv at h;obtain⟨J,h1,h2⟩:=h;have h3:=Oc (wr:=Code.writes x) (a0:=a) (b:=true) (nr:=ds) (d0:=a.defers) x r _ _ (fun e a' ct w'=>(Exit.then (fun a' w'=>Inv.at _ J (Fc a' (lv.map (·.1))) w') (fun e a w=>Q e a ds w)) e a' w'/\j2 (Code.writes x) a a'/\ct=ds/\a'.defers=a.defers) a ds w (fun _ h=>h) (fun _=>js)
     (fun e a' ct w' h hf hs=>⟨h,hf,(hs rfl).1,(hs rfl).2⟩) (j2.refl _ _) (fun _=>⟨rfl,rfl⟩) h1
    refine wpIn_seq (wpIn_mono (gT r _ _ _ _ _ G n hG hr hd h3) ?_);rintro e a' w' ⟨ct,dU,he,hf,rfl,xf⟩;cases e with
    |normal=>
     have dq:Fr (Code.writes x) a a':=⟨hf.size,xf,hf.same⟩
     have h4:=Gx _ _ _ _ _ he (h2 (fun i=>a'.tmps.getD i undef)) w' he;rw [E1 dq]at h4;exact gU r _ _ _ _ _ G n hG hr (by rw [xf,hd]) h4
    |_=>exact⟨ct,dU,he⟩
  ·refine wpIn_seq (wpIn_mono (gT r _ _ _ _ _ G n hG hr hd h) ?_);rintro e a' w' ⟨ct,dU,he⟩;cases e with
   |normal=>exact gU r _ _ _ _ _ G n hG hr dU he
   |_=>exact⟨ct,dU,he⟩
 |cond c x y gT gU=>
  intro r cur Q a ds w G n hG hr hd h;simp only [B3]at h;split at h
  ·rename_i b hb;refine wpIn_cond hb ?_;cases b with
   |true=>exact gT r _ _ _ _ _ G n hG hr hd h
   |false=>exact gU r _ _ _ _ _ G n hG hr hd h
  ·exact h.elim
 |block id c ih=>
  intro r cur Q a ds w G n hG hr hd h;refine wpIn_block (wpIn_mono (ih r _ _ _ _ _ G n hG hr hd h) ?_);rintro e a' w' ⟨ct,dU,he⟩;cases e with
  |exit tT=>
   simp only [QR.inBlock,Exit.inBlock]at he⊢;split
   ·rename_i heq;simp only [heq,if_true]at he;exact⟨ct,dU,he⟩
   ·rename_i cf;simp only [cf,if_false]at he;exact⟨ct,dU,he⟩
  |_=>exact⟨ct,dU,he⟩
 |loop c ih=>
  intro r cur Q a ds w G n hG hr hd h;simp only [B3]at h;cases hu:Ec cA.zK cur with
  |some m=>
   rw [hu]at h;simp only at h;refine wpIn_loop_rounds m ?_;clear hu
   induction m generalizing a ds w with
   |zero=>exact h.elim
   |succ m XT=>
    refine wpIn_mono (ih r _ _ _ _ _ G n hG hr hd h) ?_;rintro e a' w' ⟨ct,dU,he⟩;cases e with
    |normal=>exact XT _ _ _ dU he
    |_=>exact⟨ct,dU,he⟩
  |none=>
  rw [hu]at h;simp only at h;cases js:Code.gL c with
  |true=>
   rw [js]at h;simp only [cond_true,V0]at h;obtain⟨I,μ,h0,h1⟩:=h;generalize (Ev (Code.writes c) ((Ec cA.loops cur).getD []))=live at I μ h0 h1;refine wpIn_loop (fun a' w'=>Fr (Code.writes c) a a'/\Inv.at _ I (Fc a' (live.map (·.1))) w') (fun a' w'=>ib.at _ μ (Fc a' (live.map (·.1))) w') ⟨Fr.refl _ _,h0⟩ fun a' w' ⟨hf,hI⟩=> ?_
   have h2:=Gx _ _ _ _ _ hI (h1 (fun i=>a'.tmps.getD i undef)) w' hI;rw [E1 hf]at h2;have dU:a'.defers=ds.map mk:=by rw [hf.defers,hd]
   refine wpIn_mono (ih r _ _ _ _ _ G n hG hr dU (Oc (wr:=Code.writes c) (a0:=a') (b:=true) (nr:=ds) (d0:=a'.defers) c r _ _ (fun e jK ct jr=>(Exit.then _ (fun e a w=>Q e a ds w)) e jK jr/\j2 (Code.writes c) a' jK/\ct=ds/\jK.defers=a'.defers) a' ds w' (fun _ h=>h) (fun _=>js)
    (fun e a ct w h hf hs=>⟨h,hf,(hs rfl).1,(hs rfl).2⟩) (j2.refl _ _) (fun _=>⟨rfl,rfl⟩) h2)) ?_
   rintro e jK jr ⟨ct,xg,he,dq,rfl,xf⟩;cases e with
   |normal=>exact⟨⟨⟨dq.size.trans hf.size,xf.trans hf.defers,fun i hi=>(dq.same i hi).trans (hf.same i hi)⟩,he.1⟩,he.2⟩
   |_=>exact⟨ct,xg,he⟩
  |false=>
   rw [js]at h;simp only [cond_false]at h;obtain⟨I,μ,h0,hm,h1⟩:=h;generalize (Ev (Code.writes c) ((Ec cA.loops cur).getD []))=live at I μ h0 h1;refine wpIn_loop (fun a' w'=>j2 (Code.writes c) a a'/\∃es,Inv.at _ (I es) (Fc a' (live.map (·.1))) w'/\a'.defers=es.map mk/\Cc es w') (fun a' w'=>ib.at _ μ (Fc a' (live.map (·.1))) w') ⟨j2.refl _ _,ds,h0,hd,hm⟩ fun a' w' ⟨hf,es,hI,ID,hM⟩=> ?_
   have h2:=Gx _ _ _ _ _ hI (h1 (fun i=>a'.tmps.getD i undef) es) w' hI hM;have XU: { (E0 a (Code.writes c) (fun i=>a'.tmps.getD i undef) (live.map (·.1)) (Fc a' (live.map (·.1))))with defers:=es.map mk } =a':=by
    have zO:Fr (Code.writes c) { a with defers:=a'.defers } a':=hf.fr;have:=E1 zO (live.map (·.1));rw [←ID];have e2:({ (E0 a (Code.writes c) (fun i=>a'.tmps.getD i undef) (live.map (·.1)) (Fc a' (live.map (·.1))))with defers:=a'.defers } :Act)=E0 { a with defers:=a'.defers } (Code.writes c) (fun i=>a'.tmps.getD i undef) (live.map (·.1)) (Fc a' (live.map (·.1))):=rfl;rw [e2,this]
   rw [XU]at h2;refine wpIn_mono (ih r _ _ _ _ _ G n hG hr ID (Oc (wr:=Code.writes c) (a0:=a') (b:=false) (nr:=[]) (d0:=[]) c r _ _ (fun e jK ct jr=>(QR.then _ Q) e jK ct jr/\j2 (Code.writes c) a' jK) a' es w' (fun _ h=>h) (fun h=>by cases h)
    (fun e a ct w h hf _=>⟨h,hf⟩) (j2.refl _ _) (fun h=>by cases h) h2)) ?_
   rintro e jK jr ⟨ct,xg,he,dq⟩;cases e with
   |normal=>exact⟨⟨⟨dq.size.trans hf.size,fun i hi=>(dq.same i hi).trans (hf.same i hi)⟩,ct,he.1,xg,he.2.2⟩,he.2.1⟩
   |_=>exact⟨ct,xg,he⟩
 |exit id=>intro r cur Q a ds w G n hG _ hd h;exact wpIn_exit ⟨ds,hd,h⟩
 |label l=>intro r cur Q a ds w G n hG _ hd h;exact wpIn_label ⟨ds,hd,h⟩
 |ret=>intro r cur Q a ds w G n hG _ hd h;exact wpIn_ret ⟨ds,hd,h⟩
 |rangeFunc g ps assign body XV IE=>
  intro r cur Q a ds w G n hG hr hd h;simp only [B3]at h;cases hc:(r|| !Code.gL body|| !(((Ec cA.ranges cur).getD []).length==ps.size)|| !Code.gL assign)with
  |true=>rw [hc]at h;exact h.elim
  |false=>
   rw [hc]at h;simp only [cond_false]at h;simp only [Bool.or_eq_false_iff,Bool.not_eq_false',beq_iff_eq]at hc;obtain⟨⟨⟨XW,js⟩,mf⟩,has⟩:=hc;have zP:=hr XW;subst zP;unfold zL at h;split at h
   ·rename_i gf first lb hg
    cases ht:(first.size==0&&Cd P gf)with
    |false=>rw [ht]at h;exact h.elim
    |true=>
     rw [ht]at h;simp only [and_eq_true,beq_iff_eq]at ht;have e1:first= #[]:=Array.eq_empty_of_size_eq_zero ht.1
     subst e1;obtain⟨M,xs,oy,I,Xr,Xe,h0,h1,h2,h3⟩:=h;obtain⟨h3,h4⟩:=Ip h3;have pz:∀D,({ a with defers:=mk D::a.defers } :Act).defers=(D::ds).map mk:=fun D=>by simp [hd]
     cases has:Ng assign with
     |true=>
      rw [has]at h1;refine wpIn_wide.2 (wpIn_wide.1 (XQ (n:=0) (exits:=dedup (Code.leaves body [])) hg ht.2 mf has oy h0 (fun F pre x W0 W hI zQ hN=> ?_) (fun pre W0 W D k1 k2 k3 k4 k5=>⟨D::ds,pz D,h2 pre W0 W D k1 k2 k3 k4 k5⟩)
       (fun id t_ pre W0 W D k1 k2 k3 k4 k5=>⟨D::ds,pz D,h3 id t_ pre W0 W D k1 k2 k3 k4 k5⟩) (fun F W0 W D k2 k3 k4 k5=>⟨D::ds,pz D,h4 F W0 W D k2 k3 k4 k5⟩)))
      have hx:=Dn.r8 (h1 F pre) x W0 W hI zQ hN;simp only [cond_true]at hx;split at hx
      ·rename_i a1 t8;refine⟨a1,t8,fun l n=> ?_⟩;have zR:a1.defers=([]:List Nat).map mk:=by
        have:=Ug t8;simpa using this
       refine wpIn_mono (IE true _ _ _ _ _ (Fence.wide.inRound l) n (.inr ⟨l,rfl⟩) (fun h=>by cases h) zR hx) ?_;rintro e a' w' ⟨ct,_,he⟩;cases e<;>exact he
      ·exact hx.elim
     |false=>
      rw [has]at h1;refine wpIn_wide.2 (wpIn_wide.1 (Iw (n:=0) (exits:=dedup (Code.leaves body [])) hg ht.2 mf oy h0 (fun F pre x W0 W hI zQ hN l n=> ?_) (fun pre W0 W D k1 k2 k3 k4 k5=>⟨D::ds,pz D,h2 pre W0 W D k1 k2 k3 k4 k5⟩)
       (fun id t_ pre W0 W D k1 k2 k3 k4 k5=>⟨D::ds,pz D,h3 id t_ pre W0 W D k1 k2 k3 k4 k5⟩) (fun F W0 W D k2 k3 k4 k5=>⟨D::ds,pz D,h4 F W0 W D k2 k3 k4 k5⟩)))
      have hx:=Dn.r8 (h1 F pre) x W0 W hI zQ hN;simp only [cond_false]at hx;refine wpIn_mono (XV true _ _ _ [] _ (Fence.wide.inRound l) n (.inr ⟨l,rfl⟩) (fun h=>by cases h) rfl hx) ?_;rintro e a1 W1 ⟨np,zR,he⟩;cases e with
      |normal=>
       obtain⟨hk,rfl,he⟩:=he;refine⟨hk,fun W2 t9=> ?_⟩;refine wpIn_mono (IE true _ _ _ _ _ (Fence.wide.inRound l) n (.inr ⟨l,rfl⟩) (fun h=>by cases h) zR (he W2 t9)) ?_;rintro e a' w' ⟨ct,_,he⟩;cases e<;>exact he
      |_=>exact he
   ·exact h.elim
 |_=>intro r cur Q a ds w G n _ _ _ h;exact h.elim
def IG (P:Program) (fn:Func) (K:Value->World->Prop):QR
 | .ret,a,ds,w=>Cc ds w/\P5 P a.tmps fn.results.toList (fun vs=>K (Ja vs) (shut ds w)) (shut ds w)
 | .normal,a,ds,w=>Cc ds w/\P5 P a.tmps fn.results.toList (fun vs=>K (Ja vs) (shut ds w)) (shut ds w)
 |_,_,_,_=>False
def zS (P:Program) (fn:Func) (cA:r9) (args:List Value) (K:Value->World->Prop) (w:World):Prop:=
 match fn.body with
 |some c=>B3 P cA c false 1 (IG P fn K) { tmps:=⟨args++List.replicate (fn.ntmps-args.length) undef⟩,defers:=[] } [] w|none=>False
theorem IH {ds:List Nat} {w:World} {D:Nat} (h:Cc (D::ds) w) (o:Obj):Cc ds (w.putObj D o):=by
 obtain⟨hn,hm⟩:=h;rw [List.nodup_cons]at hn;exact⟨hn.2,fun E hE=>by rw [World.putObj_heap_other (fun e=>hn.1 (by rw [←e];exact hE))];exact hm E (by simp [hE])⟩
theorem Od {P:Program} {n:Nat} {fn:Func} {tmps:Array Value} {R:Ending->World->Prop} {v:Value} :∀(ds:List Nat) (w:World),Cc ds w->(results fn tmps).run P (shut ds w)= .ok v (shut ds w)->R (.returned v) (shut ds w)->
 LeavesInM Fence.wide n P fn tmps R (ds.map mk) .returning w
 |[],w,_,h1,h2=>⟨v,h1,h2⟩
 |D::ds,w,hm,h1,h2=>⟨by simp,.inl ⟨D,_,rfl,run_takeDeferred (hm.2 D (by simp)),Od ds _ (IH hm _) h1 h2⟩⟩
theorem XX {P:Program} {f:FuncId} {fn:Func} (cA:r9) {args:List Value} {w:World} {K:Value->World->Prop} (hf:P.funcs[f]? =some fn) (h:zS P fn cA args K w):Calls P f ⟨args⟩ w (aG K):=by
 unfold zS at h;split at h
 ·rename_i c hc;refine callsIn_wide.1 (callsIn_of_wp_marks (n:=0) hf hc trivial ?_);have ha:(⟨args⟩:Array Value)++Array.replicate (fn.ntmps-(⟨args⟩:Array Value).size) undef=⟨args++List.replicate (fn.ntmps-args.length) undef⟩:=by
   apply Array.ext';simp
  rw [ha];refine wpIn_mono (XS _ _ _ _ _ _ _ Fence.wide 0 (.inl rfl) (fun _=>rfl) rfl h) ?_;have key:∀(a':Act) (w':World) (ct:List Nat),a'.defers=ct.map mk->IG P fn K .ret a' ct w'->LeavesInM Fence.wide 0 P fn a'.tmps (aG K) a'.defers .returning w':=by
   intro a' w' ct hd he;rw [hd];obtain⟨hm,he⟩:=he;obtain⟨l',h1,h2⟩:=V1 he;exact Od ct w' hm (L6 h1) h2
  rintro e a' w' ⟨ct,hd,he⟩;cases e with
  |normal=>exact key a' w' ct hd he
  |ret=>exact key a' w' ct hd he
  |_=>exact(he:False).elim
 ·exact h.elim
theorem Rl {P:Program} {f:FuncId} {fn:Func} (cA:r9) {args:List Value} {w:World} {K:Value->World->Prop} {A:Prop}
 (hf:P.funcs[f]? =some fn) (he:A=zS P fn cA args K w) (h:A):Calls P f ⟨args⟩ w (aG K):=XX cA hf (he▸h)
end Go.Vc
