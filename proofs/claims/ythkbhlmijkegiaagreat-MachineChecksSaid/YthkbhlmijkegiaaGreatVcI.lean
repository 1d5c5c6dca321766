/- The conditions of Go code: a library of this claim. -/
import Derived.Test.YthkbhlmijkegiaaGreatVcH
import Derived.LoopNIn
open Bool (and_eq_true)
namespace Go.Vc
open Go.RowKit (Below)
structure jX (wr:List Nat) (a a':Act):Prop where
 size:a'.tmps.size=a.tmps.size
 same:∀i,i∉wr->a'.tmps[i]? =a.tmps[i]?
theorem jX.refl (wr:List Nat) (a:Act):jX wr a a:=⟨rfl,fun _ _=>rfl⟩
theorem jX.fr {wr:List Nat} {a a':Act} (h:jX wr a a'):Fr wr { a with defers:=a'.defers } a':=⟨h.size,rfl,h.same⟩
theorem Fr.t_ {wr:List Nat} {a a':Act} {d:List Deferred} (h:Fr wr { a with defers:=d } a'):jX wr a a':=⟨h.size,h.same⟩
def wY (b:Bool) (nO:List Nat) (d0:List Deferred) (ds:List Nat) (a:Act):Prop:=b=true->ds=nO/\a.defers=d0
theorem N9 {P:Program} {cp:sA} {wr:List Nat} {a0:Act} {b:Bool} {nO:List Nat} {d0:List Deferred} :∀(c:Code) (r:Bool) (cur:Nat) (Q Q':QR) (a:Act) (ds:List Nat) (w:World),(∀i∈Code.writes c,i∈wr)->(b=true->Code.fX c=true)->(∀e a ds w,Q e a ds w->jX wr a0 a->wY b nO d0 ds a->Q' e a ds w)->jX wr a0 a->wY b nO d0 ds a->B0 P cp c r cur Q a ds w->B0 P cp c r cur Q' a ds w:=by
 intro c
 induction c with
 |skip=>intro r cur Q Q' a ds w _ _ hq hf hs h;exact hq _ _ _ _ h hf hs
 |region id ops draw=>
  intro r cur Q Q' a ds w hw _ hq hf hs h;have hd:∀o∈ops.toList,∀d,o.dst=some d->d∈wr:=fun o ho d hd=>hw d (Zh ho hd)
  simp only [B0]at h⊢;cases nP:ops.toList.all Bc with
  |false=>rw [nP]at h;exact h
  |true=>
   rw [nP]at h;simp only [cond_true]at h⊢;have sC:∀a' w',Q .normal a' ds w'->Fr wr { a0 with defers:=a.defers } a'->Q' .normal a' ds w':=fun a' w' h cZ=>hq _ _ _ _ h cZ.t_ (fun hb=>⟨(hs hb).1,by have:=cZ.defers;simp only at this;rw [this];exact(hs hb).2⟩)
   split at h
   ·rename_i live _;have hm:∀w',Fi P ops (live.filter fun i=>(ops.toList.filterMap (·.dst)).contains i) (fun a w=>Q .normal a ds w) a w'->Fi P ops (live.filter fun i=>(ops.toList.filterMap (·.dst)).contains i) (fun a w=>Q' .normal a ds w) a w':=by
     intro w' h;unfold Fi at h⊢;split at h
     ·refine N0 h fun h g=>sC _ _ (h g) (Fq hf.fr hw (fun i hi=>hw i (List.contains_iff_mem.1 (List.mem_filter.1 hi).2)) g _)
     ·exact h
    cases draw with
    |false=>exact hm _ h
    |true=>
     simp only [cond_true]at h⊢;cases hc:(P.follows .mixedOrders&&Region.lexB .any ops)with
     |false=>rw [hc]at h;exact h
     |true=>rw [hc]at h;exact fun w' jW=>hm w' (h w' jW)
   ·cases draw with
    |true=>exact Pv (fun a w h hf=>YI h fun h=>sC a w h hf) hd hf.fr h
    |false=>exact Ua (fun a w=>sC a w) _ _ _ _ hd hf.fr h
 |seq x y gq gr=>
  intro r cur Q Q' a ds w hw hn hq hf hs h;simp only [B0]at h⊢;simp only [Code.writes,List.mem_append]at hw;have sD:b=true->Code.fX x=true:=fun hb=>by have:=hn hb;simp only [Code.fX,and_eq_true]at this;exact this.1
  have wZ:b=true->Code.fX y=true:=fun hb=>by have:=hn hb;simp only [Code.fX,and_eq_true]at this;exact this.2
  split at h
  ·rename_i live _;cases jq:Code.fX x with
   |false=>rw [jq]at h;exact h
   |true=>
    rw [jq]at h;simp only [cond_true]at h⊢;obtain⟨J,h1,h2⟩:=h;refine⟨J,?_,fun g=>M7 (h2 g) fun vs h w hJ=> ?_⟩
    ·refine gq r _ _ _ _ _ _ (fun i hi=>hw i (.inl hi)) sD (fun e a' cb w' he cZ jY=> ?_) hf hs h1;cases e with
     |normal=>exact he
     |_=>exact hq _ _ _ _ he cZ (fun hb=>⟨(hs hb).1,(jY hb).2⟩)
    ·refine gr r _ _ _ _ _ _ (fun i hi=>hw i (.inr hi)) wZ hq ?_ (fun hb=>⟨(hs hb).1,(hs hb).2⟩) (h w hJ);have:=Fq hf.fr (fun i hi=>hw i (.inl hi)) (live:=(Es (Code.writes x) live).map (·.1)) (fun i hi=>by
      obtain⟨p,hp,rfl⟩:=List.mem_map.1 hi;exact hw _ (.inl (by simpa using(List.mem_filter.1 hp).2))) g vs
     exact this.t_
  ·refine gq r _ _ _ _ _ _ (fun i hi=>hw i (.inl hi)) sD (fun e a' cb w' he cZ jY=> ?_) hf hs h;cases e with
   |normal=>exact gr r _ _ _ _ _ _ (fun i hi=>hw i (.inr hi)) wZ hq cZ jY he
   |_=>exact hq _ _ _ _ he cZ jY
 |cond c x y gq gr=>
  intro r cur Q Q' a ds w hw hn hq hf hs h;simp only [B0]at h⊢;simp only [Code.writes,List.mem_append]at hw;have sD:b=true->Code.fX x=true:=fun hb=>by have:=hn hb;simp only [Code.fX,and_eq_true]at this;exact this.1
  have wZ:b=true->Code.fX y=true:=fun hb=>by have:=hn hb;simp only [Code.fX,and_eq_true]at this;exact this.2
  split at h
  ·rename_i t _;cases t with
   |true=>exact gq _ _ _ _ _ _ _ (fun i hi=>hw i (.inl hi)) sD hq hf hs h
   |false=>exact gr _ _ _ _ _ _ _ (fun i hi=>hw i (.inr hi)) wZ hq hf hs h
  ·exact h
 |block id c ih=>
  intro r cur Q Q' a ds w hw hn hq hf hs h;simp only [B0]at h⊢;refine ih _ _ _ _ _ _ _ hw hn (fun e a' cb w' he cZ jY=> ?_) hf hs h;cases e with
  |exit tR=>
   simp only [QR.inBlock]at he⊢;split
   ·rename_i heq;simp only [heq,if_true]at he;exact hq _ _ _ _ he cZ jY
   ·rename_i bZ;simp only [bZ,if_false]at he;exact hq _ _ _ _ he cZ jY
  |_=>exact hq _ _ _ _ he cZ jY
 |loop c ih=>
  intro r cur Q Q' a ds w hw hn hq hf hs h;simp only [B0]at h⊢;cases hu:D9 cp.zU cur with
  |some n=>
   rw [hu]at h;simp only at h⊢;clear hu
   induction n generalizing a ds w with
   |zero=>exact h
   |succ n YN=>
    refine ih _ _ _ _ _ _ _ hw hn (fun e a' cb w' he cZ jY=> ?_) hf hs h;cases e with
    |normal=>exact YN _ _ _ cZ jY he
    |_=>exact hq _ _ _ _ he cZ jY
  |none=>
  rw [hu]at h;simp only at h⊢;have qA:∀i∈(Es (Code.writes c) ((D9 cp.loops cur).getD [])).map (·.1),i∈wr:=by
   intro i hi;obtain⟨p,hp,rfl⟩:=List.mem_map.1 hi;have:=(List.mem_filter.1 hp).2;exact hw _ (by simp only [Code.writes];simpa using this)
  cases jq:Code.fX c with
  |true=>
   rw [jq]at h;simp only [cond_true,Vs]at h⊢;obtain⟨I,μ,h0,h1⟩:=h;refine⟨I,μ,h0,fun g=>M7 (h1 g) fun vs h w hI=> ?_⟩;refine ih _ _ _ _ _ _ _ hw hn (fun e a' cb w' he cZ jY=> ?_) (Fq hf.fr hw qA g vs).t_ (fun hb=>⟨(hs hb).1,(hs hb).2⟩) (h w hI);cases e with
   |normal=>exact he
   |_=>exact hq _ _ _ _ he cZ (fun hb=>⟨(hs hb).1,(jY hb).2⟩)
  |false=>
   rw [jq]at h;simp only [cond_false]at h⊢;have hb:b=false:=by
    cases hb:b with
    |false=>rfl
    |true=>have:=hn hb;simp only [Code.fX]at this;rw [this]at jq;cases jq
   have dU:∀ds a,wY b nO d0 ds a:=fun ds a h=>by rw [hb]at h;cases h
   obtain⟨I,μ,h0,hm,h1⟩:=h;refine⟨I,μ,h0,hm,fun g es=>M7 (h1 g es) fun vs h w hI hM=> ?_⟩;have jL:jX wr a0 { (Ex a (Code.writes c) g ((Es (Code.writes c) ((D9 cp.loops cur).getD [])).map (·.1)) vs)with defers:=es.map mk } :=⟨(Fq hf.fr hw qA g vs).t_.size,(Fq hf.fr hw qA g vs).t_.same⟩
   refine ih _ _ _ _ _ _ _ hw (fun h=>by rw [hb]at h;cases h) (fun e a' cb w' he cZ jY=> ?_) jL (dU _ _) (h w hI hM);cases e with
   |normal=>exact he
   |_=>exact hq _ _ _ _ he cZ jY
 |exit id=>intro r cur Q Q' a ds w _ _ hq hf hs h;exact hq _ _ _ _ h hf hs
 |label l=>intro r cur Q Q' a ds w _ _ hq hf hs h;exact hq _ _ _ _ h hf hs
 |ret=>intro r cur Q Q' a ds w _ _ hq hf hs h;exact hq _ _ _ _ h hf hs
 |rangeFunc g ps assign body _ _=>
  intro r cur Q Q' a ds w hw hn hq hf hs h;have hb:b=false:=by
   cases hb:b with
   |false=>rfl
   |true=>have:=hn hb;cases this
  have dU:∀ds a,wY b nO d0 ds a:=fun ds a h=>by rw [hb]at h;cases h
  have jL:∀d,jX wr a0 { a with defers:=d } :=fun d=>⟨hf.size,hf.same⟩
  simp only [B0]at h⊢
  revert h
  generalize (r|| !Code.fX body|| !(((D9 cp.ranges cur).getD []).length==ps.size)|| !Code.fX assign)=t;intro h;cases t with
  |true=>exact h
  |false=>
   simp only [cond_false]at h⊢;unfold zV at h⊢;split at h
   ·rename_i gf first lb _
    revert h
    generalize (first.size==0&&Cc P gf)=t;intro h;cases t with
    |false=>exact h
    |true=>
     obtain⟨M,xs,oB,I,Xr,Xe,h0,h1,h2,h3⟩:=h;refine⟨M,xs,oB,I,Xr,Xe,h0,h1,fun pre W0 W D k1 k2 k3 k4 k5=>hq _ _ _ _ (h2 pre W0 W D k1 k2 k3 k4 k5) (jL _) (dU _ _),IP h3 (fun id h pre W0 W D k1 k2 k3 k4 k5=>hq _ _ _ _ (h pre W0 W D k1 k2 k3 k4 k5) (jL _) (dU _ _)) fun h F W0 W D k2 k3 k4 k5=>hq _ _ _ _ (h F W0 W D k2 k3 k4 k5) (jL _) (dU _ _)⟩
   ·exact h
 |_=>intros;rename_i h;exact h.elim
theorem IW {P:Program} {n:Nat} {dp:List iw} {exits:List Nat} {g:Operand} {ps:Array Tmp} {assign body:Code} {Q:Exit->Act->World->Prop} {a:Act} {w:World} {gf:Nat} {lb:Array Value} (hg:a.eval g= .func (.func gf) #[] lb) (eu:Cc P gf=true) (mh:dp.length=ps.size)
 {M:List Nat} {xs:List (Dn dp)} (oB:qI P gf lb dp M xs w) {I:List Nat->List (Dn dp)->World->Prop} {Xr:List (Dn dp)->World->Prop} {Xe:Nat->List (Dn dp)->World->Prop} (h0:I M [] w)
 (w_:∀(F:List Nat) (pre:List (Dn dp)) (x:Dn dp) (W0 W:World),I F pre W0->Grown w.heap.size W0 W->(pre++[x])<+:xs->
 ∀l n,assign.wpIn (Fence.wide.inRound l) n P (Exit.then (fun a1 W1=>Ai [] W W1/\∀W2,Grown w.heap.size W1 W2->body.wpIn (Fence.wide.inRound l) n P (fun e a' w'=>t9 exits F I Xr Xe (pre++[x]) W2 e a' [] w') a1 W2) (fun _ _ _=>False)) { tmps:=(ps.zip (⟨Dn.Fb _ x⟩:Array Value)).foldl (fun t (p,v)=>t.setIfInBounds p v) a.tmps,defers:=[] } W)
 (qJ:∀(pre:List (Dn dp)) (W0 W:World) (D:Nat),pre<+:xs->Xr pre W0->Grown w.heap.size W0 W->w.heap.size<=D->W.heap[D]? =some (.deferred (some []))->Q .ret { a with defers:=mk D::a.defers } W)
 (hex:∀id∈exits,∀(pre:List (Dn dp)) (W0 W:World) (D:Nat),pre<+:xs->Xe id pre W0->Grown w.heap.size W0 W->w.heap.size<=D->W.heap[D]? =some (.deferred (some []))->Q (.exit id) { a with defers:=mk D::a.defers } W)
 (zW:∀(F:List Nat) (W0 W:World) (D:Nat),I F xs W0->Grown w.heap.size W0 W->w.heap.size<=D->W.heap[D]? =some (.deferred (some []))->Q .normal { a with defers:=mk D::a.defers } W):
 (Code.rangeFunc g ps assign body).wpIn Fence.wide n P Q a w:=by
 refine wpIn_rangeFunc fun fn _=> ?_
 obtain⟨D,hD⟩:∃D,D=w.heap.size:=⟨_,rfl⟩
 obtain⟨r,hr⟩:∃r:Loop,r= { state:= .ready,pending:=none,fn,tmps:=a.tmps,params:=ps,assign,body,defers:=w.heap.size } :=⟨_,rfl⟩
 obtain⟨W1,xb⟩:∃W1,W1=(w.alloc (.deferred (some []))).alloc (.loop r):=⟨_,rfl⟩
 have IX:Grown w.heap.size w W1:=by
  refine(Grown.of (World.grownBy_alloc w (.deferred (some [])) none) (fun r e=>by cases e)).trans ?_;rw [xb];exact Grown.of (World.grownBy_alloc _ _ none) (fun r e=>by cases e)
 have YO:W1.heap[D]? =some (.deferred (some [])):=by
  rw [xb,hD];exact(Below.heap_alloc _ _ _ (by simp)).trans (World.alloc_heap_new w _)
 have YP:W1.heap[D+1]? =some (.loop r):=by
  rw [xb,hD];have:=World.alloc_heap_new (w.alloc (.deferred (some []))) (.loop r);rwa [World.size_alloc]at this
 have jM:∀ {W:World} {o:Obj} (o':Obj),W.heap[D+1]? =some o->Hz o=false->Grown w.heap.size W (W.putObj (D+1) o'):=fun {W} {o} o' ho hc=>
  Grown.of (grownBy_putObj' W (D+1) o') (fun k e=>by cases e;exact⟨by omega,o,ho,hc⟩)
 have YQ:∀args w,(callFunc gf args).run P w= .ok (.enter gf args) w:=by
  intro args w;unfold Cc at eu;split at eu
  ·rename_i f hf;simp only [and_eq_true,Bool.not_eq_true']at eu;have hb:f.body.isNone=false:=by cases tN:f.body<;>simp_all
   simp only [callFunc,Sem.run_bind,run_program,Result.andThen_ok,hf,eu.2,Bool.false_eq_true,if_false,hb,Sem.run_pure]
  ·cases eu
 refine⟨D+1,[mk D],W1,{ target:= .fn (.func gf) lb,args:= #[.func (.yield (D+1)) #[] #[]] },W1,gf,#[.func (.yield (D+1)) #[] #[]]++lb,W1,?_,?_,fun _ _=>trivial,?_,fun h=>(by cases h),callsIn_wide.2 ?_⟩
 ·rw [xb,hr,hD];exact run_enterLoop_outer _ _ _ _ _
 ·simp only [resolve,hg];simp [go_sem]
 ·simp [invoke,go_sem,YQ]
 let HI:List Nat->List (Dn dp)->World->Prop:=fun F pre W=>∃W0,I F pre W0/\Grown w.heap.size W0 W
 let HX:Code->List (Dn dp)->World->Prop:=fun c pre W=>match c with| .ret=>∃W0,Xr pre W0/\Grown w.heap.size W0 W| .exit id=>id∈exits/\∃W0,Xe id pre W0/\Grown w.heap.size W0 W|_=>False
 have IY:∀c pre A B,HX c pre A->Grown w.heap.size A B->HX c pre B:=by
  intro c pre A B h hG;cases c<;>simp only [HX]at h⊢<;>first
   |exact h
   |(obtain⟨W0,h1,h2⟩:=h;exact⟨W0,h1,h2.trans hG⟩)
   |(obtain⟨h0,W0,h1,h2⟩:=h;exact⟨h0,W0,h1,h2.trans hG⟩)
 have pG:∀ {A B:World} {k:Nat} {o:Obj},A.grownBy B none->A.heap[k]? =some o->B.heap[k]? =some o:=fun hg ho=>by rw [hg.block _ (Array.getElem?_eq_some_iff.1 ho).1 (by simp)];exact ho
 have IZ:∀ {A B:World},A.grownBy B none->Grown w.heap.size A B:=fun hg=>Grown.of hg (fun r e=>by cases e)
 have xc:∀k,D<=k->k∉M:=fun k hk h=>by have:=oB.1 k h;omega
 have dq:=oB.2 (D+1) (fun F pre W=>HI F pre W/\W.heap[D+1]? =some (.loop r)/\W.heap[D]? =some (.deferred (some []))/\D∉F/\D+1∉F)
  (fun pre W=>∃c,HX c pre W/\W.heap[D+1]? =some (.loop { r with state:= .done,pending:=some c })/\W.heap[D]? =some (.deferred (some []))) W1 IX
  (fun F pre A B ⟨⟨W0,hI,hG⟩,hl,hd,hF⟩ hg=>⟨⟨W0,hI,hG.trans (IZ hg)⟩,pG hg hl,pG hg hd,hF⟩)
  (fun pre A B ⟨c,hX,hl,hd⟩ hg=>⟨c,IY c pre A B hX (IZ hg),pG hg hl,pG hg hd⟩) ?_ ⟨⟨w,h0,IX⟩,YP,YO,xc _ (Nat.le_refl _),xc _ (by omega)⟩
 ·refine Calls.mono dq fun e W2 he=> ?_
  cases e with
  |panicked c=>exact he.elim
  |outgrown=>exact he.elim
  |returned v=>
   rcases he with⟨F,⟨W0,hI,hG⟩,hl,hd,_⟩|⟨pre,fg,c,hX,hl,hd⟩
   ·refine⟨none,_,by have:=run_endLoop (P:=P) hl (by rw [hr];simp);rw [hr]at this;exact this,?_⟩;exact zW F W0 _ D hI (hG.trans (jM _ hl rfl)) (by omega) ((World.putObj_heap_other (by omega)).trans hd)
   ·have pH:=run_endLoop (P:=P) hl (by simp);refine⟨some c,_,pH,?_⟩;have xd:=IY c pre _ _ hX (jM (.loop { r with state:= .exhausted,pending:=some c }) hl rfl);have xe:(W2.putObj (D+1) (.loop { r with state:= .exhausted,pending:=some c })).heap[D]? =some (.deferred (some [])):=(World.putObj_heap_other (by omega)).trans hd;cases c<;>simp only [HX]at xd<;>first
     |exact xd.elim
     |(obtain⟨W0,h1,h2⟩:=xd;exact wpIn_ret (qJ pre W0 _ D fg h1 h2 (by omega) xe))
     |(obtain⟨h0,W0,h1,h2⟩:=xd;exact wpIn_exit (hex _ h0 pre W0 _ D fg h1 h2 (by omega) xe))
 ·rintro F pre x W ⟨⟨W0,hI,hG⟩,hl,hd,I0,I3⟩ fg n';have hy:=run_yield (P:=P) (args:=(⟨Dn.Fb dp x⟩:Array Value)) hl (by rw [hr];simp [Dn.length,mh]);have hy:(Instr.yield (D+1) (⟨Dn.Fb dp x⟩:Array Value)).run P W= .ok (.round (D+1) fn ((ps.zip (⟨Dn.Fb dp x⟩:Array Value)).foldl (fun t (p,v)=>t.setIfInBounds p v) a.tmps) assign body) W:=by rw [hy,hr]
  have aO:D+1<W.heap.size:=(Array.getElem?_eq_some_iff.1 hl).1;refine⟨fn,_,assign,body,hy,roundIn_of_wpIn trivial (wpIn_mono (w_ F pre x W0 W hI hG fg _ _) ?_)⟩;intro e a1 W1 he;cases e with
  |normal=> ?_
  |_=>exact he
  obtain⟨iM,cg⟩:=he;have YR:=hl;have hdW:=hd;have hl:W1.heap[D+1]? =some (.loop r):=(iM.block _ aO (by simp)).trans hl;have hd:W1.heap[D]? =some (.deferred (some [])):=(iM.block _ (by omega) (by simp)).trans hd;have YS:D+1<W1.heap.size:=Nat.lt_of_lt_of_le aO iM.size;refine⟨_,run_beginRound hl (by rw [hr]),wpIn_mono (cg _ (jM _ hl rfl)) ?_⟩;intro e a3 W3 hp;have eb:(W1.putObj (D+1) (.loop { r with state:= .busy })).heap.size=W1.heap.size:=by simp [World.putObj]
  have fin:Ai F (W1.putObj (D+1) (.loop { r with state:= .busy })) W3->W3.heap[D+1]? =some (.loop { r with state:= .busy })/\W3.heap[D]? =some (.deferred (some [])):=fun hk=>
   ⟨(hk.block _ (by omega) I3).trans (World.putObj_heap_same YS),(hk.block _ (by omega) I0).trans ((World.putObj_heap_other (by omega)).trans hd)⟩
  have hdj:∀jump,(W3.putObj (D+1) (.loop { r with state:=(if jump.isNone then .ready else .done),pending:=jump })).heap[D]? =W3.heap[D]? :=fun jump=>World.putObj_heap_other (by omega)
  cases e with
  |normal=>
   obtain⟨F',hk,YT⟩:=hp;obtain⟨lK,ua⟩:=fin hk.kp;have oq:∀k∈F',k∈F\/W.heap.size<=k:=fun k h=>by
    have:=hk.sub k h;rw [eb]at this;rcases this with h|h
    ·exact .inl h
    ·exact .inr (Nat.le_trans iM.size h)
   have Brw:(W3.putObj (D+1) (.loop { r with state:= .ready,pending:=none })).heap[D+1]? =some (.loop r):=by
    rw [World.putObj_heap_same (Array.getElem?_eq_some_iff.1 lK).1,hr]
   refine⟨_,_,run_endRound (P:=P) none lK,true,rfl,F',⟨⟨W3,YT,jM _ lK rfl⟩,?_,?_,?_,?_⟩,⟨?_,?_,?_,?_,?_⟩,oq⟩
   ·rw [World.putObj_heap_same (Array.getElem?_eq_some_iff.1 lK).1,hr];rfl
   ·exact(World.putObj_heap_other (by omega)).trans ua
   ·intro h;rcases oq _ h with h|h
    ·exact I0 h
    ·omega
   ·intro h;rcases oq _ h with h|h
    ·exact I3 h
    ·omega
   ·exact hk.kp.os.trans iM.os
   ·exact hk.kp.tape.trans iM.tape
   ·exact hk.kp.output.trans iM.output
   ·have:=hk.kp.size;have h1:=iM.size;simp only [World.putObj,Array.size_setIfInBounds]at this⊢;omega
   ·intro k gR YU;by_cases e:k=D+1
    ·subst e;rw [World.putObj_heap_same (Array.getElem?_eq_some_iff.1 lK).1,YR,hr];rfl
    ·rw [World.putObj_heap_other e,hk.kp.block k (by have:=iM.size;omega) YU,World.putObj_heap_other e];exact iM.block k gR (by simp)
  |ret=>
   obtain⟨hk,zX⟩:=hp;obtain⟨lK,ua⟩:=fin hk;refine⟨_,_,run_endRound (P:=P) (some .ret) lK,false,rfl,.ret,⟨W3,zX,jM _ lK rfl⟩,?_,(World.putObj_heap_other (by omega)).trans ua⟩;rw [World.putObj_heap_same (Array.getElem?_eq_some_iff.1 lK).1];rfl
  |exit id=>
   simp only [t9]at hp;cases hc:exits.contains id with
   |false=>rw [hc]at hp;exact hp.elim
   |true=>
    rw [hc]at hp;obtain⟨hk,zX⟩:=hp;obtain⟨lK,ua⟩:=fin hk;refine⟨_,_,run_endRound (P:=P) (some (.exit id)) lK,false,rfl,.exit id,⟨List.contains_iff_mem.1 hc,W3,zX,jM _ lK rfl⟩,?_,(World.putObj_heap_other (by omega)).trans ua⟩;rw [World.putObj_heap_same (Array.getElem?_eq_some_iff.1 lK).1];rfl
  |_=>exact(hp:False).elim
theorem YV {P:Program} {n:Nat} {dp:List iw} {exits:List Nat} {g:Operand} {ps:Array Tmp} {assign body:Code} {Q:Exit->Act->World->Prop} {a:Act} {w:World} {gf:Nat} {lb:Array Value} (hg:a.eval g= .func (.func gf) #[] lb) (eu:Cc P gf=true) (mh:dp.length=ps.size) (_has:Nc assign=true)
 {M:List Nat} {xs:List (Dn dp)} (oB:qI P gf lb dp M xs w) {I:List Nat->List (Dn dp)->World->Prop} {Xr:List (Dn dp)->World->Prop} {Xe:Nat->List (Dn dp)->World->Prop} (h0:I M [] w)
 (w_:∀(F:List Nat) (pre:List (Dn dp)) (x:Dn dp) (W0 W:World),I F pre W0->Grown w.heap.size W0 W->(pre++[x])<+:xs->∃a1,D5 assign { tmps:=(ps.zip (⟨Dn.Fb _ x⟩:Array Value)).foldl (fun t (p,v)=>t.setIfInBounds p v) a.tmps,defers:=[] } =some a1/\
 ∀l n,body.wpIn (Fence.wide.inRound l) n P (fun e a' w'=>t9 exits F I Xr Xe (pre++[x]) W e a' [] w') a1 W)
 (qJ:∀(pre:List (Dn dp)) (W0 W:World) (D:Nat),pre<+:xs->Xr pre W0->Grown w.heap.size W0 W->w.heap.size<=D->W.heap[D]? =some (.deferred (some []))->Q .ret { a with defers:=mk D::a.defers } W)
 (hex:∀id∈exits,∀(pre:List (Dn dp)) (W0 W:World) (D:Nat),pre<+:xs->Xe id pre W0->Grown w.heap.size W0 W->w.heap.size<=D->W.heap[D]? =some (.deferred (some []))->Q (.exit id) { a with defers:=mk D::a.defers } W)
 (zW:∀(F:List Nat) (W0 W:World) (D:Nat),I F xs W0->Grown w.heap.size W0 W->w.heap.size<=D->W.heap[D]? =some (.deferred (some []))->Q .normal { a with defers:=mk D::a.defers } W):
 (Code.rangeFunc g ps assign body).wpIn Fence.wide n P Q a w:=by
 refine IW hg eu mh oB h0 (fun F pre x W0 W hI hG hp l n=> ?_) qJ hex zW;obtain⟨a1,ub,_⟩:=w_ F pre x W0 W hI hG hp;refine YH (.inr ⟨_,rfl⟩) ub ⟨⟨rfl,rfl,rfl,Nat.le_refl _,fun _ _ _=>rfl⟩,fun W2 uc=> ?_⟩;obtain⟨a2,I4,ec⟩:=w_ F pre x W0 W2 hI (hG.trans uc) hp;rw [ub]at I4;cases I4
 exact ec _ _
theorem YW {P:Program} {ops:Array Oper} {Q:Act->World->Prop} :∀(l:List Oper) (i:Nat) (a:Act) (w:World),Er P ops Q l i a w->Dp P [] ops Q l i a w:=by
 intro l
 induction l with
 |nil=>intro i a w h;exact h
 |cons o rest ih=>
  intro i a w h;simp only [Er]at h;simp only [Dp];cases hw:Region.wanted o (yielded ops a.tmps)with
  |false=>rw [hw]at h;exact ih _ _ _ h
  |true=>
   rw [hw]at h;simp only [cond_true]at h⊢;split at h
   ·rename_i p hp;have jH:Bw P a.eval (Eo ops.toList o)=some p:=by rw [T0];exact hp
    refine YA jH ?_;unfold Hj;rw [jH];refine gI.pq h fun v h=> ?_
    rw [Ar]at h⊢;exact ih _ _ _ h
   ·rename_i hp;split at h
    ·rename_i t x hl;rw [Tz _ _ t x hl];have h2:Hj P a.eval o (Dx (Bz ops.toList i) fun v w'=>Dp P [] ops Q rest (i+1) (a.put o.dst v) w') w:=by
      unfold Hj;rw [hp];refine Kw h fun v w' h=> ?_
      rw [Ar]at h⊢;exact ih _ _ _ h
     unfold O3;rw [hl];exact h2
    ·exact h.elim
theorem YX {P:Program} {cp:sA} :∀(c:Code) (r:Bool) (cur:Nat) (Q:QR) (a:Act) (ds:List Nat) (w:World) (G:Fence) (n:Nat),Good G->(r=false->G=Fence.wide)->a.defers=ds.map mk->B0 P cp c r cur Q a ds w->c.wpIn G n P (fun e a' w'=>∃cb,a'.defers=cb.map mk/\Q e a' cb w') a w:=by
 intro c
 induction c with
 |skip=>intro r cur Q a ds w G n hG _ hd h;exact wpIn_skip ⟨ds,hd,h⟩
 |region id ops draw=>
  intro r cur Q a ds w G n hG _ hd h;simp only [B0]at h;cases nP:ops.toList.all Bc with
  |false=>rw [nP]at h;exact h.elim
  |true=>
   rw [nP]at h;simp only [cond_true]at h;have qK:∀o∈ops.toList,∀d,o.dst=some d->d∈ops.toList.filterMap (·.dst):=fun o ho d hd=>Zh ho hd
   have fin:∀a' w',Q .normal a' ds w'->Fr (ops.toList.filterMap (·.dst)) a a'->∃cb,a'.defers=cb.map mk/\Q .normal a' cb w':=fun a' w' h hf=>⟨ds,by rw [hf.defers,hd],h⟩
   split at h
   ·rename_i live _;generalize (live.filter fun i=>(ops.toList.filterMap (·.dst)).contains i)=lv at h;have hm:∀w',Fi P ops lv (fun a w=>Q .normal a ds w) a w'->Er P ops (fun a w=>Q .normal a ds w) ops.toList 0 a w':=by
     intro w' h;unfold Fi at h;split at h
     ·rename_i ps vs hp;obtain⟨h1,h2⟩:=Nz h;refine Jc (wr:=ops.toList.filterMap (·.dst)) (a0:=a) (fun a' jm h hf=> ?_) _ _ _ _ qK (Fr.refl _ _) (W7 _ _ _ hp h1 (w:=w'));obtain⟨rfl,hv⟩:=h;have:=h2 (fun i=>a'.tmps.getD i undef);rw [←hv]at this;have e:Ex a (ops.toList.filterMap (·.dst)) (fun i=>a'.tmps.getD i undef) lv (wI a' lv)=a':=Ey hf lv;rw [e]at this;exact this
     ·exact h.elim
    cases draw with
    |false=>
     have h2:=Jc (wr:=ops.toList.filterMap (·.dst)) (a0:=a) fin _ _ _ _ qK (Fr.refl _ _) (hm _ h);have h3:Dp P [] ops (fun a' w'=>∃cb,a'.defers=cb.map mk/\Q .normal a' cb w') ops.toList 0 a w:=YW _ _ _ _ h2;exact Sk hG nP h3
    |true=>
     simp only [cond_true]at h;cases hc:(P.follows .mixedOrders&&Region.lexB .any ops)with
     |false=>rw [hc]at h;exact h.elim
     |true=>
      rw [hc]at h;simp only [and_eq_true]at hc;have h2:=Jc (wr:=ops.toList.filterMap (·.dst)) (a0:=a) fin _ _ _ _ qK (Fr.refl _ _) (hm _ (h _ rfl));exact YG hG nP hc.1 hc.2 h2
   ·cases draw with
    |true=>exact YF hG nP (Pv (Q':=fun a' w'=>∃cb,a'.defers=cb.map mk/\Q .normal a' cb w') (fun a' w' h hf=>fin a' w' (YJ h) hf) qK (Fr.refl _ _) h)
    |false=>exact Sk hG nP (Ua (Q':=fun a' w'=>∃cb,a'.defers=cb.map mk/\Q .normal a' cb w') fin _ _ _ _ qK (Fr.refl _ _) h)
 |seq x y gq gr=>
  intro r cur Q a ds w G n hG hr hd h;simp only [B0]at h;split at h
  ·rename_i live _;cases jq:Code.fX x with
   |false=>rw [jq]at h;exact h.elim
   |true=>
    rw [jq]at h;simp only [cond_true]at h;generalize Es (Code.writes x) live=lv at h;obtain⟨J,h1,h2⟩:=h;have h3:=N9 (wr:=Code.writes x) (a0:=a) (b:=true) (nO:=ds) (d0:=a.defers) x r _ _ (fun e a' cb w'=>(Exit.then (fun a' w'=>Inv.at _ J (Fb a' (lv.map (·.1))) w') (fun e a w=>Q e a ds w)) e a' w'/\jX (Code.writes x) a a'/\cb=ds/\a'.defers=a.defers) a ds w (fun _ h=>h) (fun _=>jq)
     (fun e a' cb w' h hf hs=>⟨h,hf,(hs rfl).1,(hs rfl).2⟩) (jX.refl _ _) (fun _=>⟨rfl,rfl⟩) h1
    refine wpIn_seq (wpIn_mono (gq r _ _ _ _ _ G n hG hr hd h3) ?_);rintro e a' w' ⟨cb,dw,he,hf,rfl,xf⟩;cases e with
    |normal=>
     have cZ:Fr (Code.writes x) a a':=⟨hf.size,xf,hf.same⟩
     have h4:=Gx _ _ _ _ _ he (h2 (fun i=>a'.tmps.getD i undef)) w' he;rw [Ey cZ]at h4;exact gr r _ _ _ _ _ G n hG hr (by rw [xf,hd]) h4
    |_=>exact⟨cb,dw,he⟩
  ·refine wpIn_seq (wpIn_mono (gq r _ _ _ _ _ G n hG hr hd h) ?_);rintro e a' w' ⟨cb,dw,he⟩;cases e with
   |normal=>exact gr r _ _ _ _ _ G n hG hr dw he
   |_=>exact⟨cb,dw,he⟩
 |cond c x y gq gr=>
  intro r cur Q a ds w G n hG hr hd h;simp only [B0]at h;split at h
  ·rename_i b hb;refine wpIn_cond hb ?_;cases b with
   |true=>exact gq r _ _ _ _ _ G n hG hr hd h
   |false=>exact gr r _ _ _ _ _ G n hG hr hd h
  ·exact h.elim
 |block id c ih=>
  intro r cur Q a ds w G n hG hr hd h;refine wpIn_block (wpIn_mono (ih r _ _ _ _ _ G n hG hr hd h) ?_);rintro e a' w' ⟨cb,dw,he⟩;cases e with
  |exit tR=>
   simp only [QR.inBlock,Exit.inBlock]at he⊢;split
   ·rename_i heq;simp only [heq,if_true]at he;exact⟨cb,dw,he⟩
   ·rename_i bZ;simp only [bZ,if_false]at he;exact⟨cb,dw,he⟩
  |_=>exact⟨cb,dw,he⟩
 |loop c ih=>
  intro r cur Q a ds w G n hG hr hd h;simp only [B0]at h;cases hu:D9 cp.zU cur with
  |some m=>
   rw [hu]at h;simp only at h;refine wpIn_loop_rounds m ?_;clear hu
   induction m generalizing a ds w with
   |zero=>exact h.elim
   |succ m YY=>
    refine wpIn_mono (ih r _ _ _ _ _ G n hG hr hd h) ?_;rintro e a' w' ⟨cb,dw,he⟩;cases e with
    |normal=>exact YY _ _ _ dw he
    |_=>exact⟨cb,dw,he⟩
  |none=>
  rw [hu]at h;simp only at h;cases jq:Code.fX c with
  |true=>
   rw [jq]at h;simp only [cond_true,Vs]at h;obtain⟨I,μ,h0,h1⟩:=h;generalize (Es (Code.writes c) ((D9 cp.loops cur).getD []))=live at I μ h0 h1;refine wpIn_loop (fun a' w'=>Fr (Code.writes c) a a'/\Inv.at _ I (Fb a' (live.map (·.1))) w') (fun a' w'=>gQ.at _ μ (Fb a' (live.map (·.1))) w') ⟨Fr.refl _ _,h0⟩ fun a' w' ⟨hf,hI⟩=> ?_
   have h2:=Gx _ _ _ _ _ hI (h1 (fun i=>a'.tmps.getD i undef)) w' hI;rw [Ey hf]at h2;have dw:a'.defers=ds.map mk:=by rw [hf.defers,hd]
   refine wpIn_mono (ih r _ _ _ _ _ G n hG hr dw (N9 (wr:=Code.writes c) (a0:=a') (b:=true) (nO:=ds) (d0:=a'.defers) c r _ _ (fun e jI cb jm=>(Exit.then _ (fun e a w=>Q e a ds w)) e jI jm/\jX (Code.writes c) a' jI/\cb=ds/\jI.defers=a'.defers) a' ds w' (fun _ h=>h) (fun _=>jq)
    (fun e a cb w h hf hs=>⟨h,hf,(hs rfl).1,(hs rfl).2⟩) (jX.refl _ _) (fun _=>⟨rfl,rfl⟩) h2)) ?_
   rintro e jI jm ⟨cb,xg,he,cZ,rfl,xf⟩;cases e with
   |normal=>exact⟨⟨⟨cZ.size.trans hf.size,xf.trans hf.defers,fun i hi=>(cZ.same i hi).trans (hf.same i hi)⟩,he.1⟩,he.2⟩
   |_=>exact⟨cb,xg,he⟩
  |false=>
   rw [jq]at h;simp only [cond_false]at h;obtain⟨I,μ,h0,hm,h1⟩:=h;generalize (Es (Code.writes c) ((D9 cp.loops cur).getD []))=live at I μ h0 h1;refine wpIn_loop (fun a' w'=>jX (Code.writes c) a a'/\∃es,Inv.at _ (I es) (Fb a' (live.map (·.1))) w'/\a'.defers=es.map mk/\Ca es w') (fun a' w'=>gQ.at _ μ (Fb a' (live.map (·.1))) w') ⟨jX.refl _ _,ds,h0,hd,hm⟩ fun a' w' ⟨hf,es,hI,I5,hM⟩=> ?_
   have h2:=Gx _ _ _ _ _ hI (h1 (fun i=>a'.tmps.getD i undef) es) w' hI hM;have YZ: { (Ex a (Code.writes c) (fun i=>a'.tmps.getD i undef) (live.map (·.1)) (Fb a' (live.map (·.1))))with defers:=es.map mk } =a':=by
    have zY:Fr (Code.writes c) { a with defers:=a'.defers } a':=hf.fr;have:=Ey zY (live.map (·.1));rw [←I5];have e2:({ (Ex a (Code.writes c) (fun i=>a'.tmps.getD i undef) (live.map (·.1)) (Fb a' (live.map (·.1))))with defers:=a'.defers } :Act)=Ex { a with defers:=a'.defers } (Code.writes c) (fun i=>a'.tmps.getD i undef) (live.map (·.1)) (Fb a' (live.map (·.1))):=rfl;rw [e2,this]
   rw [YZ]at h2;refine wpIn_mono (ih r _ _ _ _ _ G n hG hr I5 (N9 (wr:=Code.writes c) (a0:=a') (b:=false) (nO:=[]) (d0:=[]) c r _ _ (fun e jI cb jm=>(QR.then _ Q) e jI cb jm/\jX (Code.writes c) a' jI) a' es w' (fun _ h=>h) (fun h=>by cases h)
    (fun e a cb w h hf _=>⟨h,hf⟩) (jX.refl _ _) (fun h=>by cases h) h2)) ?_
   rintro e jI jm ⟨cb,xg,he,cZ⟩;cases e with
   |normal=>exact⟨⟨⟨cZ.size.trans hf.size,fun i hi=>(cZ.same i hi).trans (hf.same i hi)⟩,cb,he.1,xg,he.2.2⟩,he.2.1⟩
   |_=>exact⟨cb,xg,he⟩
 |exit id=>intro r cur Q a ds w G n hG _ hd h;exact wpIn_exit ⟨ds,hd,h⟩
 |label l=>intro r cur Q a ds w G n hG _ hd h;exact wpIn_label ⟨ds,hd,h⟩
 |ret=>intro r cur Q a ds w G n hG _ hd h;exact wpIn_ret ⟨ds,hd,h⟩
 |rangeFunc g ps assign body Y_ I6=>
  intro r cur Q a ds w G n hG hr hd h;simp only [B0]at h;cases hc:(r|| !Code.fX body|| !(((D9 cp.ranges cur).getD []).length==ps.size)|| !Code.fX assign)with
  |true=>rw [hc]at h;exact h.elim
  |false=>
   rw [hc]at h;simp only [cond_false]at h;simp only [Bool.or_eq_false_iff,Bool.not_eq_false',beq_iff_eq]at hc;obtain⟨⟨⟨ZA,jq⟩,mh⟩,has⟩:=hc;have zZ:=hr ZA;subst zZ;unfold zV at h;split at h
   ·rename_i gf first lb hg
    cases ht:(first.size==0&&Cc P gf)with
    |false=>rw [ht]at h;exact h.elim
    |true=>
     rw [ht]at h;simp only [and_eq_true,beq_iff_eq]at ht;have e1:first= #[]:=Array.eq_empty_of_size_eq_zero ht.1
     subst e1;obtain⟨M,xs,oB,I,Xr,Xe,h0,h1,h2,h3⟩:=h;obtain⟨h3,h4⟩:=IM h3;have pI:∀D,({ a with defers:=mk D::a.defers } :Act).defers=(D::ds).map mk:=fun D=>by simp [hd]
     cases has:Nc assign with
     |true=>
      rw [has]at h1;refine wpIn_wide.2 (wpIn_wide.1 (YV (n:=0) (exits:=dedup (Code.leaves body [])) hg ht.2 mh has oB h0 (fun F pre x W0 W hI z0 hN=> ?_) (fun pre W0 W D k1 k2 k3 k4 k5=>⟨D::ds,pI D,h2 pre W0 W D k1 k2 k3 k4 k5⟩)
       (fun id ud pre W0 W D k1 k2 k3 k4 k5=>⟨D::ds,pI D,h3 id ud pre W0 W D k1 k2 k3 k4 k5⟩) (fun F W0 W D k2 k3 k4 k5=>⟨D::ds,pI D,h4 F W0 W D k2 k3 k4 k5⟩)))
      have hx:=Dn.sy (h1 F pre) x W0 W hI z0 hN;simp only [cond_true]at hx;split at hx
      ·rename_i a1 ub;refine⟨a1,ub,fun l n=> ?_⟩;have z3:a1.defers=([]:List Nat).map mk:=by
        have:=Ub ub;simpa using this
       refine wpIn_mono (I6 true _ _ _ _ _ (Fence.wide.inRound l) n (.inr ⟨l,rfl⟩) (fun h=>by cases h) z3 hx) ?_;rintro e a' w' ⟨cb,_,he⟩;cases e<;>exact he
      ·exact hx.elim
     |false=>
      rw [has]at h1;refine wpIn_wide.2 (wpIn_wide.1 (IW (n:=0) (exits:=dedup (Code.leaves body [])) hg ht.2 mh oB h0 (fun F pre x W0 W hI z0 hN l n=> ?_) (fun pre W0 W D k1 k2 k3 k4 k5=>⟨D::ds,pI D,h2 pre W0 W D k1 k2 k3 k4 k5⟩)
       (fun id ud pre W0 W D k1 k2 k3 k4 k5=>⟨D::ds,pI D,h3 id ud pre W0 W D k1 k2 k3 k4 k5⟩) (fun F W0 W D k2 k3 k4 k5=>⟨D::ds,pI D,h4 F W0 W D k2 k3 k4 k5⟩)))
      have hx:=Dn.sy (h1 F pre) x W0 W hI z0 hN;simp only [cond_false]at hx;refine wpIn_mono (Y_ true _ _ _ [] _ (Fence.wide.inRound l) n (.inr ⟨l,rfl⟩) (fun h=>by cases h) rfl hx) ?_;rintro e a1 W1 ⟨nM,z3,he⟩;cases e with
      |normal=>
       obtain⟨hk,rfl,he⟩:=he;refine⟨hk,fun W2 uc=> ?_⟩;refine wpIn_mono (I6 true _ _ _ _ _ (Fence.wide.inRound l) n (.inr ⟨l,rfl⟩) (fun h=>by cases h) z3 (he W2 uc)) ?_;rintro e a' w' ⟨cb,_,he⟩;cases e<;>exact he
      |_=>exact he
   ·exact h.elim
 |_=>intro r cur Q a ds w G n _ _ _ h;exact h.elim
def I7 (P:Program) (fn:Func) (K:Value->World->Prop):QR
 | .ret,a,ds,w=>Ca ds w/\Px P a.tmps fn.results.toList (fun vs=>K (H9 vs) (shut ds w)) (shut ds w)
 | .normal,a,ds,w=>Ca ds w/\Px P a.tmps fn.results.toList (fun vs=>K (H9 vs) (shut ds w)) (shut ds w)
 |_,_,_,_=>False
def z4 (P:Program) (fn:Func) (cp:sA) (args:List Value) (K:Value->World->Prop) (w:World):Prop:=
 match fn.body with
 |some c=>B0 P cp c false 1 (I7 P fn K) { tmps:=⟨args++List.replicate (fn.ntmps-args.length) undef⟩,defers:=[] } [] w|none=>False
theorem I8 {ds:List Nat} {w:World} {D:Nat} (h:Ca (D::ds) w) (o:Obj):Ca ds (w.putObj D o):=by
 obtain⟨hn,hm⟩:=h;rw [List.nodup_cons]at hn;exact⟨hn.2,fun E hE=>by rw [World.putObj_heap_other (fun e=>hn.1 (by rw [←e];exact hE))];exact hm E (by simp [hE])⟩
theorem Oa {P:Program} {n:Nat} {fn:Func} {tmps:Array Value} {R:Ending->World->Prop} {v:Value} :∀(ds:List Nat) (w:World),Ca ds w->(results fn tmps).run P (shut ds w)= .ok v (shut ds w)->R (.returned v) (shut ds w)->
 LeavesInM Fence.wide n P fn tmps R (ds.map mk) .returning w
 |[],w,_,h1,h2=>⟨v,h1,h2⟩
 |D::ds,w,hm,h1,h2=>⟨by simp,.inl ⟨D,_,rfl,run_takeDeferred (hm.2 D (by simp)),Oa ds _ (I8 hm _) h1 h2⟩⟩
theorem ZB {P:Program} {f:FuncId} {fn:Func} (cp:sA) {args:List Value} {w:World} {K:Value->World->Prop} (hf:P.funcs[f]? =some fn) (h:z4 P fn cp args K w):Calls P f ⟨args⟩ w (aN K):=by
 unfold z4 at h;split at h
 ·rename_i c hc;refine callsIn_wide.1 (callsIn_of_wp_marks (n:=0) hf hc trivial ?_);have ha:(⟨args⟩:Array Value)++Array.replicate (fn.ntmps-(⟨args⟩:Array Value).size) undef=⟨args++List.replicate (fn.ntmps-args.length) undef⟩:=by
   apply Array.ext';simp
  rw [ha];refine wpIn_mono (YX _ _ _ _ _ _ _ Fence.wide 0 (.inl rfl) (fun _=>rfl) rfl h) ?_;have key:∀(a':Act) (w':World) (cb:List Nat),a'.defers=cb.map mk->I7 P fn K .ret a' cb w'->LeavesInM Fence.wide 0 P fn a'.tmps (aN K) a'.defers .returning w':=by
   intro a' w' cb hd he;rw [hd];obtain⟨hm,he⟩:=he;obtain⟨l',h1,h2⟩:=Vt he;exact Oa cb w' hm (Ly h1) h2
  rintro e a' w' ⟨cb,hd,he⟩;cases e with
  |normal=>exact key a' w' cb hd he
  |ret=>exact key a' w' cb hd he
  |_=>exact(he:False).elim
 ·exact h.elim
theorem Rd {P:Program} {f:FuncId} {fn:Func} (cp:sA) {args:List Value} {w:World} {K:Value->World->Prop} {A:Prop}
 (hf:P.funcs[f]? =some fn) (he:A=z4 P fn cp args K w) (h:A):Calls P f ⟨args⟩ w (aN K):=ZB cp hf (he▸h)
end Go.Vc
