/- The conditions of Go code: a library of this claim. -/
import Derived.Test.YtpdccfgpbkagcaaGreatVcH
import Derived.LoopNIn
open Bool (and_eq_true)
namespace Go.Vc
open Go.RowKit (Below)
structure k9 (wr:List Nat) (a a':Act):Prop where
 size:a'.tmps.size=a.tmps.size
 same:∀i,i∉wr->a'.tmps[i]? =a.tmps[i]?
theorem k9.refl (wr:List Nat) (a:Act):k9 wr a a:=⟨rfl,fun _ _=>rfl⟩
theorem k9.fr {wr:List Nat} {a a':Act} (h:k9 wr a a'):Fr wr { a with defers:=a'.defers } a':=⟨h.size,rfl,h.same⟩
theorem Fr.wk {wr:List Nat} {a a':Act} {d:List Deferred} (h:Fr wr { a with defers:=d } a'):k9 wr a a':=⟨h.size,h.same⟩
def zk (b:Bool) (pB:List Nat) (d0:List Deferred) (ds:List Nat) (a:Act):Prop:=b=true->ds=pB/\a.defers=d0
theorem Mj {P:Program} {bW:uv} {wr:List Nat} {a0:Act} {b:Bool} {pB:List Nat} {d0:List Deferred} :∀(c:Code) (r:Bool) (cur:Nat) (Q Q':QR) (a:Act) (ds:List Nat) (w:World),(∀i∈Code.writes c,i∈wr)->(b=true->Code.iv c=true)->(∀e a ds w,Q e a ds w->k9 wr a0 a->zk b pB d0 ds a->Q' e a ds w)->k9 wr a0 a->zk b pB d0 ds a->Cb P bW c r cur Q a ds w->Cb P bW c r cur Q' a ds w:=by
 intro c
 induction c with
 |skip=>intro r cur Q Q' a ds w _ _ hq hf hs h;exact hq _ _ _ _ h hf hs
 |region id ops draw=>
  intro r cur Q Q' a ds w hw _ hq hf hs h;have hd:∀o∈ops.toList,∀d,o.dst=some d->d∈wr:=fun o ho d hd=>hw d (X2 ho hd)
  simp only [Cb]at h⊢;cases f_:ops.toList.all Bu with
  |false=>rw [f_]at h;exact h
  |true=>
   rw [f_]at h;simp only [cond_true]at h⊢;have uw:∀a' w',Q .normal a' ds w'->Fr wr { a0 with defers:=a.defers } a'->Q' .normal a' ds w':=fun a' w' h dw=>hq _ _ _ _ h dw.wk (fun hb=>⟨(hs hb).1,by have:=dw.defers;simp only at this;rw [this];exact(hs hb).2⟩)
   split at h
   ·rename_i live _;have hm:∀w',Ex P ops (live.filter fun i=>(ops.toList.filterMap (·.dst)).contains i) (fun a w=>Q .normal a ds w) a w'->Ex P ops (live.filter fun i=>(ops.toList.filterMap (·.dst)).contains i) (fun a w=>Q' .normal a ds w) a w':=by
     intro w' h;unfold Ex at h⊢;split at h
     ·refine Mf h fun h g=>uw _ _ (h g) (E7 hf.fr hw (fun i hi=>hw i (List.contains_iff_mem.1 (List.mem_filter.1 hi).2)) g _)
     ·exact h
    cases draw with
    |false=>exact hm _ h
    |true=>
     simp only [cond_true]at h⊢;cases hc:(P.follows .mixedOrders&&Region.lexB .any ops)with
     |false=>rw [hc]at h;exact h
     |true=>rw [hc]at h;exact fun w' j9=>hm w' (h w' j9)
   ·cases draw with
    |true=>exact N5 (fun a w h hf=>Aba h fun h=>uw a w h hf) hd hf.fr h
    |false=>exact Sl (fun a w=>uw a w) _ _ _ _ hd hf.fr h
 |seq x y gY gZ=>
  intro r cur Q Q' a ds w hw hn hq hf hs h;simp only [Cb]at h⊢;simp only [Code.writes,List.mem_append]at hw;have pD:b=true->Code.iv x=true:=fun hb=>by have:=hn hb;simp only [Code.iv,and_eq_true]at this;exact this.1
  have qx:b=true->Code.iv y=true:=fun hb=>by have:=hn hb;simp only [Code.iv,and_eq_true]at this;exact this.2
  split at h
  ·rename_i live _;cases jr:Code.iv x with
   |false=>rw [jr]at h;exact h
   |true=>
    rw [jr]at h;simp only [cond_true]at h⊢;obtain⟨J,h1,h2⟩:=h;refine⟨J,?_,fun g=>Ln (h2 g) fun vs h w hJ=> ?_⟩
    ·refine gY r _ _ _ _ _ _ (fun i hi=>hw i (.inl hi)) pD (fun e a' bJ w' he dw ij=> ?_) hf hs h1;cases e with
     |normal=>exact he
     |_=>exact hq _ _ _ _ he dw (fun hb=>⟨(hs hb).1,(ij hb).2⟩)
    ·refine gZ r _ _ _ _ _ _ (fun i hi=>hw i (.inr hi)) qx hq ?_ (fun hb=>⟨(hs hb).1,(hs hb).2⟩) (h w hJ);have:=E7 hf.fr (fun i hi=>hw i (.inl hi)) (live:=(D0 (Code.writes x) live).map (·.1)) (fun i hi=>by
      obtain⟨p,hp,rfl⟩:=List.mem_map.1 hi;exact hw _ (.inl (by simpa using(List.mem_filter.1 hp).2))) g vs
     exact this.wk
  ·refine gY r _ _ _ _ _ _ (fun i hi=>hw i (.inl hi)) pD (fun e a' bJ w' he dw ij=> ?_) hf hs h;cases e with
   |normal=>exact gZ r _ _ _ _ _ _ (fun i hi=>hw i (.inr hi)) qx hq dw ij he
   |_=>exact hq _ _ _ _ he dw ij
 |cond c x y gY gZ=>
  intro r cur Q Q' a ds w hw hn hq hf hs h;simp only [Cb]at h⊢;simp only [Code.writes,List.mem_append]at hw;have pD:b=true->Code.iv x=true:=fun hb=>by have:=hn hb;simp only [Code.iv,and_eq_true]at this;exact this.1
  have qx:b=true->Code.iv y=true:=fun hb=>by have:=hn hb;simp only [Code.iv,and_eq_true]at this;exact this.2
  split at h
  ·rename_i t _;cases t with
   |true=>exact gY _ _ _ _ _ _ _ (fun i hi=>hw i (.inl hi)) pD hq hf hs h
   |false=>exact gZ _ _ _ _ _ _ _ (fun i hi=>hw i (.inr hi)) qx hq hf hs h
  ·exact h
 |block id c ih=>
  intro r cur Q Q' a ds w hw hn hq hf hs h;simp only [Cb]at h⊢;refine ih _ _ _ _ _ _ _ hw hn (fun e a' bJ w' he dw ij=> ?_) hf hs h;cases e with
  |exit we=>
   simp only [QR.inBlock]at he⊢;split
   ·rename_i heq;simp only [heq,if_true]at he;exact hq _ _ _ _ he dw ij
   ·rename_i bA;simp only [bA,if_false]at he;exact hq _ _ _ _ he dw ij
  |_=>exact hq _ _ _ _ he dw ij
 |loop c ih=>
  intro r cur Q Q' a ds w hw hn hq hf hs h;simp only [Cb]at h⊢;cases hu:Dl bW.DP cur with
  |some n=>
   rw [hu]at h;simp only at h⊢;clear hu
   induction n generalizing a ds w with
   |zero=>exact h
   |succ n ihn=>
    refine ih _ _ _ _ _ _ _ hw hn (fun e a' bJ w' he dw ij=> ?_) hf hs h;cases e with
    |normal=>exact ihn _ _ _ dw ij he
    |_=>exact hq _ _ _ _ he dw ij
  |none=>
  rw [hu]at h;simp only at h⊢;have sV:∀i∈(D0 (Code.writes c) ((Dl bW.loops cur).getD [])).map (·.1),i∈wr:=by
   intro i hi;obtain⟨p,hp,rfl⟩:=List.mem_map.1 hi;have:=(List.mem_filter.1 hp).2;exact hw _ (by simp only [Code.writes];simpa using this)
  cases jr:Code.iv c with
  |true=>
   rw [jr]at h;simp only [cond_true,Ur]at h⊢;obtain⟨I,μ,h0,h1⟩:=h;refine⟨I,μ,h0,fun g=>Ln (h1 g) fun vs h w hI=> ?_⟩;refine ih _ _ _ _ _ _ _ hw hn (fun e a' bJ w' he dw ij=> ?_) (E7 hf.fr hw sV g vs).wk (fun hb=>⟨(hs hb).1,(hs hb).2⟩) (h w hI);cases e with
   |normal=>exact he
   |_=>exact hq _ _ _ _ he dw (fun hb=>⟨(hs hb).1,(ij hb).2⟩)
  |false=>
   rw [jr]at h;simp only [cond_false]at h⊢;have hb:b=false:=by
    cases hb:b with
    |false=>rfl
    |true=>have:=hn hb;simp only [Code.iv]at this;rw [this]at jr;cases jr
   have dh:∀ds a,zk b pB d0 ds a:=fun ds a h=>by rw [hb]at h;cases h
   obtain⟨I,μ,h0,hm,h1⟩:=h;refine⟨I,μ,h0,hm,fun g es=>Ln (h1 g es) fun vs h w hI hM=> ?_⟩;have sY:k9 wr a0 { (Ej a (Code.writes c) g ((D0 (Code.writes c) ((Dl bW.loops cur).getD [])).map (·.1)) vs)with defers:=es.map mk } :=⟨(E7 hf.fr hw sV g vs).wk.size,(E7 hf.fr hw sV g vs).wk.same⟩
   refine ih _ _ _ _ _ _ _ hw (fun h=>by rw [hb]at h;cases h) (fun e a' bJ w' he dw ij=> ?_) sY (dh _ _) (h w hI hM);cases e with
   |normal=>exact he
   |_=>exact hq _ _ _ _ he dw ij
 |exit id=>intro r cur Q Q' a ds w _ _ hq hf hs h;exact hq _ _ _ _ h hf hs
 |label l=>intro r cur Q Q' a ds w _ _ hq hf hs h;exact hq _ _ _ _ h hf hs
 |ret=>intro r cur Q Q' a ds w _ _ hq hf hs h;exact hq _ _ _ _ h hf hs
 |rangeFunc g ps assign body _ _=>
  intro r cur Q Q' a ds w hw hn hq hf hs h;have hb:b=false:=by
   cases hb:b with
   |false=>rfl
   |true=>have:=hn hb;cases this
  have dh:∀ds a,zk b pB d0 ds a:=fun ds a h=>by rw [hb]at h;cases h
  have sY:∀d,k9 wr a0 { a with defers:=d } :=fun d=>⟨hf.size,hf.same⟩
  simp only [Cb]at h⊢
  revert h
  generalize (r|| !Code.iv body|| !(((Dl bW.ranges cur).getD []).length==ps.size)|| !Ls assign)=t;intro h;cases t with
  |true=>exact h
  |false=>
   simp only [cond_false]at h⊢;unfold DR at h⊢;split at h
   ·rename_i gf first lb _
    revert h
    generalize (first.size==0&&Cs P gf)=t;intro h;cases t with
    |false=>exact h
    |true=>
     obtain⟨M,xs,ux,I,Xr,Xe,h0,h1,h2,h3⟩:=h;refine⟨M,xs,ux,I,Xr,Xe,h0,h1,fun pre W0 W D k1 k2 k3 k4 k5=>hq _ _ _ _ (h2 pre W0 W D k1 k2 k3 k4 k5) (sY _) (dh _ _),Yu h3 (fun id h pre W0 W D k1 k2 k3 k4 k5=>hq _ _ _ _ (h pre W0 W D k1 k2 k3 k4 k5) (sY _) (dh _ _)) fun h F W0 W D k2 k3 k4 k5=>hq _ _ _ _ (h F W0 W D k2 k3 k4 k5) (sY _) (dh _ _)⟩
   ·exact h
 |_=>intros;rename_i h;exact h.elim
theorem Aq8 {P:Program} {n:Nat} {eZ:List cX} {exits:List Nat} {g:Operand} {ps:Array Tmp} {assign body:Code} {Q:Exit->Act->World->Prop} {a:Act} {w:World} {gf:Nat} {lb:Array Value} (hg:a.eval g= .func (.func gf) #[] lb) (eB:Cs P gf=true) (ov:eZ.length=ps.size) (_has:Ls assign=true)
 {M:List Nat} {xs:List (Dn eZ)} (ux:Kr P gf lb eZ M xs w) {I:List Nat->List (Dn eZ)->World->Prop} {Xr:List (Dn eZ)->World->Prop} {Xe:Nat->List (Dn eZ)->World->Prop} (h0:I M [] w)
 (Bnx:∀(F:List Nat) (pre:List (Dn eZ)) (x:Dn eZ) (W0 W:World),I F pre W0->Grown w.heap.size W0 W->(pre++[x])<+:xs->∃a1,Db assign { tmps:=(ps.zip (⟨Dn.Fx _ x⟩:Array Value)).foldl (fun t (p,v)=>t.setIfInBounds p v) a.tmps,defers:=[] } =some a1/\
 ∀l n,body.wpIn (Fence.wide.inRound l) n P (fun e a' w'=>DQ exits F I Xr Xe (pre++[x]) W e a' [] w') a1 W)
 (wm:∀(pre:List (Dn eZ)) (W0 W:World) (D:Nat),pre<+:xs->Xr pre W0->Grown w.heap.size W0 W->w.heap.size<=D->W.heap[D]? =some (.deferred (some []))->Q .ret { a with defers:=mk D::a.defers } W)
 (hex:∀id∈exits,∀(pre:List (Dn eZ)) (W0 W:World) (D:Nat),pre<+:xs->Xe id pre W0->Grown w.heap.size W0 W->w.heap.size<=D->W.heap[D]? =some (.deferred (some []))->Q (.exit id) { a with defers:=mk D::a.defers } W)
 (Bny:∀(F:List Nat) (W0 W:World) (D:Nat),I F xs W0->Grown w.heap.size W0 W->w.heap.size<=D->W.heap[D]? =some (.deferred (some []))->Q .normal { a with defers:=mk D::a.defers } W):
 (Code.rangeFunc g ps assign body).wpIn Fence.wide n P Q a w:=by
 refine wpIn_rangeFunc fun fn _=> ?_
 obtain⟨D,hD⟩:∃D,D=w.heap.size:=⟨_,rfl⟩
 obtain⟨r,hr⟩:∃r:Loop,r= { state:= .ready,pending:=none,fn,tmps:=a.tmps,params:=ps,assign,body,defers:=w.heap.size } :=⟨_,rfl⟩
 obtain⟨W1,zl⟩:∃W1,W1=(w.alloc (.deferred (some []))).alloc (.loop r):=⟨_,rfl⟩
 have NC:Grown w.heap.size w W1:=by
  refine(Grown.of (World.grownBy_alloc w (.deferred (some [])) none) (fun r e=>by cases e)).trans ?_;rw [zl];exact Grown.of (World.grownBy_alloc _ _ none) (fun r e=>by cases e)
 have DS:W1.heap[D]? =some (.deferred (some [])):=by
  rw [zl,hD];exact(Below.heap_alloc _ _ _ (by simp)).trans (World.alloc_heap_new w _)
 have hL1:W1.heap[D+1]? =some (.loop r):=by
  rw [zl,hD];have:=World.alloc_heap_new (w.alloc (.deferred (some []))) (.loop r);rwa [World.size_alloc]at this
 have kK:∀ {W:World} {o:Obj} (o':Obj),W.heap[D+1]? =some o->F9 o=false->Grown w.heap.size W (W.putObj (D+1) o'):=fun {W} {o} o' ho hc=>
  Grown.of (grownBy_putObj' W (D+1) o') (fun k e=>by cases e;exact⟨by omega,o,ho,hc⟩)
 have heg:∀args w,(callFunc gf args).run P w= .ok (.enter gf args) w:=by
  intro args w;unfold Cs at eB;split at eB
  ·rename_i f hf;simp only [and_eq_true,Bool.not_eq_true']at eB;have hb:f.body.isNone=false:=by cases nI:f.body<;>simp_all
   simp only [callFunc,Sem.run_bind,run_program,Result.andThen_ok,hf,eB.2,Bool.false_eq_true,if_false,hb,Sem.run_pure]
  ·cases eB
 refine⟨D+1,[mk D],W1,{ target:= .fn (.func gf) lb,args:= #[.func (.yield (D+1)) #[] #[]] },W1,gf,#[.func (.yield (D+1)) #[] #[]]++lb,W1,?_,?_,fun _ _=>trivial,?_,fun h=>(by cases h),callsIn_wide.2 ?_⟩
 ·rw [zl,hr,hD];exact run_enterLoop_outer _ _ _ _ _
 ·simp only [resolve,hg];simp [go_sem]
 ·simp [invoke,go_sem,heg]
 let HI:List Nat->List (Dn eZ)->World->Prop:=fun F pre W=>∃W0,I F pre W0/\Grown w.heap.size W0 W
 let HX:Code->List (Dn eZ)->World->Prop:=fun c pre W=>match c with| .ret=>∃W0,Xr pre W0/\Grown w.heap.size W0 W| .exit id=>id∈exits/\∃W0,Xe id pre W0/\Grown w.heap.size W0 W|_=>False
 have ND:∀c pre A B,HX c pre A->Grown w.heap.size A B->HX c pre B:=by
  intro c pre A B h hG;cases c<;>simp only [HX]at h⊢<;>first
   |exact h
   |(obtain⟨W0,h1,h2⟩:=h;exact⟨W0,h1,h2.trans hG⟩)
   |(obtain⟨h0,W0,h1,h2⟩:=h;exact⟨h0,W0,h1,h2.trans hG⟩)
 have rL:∀ {A B:World} {k:Nat} {o:Obj},A.grownBy B none->A.heap[k]? =some o->B.heap[k]? =some o:=fun hg ho=>by rw [hg.block _ (Array.getElem?_eq_some_iff.1 ho).1 (by simp)];exact ho
 have NF:∀ {A B:World},A.grownBy B none->Grown w.heap.size A B:=fun hg=>Grown.of hg (fun r e=>by cases e)
 have zm:∀k,D<=k->k∉M:=fun k hk h=>by have:=ux.1 k h;omega
 have dP:=ux.2 (D+1) (fun F pre W=>HI F pre W/\W.heap[D+1]? =some (.loop r)/\W.heap[D]? =some (.deferred (some []))/\D∉F/\D+1∉F)
  (fun pre W=>∃c,HX c pre W/\W.heap[D+1]? =some (.loop { r with state:= .done,pending:=some c })/\W.heap[D]? =some (.deferred (some []))) W1 NC
  (fun F pre A B ⟨⟨W0,hI,hG⟩,hl,hd,hF⟩ hg=>⟨⟨W0,hI,hG.trans (NF hg)⟩,rL hg hl,rL hg hd,hF⟩)
  (fun pre A B ⟨c,hX,hl,hd⟩ hg=>⟨c,ND c pre A B hX (NF hg),rL hg hl,rL hg hd⟩) ?_ ⟨⟨w,h0,NC⟩,hL1,DS,zm _ (Nat.le_refl _),zm _ (by omega)⟩
 ·refine Calls.mono dP fun e W2 he=> ?_
  cases e with
  |panicked c=>exact he.elim
  |outgrown=>exact he.elim
  |returned v=>
   rcases he with⟨F,⟨W0,hI,hG⟩,hl,hd,_⟩|⟨pre,db,c,hX,hl,hd⟩
   ·refine⟨none,_,by have:=run_endLoop (P:=P) hl (by rw [hr];simp);rw [hr]at this;exact this,?_⟩;exact Bny F W0 _ D hI (hG.trans (kK _ hl rfl)) (by omega) ((World.putObj_heap_other (by omega)).trans hd)
   ·have ka:=run_endLoop (P:=P) hl (by simp);refine⟨some c,_,ka,?_⟩;have zn:=ND c pre _ _ hX (kK (.loop { r with state:= .exhausted,pending:=some c }) hl rfl);have NG:(W2.putObj (D+1) (.loop { r with state:= .exhausted,pending:=some c })).heap[D]? =some (.deferred (some [])):=(World.putObj_heap_other (by omega)).trans hd;cases c<;>simp only [HX]at zn<;>first
     |exact zn.elim
     |(obtain⟨W0,h1,h2⟩:=zn;exact wpIn_ret (wm pre W0 _ D db h1 h2 (by omega) NG))
     |(obtain⟨h0,W0,h1,h2⟩:=zn;exact wpIn_exit (hex _ h0 pre W0 _ D db h1 h2 (by omega) NG))
 ·rintro F pre x W ⟨⟨W0,hI,hG⟩,hl,hd,NH,NJ⟩ db n';have hy:=run_yield (P:=P) (args:=(⟨Dn.Fx eZ x⟩:Array Value)) hl (by rw [hr];simp [Dn.length,ov]);have hy:(Instr.yield (D+1) (⟨Dn.Fx eZ x⟩:Array Value)).run P W= .ok (.round (D+1) fn ((ps.zip (⟨Dn.Fx eZ x⟩:Array Value)).foldl (fun t (p,v)=>t.setIfInBounds p v) a.tmps) assign body) W:=by rw [hy,hr]
  have aE:D+1<W.heap.size:=(Array.getElem?_eq_some_iff.1 hl).1;obtain⟨a1,zo,bI⟩:=Bnx F pre x W0 (W.putObj (D+1) (.loop { r with state:= .busy })) hI (hG.trans (kK _ hl rfl)) db;refine⟨fn,_,assign,body,hy,roundIn_of_wpIn trivial (Aa9 (.inr ⟨_,rfl⟩) zo ⟨_,run_beginRound hl (by rw [hr]),wpIn_mono (bI _ _) ?_⟩)⟩;intro e a3 W3 hp;have dL:(W.putObj (D+1) (.loop { r with state:= .busy })).heap.size=W.heap.size:=by simp [World.putObj]
  have fin:Ao F (W.putObj (D+1) (.loop { r with state:= .busy })) W3->W3.heap[D+1]? =some (.loop { r with state:= .busy })/\W3.heap[D]? =some (.deferred (some [])):=fun hk=>
   ⟨(hk.block _ (by omega) NJ).trans (World.putObj_heap_same aE),(hk.block _ (by omega) NH).trans ((World.putObj_heap_other (by omega)).trans hd)⟩
  have hdj:∀jump,(W3.putObj (D+1) (.loop { r with state:=(if jump.isNone then .ready else .done),pending:=jump })).heap[D]? =W3.heap[D]? :=fun jump=>World.putObj_heap_other (by omega)
  cases e with
  |normal=>
   obtain⟨F',hk,hI3⟩:=hp;obtain⟨js,wo⟩:=fin hk.kp;have m7:∀k∈F',k∈F\/W.heap.size<=k:=fun k h=>by have:=hk.sub k h;rwa [dL]at this
   have Bs2:(W3.putObj (D+1) (.loop { r with state:= .ready,pending:=none })).heap[D+1]? =some (.loop r):=by
    rw [World.putObj_heap_same (Array.getElem?_eq_some_iff.1 js).1,hr]
   refine⟨_,_,run_endRound (P:=P) none js,true,rfl,F',⟨⟨W3,hI3,kK _ js rfl⟩,?_,?_,?_,?_⟩,⟨?_,?_,?_,?_,?_⟩,m7⟩
   ·rw [World.putObj_heap_same (Array.getElem?_eq_some_iff.1 js).1,hr];rfl
   ·exact(World.putObj_heap_other (by omega)).trans wo
   ·intro h;rcases m7 _ h with h|h
    ·exact NH h
    ·omega
   ·intro h;rcases m7 _ h with h|h
    ·exact NJ h
    ·omega
   ·exact hk.kp.os
   ·exact hk.kp.tape
   ·exact hk.kp.output
   ·have:=hk.kp.size;simp only [World.putObj,Array.size_setIfInBounds]at this⊢;exact this
   ·intro k gw hkF;by_cases e:k=D+1
    ·subst e;rw [World.putObj_heap_same (Array.getElem?_eq_some_iff.1 js).1,hl,hr];rfl
    ·rw [World.putObj_heap_other e,hk.kp.block k (by omega) hkF,World.putObj_heap_other e]
  |ret=>
   obtain⟨hk,DT⟩:=hp;obtain⟨js,wo⟩:=fin hk;refine⟨_,_,run_endRound (P:=P) (some .ret) js,false,rfl,.ret,⟨W3,DT,kK _ js rfl⟩,?_,(World.putObj_heap_other (by omega)).trans wo⟩;rw [World.putObj_heap_same (Array.getElem?_eq_some_iff.1 js).1];rfl
  |exit id=>
   simp only [DQ]at hp;cases hc:exits.contains id with
   |false=>rw [hc]at hp;exact hp.elim
   |true=>
    rw [hc]at hp;obtain⟨hk,DT⟩:=hp;obtain⟨js,wo⟩:=fin hk;refine⟨_,_,run_endRound (P:=P) (some (.exit id)) js,false,rfl,.exit id,⟨List.contains_iff_mem.1 hc,W3,DT,kK _ js rfl⟩,?_,(World.putObj_heap_other (by omega)).trans wo⟩;rw [World.putObj_heap_same (Array.getElem?_eq_some_iff.1 js).1];rfl
  |_=>exact(hp:False).elim
theorem Aes {P:Program} {cl:List (Nat×Nat×Nat)} {ops:Array Oper} {Q:Act->World->Prop} :∀(l:List Oper) (i:Nat) (a:Act) (w:World),Dz P ops Q l i a w->C0 P cl ops Q l i a w:=by
 intro l
 induction l with
 |nil=>intro i a w h;exact h
 |cons o rest ih=>
  intro i a w h;simp only [Dz]at h;simp only [C0];cases hw:Region.wanted o (yielded ops a.tmps)with
  |false=>rw [hw]at h;exact ih _ _ _ h
  |true=>
   rw [hw]at h;simp only [cond_true]at h⊢;split at h
   ·rename_i p hp;have lI:B8 P a.eval (Dx ops.toList o)=some p:=by rw [Sh];exact hp
    refine Aq6 lI ?_;unfold G5;rw [lI];refine ig.rH h fun v h=> ?_
    rw [A6]at h⊢;exact ih _ _ _ h
   ·rename_i hp;split at h
    ·rename_i t x hl;rw [Sg _ _ t x hl];have h2:G5 P a.eval o (C3 (B1 ops.toList i) fun v w'=>C0 P cl ops Q rest (i+1) (a.put o.dst v) w') w:=by
      unfold G5;rw [hp];refine Jz h fun v w' h=> ?_
      rw [A6]at h⊢;exact ih _ _ _ h
     unfold Nl;rw [hl];exact h2
    ·exact h.elim
theorem Alp {P:Program} {bW:uv} :∀(c:Code) (r:Bool) (cur:Nat) (Q:QR) (a:Act) (ds:List Nat) (w:World) (G:Fence) (n:Nat),Good G->(r=false->G=Fence.wide)->a.defers=ds.map mk->Cb P bW c r cur Q a ds w->c.wpIn G n P (fun e a' w'=>∃bJ,a'.defers=bJ.map mk/\Q e a' bJ w') a w:=by
 intro c
 induction c with
 |skip=>intro r cur Q a ds w G n hG _ hd h;exact wpIn_skip ⟨ds,hd,h⟩
 |region id ops draw=>
  intro r cur Q a ds w G n hG _ hd h;simp only [Cb]at h;cases f_:ops.toList.all Bu with
  |false=>rw [f_]at h;exact h.elim
  |true=>
   rw [f_]at h;simp only [cond_true]at h;have sZ:∀o∈ops.toList,∀d,o.dst=some d->d∈ops.toList.filterMap (·.dst):=fun o ho d hd=>X2 ho hd
   have fin:∀a' w',Q .normal a' ds w'->Fr (ops.toList.filterMap (·.dst)) a a'->∃bJ,a'.defers=bJ.map mk/\Q .normal a' bJ w':=fun a' w' h hf=>⟨ds,by rw [hf.defers,hd],h⟩
   split at h
   ·rename_i live _;generalize (live.filter fun i=>(ops.toList.filterMap (·.dst)).contains i)=lv at h;have hm:∀w',Ex P ops lv (fun a w=>Q .normal a ds w) a w'->Dz P ops (fun a w=>Q .normal a ds w) ops.toList 0 a w':=by
     intro w' h;unfold Ex at h;split at h
     ·rename_i ps vs hp;obtain⟨h1,h2⟩:=Me h;refine Ho (wr:=ops.toList.filterMap (·.dst)) (a0:=a) (fun a' iV h hf=> ?_) _ _ _ _ sZ (Fr.refl _ _) (V9 _ _ _ hp h1 (w:=w'));obtain⟨rfl,hv⟩:=h;have:=h2 (fun i=>a'.tmps.getD i undef);rw [←hv]at this;have e:Ej a (ops.toList.filterMap (·.dst)) (fun i=>a'.tmps.getD i undef) lv (zg a' lv)=a':=Ek hf lv;rw [e]at this;exact this
     ·exact h.elim
    cases draw with
    |false=>
     have h2:=Ho (wr:=ops.toList.filterMap (·.dst)) (a0:=a) fin _ _ _ _ sZ (Fr.refl _ _) (hm _ h);have h3:C0 P bW.qw ops (fun a' w'=>∃bJ,a'.defers=bJ.map mk/\Q .normal a' bJ w') ops.toList 0 a w:=Aes _ _ _ _ h2;exact Qz hG f_ h3
    |true=>
     simp only [cond_true]at h;cases hc:(P.follows .mixedOrders&&Region.lexB .any ops)with
     |false=>rw [hc]at h;exact h.elim
     |true=>
      rw [hc]at h;simp only [and_eq_true]at hc;have h2:=Ho (wr:=ops.toList.filterMap (·.dst)) (a0:=a) fin _ _ _ _ sZ (Fr.refl _ _) (hm _ (h _ rfl));exact Aur hG f_ hc.1 hc.2 h2
   ·cases draw with
    |true=>exact Auq hG f_ (N5 (Q':=fun a' w'=>∃bJ,a'.defers=bJ.map mk/\Q .normal a' bJ w') (fun a' w' h hf=>fin a' w' (Abb h) hf) sZ (Fr.refl _ _) h)
    |false=>exact Qz hG f_ (Sl (Q':=fun a' w'=>∃bJ,a'.defers=bJ.map mk/\Q .normal a' bJ w') fin _ _ _ _ sZ (Fr.refl _ _) h)
 |seq x y gY gZ=>
  intro r cur Q a ds w G n hG hr hd h;simp only [Cb]at h;split at h
  ·rename_i live _;cases jr:Code.iv x with
   |false=>rw [jr]at h;exact h.elim
   |true=>
    rw [jr]at h;simp only [cond_true]at h;generalize D0 (Code.writes x) live=lv at h;obtain⟨J,h1,h2⟩:=h;have h3:=Mj (wr:=Code.writes x) (a0:=a) (b:=true) (pB:=ds) (d0:=a.defers) x r _ _ (fun e a' bJ w'=>(Exit.then (fun a' w'=>Inv.at _ J (Fx a' (lv.map (·.1))) w') (fun e a w=>Q e a ds w)) e a' w'/\k9 (Code.writes x) a a'/\bJ=ds/\a'.defers=a.defers) a ds w (fun _ h=>h) (fun _=>jr)
     (fun e a' bJ w' h hf hs=>⟨h,hf,(hs rfl).1,(hs rfl).2⟩) (k9.refl _ _) (fun _=>⟨rfl,rfl⟩) h1
    refine wpIn_seq (wpIn_mono (gY r _ _ _ _ _ G n hG hr hd h3) ?_);rintro e a' w' ⟨bJ,d6,he,hf,rfl,zp⟩;cases e with
    |normal=>
     have dw:Fr (Code.writes x) a a':=⟨hf.size,zp,hf.same⟩
     have h4:=F5 _ _ _ _ _ he (h2 (fun i=>a'.tmps.getD i undef)) w' he;rw [Ek dw]at h4;exact gZ r _ _ _ _ _ G n hG hr (by rw [zp,hd]) h4
    |_=>exact⟨bJ,d6,he⟩
  ·refine wpIn_seq (wpIn_mono (gY r _ _ _ _ _ G n hG hr hd h) ?_);rintro e a' w' ⟨bJ,d6,he⟩;cases e with
   |normal=>exact gZ r _ _ _ _ _ G n hG hr d6 he
   |_=>exact⟨bJ,d6,he⟩
 |cond c x y gY gZ=>
  intro r cur Q a ds w G n hG hr hd h;simp only [Cb]at h;split at h
  ·rename_i b hb;refine wpIn_cond hb ?_;cases b with
   |true=>exact gY r _ _ _ _ _ G n hG hr hd h
   |false=>exact gZ r _ _ _ _ _ G n hG hr hd h
  ·exact h.elim
 |block id c ih=>
  intro r cur Q a ds w G n hG hr hd h;refine wpIn_block (wpIn_mono (ih r _ _ _ _ _ G n hG hr hd h) ?_);rintro e a' w' ⟨bJ,d6,he⟩;cases e with
  |exit we=>
   simp only [QR.inBlock,Exit.inBlock]at he⊢;split
   ·rename_i heq;simp only [heq,if_true]at he;exact⟨bJ,d6,he⟩
   ·rename_i bA;simp only [bA,if_false]at he;exact⟨bJ,d6,he⟩
  |_=>exact⟨bJ,d6,he⟩
 |loop c ih=>
  intro r cur Q a ds w G n hG hr hd h;simp only [Cb]at h;cases hu:Dl bW.DP cur with
  |some m=>
   rw [hu]at h;simp only at h;refine wpIn_loop_rounds m ?_;clear hu
   induction m generalizing a ds w with
   |zero=>exact h.elim
   |succ m ihm=>
    refine wpIn_mono (ih r _ _ _ _ _ G n hG hr hd h) ?_;rintro e a' w' ⟨bJ,d6,he⟩;cases e with
    |normal=>exact ihm _ _ _ d6 he
    |_=>exact⟨bJ,d6,he⟩
  |none=>
  rw [hu]at h;simp only at h;cases jr:Code.iv c with
  |true=>
   rw [jr]at h;simp only [cond_true,Ur]at h;obtain⟨I,μ,h0,h1⟩:=h;generalize (D0 (Code.writes c) ((Dl bW.loops cur).getD []))=live at I μ h0 h1;refine wpIn_loop (fun a' w'=>Fr (Code.writes c) a a'/\Inv.at _ I (Fx a' (live.map (·.1))) w') (fun a' w'=>iu.at _ μ (Fx a' (live.map (·.1))) w') ⟨Fr.refl _ _,h0⟩ fun a' w' ⟨hf,hI⟩=> ?_
   have h2:=F5 _ _ _ _ _ hI (h1 (fun i=>a'.tmps.getD i undef)) w' hI;rw [Ek hf]at h2;have d6:a'.defers=ds.map mk:=by rw [hf.defers,hd]
   refine wpIn_mono (ih r _ _ _ _ _ G n hG hr d6 (Mj (wr:=Code.writes c) (a0:=a') (b:=true) (pB:=ds) (d0:=a'.defers) c r _ _ (fun e kJ bJ iV=>(Exit.then _ (fun e a w=>Q e a ds w)) e kJ iV/\k9 (Code.writes c) a' kJ/\bJ=ds/\kJ.defers=a'.defers) a' ds w' (fun _ h=>h) (fun _=>jr)
    (fun e a bJ w h hf hs=>⟨h,hf,(hs rfl).1,(hs rfl).2⟩) (k9.refl _ _) (fun _=>⟨rfl,rfl⟩) h2)) ?_
   rintro e kJ iV ⟨bJ,zq,he,dw,rfl,zp⟩;cases e with
   |normal=>exact⟨⟨⟨dw.size.trans hf.size,zp.trans hf.defers,fun i hi=>(dw.same i hi).trans (hf.same i hi)⟩,he.1⟩,he.2⟩
   |_=>exact⟨bJ,zq,he⟩
  |false=>
   rw [jr]at h;simp only [cond_false]at h;obtain⟨I,μ,h0,hm,h1⟩:=h;generalize (D0 (Code.writes c) ((Dl bW.loops cur).getD []))=live at I μ h0 h1;refine wpIn_loop (fun a' w'=>k9 (Code.writes c) a a'/\∃es,Inv.at _ (I es) (Fx a' (live.map (·.1))) w'/\a'.defers=es.map mk/\Bi es w') (fun a' w'=>iu.at _ μ (Fx a' (live.map (·.1))) w') ⟨k9.refl _ _,ds,h0,hd,hm⟩ fun a' w' ⟨hf,es,hI,NK,hM⟩=> ?_
   have h2:=F5 _ _ _ _ _ hI (h1 (fun i=>a'.tmps.getD i undef) es) w' hI hM;have Bqh: { (Ej a (Code.writes c) (fun i=>a'.tmps.getD i undef) (live.map (·.1)) (Fx a' (live.map (·.1))))with defers:=es.map mk } =a':=by
    have uy:Fr (Code.writes c) { a with defers:=a'.defers } a':=hf.fr;have:=Ek uy (live.map (·.1));rw [←NK];have e2:({ (Ej a (Code.writes c) (fun i=>a'.tmps.getD i undef) (live.map (·.1)) (Fx a' (live.map (·.1))))with defers:=a'.defers } :Act)=Ej { a with defers:=a'.defers } (Code.writes c) (fun i=>a'.tmps.getD i undef) (live.map (·.1)) (Fx a' (live.map (·.1))):=rfl;rw [e2,this]
   rw [Bqh]at h2;refine wpIn_mono (ih r _ _ _ _ _ G n hG hr NK (Mj (wr:=Code.writes c) (a0:=a') (b:=false) (pB:=[]) (d0:=[]) c r _ _ (fun e kJ bJ iV=>(QR.then _ Q) e kJ bJ iV/\k9 (Code.writes c) a' kJ) a' es w' (fun _ h=>h) (fun h=>by cases h)
    (fun e a bJ w h hf _=>⟨h,hf⟩) (k9.refl _ _) (fun h=>by cases h) h2)) ?_
   rintro e kJ iV ⟨bJ,zq,he,dw⟩;cases e with
   |normal=>exact⟨⟨⟨dw.size.trans hf.size,fun i hi=>(dw.same i hi).trans (hf.same i hi)⟩,bJ,he.1,zq,he.2.2⟩,he.2.1⟩
   |_=>exact⟨bJ,zq,he⟩
 |exit id=>intro r cur Q a ds w G n hG _ hd h;exact wpIn_exit ⟨ds,hd,h⟩
 |label l=>intro r cur Q a ds w G n hG _ hd h;exact wpIn_label ⟨ds,hd,h⟩
 |ret=>intro r cur Q a ds w G n hG _ hd h;exact wpIn_ret ⟨ds,hd,h⟩
 |rangeFunc g ps assign body _ m8=>
  intro r cur Q a ds w G n hG hr hd h;simp only [Cb]at h;cases hc:(r|| !Code.iv body|| !(((Dl bW.ranges cur).getD []).length==ps.size)|| !Ls assign)with
  |true=>rw [hc]at h;exact h.elim
  |false=>
   rw [hc]at h;simp only [cond_false]at h;simp only [Bool.or_eq_false_iff,Bool.not_eq_false',beq_iff_eq]at hc;obtain⟨⟨⟨hrf,jr⟩,ov⟩,has⟩:=hc;have DU:=hr hrf;subst DU;unfold DR at h;split at h
   ·rename_i gf first lb hg
    cases ht:(first.size==0&&Cs P gf)with
    |false=>rw [ht]at h;exact h.elim
    |true=>
     rw [ht]at h;simp only [and_eq_true,beq_iff_eq]at ht;have e1:first= #[]:=Array.eq_empty_of_size_eq_zero ht.1
     subst e1;obtain⟨M,xs,ux,I,Xr,Xe,h0,h1,h2,h3⟩:=h;obtain⟨h3,h4⟩:=Yt h3;have qy:∀D,({ a with defers:=mk D::a.defers } :Act).defers=(D::ds).map mk:=fun D=>by simp [hd]
     refine wpIn_wide.2 (wpIn_wide.1 (Aq8 (n:=0) (exits:=dedup (Code.leaves body [])) hg ht.2 ov has ux h0 (fun F pre x W0 W hI hGr hN=> ?_) (fun pre W0 W D k1 k2 k3 k4 k5=>⟨D::ds,qy D,h2 pre W0 W D k1 k2 k3 k4 k5⟩)
      (fun id DV pre W0 W D k1 k2 k3 k4 k5=>⟨D::ds,qy D,h3 id DV pre W0 W D k1 k2 k3 k4 k5⟩) (fun F W0 W D k2 k3 k4 k5=>⟨D::ds,qy D,h4 F W0 W D k2 k3 k4 k5⟩)))
     have hx:=Dn.MX (h1 F pre) x W0 W hI hGr hN;split at hx
     ·rename_i a1 zo;refine⟨a1,zo,fun l n=> ?_⟩;have wq:a1.defers=([]:List Nat).map mk:=by
       have:=Sm zo;simpa using this
      refine wpIn_mono (m8 true _ _ _ _ _ (Fence.wide.inRound l) n (.inr ⟨l,rfl⟩) (fun h=>by cases h) wq hx) ?_;rintro e a' w' ⟨bJ,_,he⟩;cases e<;>exact he
     ·exact hx.elim
   ·exact h.elim
 |_=>intro r cur Q a ds w G n _ _ _ h;exact h.elim
def NL (P:Program) (fn:Func) (K:Value->World->Prop):QR
 | .ret,a,ds,w=>Bi ds w/\N7 P a.tmps fn.results.toList (fun vs=>K (Hk vs) (shut ds w)) (shut ds w)
 | .normal,a,ds,w=>Bi ds w/\N7 P a.tmps fn.results.toList (fun vs=>K (Hk vs) (shut ds w)) (shut ds w)
 |_,_,_,_=>False
def DW (P:Program) (fn:Func) (bW:uv) (args:List Value) (K:Value->World->Prop) (w:World):Prop:=
 match fn.body with
 |some c=>Cb P bW c false 1 (NL P fn K) { tmps:=⟨args++List.replicate (fn.ntmps-args.length) undef⟩,defers:=[] } [] w|none=>False
theorem NM {ds:List Nat} {w:World} {D:Nat} (h:Bi (D::ds) w) (o:Obj):Bi ds (w.putObj D o):=by
 obtain⟨hn,hm⟩:=h;rw [List.nodup_cons]at hn;exact⟨hn.2,fun E hE=>by rw [World.putObj_heap_other (fun e=>hn.1 (by rw [←e];exact hE))];exact hm E (by simp [hE])⟩
theorem Mk {P:Program} {n:Nat} {fn:Func} {tmps:Array Value} {R:Ending->World->Prop} {v:Value} :∀(ds:List Nat) (w:World),Bi ds w->(results fn tmps).run P (shut ds w)= .ok v (shut ds w)->R (.returned v) (shut ds w)->
 LeavesInM Fence.wide n P fn tmps R (ds.map mk) .returning w
 |[],w,_,h1,h2=>⟨v,h1,h2⟩
 |D::ds,w,hm,h1,h2=>⟨by simp,.inl ⟨D,_,rfl,run_takeDeferred (hm.2 D (by simp)),Mk ds _ (NM hm _) h1 h2⟩⟩
theorem Aeu {P:Program} {f:FuncId} {fn:Func} (bW:uv) {args:List Value} {w:World} {K:Value->World->Prop} (hf:P.funcs[f]? =some fn) (h:DW P fn bW args K w):Calls P f ⟨args⟩ w (aD K):=by
 unfold DW at h;split at h
 ·rename_i c hc;refine callsIn_wide.1 (callsIn_of_wp_marks (n:=0) hf hc trivial ?_);have ha:(⟨args⟩:Array Value)++Array.replicate (fn.ntmps-(⟨args⟩:Array Value).size) undef=⟨args++List.replicate (fn.ntmps-args.length) undef⟩:=by
   apply Array.ext';simp
  rw [ha];refine wpIn_mono (Alp _ _ _ _ _ _ _ Fence.wide 0 (.inl rfl) (fun _=>rfl) rfl h) ?_;have key:∀(a':Act) (w':World) (bJ:List Nat),a'.defers=bJ.map mk->NL P fn K .ret a' bJ w'->LeavesInM Fence.wide 0 P fn a'.tmps (aD K) a'.defers .returning w':=by
   intro a' w' bJ hd he;rw [hd];obtain⟨hm,he⟩:=he;obtain⟨l',h1,h2⟩:=Us he;exact Mk bJ w' hm (Ky h1) h2
  rintro e a' w' ⟨bJ,hd,he⟩;cases e with
  |normal=>exact key a' w' bJ hd he
  |ret=>exact key a' w' bJ hd he
  |_=>exact(he:False).elim
 ·exact h.elim
theorem Fi {P:Program} {f:FuncId} {fn:Func} (bW:uv) {args:List Value} {w:World} {K:Value->World->Prop} {A:Prop}
 (hf:P.funcs[f]? =some fn) (he:A=DW P fn bW args K w) (h:A):Calls P f ⟨args⟩ w (aD K):=Aeu bW hf (he▸h)
end Go.Vc
