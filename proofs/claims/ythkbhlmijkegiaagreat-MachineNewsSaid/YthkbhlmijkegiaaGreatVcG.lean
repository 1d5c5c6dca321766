/- The conditions of Go code: a library of this claim. -/
import Derived.Test.YthkbhlmijkegiaaGreatVcF
import Derived.RangeFuncNested
import Derived.RangeFuncLeaves
import Derived.RangeFuncCalls
import Derived.OrdersIn
open Bool (and_eq_true)
open Array (replicate)
namespace Go.Vc
open Go.RowKit (Below)
def Good (G:Fence):Prop:=G=Fence.wide\/∃l,G=Fence.wide.inRound l
theorem Good.fn {G:Fence} (h:Good G) (f:FuncId):G.fn f:=by rcases h with rfl|⟨l,rfl⟩<;>trivial
theorem Good.depth {G:Fence} (h:Good G):G.depth=none:=by rcases h with rfl|⟨l,rfl⟩<;>rfl
theorem Good.calls {G:Fence} (h:Good G) {n:Nat} {P:Program} {f:FuncId} {args:Array Value} {w:World} {R:Ending->World->Prop} (hc:Calls P f args w R):CallsIn G n P f args w R:=by
 rcases h with rfl|⟨l,rfl⟩
 ·exact callsIn_wide.2 hc
 ·exact CallsIn.inRound l (callsIn_wide.2 hc)
theorem Good.round {G:Fence} (h:Good G) {n:Nat} {P:Program} {l:Nat} {f:FuncId} {tmps:Array Value} {assign body:Code} {w:World} {R:Ending->World->Prop} (hc:RoundIn Fence.wide n P l f tmps assign body w R):RoundIn G n P l f tmps assign body w R:=by
 rcases h with rfl|⟨l,rfl⟩
 ·exact hc
 ·exact hc
def Be (o:Oper):Bool:=match o.op with| .defer _=>false|_=>true
theorem Gk {o:Oper} (h:Be o=true):∀c,o.op≠.defer c:=by
 intro c e;unfold Be at h;rw [e]at h;cases h
theorem Jh {P:Program} {G:Fence} (hG:Good G) {n:Nat} {o:Oper} (hd:Be o=true) {a:Act} {w:World} {next:Act->World->Prop} {Q:Exit->Act->World->Prop} (h:D6 P (fun v w=>next (a.put o.dst v) w) ((execOp a.eval o).run P w)):o.wpIn G n P a w next Q:=by
 refine⟨fun f _=>hG.fn f,?_⟩;rw [Oper.semAt_eq G.round a.eval o (Gk hd)];generalize (execOp a.eval o).run P w=r at h;cases r with
 |ok x w=>
  cases x with
  |value v=>exact h
  |skip=>exact h
  |enter f args=>
   refine⟨fun hx=>(by rw [hG.depth]at hx;cases hx),hG.calls (Calls.mono (h:Calls P f args w _) fun e w' h=> ?_)⟩;cases e with
   |returned v=>exact h
   |panicked c=>exact(h:False).elim
   |outgrown=>exact(h:False).elim
  |_=>exact(h:False).elim
 |halt x w=>exact(h:False).elim
def Ky (P:Program) (l:Nat) (args:Array Value) (next:Bool->World->Prop) (w:World):Prop:=∀n,YieldAt Fence.wide n P l args w fun e w'=>∃b,e= .returned (.bool b)/\next b w'
def Kz:Nat->(List Value->Prop)->Prop
 |0,K=>K []|n+1,K=>∃b:Nat,Kz n fun l=>K (.pointer (some ⟨b,0,none⟩)::l)
theorem L7:∀ {n:Nat} {K:List Value->Prop},Kz n K->∃l,K l
 |0,_,h=>⟨_,h⟩
 |_+1,_,⟨_,h⟩=>by obtain⟨l,h⟩:=L7 h;exact⟨_,h⟩
theorem L8:∀ {n:Nat} {K K':List Value->Prop},Kz n K->(∀l,K l->K' l)->Kz n K'
 |0,_,_,h,hk=>hk _ h
 |_+1,_,_,⟨b,h⟩,hk=>⟨b,L8 h fun _ h=>hk _ h⟩
def Rk (k:Nat) (ps:List Value):Value:=cond (Nat.blt k 1000000) (.func (.func k) #[] ⟨ps⟩) (.agg ⟨.nilFunc::(List.range (k%1000000)).map fun i=> .func (.func (k/1000000+i)) #[] ⟨ps⟩⟩)
def O9 (P:Program) (cl:List (Nat×Nat×Nat)) (ρ:Operand->Value) (o:Oper) (next:Value->World->Prop) (w:World):Prop:=
 match o.op with
 | .call c=>match c.callee with
  | .value f=>match ρ f with
   | .func (.yield l) first captured=>cond (first.size==0&&captured.size==0) (Ky P l (c.args.map ρ) (fun b w'=>next (.bool b) w') w) False
   | .func (.func g) first captured=>match Ec cl g with
    |some gk=>cond (Cd P g) (Calls P g (first++c.args.map ρ++captured) w (aG fun v w'=>Kz gk.2 fun ps=>v=Rk gk.1 ps/\next (Rk gk.1 ps) w')) False
    |none=>Hj P ρ o next w
   |_=>Hj P ρ o next w
  |_=>Hj P ρ o next w
 | .load _ _=>match Ec cl (1000000000+o.dst.getD 0)with
  |some gk=>Hj P ρ o (fun v w'=>Kz gk.2 fun ps=>v=Rk gk.1 ps/\next (Rk gk.1 ps) w') w
  |none=>Hj P ρ o next w
 |_=>Hj P ρ o next w
theorem Ky.mono {P:Program} {l:Nat} {args:Array Value} {next next':Bool->World->Prop} {w:World} (h:Ky P l args next w) (hk:∀b w,next b w->next' b w):Ky P l args next' w:=by
 intro n;obtain⟨fn,tmps,assign,body,h1,h2⟩:=h n;exact⟨fn,tmps,assign,body,h1,RoundIn.mono h2 fun e w' ⟨b,he,hb⟩=>⟨b,he,hk _ _ hb⟩⟩
theorem Ik {P:Program} {cl:List (Nat×Nat×Nat)} {ρ:Operand->Value} {o:Oper} {next next':Value->World->Prop} {w:World} (h:O9 P cl ρ o next w) (hk:∀v w,next v w->next' v w):O9 P cl ρ o next' w:=by
 unfold O9 at h⊢;split at h
 ·split at h
  ·split at h
   ·rename_i l first captured hf
    cases hc:(first.size==0&&captured.size==0)with
    |false=>rw [hc]at h;exact h.elim
    |true=>rw [hc]at h;exact Ky.mono h fun b w h=>hk _ _ h
   ·rename_i g first captured hf
    split at h
    ·rename_i gk hl;cases hc:Cd P g with
     |false=>rw [hc]at h;exact h.elim
     |true=>
      rw [hc]at h;refine Calls.mono (h:Calls P g _ w _) fun e w' he=> ?_
      cases e with
      |returned v=>exact L8 (he:Kz gk.2 _) fun l h=>⟨h.1,hk _ _ h.2⟩
      |panicked c=>exact he
      |outgrown=>exact he
    ·exact Cq h hk
   ·exact Cq h hk
  ·exact Cq h hk
 ·split at h
  ·exact Cq h fun v w h=>L8 h fun l h=>⟨h.1,hk _ _ h.2⟩
  ·exact Cq h hk
 ·exact Cq h hk
theorem Il {P:Program} {cl:List (Nat×Nat×Nat)} {G:Fence} (hG:Good G) {n:Nat} {o:Oper} (hd:Be o=true) {a:Act} {w:World} {next:Act->World->Prop} {Q:Exit->Act->World->Prop} (h:O9 P cl a.eval o (fun v w=>next (a.put o.dst v) w) w):o.wpIn G n P a w next Q:=by
 unfold O9 at h;split at h
 ·rename_i c ho;split at h
  ·rename_i f qA;split at h
   ·rename_i l first captured hf
    cases hc:(first.size==0&&captured.size==0)with
    |false=>rw [hc]at h;exact h.elim
    |true=>
     rw [hc]at h;simp only [and_eq_true,beq_iff_eq]at hc;have e1:first= #[]:=Array.eq_empty_of_size_eq_zero hc.1
     have e2:captured= #[]:=Array.eq_empty_of_size_eq_zero hc.2;subst e1 e2;refine⟨fun f _=>hG.fn f,?_⟩;rw [Oper.semAt_eq G.round a.eval o (Gk hd)];obtain⟨fn,tmps,assign,body,h1,h2⟩:=h (n-1);obtain⟨callee,args,argTypes⟩:=c;obtain⟨dst,op,type,pos,after,guard⟩:=o;simp only at ho qA;subst ho qA;have eD:(execOp a.eval { dst:=dst,op:= .call { callee:= .value f,args:=args,argTypes:=argTypes },type:=type,pos:=pos,after:=after,guard:=guard }).run P w= .ok (.round l fn tmps assign body) w:=by
      simpa [execOp,resolve,hf,Deferred.ofValue,invoke] using h1
     rw [eD];refine⟨fun hx=>(by rw [hG.depth]at hx;cases hx),RoundIn.mono (hG.round h2) fun e w' he=> ?_⟩;obtain⟨b,rfl,hb⟩:=he;exact hb
   ·rename_i g first captured hf
    split at h
    ·rename_i gk hl;cases hc:Cd P g with
     |false=>rw [hc]at h;exact h.elim
     |true=>
      rw [hc]at h;refine Jh hG hd ?_;have h2:Calls P g (first++c.args.map a.eval++captured) w (aG fun v w'=>next (a.put o.dst v) w'):=Calls.mono (h:Calls P g _ w _) fun e w' he=>by
       cases e with
       |returned v=>obtain⟨l,h1,h2⟩:=L7 (he:Kz gk.2 _);rw [←h1]at h2;exact h2
       |panicked c=>exact he
       |outgrown=>exact he
      have h3:=L5 hc h2;obtain⟨callee,args,argTypes⟩:=c;obtain⟨dst,op,type,pos,after,guard⟩:=o;simp only at ho qA;subst ho qA;simpa only [execOp,resolve,hf,Deferred.ofValue,invoke,Sem.run_bind,Sem.run_pure,Result.andThen_ok,Array.append_assoc] using h3
    ·exact Jh hG hd (Jf h)
   ·exact Jh hG hd (Jf h)
  ·exact Jh hG hd (Jf h)
 ·split at h
  ·exact Jh hG hd (Jf (Cq h fun v w h=>by obtain⟨l,h1,h2⟩:=L7 h;rw [←h1]at h2;exact h2))
  ·exact Jh hG hd (Jf h)
 ·exact Jh hG hd (Jf h)
def Dr (P:Program) (cl:List (Nat×Nat×Nat)) (ops:Array Oper) (Q:Act->World->Prop):List Oper->Nat->Act->World->Prop
 |[],_,a,w=>Q a w|o::rest,i,a,w=>
  cond (Region.wanted o (yielded ops a.tmps))
   (O9 P cl a.eval (Et ops.toList o) (Dz (B1 ops.toList i) fun v w'=>Dr P cl ops Q rest (i+1) (a.put o.dst v) w') w)
   (Dr P cl ops Q rest (i+1) (a.put o.dst undef) w)
theorem Uf {P:Program} {cl:List (Nat×Nat×Nat)} {ops:Array Oper} {Q Q':Act->World->Prop} {wr:List Nat} {a0:Act} (hq:∀a w,Q a w->Fr wr a0 a->Q' a w):∀(l:List Oper) (i:Nat) (a:Act) (w:World),(∀o∈l,∀d,o.dst=some d->d∈wr)->Fr wr a0 a->Dr P cl ops Q l i a w->Dr P cl ops Q' l i a w:=by
 intro l
 induction l with
 |nil=>intro i a w _ hf h;exact hq _ _ h hf
 |cons o rest ih=>
  intro i a w hd hf h;simp only [Dr]at h⊢;have dU:=hd o (by simp);have hr:∀o∈rest,∀d,o.dst=some d->d∈wr:=fun o ho=>hd o (by simp [ho])
  cases hw:Region.wanted o (yielded ops a.tmps)with
  |false=>rw [hw]at h;exact ih _ _ _ hr (hf.put dU _) h
  |true=>
   rw [hw]at h;refine Ik h fun v w' h=> ?_
   rw [Av]at h⊢;exact ih _ _ _ hr (hf.put dU _) h
theorem WX {P:Program} {cl:List (Nat×Nat×Nat)} {ρ:Operand->Value} {o:Oper} {p:gZ} (hp:B0 P ρ o=some p) {next:Value->World->Prop} {w:World} (h:Hj P ρ o next w):O9 P cl ρ o next w:=by
 unfold O9;split
 ·rename_i c ho;split
  ·rename_i f qA;exfalso;unfold B0 at hp;rw [ho]at hp;obtain⟨callee,args,argTypes⟩:=c;simp only at qA;subst qA;simp at hp
  ·exact h
 ·rename_i ho;exfalso;unfold B0 at hp;rw [ho]at hp;simp at hp
 ·exact h
theorem Nf {ops:List Oper} {o:Oper} (h:Be o=true):Be (Et ops o)=true:=by
 unfold Et;split
 ·rename_i h1 _;simp only [Be,h1]
 ·exact h
theorem WY {P:Program} {cl:List (Nat×Nat×Nat)} {G:Fence} (hG:Good G) {n:Nat} {ops:Array Oper} {Q:Exit->Act->World->Prop} :∀(l:List Oper) (k:Nat) (a:Act) (w:World),(∀o∈l,Be o=true)->(∀j,l[j]? =ops[k+j]?)->Dr P cl ops (Q .normal) l k a w->wpOpsIn G n P ops Q (List.range' k l.length) a w:=by
 intro l
 induction l with
 |nil=>intro k a w _ _ h;simpa [wpOpsIn,Dr] using h
 |cons o rest ih=>
  intro k a w hd hl h;have h0:ops[k]? =some o:=by simpa using(hl 0).symm
  have tU:∀j,rest[j]? =ops[k+1+j]? :=fun j=>by have:=hl (j+1);rw [show k+1+j=k+(j+1) by omega];simpa using this
  simp only [List.length_cons,List.range'_succ];rw [wpOpsIn_cons];unfold wpOpIn;simp only [h0];simp only [Dr]at h;have ho:=hd o (by simp);cases hw:Region.wanted o (yielded ops a.tmps)with
  |false=>
   rw [hw]at h;simp only [Bool.false_eq_true,if_false];exact⟨fun f _=>hG.fn f,ih _ _ _ (fun o ho=>hd o (by simp [ho])) tU h⟩
  |true=>
   rw [hw]at h;simp only [if_true];have hq:=Il (P:=P) (G:=G) hG (n:=n) (o:=Et ops.toList o) (Nf ho) (a:=a) (w:=w) (next:=fun a' w'=>wpOpsIn G n P ops Q (List.range' (k+1) rest.length) a' w') (Q:=Q)
    (Ik h fun v w' h=>by rw [Av]at h;rw [Xf];exact ih _ _ _ (fun o ho=>hd o (by simp [ho])) tU h)
   unfold Oper.wpIn at hq⊢;refine⟨fun f _=>hG.fn f,?_⟩;have h2:=hq.2;rw [Oper.semAt_eq G.round a.eval _ (Gk (Nf ho)),Ua]at h2;rw [Oper.semAt_eq G.round a.eval _ (Gk ho)];generalize (execOp a.eval o).run P w=r at h2⊢;unfold Oper.uponIn at h2⊢;simp only [Xf]at h2;exact h2
theorem Sq {P:Program} {cl:List (Nat×Nat×Nat)} {G:Fence} (hG:Good G) {n:Nat} {id:Nat} {ops:Array Oper} {Q:Exit->Act->World->Prop} {a:Act} {w:World} (hd:ops.toList.all Be=true) (h:Dr P cl ops (Q .normal) ops.toList 0 a w):(Code.region id ops false).wpIn G n P Q a w:=by
 refine wpIn_region ?_;have:=WY hG (n:=n) ops.toList 0 a w (fun o ho=>List.all_eq_true.1 hd o ho) (fun j=>by simp) h;rw [List.range_eq_range'];simpa using this
theorem Good.rows {G:Fence} (h:Good G) {n:Nat} {P:Program} {row:String} {args:Array Value} {w:World} {R:Value->World->Prop} (hc:Rows P row args w R):RowsIn G n P row args w R:=by
 have hw:RowsIn Fence.wide n P row args w R:=fun c cs _=>let ⟨v,w',r,s⟩:=hc c cs;⟨v,w',r,stepsIn_wide.2 s⟩
 rcases h with rfl|⟨l,rfl⟩
 ·exact hw
 ·exact hw
theorem WZ {P:Program} {G:Fence} (hG:Good G) {n:Nat} {o:Oper} (hd:Be o=true) {a:Act} {w:World} {K:Act->World->Prop} {Q:Exit->Act->World->Prop} (h:o.wp P a w K Q):o.wpIn G n P a w K Q:=by
 refine⟨fun f _=>hG.fn f,?_⟩;rw [Oper.semAt_eq G.round a.eval o (Gk hd)];unfold Oper.wp at h;generalize (execOp a.eval o).run P w=r at h;cases r with
 |ok x w'=>
  cases x with
  |value v=>exact h
  |skip=>exact h
  |defer d=>exact h
  |enter f args=>exact⟨fun hx=>(by rw [hG.depth]at hx;cases hx),hG.calls h⟩
  |row row args=>exact⟨fun hx=>(by rw [hG.depth]at hx;cases hx),hG.rows h⟩
  |_=>exact(h:False).elim
 |halt x w'=>
  cases x with
  |panic v=>exact h
  |_=>exact(h:False).elim
theorem V2 {P:Program} {G:Fence} (hG:Good G) {n:Nat} {ops:Array Oper} (hd:∀(i:Nat) (o:Oper),ops[i]? =some o->Be o=true) {Q:Exit->Act->World->Prop} (hO:¬LetsOut Q):∀(fuel:Nat) (listed:Array Bool) (a:Act) (w:World),
 wpAny P .any ops Q fuel listed a w->wpAnyIn G n P .any ops Q fuel listed a w
 |0,_,_,_,h=>h
 |fuel+1,listed,a,w,h=>by
  refine⟨h.1,fun i hi=> ?_⟩;have:=h.2 i hi;unfold wpOp at this;unfold wpOpIn;cases ho:ops[i]? with
  |none=>rw [ho]at this;exact V2 hG hd hO fuel _ _ _ this
  |some o=>
   rw [ho]at this;simp only at this⊢;cases hw:Region.wanted o (yielded ops a.tmps)with
   |false=>
    rw [hw]at this;simp only [Bool.false_eq_true,if_false]at this⊢;exact⟨fun f _=>hG.fn f,V2 hG hd hO fuel _ _ _ this⟩
   |true=>
    rw [hw]at this;simp only [if_true]at this⊢;rcases this with h1|⟨_,h1⟩
    ·exact Oper.wpIn_mono (fun a w h=>V2 hG hd hO fuel _ _ _ h) (WZ hG (hd i o ho) h1)
    ·exact absurd h1 hO
theorem K0 {Q:Act->World->Prop} :¬LetsOut (B7 Q):=fun⟨_,_,h⟩=>h
theorem W_ {P:Program} {ops:Array Oper} {Q:Act->World->Prop} {a:Act} {w:World} (h:Ml P ops Q a w): P.follows .mixedOrders=true/\wpAny P .any ops (B7 Q) ops.size (replicate ops.size false) a { w with drawn:=w.drawn+1 } :=by
 unfold Ml at h;cases hm:P.follows .mixedOrders with
 |false=>rw [hm]at h;exact h.elim
 |true=>
  rw [hm]at h;simp only [cond_true]at h;refine⟨rfl,?_⟩;cases hc:(Zq P ops.toList&&Region.lexB .any ops)with
  |true=>
   rw [hc]at h;simp only [and_eq_true]at hc;have hB:=hc.2;simp only [Region.lexB,and_eq_true]at hB;have hq:=Kg ops.toList 0 a (h _ rfl);refine wpAny_of_quiet (C:=fun w'=>w'=w.drew) (Q:=fun a'=>∀w',w'=w.drew->Q a' w') (fun _ w' j1 h=>h w' j1) _ _ _ _ rfl ?_;have:=wpAnyQ_lex (C:=fun w'=>w'=w.drew) (md:= .any) hB.1 ops.toList 0 (replicate ops.size false) a (by simp) (by simpa using hB.2) hq;simpa using this
  |false=>
   rw [hc]at h;simp only [cond_false]at h;cases ht:rZ P ops with
   |true=>rw [ht]at h;exact Ig ht (h _ rfl)
   |false=>
   rw [ht]at h;simp only [cond_false]at h;cases hs:Region.noSelect ops with
   |false=>rw [hs]at h;exact h.elim
   |true=>
    rw [hs]at h;simp only [cond_true]at h;cases hl:ops.toList.any Cx with
    |true=>
     rw [hl]at h;obtain⟨S,hS,h⟩:=h _ rfl;exact H8 _ _ _ _ (Ic hs Xj _ _ _ _ _ (DC.start _ _) (fun _=>hS) h)
    |false=>rw [hl]at h;exact HS hs _ _ _ _ (h _ rfl)
theorem XA {P:Program} {G:Fence} (hG:Good G) {n:Nat} {id:Nat} {ops:Array Oper} {Q:Exit->Act->World->Prop} {a:Act} {w:World} (hd:ops.toList.all Be=true) (h:Ml P ops (Q .normal) a w):(Code.region id ops true).wpIn G n P Q a w:=by
 obtain⟨hm,h⟩:=W_ h;refine wpIn_mono (wpIn_region_any hm (V2 hG (fun i o ho=>List.all_eq_true.1 hd o (by simpa using Array.mem_of_getElem? ho)) K0 _ _ _ _ h)) fun e a w h=> ?_
 cases e<;>first|exact h|exact(h:False).elim
theorem XB {P:Program} {G:Fence} (hG:Good G) {n:Nat} {id:Nat} {ops:Array Oper} {Q:Exit->Act->World->Prop} {a:Act} {w:World} (hd:ops.toList.all Be=true) (hm:P.follows .mixedOrders=true) (hB:Region.lexB .any ops=true) (h:Eu P ops (Q .normal) ops.toList 0 a w.drew):(Code.region id ops true).wpIn G n P Q a w:=by
 have r7:=hB;simp only [Region.lexB,and_eq_true]at r7;have hq:=Kg ops.toList 0 a h;have hx:wpAny P .any ops (B7 (Q .normal)) ops.size (replicate ops.size false) a { w with drawn:=w.drawn+1 } :=by
  refine wpAny_of_quiet (C:=fun w'=>w'=w.drew) (Q:=fun a'=>∀w',w'=w.drew->Q .normal a' w') (Q':=B7 (Q .normal)) (fun _ w' j1 h=>h w' j1) _ _ _ _ rfl ?_;have:=wpAnyQ_lex (C:=fun w'=>w'=w.drew) (md:= .any) r7.1 ops.toList 0 (replicate ops.size false) a (by simp) (by simpa using r7.2) hq;simpa using this
 refine wpIn_mono (wpIn_region_any hm (V2 hG (fun i o ho=>List.all_eq_true.1 hd o (by simpa using Array.mem_of_getElem? ho)) K0 _ _ _ _ hx)) fun e a w h=> ?_
 cases e<;>first|exact h|exact(h:False).elim
end Go.Vc
