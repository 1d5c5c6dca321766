/- The conditions of Go code: a library of this claim. -/
import Derived.Test.YtpdccfgpbkagcaaGreatVcF
import Derived.RangeFuncNested
import Derived.RangeFuncLeaves
import Derived.RangeFuncCalls
import Derived.OrdersIn
open Bool (and_eq_true)
open Array (replicate)
namespace Go.Vc
open Go.RowKit (Below)
def Good (G:Fence):Prop:=G=Fence.wide\/∃l,G=Fence.wide.inRound l
theorem Good.fn {G:Fence} (h:Good G) (f:FuncId):G.fn f:=by rcases h with rfl|⟨l,rfl⟩<;>trivial
theorem Good.depth {G:Fence} (h:Good G):G.depth=none:=by rcases h with rfl|⟨l,rfl⟩<;>rfl
theorem Good.calls {G:Fence} (h:Good G) {n:Nat} {P:Program} {f:FuncId} {args:Array Value} {w:World} {R:Ending->World->Prop} (hc:Calls P f args w R):CallsIn G n P f args w R:=by
 rcases h with rfl|⟨l,rfl⟩
 ·exact callsIn_wide.2 hc
 ·exact CallsIn.inRound l (callsIn_wide.2 hc)
theorem Good.round {G:Fence} (h:Good G) {n:Nat} {P:Program} {l:Nat} {f:FuncId} {tmps:Array Value} {assign body:Code} {w:World} {R:Ending->World->Prop} (hc:RoundIn Fence.wide n P l f tmps assign body w R):RoundIn G n P l f tmps assign body w R:=by
 rcases h with rfl|⟨l,rfl⟩
 ·exact hc
 ·exact hc
def Bu (o:Oper):Bool:=match o.op with| .defer _=>false|_=>true
theorem Fy {o:Oper} (h:Bu o=true):∀c,o.op≠.defer c:=by
 intro c e;unfold Bu at h;rw [e]at h;cases h
theorem Lp {P:Program} {G:Fence} (hG:Good G) {n:Nat} {o:Oper} (hd:Bu o=true) {a:Act} {w:World} {next:Act->World->Prop} {Q:Exit->Act->World->Prop} (h:C9 P (fun v w=>next (a.put o.dst v) w) ((execOp a.eval o).run P w)):o.wpIn G n P a w next Q:=by
 refine⟨fun f _=>hG.fn f,?_⟩;rw [Oper.semAt_eq G.round a.eval o (Fy hd)];generalize (execOp a.eval o).run P w=r at h;cases r with
 |ok x w=>
  cases x with
  |value v=>exact h
  |skip=>exact h
  |enter f args=>
   refine⟨fun hx=>(by rw [hG.depth]at hx;cases hx),hG.calls (Calls.mono (h:Calls P f args w _) fun e w' h=> ?_)⟩;cases e with
   |returned v=>exact h
   |panicked c=>exact(h:False).elim
   |outgrown=>exact(h:False).elim
  |_=>exact(h:False).elim
 |halt x w=>exact(h:False).elim
def J8 (P:Program) (l:Nat) (args:Array Value) (next:Bool->World->Prop) (w:World):Prop:=∀n,YieldAt Fence.wide n P l args w fun e w'=>∃b,e= .returned (.bool b)/\next b w'
def Lb:Nat->(List Value->Prop)->Prop
 |0,K=>K []|n+1,K=>∃b:Nat,Lb n fun l=>K (.pointer (some ⟨b,0,none⟩)::l)
theorem Oa:∀ {n:Nat} {K:List Value->Prop},Lb n K->∃l,K l
 |0,_,h=>⟨_,h⟩
 |_+1,_,⟨_,h⟩=>by obtain⟨l,h⟩:=Oa h;exact⟨_,h⟩
theorem Ob:∀ {n:Nat} {K K':List Value->Prop},Lb n K->(∀l,K l->K' l)->Lb n K'
 |0,_,_,h,hk=>hk _ h
 |_+1,_,_,⟨b,h⟩,hk=>⟨b,Ob h fun _ h=>hk _ h⟩
def X3 (k:Nat) (ps:List Value):Value:=cond (Nat.blt k 1000000) (.func (.func k) #[] ⟨ps⟩) (.agg ⟨.nilFunc::(List.range (k%1000000)).map fun i=> .func (.func (k/1000000+i)) #[] ⟨ps⟩⟩)
def Nl (P:Program) (cl:List (Nat×Nat×Nat)) (ρ:Operand->Value) (o:Oper) (next:Value->World->Prop) (w:World):Prop:=
 match o.op with
 | .call c=>match c.callee with
  | .value f=>match ρ f with
   | .func (.yield l) first captured=>cond (first.size==0&&captured.size==0) (J8 P l (c.args.map ρ) (fun b w'=>next (.bool b) w') w) False
   | .func (.func g) first captured=>match Dl cl g with
    |some gk=>cond (Cs P g) (Calls P g (first++c.args.map ρ++captured) w (aD fun v w'=>Lb gk.2 fun ps=>v=X3 gk.1 ps/\next (X3 gk.1 ps) w')) False
    |none=>G5 P ρ o next w
   |_=>G5 P ρ o next w
  |_=>G5 P ρ o next w
 |_=>G5 P ρ o next w
theorem J8.mono {P:Program} {l:Nat} {args:Array Value} {next next':Bool->World->Prop} {w:World} (h:J8 P l args next w) (hk:∀b w,next b w->next' b w):J8 P l args next' w:=by
 intro n;obtain⟨fn,tmps,assign,body,h1,h2⟩:=h n;exact⟨fn,tmps,assign,body,h1,RoundIn.mono h2 fun e w' ⟨b,he,hb⟩=>⟨b,he,hk _ _ hb⟩⟩
theorem Yr {P:Program} {cl:List (Nat×Nat×Nat)} {ρ:Operand->Value} {o:Oper} {next next':Value->World->Prop} {w:World} (h:Nl P cl ρ o next w) (hk:∀v w,next v w->next' v w):Nl P cl ρ o next' w:=by
 unfold Nl at h⊢;split at h
 ·split at h
  ·split at h
   ·rename_i l first captured hf
    cases hc:(first.size==0&&captured.size==0)with
    |false=>rw [hc]at h;exact h.elim
    |true=>rw [hc]at h;exact J8.mono h fun b w h=>hk _ _ h
   ·rename_i g first captured hf
    split at h
    ·rename_i gk hl;cases hc:Cs P g with
     |false=>rw [hc]at h;exact h.elim
     |true=>
      rw [hc]at h;refine Calls.mono (h:Calls P g _ w _) fun e w' he=> ?_
      cases e with
      |returned v=>exact Ob (he:Lb gk.2 _) fun l h=>⟨h.1,hk _ _ h.2⟩
      |panicked c=>exact he
      |outgrown=>exact he
    ·exact C7 h hk
   ·exact C7 h hk
  ·exact C7 h hk
 ·exact C7 h hk
theorem MV {P:Program} {cl:List (Nat×Nat×Nat)} {G:Fence} (hG:Good G) {n:Nat} {o:Oper} (hd:Bu o=true) {a:Act} {w:World} {next:Act->World->Prop} {Q:Exit->Act->World->Prop} (h:Nl P cl a.eval o (fun v w=>next (a.put o.dst v) w) w):o.wpIn G n P a w next Q:=by
 unfold Nl at h;split at h
 ·rename_i c ho;split at h
  ·rename_i f sW;split at h
   ·rename_i l first captured hf
    cases hc:(first.size==0&&captured.size==0)with
    |false=>rw [hc]at h;exact h.elim
    |true=>
     rw [hc]at h;simp only [and_eq_true,beq_iff_eq]at hc;have e1:first= #[]:=Array.eq_empty_of_size_eq_zero hc.1
     have e2:captured= #[]:=Array.eq_empty_of_size_eq_zero hc.2;subst e1 e2;refine⟨fun f _=>hG.fn f,?_⟩;rw [Oper.semAt_eq G.round a.eval o (Fy hd)];obtain⟨fn,tmps,assign,body,h1,h2⟩:=h (n-1);obtain⟨callee,args,argTypes⟩:=c;obtain⟨dst,op,type,pos,after,guard⟩:=o;simp only at ho sW;subst ho sW;have eA:(execOp a.eval { dst:=dst,op:= .call { callee:= .value f,args:=args,argTypes:=argTypes },type:=type,pos:=pos,after:=after,guard:=guard }).run P w= .ok (.round l fn tmps assign body) w:=by
      simpa [execOp,resolve,hf,Deferred.ofValue,invoke] using h1
     rw [eA];refine⟨fun hx=>(by rw [hG.depth]at hx;cases hx),RoundIn.mono (hG.round h2) fun e w' he=> ?_⟩;obtain⟨b,rfl,hb⟩:=he;exact hb
   ·rename_i g first captured hf
    split at h
    ·rename_i gk hl;cases hc:Cs P g with
     |false=>rw [hc]at h;exact h.elim
     |true=>
      rw [hc]at h;refine Lp hG hd ?_;have h2:Calls P g (first++c.args.map a.eval++captured) w (aD fun v w'=>next (a.put o.dst v) w'):=Calls.mono (h:Calls P g _ w _) fun e w' he=>by
       cases e with
       |returned v=>obtain⟨l,h1,h2⟩:=Oa (he:Lb gk.2 _);rw [←h1]at h2;exact h2
       |panicked c=>exact he
       |outgrown=>exact he
      have h3:=Kx hc h2;obtain⟨callee,args,argTypes⟩:=c;obtain⟨dst,op,type,pos,after,guard⟩:=o;simp only at ho sW;subst ho sW;simpa only [execOp,resolve,hf,Deferred.ofValue,invoke,Sem.run_bind,Sem.run_pure,Result.andThen_ok,Array.append_assoc] using h3
    ·exact Lp hG hd (Ll h)
   ·exact Lp hG hd (Ll h)
  ·exact Lp hG hd (Ll h)
 ·exact Lp hG hd (Ll h)
def C0 (P:Program) (cl:List (Nat×Nat×Nat)) (ops:Array Oper) (Q:Act->World->Prop):List Oper->Nat->Act->World->Prop
 |[],_,a,w=>Q a w|o::rest,i,a,w=>
  cond (Region.wanted o (yielded ops a.tmps))
   (Nl P cl a.eval (Dx ops.toList o) (C3 (B1 ops.toList i) fun v w'=>C0 P cl ops Q rest (i+1) (a.put o.dst v) w') w)
   (C0 P cl ops Q rest (i+1) (a.put o.dst undef) w)
theorem Sl {P:Program} {cl:List (Nat×Nat×Nat)} {ops:Array Oper} {Q Q':Act->World->Prop} {wr:List Nat} {a0:Act} (hq:∀a w,Q a w->Fr wr a0 a->Q' a w):∀(l:List Oper) (i:Nat) (a:Act) (w:World),(∀o∈l,∀d,o.dst=some d->d∈wr)->Fr wr a0 a->C0 P cl ops Q l i a w->C0 P cl ops Q' l i a w:=by
 intro l
 induction l with
 |nil=>intro i a w _ hf h;exact hq _ _ h hf
 |cons o rest ih=>
  intro i a w hd hf h;simp only [C0]at h⊢;have d6:=hd o (by simp);have hr:∀o∈rest,∀d,o.dst=some d->d∈wr:=fun o ho=>hd o (by simp [ho])
  cases hw:Region.wanted o (yielded ops a.tmps)with
  |false=>rw [hw]at h;exact ih _ _ _ hr (hf.put d6 _) h
  |true=>
   rw [hw]at h;refine Yr h fun v w' h=> ?_
   rw [A6]at h⊢;exact ih _ _ _ hr (hf.put d6 _) h
theorem Aq6 {P:Program} {cl:List (Nat×Nat×Nat)} {ρ:Operand->Value} {o:Oper} {p:ig} (hp:B8 P ρ o=some p) {next:Value->World->Prop} {w:World} (h:G5 P ρ o next w):Nl P cl ρ o next w:=by
 unfold Nl;split
 ·rename_i c ho;split
  ·rename_i f sW;exfalso;unfold B8 at hp;rw [ho]at hp;obtain⟨callee,args,argTypes⟩:=c;simp only at sW;subst sW;simp at hp
  ·exact h
 ·exact h
theorem Lq {ops:List Oper} {o:Oper} (h:Bu o=true):Bu (Dx ops o)=true:=by
 unfold Dx;split
 ·rename_i h1 _;simp only [Bu,h1]
 ·exact h
theorem Aln {P:Program} {cl:List (Nat×Nat×Nat)} {G:Fence} (hG:Good G) {n:Nat} {ops:Array Oper} {Q:Exit->Act->World->Prop} :∀(l:List Oper) (k:Nat) (a:Act) (w:World),(∀o∈l,Bu o=true)->(∀j,l[j]? =ops[k+j]?)->C0 P cl ops (Q .normal) l k a w->wpOpsIn G n P ops Q (List.range' k l.length) a w:=by
 intro l
 induction l with
 |nil=>intro k a w _ _ h;simpa [wpOpsIn,C0] using h
 |cons o rest ih=>
  intro k a w hd hl h;have h0:ops[k]? =some o:=by simpa using(hl 0).symm
  have sX:∀j,rest[j]? =ops[k+1+j]? :=fun j=>by have:=hl (j+1);rw [show k+1+j=k+(j+1) by omega];simpa using this
  simp only [List.length_cons,List.range'_succ];rw [wpOpsIn_cons];unfold wpOpIn;simp only [h0];simp only [C0]at h;have ho:=hd o (by simp);cases hw:Region.wanted o (yielded ops a.tmps)with
  |false=>
   rw [hw]at h;simp only [Bool.false_eq_true,if_false];exact⟨fun f _=>hG.fn f,ih _ _ _ (fun o ho=>hd o (by simp [ho])) sX h⟩
  |true=>
   rw [hw]at h;simp only [if_true];have hq:=MV (P:=P) (G:=G) hG (n:=n) (o:=Dx ops.toList o) (Lq ho) (a:=a) (w:=w) (next:=fun a' w'=>wpOpsIn G n P ops Q (List.range' (k+1) rest.length) a' w') (Q:=Q)
    (Yr h fun v w' h=>by rw [A6]at h;rw [V7];exact ih _ _ _ (fun o ho=>hd o (by simp [ho])) sX h)
   unfold Oper.wpIn at hq⊢;refine⟨fun f _=>hG.fn f,?_⟩;have h2:=hq.2;rw [Oper.semAt_eq G.round a.eval _ (Fy (Lq ho)),Sf]at h2;rw [Oper.semAt_eq G.round a.eval _ (Fy ho)];generalize (execOp a.eval o).run P w=r at h2⊢;unfold Oper.uponIn at h2⊢;simp only [V7]at h2;exact h2
theorem Qz {P:Program} {cl:List (Nat×Nat×Nat)} {G:Fence} (hG:Good G) {n:Nat} {id:Nat} {ops:Array Oper} {Q:Exit->Act->World->Prop} {a:Act} {w:World} (hd:ops.toList.all Bu=true) (h:C0 P cl ops (Q .normal) ops.toList 0 a w):(Code.region id ops false).wpIn G n P Q a w:=by
 refine wpIn_region ?_;have:=Aln hG (n:=n) ops.toList 0 a w (fun o ho=>List.all_eq_true.1 hd o ho) (fun j=>by simp) h;rw [List.range_eq_range'];simpa using this
theorem Good.rows {G:Fence} (h:Good G) {n:Nat} {P:Program} {row:String} {args:Array Value} {w:World} {R:Value->World->Prop} (hc:Rows P row args w R):RowsIn G n P row args w R:=by
 have hw:RowsIn Fence.wide n P row args w R:=fun c cs _=>let ⟨v,w',r,s⟩:=hc c cs;⟨v,w',r,stepsIn_wide.2 s⟩
 rcases h with rfl|⟨l,rfl⟩
 ·exact hw
 ·exact hw
theorem Ayx {P:Program} {G:Fence} (hG:Good G) {n:Nat} {o:Oper} (hd:Bu o=true) {a:Act} {w:World} {K:Act->World->Prop} {Q:Exit->Act->World->Prop} (h:o.wp P a w K Q):o.wpIn G n P a w K Q:=by
 refine⟨fun f _=>hG.fn f,?_⟩;rw [Oper.semAt_eq G.round a.eval o (Fy hd)];unfold Oper.wp at h;generalize (execOp a.eval o).run P w=r at h;cases r with
 |ok x w'=>
  cases x with
  |value v=>exact h
  |skip=>exact h
  |defer d=>exact h
  |enter f args=>exact⟨fun hx=>(by rw [hG.depth]at hx;cases hx),hG.calls h⟩
  |row row args=>exact⟨fun hx=>(by rw [hG.depth]at hx;cases hx),hG.rows h⟩
  |_=>exact(h:False).elim
 |halt x w'=>
  cases x with
  |panic v=>exact h
  |_=>exact(h:False).elim
theorem Ut {P:Program} {G:Fence} (hG:Good G) {n:Nat} {ops:Array Oper} (hd:∀(i:Nat) (o:Oper),ops[i]? =some o->Bu o=true) {Q:Exit->Act->World->Prop} (hO:¬LetsOut Q):∀(fuel:Nat) (listed:Array Bool) (a:Act) (w:World),
 wpAny P .any ops Q fuel listed a w->wpAnyIn G n P .any ops Q fuel listed a w
 |0,_,_,_,h=>h
 |fuel+1,listed,a,w,h=>by
  refine⟨h.1,fun i hi=> ?_⟩;have:=h.2 i hi;unfold wpOp at this;unfold wpOpIn;cases ho:ops[i]? with
  |none=>rw [ho]at this;exact Ut hG hd hO fuel _ _ _ this
  |some o=>
   rw [ho]at this;simp only at this⊢;cases hw:Region.wanted o (yielded ops a.tmps)with
   |false=>
    rw [hw]at this;simp only [Bool.false_eq_true,if_false]at this⊢;exact⟨fun f _=>hG.fn f,Ut hG hd hO fuel _ _ _ this⟩
   |true=>
    rw [hw]at this;simp only [if_true]at this⊢;rcases this with h1|⟨_,h1⟩
    ·exact Oper.wpIn_mono (fun a w h=>Ut hG hd hO fuel _ _ _ h) (Ayx hG (hd i o ho) h1)
    ·exact absurd h1 hO
theorem J9 {Q:Act->World->Prop} :¬LetsOut (B9 Q):=fun⟨_,_,h⟩=>h
theorem Alo {P:Program} {ops:Array Oper} {Q:Act->World->Prop} {a:Act} {w:World} (h:La P ops Q a w): P.follows .mixedOrders=true/\wpAny P .any ops (B9 Q) ops.size (replicate ops.size false) a { w with drawn:=w.drawn+1 } :=by
 unfold La at h;cases hm:P.follows .mixedOrders with
 |false=>rw [hm]at h;exact h.elim
 |true=>
  rw [hm]at h;simp only [cond_true]at h;refine⟨rfl,?_⟩;cases hc:(X1 P ops.toList&&Region.lexB .any ops)with
  |true=>
   rw [hc]at h;simp only [and_eq_true]at hc;have hB:=hc.2;simp only [Region.lexB,and_eq_true]at hB;have hq:=Jo ops.toList 0 a (h _ rfl);refine wpAny_of_quiet (C:=fun w'=>w'=w.drew) (Q:=fun a'=>∀w',w'=w.drew->Q a' w') (fun _ w' j9 h=>h w' j9) _ _ _ _ rfl ?_;have:=wpAnyQ_lex (C:=fun w'=>w'=w.drew) (md:= .any) hB.1 ops.toList 0 (replicate ops.size false) a (by simp) (by simpa using hB.2) hq;simpa using this
  |false=>
   rw [hc]at h;simp only [cond_false]at h;cases ht:ur P ops with
   |true=>rw [ht]at h;exact MQ ht (h _ rfl)
   |false=>
   rw [ht]at h;simp only [cond_false]at h;cases hs:Region.noSelect ops with
   |false=>rw [hs]at h;exact h.elim
   |true=>
    rw [hs]at h;simp only [cond_true]at h;cases hl:ops.toList.any Ct with
    |true=>
     rw [hl]at h;obtain⟨S,hS,h⟩:=h _ rfl;exact Hh _ _ _ _ (MO hs Wb _ _ _ _ _ (DC.start _ _) (fun _=>hS) h)
    |false=>rw [hl]at h;exact MF hs _ _ _ _ (h _ rfl)
theorem Auq {P:Program} {G:Fence} (hG:Good G) {n:Nat} {id:Nat} {ops:Array Oper} {Q:Exit->Act->World->Prop} {a:Act} {w:World} (hd:ops.toList.all Bu=true) (h:La P ops (Q .normal) a w):(Code.region id ops true).wpIn G n P Q a w:=by
 obtain⟨hm,h⟩:=Alo h;refine wpIn_mono (wpIn_region_any hm (Ut hG (fun i o ho=>List.all_eq_true.1 hd o (by simpa using Array.mem_of_getElem? ho)) J9 _ _ _ _ h)) fun e a w h=> ?_
 cases e<;>first|exact h|exact(h:False).elim
theorem Aur {P:Program} {G:Fence} (hG:Good G) {n:Nat} {id:Nat} {ops:Array Oper} {Q:Exit->Act->World->Prop} {a:Act} {w:World} (hd:ops.toList.all Bu=true) (hm:P.follows .mixedOrders=true) (hB:Region.lexB .any ops=true) (h:Dz P ops (Q .normal) ops.toList 0 a w.drew):(Code.region id ops true).wpIn G n P Q a w:=by
 have zj:=hB;simp only [Region.lexB,and_eq_true]at zj;have hq:=Jo ops.toList 0 a h;have hx:wpAny P .any ops (B9 (Q .normal)) ops.size (replicate ops.size false) a { w with drawn:=w.drawn+1 } :=by
  refine wpAny_of_quiet (C:=fun w'=>w'=w.drew) (Q:=fun a'=>∀w',w'=w.drew->Q .normal a' w') (Q':=B9 (Q .normal)) (fun _ w' j9 h=>h w' j9) _ _ _ _ rfl ?_;have:=wpAnyQ_lex (C:=fun w'=>w'=w.drew) (md:= .any) zj.1 ops.toList 0 (replicate ops.size false) a (by simp) (by simpa using zj.2) hq;simpa using this
 refine wpIn_mono (wpIn_region_any hm (Ut hG (fun i o ho=>List.all_eq_true.1 hd o (by simpa using Array.mem_of_getElem? ho)) J9 _ _ _ _ hx)) fun e a w h=> ?_
 cases e<;>first|exact h|exact(h:False).elim
end Go.Vc
