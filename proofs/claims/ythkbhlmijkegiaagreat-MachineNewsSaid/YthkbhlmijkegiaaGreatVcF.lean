/- The conditions of Go code: a library of this claim. -/
import Derived.Test.YthkbhlmijkegiaaGreatVcE
namespace Go.Vc
theorem P3 {P:Program} {ops:Array Oper} {Q Q':Act->World->Prop} {wr:List Nat} {a0:Act} (hq:∀a w,Q a w->Fr wr a0 a->Q' a w) (hd:∀o∈ops.toList,∀d,o.dst=some d->d∈wr) {a:Act} {w:World} (hf:Fr wr a0 a) (h:Ml P ops Q a w):Ml P ops Q' a w:=by
 unfold Ml at h⊢;cases hm:P.follows .mixedOrders with
 |false=>rw [hm]at h;exact h
 |true=>
  rw [hm]at h;simp only [cond_true]at h⊢;cases hc:(Zq P ops.toList&&Region.lexB .any ops)with
  |true=>rw [hc]at h;exact fun w' hw=>Jg hq _ _ _ _ hd hf (h w' hw)
  |false=>
   rw [hc]at h;simp only [cond_false]at h⊢;cases ht:rZ P ops with
   |true=>rw [ht]at h;exact fun w' hw=>WM hq _ _ _ _ hd hf (h w' hw)
   |false=>
   rw [ht]at h;simp only [cond_false]at h⊢;cases hs:Region.noSelect ops with
   |false=>rw [hs]at h;exact h
   |true=>
    rw [hs]at h;simp only [cond_true]at h⊢;cases hl:ops.toList.any Cx with
    |true=>
     rw [hl]at h;intro w' hw;obtain⟨S,hS,h⟩:=h w' hw;exact⟨S,hS,WQ hq (fun i o ho=>hd o (by simpa using Array.mem_of_getElem? ho)) _ _ _ _ _ hf h⟩
    |false=>rw [hl]at h;exact fun w' hw=>WN hq (fun i o ho=>hd o (by simpa using Array.mem_of_getElem? ho)) _ _ _ _ hf (h w' hw)
theorem P4 {P:Program} {cA:qx} {wr:List Nat} {a0:Act} :∀(c:Code) (cur:Nat) (Q Q':Exit->Act->World->Prop) (a:Act) (w:World),(∀i∈Code.writes c,i∈wr)->(∀e a w,Q e a w->Fr wr a0 a->Q' e a w)->Fr wr a0 a->D7 P cA c cur Q a w->D7 P cA c cur Q' a w:=by
 intro c
 induction c with
 |skip=>intro cur Q Q' a w _ hq hf h;exact hq _ _ _ h hf
 |region id ops draw=>
  intro cur Q Q' a w hw hq hf h;have hd:∀o∈ops.toList,∀d,o.dst=some d->d∈wr:=fun o ho d hd=>hw d (Zr ho hd)
  simp only [D7]at h⊢;split at h
  ·rename_i live _;have hm:∀w',Fk P ops (live.filter fun i=>(ops.toList.filterMap (·.dst)).contains i) (Q .normal) a w'->Fk P ops (live.filter fun i=>(ops.toList.filterMap (·.dst)).contains i) (Q' .normal) a w':=by
    intro w' h;unfold Fk at h⊢;split at h
    ·refine N7 h fun h g=>hq _ _ _ (h g) (Fq hf hw (fun i hi=>hw i (List.contains_iff_mem.1 (List.mem_filter.1 hi).2)) g _)
    ·exact h
   cases draw with
   |false=>exact hm _ h
   |true=>
    simp only [cond_true]at h⊢;cases hc:(P.follows .mixedOrders&&Region.lexB .any ops)with
    |false=>rw [hc]at h;exact h
    |true=>rw [hc]at h;exact fun w' j1=>hm w' (h w' j1)
  ·cases draw with
   |true=>exact P3 (fun a w=>hq _ a w) hd hf h
   |false=>exact WL (fun a w=>hq _ a w) _ _ _ _ hd hf h
 |seq x y gT gU=>
  intro cur Q Q' a w hw hq hf h;simp only [D7]at h⊢;simp only [Code.writes,List.mem_append]at hw;split at h
  ·rename_i live _;obtain⟨J,h1,h2⟩:=h;refine⟨J,gT _ _ _ _ _ (fun i hi=>hw i (.inl hi)) (fun e a' w' he dq=> ?_) hf h1,fun g=>Nd (h2 g) fun vs h w hJ=> ?_⟩
   ·cases e with
    |normal=>exact he
    |_=>exact hq _ _ _ he dq
   ·refine gU _ _ _ _ _ (fun i hi=>hw i (.inr hi)) hq (Fq hf (fun i hi=>hw i (.inl hi)) (fun i hi=> ?_) g vs) (h w hJ);obtain⟨p,hp,rfl⟩:=List.mem_map.1 hi;exact hw _ (.inl (by simpa using(List.mem_filter.1 hp).2))
  ·refine gT _ _ _ _ _ (fun i hi=>hw i (.inl hi)) (fun e a' w' he dq=> ?_) hf h;cases e with
   |normal=>exact gU _ _ _ _ _ (fun i hi=>hw i (.inr hi)) hq dq he
   |_=>exact hq _ _ _ he dq
 |cond c x y gT gU=>
  intro cur Q Q' a w hw hq hf h;simp only [D7]at h⊢;simp only [Code.writes,List.mem_append]at hw;split at h
  ·rename_i b _;cases b with
   |true=>exact gT _ _ _ _ _ (fun i hi=>hw i (.inl hi)) hq hf h
   |false=>exact gU _ _ _ _ _ (fun i hi=>hw i (.inr hi)) hq hf h
  ·exact h
 |block id c ih=>
  intro cur Q Q' a w hw hq hf h;simp only [D7]at h⊢;refine ih _ _ _ _ _ hw (fun e a' w' he dq=> ?_) hf h;cases e with
  |exit tT=>
   simp only [Exit.inBlock]at he⊢;split
   ·rename_i heq;simp only [heq,if_true]at he;exact hq _ _ _ he dq
   ·rename_i cf;simp only [cf,if_false]at he;exact hq _ _ _ he dq
  |_=>exact hq _ _ _ he dq
 |loop c ih=>
  intro cur Q Q' a w hw hq hf h;simp only [D7,V0]at h⊢;obtain⟨I,μ,h0,h1⟩:=h;refine⟨I,μ,h0,fun g=>Nd (h1 g) fun vs h w hI=> ?_⟩;have qz:∀i∈(Ev (Code.writes c) ((Ec cA.loops cur).getD [])).map (·.1),i∈wr:=by
   intro i hi;obtain⟨p,hp,rfl⟩:=List.mem_map.1 hi;have:=(List.mem_filter.1 hp).2;exact hw _ (by simp only [Code.writes];simpa using this)
  refine ih _ _ _ _ _ hw (fun e a' w' he dq=> ?_) (Fq hf hw qz g vs) (h w hI);cases e with
  |normal=>exact he
  |_=>exact hq _ _ _ he dq
 |scope c ih=>
  intro cur Q Q' a w hw hq hf h;simp only [D7]at h⊢;refine ih _ _ _ _ _ hw (fun e a' w' he dq=> ?_) hf h;cases e with
  |goto l=>exact he.elim
  |_=>exact hq _ _ _ he dq
 |exit id=>intro cur Q Q' a w _ hq hf h;exact hq _ _ _ h hf
 |label l=>intro cur Q Q' a w _ hq hf h;exact hq _ _ _ h hf
 |ret=>intro cur Q Q' a w _ hq hf h;exact hq _ _ _ h hf
 |_=>intros;rename_i h;exact h.elim
theorem WV {P:Program} {cA:qx} :∀(c:Code) (cur:Nat) (Q:Exit->Act->World->Prop) (a:Act) (w:World),D7 P cA c cur Q a w->c.wp P Q a w:=by
 intro c
 induction c with
 |skip=>intro cur Q a w h;exact wp_skip h
 |region id ops draw=>
  intro cur Q a w h;simp only [D7]at h;split at h
  ·rename_i live _;generalize (live.filter fun i=>(ops.toList.filterMap (·.dst)).contains i)=lv at h;have hm:∀w',Fk P ops lv (Q .normal) a w'->Eu P ops (Q .normal) ops.toList 0 a w':=by
    intro w' h;unfold Fk at h;split at h
    ·rename_i ps vs hp;obtain⟨h1,h2⟩:=N6 h;refine Jg (wr:=ops.toList.filterMap (·.dst)) (a0:=a) (fun a' jr h hf=> ?_) _ _ _ _ (fun o ho d hd=>Zr ho hd) (Fr.refl _ _) (Xh _ _ _ hp h1 (w:=w'));obtain⟨rfl,hv⟩:=h;have:=h2 (fun i=>a'.tmps.getD i undef);rw [←hv]at this;have e:E0 a (ops.toList.filterMap (·.dst)) (fun i=>a'.tmps.getD i undef) lv (wT a' lv)=a':=E1 hf lv;rw [e]at this;exact this
    ·exact h.elim
   cases draw with
   |false=>exact HO (WB _ _ _ _ (hm _ h))
   |true=>
    simp only [cond_true]at h;cases hc:(P.follows .mixedOrders&&Region.lexB .any ops)with
    |false=>rw [hc]at h;exact h.elim
    |true=>
     rw [hc]at h;simp only [Bool.and_eq_true]at hc;exact wp_region_quiet (C:=fun w'=>w'=w.drew) hc.1 hc.2 rfl (Kg _ _ _ (hm _ (h _ rfl)))
  ·cases draw with
   |true=>exact WK h
   |false=>exact HO h
 |seq x y gT gU=>
  intro cur Q a w h;simp only [D7]at h;split at h
  ·rename_i live _;generalize Ev (Code.writes x) live=lv at h;obtain⟨J,h1,h2⟩:=h;have h3:=P4 (wr:=Code.writes x) (a0:=a) x _ _ (fun e a' w'=>Exit.then (fun a' w'=>Inv.at _ J (Fc a' (lv.map (·.1))) w') Q e a' w'/\Fr (Code.writes x) a a') _ _ (fun _ h=>h) (fun e a w h hf=>⟨h,hf⟩) (Fr.refl _ _) h1;refine wp_seq (wp_mono (gT _ _ _ _ h3) ?_);rintro e a' w' ⟨he,hf⟩;cases e with
   |normal=>
    have h4:=Gx _ _ _ _ _ he (h2 (fun i=>a'.tmps.getD i undef)) w' he;rw [E1 hf]at h4;exact gU _ _ _ _ h4
   |_=>exact he
  ·refine wp_seq (wp_mono (gT _ _ _ _ h) fun e a w h=> ?_);cases e with
   |normal=>exact gU _ _ _ _ h
   |_=>exact h
 |cond c x y gT gU=>
  intro cur Q a w h;simp only [D7]at h;split at h
  ·rename_i b hb;refine wp_cond hb ?_;cases b with
   |true=>exact gT _ _ _ _ h
   |false=>exact gU _ _ _ _ h
  ·exact h.elim
 |block id c ih=>intro cur Q a w h;exact wp_block (ih _ _ _ _ h)
 |loop c ih=>
  intro cur Q a w h;simp only [D7,V0]at h;obtain⟨I,μ,h0,h1⟩:=h;generalize (Ev (Code.writes c) ((Ec cA.loops cur).getD []))=live at I μ h0 h1;refine wp_loop (fun a' w'=>Fr (Code.writes c) a a'/\Inv.at _ I (Fc a' (live.map (·.1))) w') (fun a' w'=>ib.at _ μ (Fc a' (live.map (·.1))) w') ⟨Fr.refl _ _,h0⟩ fun a' w' ⟨hf,hI⟩=> ?_
  have h2:=Gx _ _ _ _ _ hI (h1 (fun i=>a'.tmps.getD i undef)) w' hI;rw [E1 hf]at h2;refine wp_mono (ih _ _ _ _ (P4 (wr:=Code.writes c) (a0:=a') c _ _ (fun e jK jr=>(Exit.then _ Q) e jK jr/\Fr (Code.writes c) a' jK) _ _ (fun _ h=>h) (fun e a w h hf=>⟨h,hf⟩) (Fr.refl _ _) h2)) ?_;rintro e jK jr ⟨he,dq⟩;cases e with
  |normal=>exact⟨⟨⟨dq.size.trans hf.size,dq.defers.trans hf.defers,fun i hi=>(dq.same i hi).trans (hf.same i hi)⟩,he.1⟩,he.2⟩
  |_=>exact he
 |scope c ih=>intro cur Q a w h;exact wp_scope_straight (ih _ _ _ _ h)
 |exit id=>intro cur Q a w h;exact wp_exit h
 |label l=>intro cur Q a w h;exact wp_label h
 |ret=>intro cur Q a w h;exact wp_ret h
 |_=>intro cur Q a w h;exact h.elim
def P5 (P:Program) (tmps:Array Value):List ResultVar->(List Value->Prop)->World->Prop
 |[],K,_=>K []| .tmp t::rs,K,w=>P5 P tmps rs (fun l=>K (tmps.getD t undef::l)) w
 | .cell s t::rs,K,w=>match tmps.getD s undef,P.underlying t with
  | .pointer (some a),some _=>match M9 P t with
   | .one c=>c.ex fun v=>w.cell? a=some v/\P5 P tmps rs (fun l=>K (v::l)) w
   | .agg cs=>cond (cs.length==Hq P t) (Kb cs fun l=>Ad w a l/\P5 P tmps rs (fun r=>K (.agg ⟨l⟩::r)) w) False
  |_,_=>False
def Ja:List Value->Value
 |[v]=>v|vs=> .tuple ⟨vs⟩
def Ij (P:Program) (fn:Func) (K:Value->World->Prop):Exit->Act->World->Prop
 | .ret,a,w=>P5 P a.tmps fn.results.toList (fun vs=>K (Ja vs) w) w
 | .normal,a,w=>P5 P a.tmps fn.results.toList (fun vs=>K (Ja vs) w) w
 |_,_,_=>False
def zH (P:Program) (fn:Func) (cA:qx) (args:List Value) (K:Value->World->Prop) (w:World):Prop:=
 match fn.body with
 |some c=>D7 P cA c 1 (Ij P fn K) { tmps:=⟨args++List.replicate (fn.ntmps-args.length) undef⟩,defers:=[] } w|none=>False
def Ob (tmps:Array Value):ResultVar->Sem Value
 | .tmp t=>pure (tmps.getD t undef)
 | .cell a t=>do loadVar t (←asAddr (tmps.getD a undef))
theorem V1 {P:Program} {tmps:Array Value} {w:World} :∀ {rs:List ResultVar} {K:List Value->Prop},P5 P tmps rs K w->∃l,(rs.mapM (Ob tmps)).run P w= .ok l w/\K l:=by
 intro rs
 induction rs with
 |nil=>intro K h;exact⟨[],rfl,h⟩
 |cons r rs ih=>
  intro K h;cases r with
  |tmp t=>
   simp only [P5]at h;obtain⟨l,h1,h2⟩:=ih h;exact⟨_,by simp [List.mapM_cons,Ob,h1],h2⟩
  |cell s t=>
   simp only [P5]at h;split at h
   ·rename_i a d ha hd;have:=Z6 (next:=fun v w'=>P5 P tmps rs (fun l=>K (v::l)) w') h (by rw [hd];simp);obtain⟨v,h1,h2⟩:=this;obtain⟨l,h3,h4⟩:=ih h2;exact⟨v::l,by simp only [List.mapM_cons,Ob,ha,asAddr,Sem.run_bind,Sem.run_pure,Result.andThen_ok,h1,h3],h4⟩
   ·exact h.elim
theorem L6 {P:Program} {fn:Func} {tmps:Array Value} {w:World} {l:List Value} (h:(fn.results.toList.mapM (Ob tmps)).run P w= .ok l w): (results fn tmps).run P w= .ok (Ja l) w:=by
 have e:results fn tmps=(fn.results.mapM (Ob tmps))>>=fun vs=>pure (if h:vs.size=1 then vs[0]else .tuple vs):=by
  unfold results;congr 1
 rw [e,Array.mapM_eq_mapM_toList,Sem.run_bind,Sem.run_map,h];simp only [Result.andThen_ok,Sem.run_pure];congr 1
 match l with
 |[]=>rfl
 |[v]=>rfl
 |_::_::_=>simp [Ja]
theorem WW {P:Program} {f:FuncId} {fn:Func} (cA:qx) {args:List Value} {w:World} {K:Value->World->Prop} (hf:P.funcs[f]? =some fn) (h:zH P fn cA args K w):Calls P f ⟨args⟩ w (aG K):=by
 unfold zH at h;split at h
 ·rename_i c hc;refine calls_of_wp hf hc ?_;have ha:(⟨args⟩:Array Value)++Array.replicate (fn.ntmps-(⟨args⟩:Array Value).size) undef=⟨args++List.replicate (fn.ntmps-args.length) undef⟩:=by
   apply Array.ext';simp
  rw [ha];have h2:=P4 (wr:=Code.writes c) (a0:= { tmps:=⟨args++List.replicate (fn.ntmps-args.length) undef⟩,defers:=[] }) c 1 _ (fun e a' w'=>Ij P fn K e a' w'/\a'.defers=[]) _ _ (fun _ h=>h) (fun e a w h hf=>⟨h,hf.defers⟩) (Fr.refl _ _) h;refine wp_mono (WV _ _ _ _ _ h2) ?_;rintro e a' w' ⟨he,hd⟩;cases e with
  |normal=>
   obtain⟨l,h1,h2⟩:=V1 he;exact⟨hd,_,L6 h1,h2⟩
  |ret=>
   obtain⟨l,h1,h2⟩:=V1 he;exact⟨hd,_,L6 h1,h2⟩
  |_=>exact(he:False).elim
 ·exact h.elim
theorem Ag {P:Program} {f:FuncId} {fn:Func} (cA:qx) {args:List Value} {w:World} {K:Value->World->Prop} {A:Prop}
 (hf:P.funcs[f]? =some fn) (he:A=zH P fn cA args K w) (h:A):Calls P f ⟨args⟩ w (aG K):=WW cA hf (he▸h)
def P6 (k:IntKind) (a b:Int):Int:=k.wrap ((BitVec.ofInt k.bits a|||BitVec.ofInt k.bits b).toNat)
end Go.Vc
