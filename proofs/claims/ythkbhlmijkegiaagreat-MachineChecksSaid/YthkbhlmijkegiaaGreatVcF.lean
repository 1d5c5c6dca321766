/- The conditions of Go code: a library of this claim. -/
import Derived.Test.YthkbhlmijkegiaaGreatVcE
namespace Go.Vc
theorem Pv {P:Program} {ops:Array Oper} {Q Q':Act->World->Prop} {wr:List Nat} {a0:Act} (hq:∀a w,Q a w->Fr wr a0 a->Q' a w) (hd:∀o∈ops.toList,∀d,o.dst=some d->d∈wr) {a:Act} {w:World} (hf:Fr wr a0 a) (h:Mg P ops Q a w):Mg P ops Q' a w:=by
 unfold Mg at h⊢;cases hm:P.follows .mixedOrders with
 |false=>rw [hm]at h;exact h
 |true=>
  rw [hm]at h;simp only [cond_true]at h⊢;cases hc:(Zg P ops.toList&&Region.lexB .any ops)with
  |true=>rw [hc]at h;exact fun w' hw=>Jc hq _ _ _ _ hd hf (h w' hw)
  |false=>
   rw [hc]at h;simp only [cond_false]at h⊢;cases ht:rY P ops with
   |true=>rw [ht]at h;exact fun w' hw=>WZ hq _ _ _ _ hd hf (h w' hw)
   |false=>
   rw [ht]at h;simp only [cond_false]at h⊢;cases hs:Region.noSelect ops with
   |false=>rw [hs]at h;exact h
   |true=>
    rw [hs]at h;simp only [cond_true]at h⊢;cases hl:ops.toList.any Ct with
    |true=>
     rw [hl]at h;intro w' hw;obtain⟨S,hS,h⟩:=h w' hw;exact⟨S,hS,XB hq (fun i o ho=>hd o (by simpa using Array.mem_of_getElem? ho)) _ _ _ _ _ hf h⟩
    |false=>rw [hl]at h;exact fun w' hw=>W_ hq (fun i o ho=>hd o (by simpa using Array.mem_of_getElem? ho)) _ _ _ _ hf (h w' hw)
theorem Pw {P:Program} {cp:qy} {wr:List Nat} {a0:Act} :∀(c:Code) (cur:Nat) (Q Q':Exit->Act->World->Prop) (a:Act) (w:World),(∀i∈Code.writes c,i∈wr)->(∀e a w,Q e a w->Fr wr a0 a->Q' e a w)->Fr wr a0 a->D4 P cp c cur Q a w->D4 P cp c cur Q' a w:=by
 intro c
 induction c with
 |skip=>intro cur Q Q' a w _ hq hf h;exact hq _ _ _ h hf
 |region id ops draw=>
  intro cur Q Q' a w hw hq hf h;have hd:∀o∈ops.toList,∀d,o.dst=some d->d∈wr:=fun o ho d hd=>hw d (Zh ho hd)
  simp only [D4]at h⊢;split at h
  ·rename_i live _;have hm:∀w',Fi P ops (live.filter fun i=>(ops.toList.filterMap (·.dst)).contains i) (Q .normal) a w'->Fi P ops (live.filter fun i=>(ops.toList.filterMap (·.dst)).contains i) (Q' .normal) a w':=by
    intro w' h;unfold Fi at h⊢;split at h
    ·refine N0 h fun h g=>hq _ _ _ (h g) (Fq hf hw (fun i hi=>hw i (List.contains_iff_mem.1 (List.mem_filter.1 hi).2)) g _)
    ·exact h
   cases draw with
   |false=>exact hm _ h
   |true=>
    simp only [cond_true]at h⊢;cases hc:(P.follows .mixedOrders&&Region.lexB .any ops)with
    |false=>rw [hc]at h;exact h
    |true=>rw [hc]at h;exact fun w' jW=>hm w' (h w' jW)
  ·cases draw with
   |true=>exact Pv (fun a w=>hq _ a w) hd hf h
   |false=>exact WY (fun a w=>hq _ a w) _ _ _ _ hd hf h
 |seq x y gq gr=>
  intro cur Q Q' a w hw hq hf h;simp only [D4]at h⊢;simp only [Code.writes,List.mem_append]at hw;split at h
  ·rename_i live _;obtain⟨J,h1,h2⟩:=h;refine⟨J,gq _ _ _ _ _ (fun i hi=>hw i (.inl hi)) (fun e a' w' he cZ=> ?_) hf h1,fun g=>M7 (h2 g) fun vs h w hJ=> ?_⟩
   ·cases e with
    |normal=>exact he
    |_=>exact hq _ _ _ he cZ
   ·refine gr _ _ _ _ _ (fun i hi=>hw i (.inr hi)) hq (Fq hf (fun i hi=>hw i (.inl hi)) (fun i hi=> ?_) g vs) (h w hJ);obtain⟨p,hp,rfl⟩:=List.mem_map.1 hi;exact hw _ (.inl (by simpa using(List.mem_filter.1 hp).2))
  ·refine gq _ _ _ _ _ (fun i hi=>hw i (.inl hi)) (fun e a' w' he cZ=> ?_) hf h;cases e with
   |normal=>exact gr _ _ _ _ _ (fun i hi=>hw i (.inr hi)) hq cZ he
   |_=>exact hq _ _ _ he cZ
 |cond c x y gq gr=>
  intro cur Q Q' a w hw hq hf h;simp only [D4]at h⊢;simp only [Code.writes,List.mem_append]at hw;split at h
  ·rename_i b _;cases b with
   |true=>exact gq _ _ _ _ _ (fun i hi=>hw i (.inl hi)) hq hf h
   |false=>exact gr _ _ _ _ _ (fun i hi=>hw i (.inr hi)) hq hf h
  ·exact h
 |block id c ih=>
  intro cur Q Q' a w hw hq hf h;simp only [D4]at h⊢;refine ih _ _ _ _ _ hw (fun e a' w' he cZ=> ?_) hf h;cases e with
  |exit tR=>
   simp only [Exit.inBlock]at he⊢;split
   ·rename_i heq;simp only [heq,if_true]at he;exact hq _ _ _ he cZ
   ·rename_i bZ;simp only [bZ,if_false]at he;exact hq _ _ _ he cZ
  |_=>exact hq _ _ _ he cZ
 |loop c ih=>
  intro cur Q Q' a w hw hq hf h;simp only [D4,Vs]at h⊢;obtain⟨I,μ,h0,h1⟩:=h;refine⟨I,μ,h0,fun g=>M7 (h1 g) fun vs h w hI=> ?_⟩;have qA:∀i∈(Es (Code.writes c) ((D9 cp.loops cur).getD [])).map (·.1),i∈wr:=by
   intro i hi;obtain⟨p,hp,rfl⟩:=List.mem_map.1 hi;have:=(List.mem_filter.1 hp).2;exact hw _ (by simp only [Code.writes];simpa using this)
  refine ih _ _ _ _ _ hw (fun e a' w' he cZ=> ?_) (Fq hf hw qA g vs) (h w hI);cases e with
  |normal=>exact he
  |_=>exact hq _ _ _ he cZ
 |scope c ih=>
  intro cur Q Q' a w hw hq hf h;simp only [D4]at h⊢;refine ih _ _ _ _ _ hw (fun e a' w' he cZ=> ?_) hf h;cases e with
  |goto l=>exact he.elim
  |_=>exact hq _ _ _ he cZ
 |exit id=>intro cur Q Q' a w _ hq hf h;exact hq _ _ _ h hf
 |label l=>intro cur Q Q' a w _ hq hf h;exact hq _ _ _ h hf
 |ret=>intro cur Q Q' a w _ hq hf h;exact hq _ _ _ h hf
 |_=>intros;rename_i h;exact h.elim
theorem XF {P:Program} {cp:qy} :∀(c:Code) (cur:Nat) (Q:Exit->Act->World->Prop) (a:Act) (w:World),D4 P cp c cur Q a w->c.wp P Q a w:=by
 intro c
 induction c with
 |skip=>intro cur Q a w h;exact wp_skip h
 |region id ops draw=>
  intro cur Q a w h;simp only [D4]at h;split at h
  ·rename_i live _;generalize (live.filter fun i=>(ops.toList.filterMap (·.dst)).contains i)=lv at h;have hm:∀w',Fi P ops lv (Q .normal) a w'->Er P ops (Q .normal) ops.toList 0 a w':=by
    intro w' h;unfold Fi at h;split at h
    ·rename_i ps vs hp;obtain⟨h1,h2⟩:=Nz h;refine Jc (wr:=ops.toList.filterMap (·.dst)) (a0:=a) (fun a' jm h hf=> ?_) _ _ _ _ (fun o ho d hd=>Zh ho hd) (Fr.refl _ _) (W7 _ _ _ hp h1 (w:=w'));obtain⟨rfl,hv⟩:=h;have:=h2 (fun i=>a'.tmps.getD i undef);rw [←hv]at this;have e:Ex a (ops.toList.filterMap (·.dst)) (fun i=>a'.tmps.getD i undef) lv (wI a' lv)=a':=Ey hf lv;rw [e]at this;exact this
    ·exact h.elim
   cases draw with
   |false=>exact GZ (WO _ _ _ _ (hm _ h))
   |true=>
    simp only [cond_true]at h;cases hc:(P.follows .mixedOrders&&Region.lexB .any ops)with
    |false=>rw [hc]at h;exact h.elim
    |true=>
     rw [hc]at h;simp only [Bool.and_eq_true]at hc;exact wp_region_quiet (C:=fun w'=>w'=w.drew) hc.1 hc.2 rfl (Kf _ _ _ (hm _ (h _ rfl)))
  ·cases draw with
   |true=>exact WX h
   |false=>exact GZ h
 |seq x y gq gr=>
  intro cur Q a w h;simp only [D4]at h;split at h
  ·rename_i live _;generalize Es (Code.writes x) live=lv at h;obtain⟨J,h1,h2⟩:=h;have h3:=Pw (wr:=Code.writes x) (a0:=a) x _ _ (fun e a' w'=>Exit.then (fun a' w'=>Inv.at _ J (Fb a' (lv.map (·.1))) w') Q e a' w'/\Fr (Code.writes x) a a') _ _ (fun _ h=>h) (fun e a w h hf=>⟨h,hf⟩) (Fr.refl _ _) h1;refine wp_seq (wp_mono (gq _ _ _ _ h3) ?_);rintro e a' w' ⟨he,hf⟩;cases e with
   |normal=>
    have h4:=Gx _ _ _ _ _ he (h2 (fun i=>a'.tmps.getD i undef)) w' he;rw [Ey hf]at h4;exact gr _ _ _ _ h4
   |_=>exact he
  ·refine wp_seq (wp_mono (gq _ _ _ _ h) fun e a w h=> ?_);cases e with
   |normal=>exact gr _ _ _ _ h
   |_=>exact h
 |cond c x y gq gr=>
  intro cur Q a w h;simp only [D4]at h;split at h
  ·rename_i b hb;refine wp_cond hb ?_;cases b with
   |true=>exact gq _ _ _ _ h
   |false=>exact gr _ _ _ _ h
  ·exact h.elim
 |block id c ih=>intro cur Q a w h;exact wp_block (ih _ _ _ _ h)
 |loop c ih=>
  intro cur Q a w h;simp only [D4,Vs]at h;obtain⟨I,μ,h0,h1⟩:=h;generalize (Es (Code.writes c) ((D9 cp.loops cur).getD []))=live at I μ h0 h1;refine wp_loop (fun a' w'=>Fr (Code.writes c) a a'/\Inv.at _ I (Fb a' (live.map (·.1))) w') (fun a' w'=>gQ.at _ μ (Fb a' (live.map (·.1))) w') ⟨Fr.refl _ _,h0⟩ fun a' w' ⟨hf,hI⟩=> ?_
  have h2:=Gx _ _ _ _ _ hI (h1 (fun i=>a'.tmps.getD i undef)) w' hI;rw [Ey hf]at h2;refine wp_mono (ih _ _ _ _ (Pw (wr:=Code.writes c) (a0:=a') c _ _ (fun e jI jm=>(Exit.then _ Q) e jI jm/\Fr (Code.writes c) a' jI) _ _ (fun _ h=>h) (fun e a w h hf=>⟨h,hf⟩) (Fr.refl _ _) h2)) ?_;rintro e jI jm ⟨he,cZ⟩;cases e with
  |normal=>exact⟨⟨⟨cZ.size.trans hf.size,cZ.defers.trans hf.defers,fun i hi=>(cZ.same i hi).trans (hf.same i hi)⟩,he.1⟩,he.2⟩
  |_=>exact he
 |scope c ih=>intro cur Q a w h;exact wp_scope_straight (ih _ _ _ _ h)
 |exit id=>intro cur Q a w h;exact wp_exit h
 |label l=>intro cur Q a w h;exact wp_label h
 |ret=>intro cur Q a w h;exact wp_ret h
 |_=>intro cur Q a w h;exact h.elim
def Px (P:Program) (tmps:Array Value):List ResultVar->(List Value->Prop)->World->Prop
 |[],K,_=>K []| .tmp t::rs,K,w=>Px P tmps rs (fun l=>K (tmps.getD t undef::l)) w
 | .cell s t::rs,K,w=>match tmps.getD s undef,P.underlying t with
  | .pointer (some a),some _=>match My P t with
   | .one c=>c.ex fun v=>w.cell? a=some v/\Px P tmps rs (fun l=>K (v::l)) w
   | .agg cs=>cond (cs.length==Hq P t) (Ka cs fun l=>Ad w a l/\Px P tmps rs (fun r=>K (.agg ⟨l⟩::r)) w) False
  |_,_=>False
def H9:List Value->Value
 |[v]=>v|vs=> .tuple ⟨vs⟩
def HQ (P:Program) (fn:Func) (K:Value->World->Prop):Exit->Act->World->Prop
 | .ret,a,w=>Px P a.tmps fn.results.toList (fun vs=>K (H9 vs) w) w
 | .normal,a,w=>Px P a.tmps fn.results.toList (fun vs=>K (H9 vs) w) w
 |_,_,_=>False
def zt (P:Program) (fn:Func) (cp:qy) (args:List Value) (K:Value->World->Prop) (w:World):Prop:=
 match fn.body with
 |some c=>D4 P cp c 1 (HQ P fn K) { tmps:=⟨args++List.replicate (fn.ntmps-args.length) undef⟩,defers:=[] } w|none=>False
def N4 (tmps:Array Value):ResultVar->Sem Value
 | .tmp t=>pure (tmps.getD t undef)
 | .cell a t=>do loadVar t (←asAddr (tmps.getD a undef))
theorem Vt {P:Program} {tmps:Array Value} {w:World} :∀ {rs:List ResultVar} {K:List Value->Prop},Px P tmps rs K w->∃l,(rs.mapM (N4 tmps)).run P w= .ok l w/\K l:=by
 intro rs
 induction rs with
 |nil=>intro K h;exact⟨[],rfl,h⟩
 |cons r rs ih=>
  intro K h;cases r with
  |tmp t=>
   simp only [Px]at h;obtain⟨l,h1,h2⟩:=ih h;exact⟨_,by simp [List.mapM_cons,N4,h1],h2⟩
  |cell s t=>
   simp only [Px]at h;split at h
   ·rename_i a d ha hd;have:=Zv (next:=fun v w'=>Px P tmps rs (fun l=>K (v::l)) w') h (by rw [hd];simp);obtain⟨v,h1,h2⟩:=this;obtain⟨l,h3,h4⟩:=ih h2;exact⟨v::l,by simp only [List.mapM_cons,N4,ha,asAddr,Sem.run_bind,Sem.run_pure,Result.andThen_ok,h1,h3],h4⟩
   ·exact h.elim
theorem Ly {P:Program} {fn:Func} {tmps:Array Value} {w:World} {l:List Value} (h:(fn.results.toList.mapM (N4 tmps)).run P w= .ok l w): (results fn tmps).run P w= .ok (H9 l) w:=by
 have e:results fn tmps=(fn.results.mapM (N4 tmps))>>=fun vs=>pure (if h:vs.size=1 then vs[0]else .tuple vs):=by
  unfold results;congr 1
 rw [e,Array.mapM_eq_mapM_toList,Sem.run_bind,Sem.run_map,h];simp only [Result.andThen_ok,Sem.run_pure];congr 1
 match l with
 |[]=>rfl
 |[v]=>rfl
 |_::_::_=>simp [H9]
theorem XG {P:Program} {f:FuncId} {fn:Func} (cp:qy) {args:List Value} {w:World} {K:Value->World->Prop} (hf:P.funcs[f]? =some fn) (h:zt P fn cp args K w):Calls P f ⟨args⟩ w (aN K):=by
 unfold zt at h;split at h
 ·rename_i c hc;refine calls_of_wp hf hc ?_;have ha:(⟨args⟩:Array Value)++Array.replicate (fn.ntmps-(⟨args⟩:Array Value).size) undef=⟨args++List.replicate (fn.ntmps-args.length) undef⟩:=by
   apply Array.ext';simp
  rw [ha];have h2:=Pw (wr:=Code.writes c) (a0:= { tmps:=⟨args++List.replicate (fn.ntmps-args.length) undef⟩,defers:=[] }) c 1 _ (fun e a' w'=>HQ P fn K e a' w'/\a'.defers=[]) _ _ (fun _ h=>h) (fun e a w h hf=>⟨h,hf.defers⟩) (Fr.refl _ _) h;refine wp_mono (XF _ _ _ _ _ h2) ?_;rintro e a' w' ⟨he,hd⟩;cases e with
  |normal=>
   obtain⟨l,h1,h2⟩:=Vt he;exact⟨hd,_,Ly h1,h2⟩
  |ret=>
   obtain⟨l,h1,h2⟩:=Vt he;exact⟨hd,_,Ly h1,h2⟩
  |_=>exact(he:False).elim
 ·exact h.elim
theorem Af {P:Program} {f:FuncId} {fn:Func} (cp:qy) {args:List Value} {w:World} {K:Value->World->Prop} {A:Prop}
 (hf:P.funcs[f]? =some fn) (he:A=zt P fn cp args K w) (h:A):Calls P f ⟨args⟩ w (aN K):=XG cp hf (he▸h)
def Py (k:IntKind) (a b:Int):Int:=k.wrap ((BitVec.ofInt k.bits a|||BitVec.ofInt k.bits b).toNat)
end Go.Vc
