/- The conditions of Go code: a library of this claim. -/
import Derived.OrdersHeld
import Derived.Test.YthkbhlmijkegiaaGreatVcC
import Derived.Deep.Quiet
open Bool (and_eq_true false_eq_true)
open Array (replicate getD_eq_getD_getElem? getElem?_eq_none)
open List (find?_some)
namespace Go.Vc
def Z7:Operand->Bool
 | .const (.pointer none)=>true|_=>false
def HP (P:Program) (t:TypeId) (x y:Operand):Bool:=
 match P.underlying t with
 |some (.array _ _)=>false|some (.interface _)=>false|some (.struct fs)=>fs.toList.all fun f=> !(f.name== "_")&&match P.underlying f.type with|some (.int _)=>true|some .bool=>true|some .string=>true|_=>false
 |some (.pointer _)=>Z7 x||Z7 y|_=>true
def HQ (P:Program) (t:TypeId) (i:Operand):Bool:=match P.underlying t with
 |some (.array n e)=> !(Nb i||zC P n e)|_=>false
def wS (P:Program) (o:Oper):Bool:=
 match o.op with
 | .binOp _ t x y _=>HP P t x y| .index t _ i=> !HQ P t i| .move _| .assign _| .nilCheck _| .indexAddr .. | .slice .. | .pick .. | .makeFunc .. | .unOp .. | .makeInterface .. | .fieldAddr .. | .field .. | .extract .. | .build .. =>true| .load t _=>(P.underlying t).isSome| .call { callee:= .builtin b,.. } =>match b with| .len| .cap| .min| .max=>true|_=>false
 |_=>false
def Zq (P:Program) (l:List Oper):Bool:=l.all (wS P)
theorem HR {P:Program} {ρ:Operand->Value} {o:Oper} {next:Value->World->Prop} {w:World} (hp:(B0 P ρ o).isSome=true\/∃t x,o.op= .load t x) (h:Hj P ρ o next w): ∃v,next v w/\(execOp ρ o).run P w= .ok (.value v) w:=by
 unfold Hj at h;split at h
 ·rename_i p VZ;obtain⟨v,h1,_,h2⟩:=Fo VZ h;exact⟨v,h1,h2 w⟩
 ·rename_i hn;rcases hp with hp|⟨t,x,hl⟩
  ·rw [hn]at hp;cases hp
  ·obtain⟨dst,op,type,pos,after,guard⟩:=o;simp only at hl;subst hl;simp only [T8]at h;split at h
   ·rename_i q d ha hd;obtain⟨a,rfl⟩:∃a,q=some a:=by cases q with|none=>exact h.elim|some a=>exact⟨a,rfl⟩
    obtain⟨v,h1,h2⟩:=Z6 h (by rw [hd];simp);exact⟨v,h2,by simp only [execOp,Instr.loadAt,ha,Instr.sureAddr,Sem.run_bind,Sem.run_pure,Result.andThen_ok,h1]⟩
   ·exact h.elim
def Eu (P:Program) (ops:Array Oper) (Q:Act->World->Prop):List Oper->Nat->Act->World->Prop
 |[],_,a,w=>Q a w|o::rest,i,a,w=>
  cond (Region.wanted o (yielded ops a.tmps))
   (match B0 P a.eval o with
    |some p=>p.then fun v=>Dz (B1 ops.toList i) (fun v w'=>Eu P ops Q rest (i+1) (a.put o.dst v) w') v w
    |none=>match o.op with
     | .load _ _=>T8 P a.eval o (Dz (B1 ops.toList i) fun v w'=>Eu P ops Q rest (i+1) (a.put o.dst v) w') w
     |_=>False)
   (Eu P ops Q rest (i+1) (a.put o.dst undef) w)
theorem Kg {P:Program} {ops:Array Oper} {Q:Act->World->Prop} {w:World} :∀(l:List Oper) (i:Nat) (a:Act),Eu P ops Q l i a w->wpQuiet P ops (fun w'=>w'=w) (fun a'=>∀w',w'=w->Q a' w') l a:=by
 intro l
 induction l with
 |nil=>intro i a h w' hw;rw [hw];exact h
 |cons o rest ih=>
  intro i a h;simp only [Eu]at h;simp only [wpQuiet];cases hw:Region.wanted o (yielded ops a.tmps)with
  |false=>
   rw [hw]at h;simp only [false_eq_true,if_false];exact ih _ _ h
  |true=>
   rw [hw]at h;simp only [if_true];have fin:∀v,Dz (B1 ops.toList i) (fun v w'=>Eu P ops Q rest (i+1) (a.put o.dst v) w') v w->(execOp a.eval o).run P w= .ok (.value v) w->
    o.quiet P a (fun w'=>w'=w) (wpQuiet P ops (fun w'=>w'=w) (fun a'=>∀w',w'=w->Q a' w') rest):=by
    intro v h1 h2;refine⟨v,fun w' j1=> ?_,ih _ _ ((Av _ _ _ _).1 h1)⟩;subst j1;unfold Oper.quietAt;rw [h2];exact⟨rfl,rfl⟩
   simp only [cond_true]at h;split at h
   ·rename_i p hp;obtain⟨v,h1,_,h2⟩:=Fo hp h;exact fin v h1 (h2 w)
   ·rename_i hn;split at h
    ·rename_i t x hl;have kh:Hj P a.eval o (Dz (B1 ops.toList i) fun v w'=>Eu P ops Q rest (i+1) (a.put o.dst v) w') w:=by
      unfold Hj;rw [hn];exact h
     obtain⟨v,h1,h2⟩:=HR (.inr ⟨t,x,hl⟩) kh;exact fin v h1 h2
    ·exact h.elim
def Z8 (c:Bool):Value->Value->Option Value
 | .bool x,.bool y=>some (.bool (cond c x y))| .int k x,.int k' y=>cond (decide (k=k')) (some (.int k (cond c x y))) none|_,_=>none
def Vx (c:Bool):List Value->List Value->Option (List Value)
 |[],[]=>some []|x::xs,y::ys=>match Z8 c x y,Vx c xs ys with
  |some v,some l=>some (v::l)|_,_=>none
 |_,_=>none
theorem V_ {x y v:Value} (h:Z8 true x y=some v):v=x:=by
 unfold Z8 at h;split at h
 ·cases h;rfl
 ·rename_i k a k' b;cases hk:decide (k=k')with
  |true=>rw [hk]at h;cases h;rfl
  |false=>rw [hk]at h;cases h
 ·cases h
theorem WA {x y v:Value} (h:Z8 false x y=some v):v=y:=by
 unfold Z8 at h;split at h
 ·cases h;rfl
 ·rename_i k a k' b;cases hk:decide (k=k')with
  |true=>rw [hk]at h;cases h;have:=of_decide_eq_true hk;subst this;rfl
  |false=>rw [hk]at h;cases h
 ·cases h
theorem Xg:∀ {x y v:List Value},Vx true x y=some v->v=x
 |[],[],_,h=>by cases h;rfl
 |x::xs,y::ys,v,h=>by
  simp only [Vx]at h;split at h
  ·rename_i u l h1 h2;cases h
   rw [V_ h1,Xg h2]
  ·cases h
 |[],_::_,_,h=>by cases h
 |_::_,[],_,h=>by cases h
theorem Ud:∀ {x y v:List Value},Vx false x y=some v->v=y
 |[],[],_,h=>by cases h;rfl
 |x::xs,y::ys,v,h=>by
  simp only [Vx]at h;split at h
  ·rename_i u l h1 h2;cases h
   rw [WA h1,Ud h2]
  ·cases h
 |[],_::_,_,h=>by cases h
 |_::_,[],_,h=>by cases h
def wT (a:Act) (live:List Nat):List Value:=live.map fun i=>a.tmps.getD i undef
def under (c:Bool) (b:Bool):List Prop->List Prop
 |[]=>[]|p::l=>(c=b->p)::under c b l
def Ue:List Prop->Prop->Prop
 |[],K=>K|p::l,K=>p/\Ue l K
theorem N6:∀ {l:List Prop} {K:Prop},Ue l K->(∀p∈l,p)/\K
 |[],_,h=>⟨fun _ h=>(by cases h),h⟩
 |p::l,_,h=>by
  obtain⟨h1,h2⟩:=N6 h.2;refine⟨fun q hq=> ?_,h2⟩;cases hq with
  |head=>exact h.1
  |tail _ hq=>exact h1 q hq
theorem N7:∀ {l:List Prop} {K K':Prop},Ue l K->(K->K')->Ue l K'
 |[],_,_,h,hk=>hk h
 |_::_,_,_,h,hk=>⟨h.1,N7 h.2 hk⟩
theorem Vy {c b:Bool} (hc:c=b):∀ {l:List Prop},(∀p∈under c b l,p)->∀p∈l,p
 |[],_,_,h=>by cases h
 |p::l,h,q,hq=>by
  cases hq with
  |head=>exact h (c=b->p) (by simp [under]) hc
  |tail _ hq=>exact Vy hc (fun r hr=>h r (by simp [under,hr])) q hq
def merged (P:Program) (ops:Array Oper) (live:List Nat):List Oper->Nat->Act->Option (List Prop×List Value)
 |[],_,a=>some ([],wT a live)|o::rest,i,a=>
  cond (Region.wanted o (yielded ops a.tmps))
   (match B0 P a.eval o with
    |some (.val v)=>cond (B1 ops.toList i)
     (match v with
      | .bool c=>match merged P ops live rest (i+1) (a.put o.dst (.bool true)),merged P ops live rest (i+1) (a.put o.dst (.bool false))with
       |some (p1,l1),some (p2,l2)=>match Vx c l1 l2 with
        |some l=>some (under c true p1++under c false p2,l)|none=>none
       |_,_=>none
      |_=>none)
     (merged P ops live rest (i+1) (a.put o.dst v))
    |some (.when q v)=>cond (B1 ops.toList i) none
     (match merged P ops live rest (i+1) (a.put o.dst v)with
      |some (p,l)=>some (q::p,l)|none=>none)
    |_=>none)
   (merged P ops live rest (i+1) (a.put o.dst undef))
theorem Xh {P:Program} {ops:Array Oper} {live:List Nat} {w:World} :∀(l:List Oper) (i:Nat) (a:Act) {ps:List Prop} {vs:List Value},merged P ops live l i a=some (ps,vs)->(∀p∈ps,p)->Eu P ops (fun a' w'=>w'=w/\wT a' live=vs) l i a w:=by
 intro l
 induction l with
 |nil=>intro i a ps vs h _;simp only [merged]at h;cases h;exact⟨rfl,rfl⟩
 |cons o rest ih=>
  intro i a ps vs h hp;simp only [merged]at h;simp only [Eu];cases hw:Region.wanted o (yielded ops a.tmps)with
  |false=>rw [hw]at h;exact ih _ _ h hp
  |true=>
   rw [hw]at h;simp only [cond_true]at h⊢;split at h
   ·rename_i v hv;simp only [hv,gZ.then];rw [Av];cases hg:B1 ops.toList i with
    |false=>rw [hg]at h;exact ih _ _ h hp
    |true=>
     rw [hg]at h;simp only [cond_true]at h;split at h
     ·rename_i c;split at h
      ·rename_i p1 l1 p2 l2 h1 h2;split at h
       ·rename_i lm hm;cases h
        cases c with
        |true=>rw [Xg hm];exact ih _ _ h1 (Vy rfl fun p kj=>hp p (List.mem_append_left _ kj))
        |false=>rw [Ud hm];exact ih _ _ h2 (Vy rfl fun p kj=>hp p (List.mem_append_right _ kj))
       ·cases h
      ·cases h
     ·cases h
   ·rename_i q v hv;simp only [hv,gZ.then];rw [Av];cases hg:B1 ops.toList i with
    |true=>rw [hg]at h;cases h
    |false=>
     rw [hg]at h;simp only [cond_false]at h;split at h
     ·rename_i p l1 h1;cases h
      exact⟨hp q (by simp),ih _ _ h1 fun r hr=>hp r (by simp [hr])⟩
     ·cases h
   ·cases h
theorem WB {P:Program} {ops:Array Oper} {Q:Act->World->Prop} :∀(l:List Oper) (i:Nat) (a:Act) (w:World),Eu P ops Q l i a w->Kv P ops Q l i a w:=by
 intro l
 induction l with
 |nil=>intro i a w h;exact h
 |cons o rest ih=>
  intro i a w h;simp only [Eu]at h;simp only [Kv];cases hw:Region.wanted o (yielded ops a.tmps)with
  |false=>rw [hw]at h;exact ih _ _ _ h
  |true=>
   rw [hw]at h;simp only [cond_true]at h⊢;unfold Hj;rw [Uc];split at h
   ·rename_i p hp;rw [hp];refine gZ.pn h fun v h=> ?_
    rw [Av]at h⊢;exact ih _ _ _ h
   ·rename_i hp;rw [hp];split at h
    ·rename_i t x hl;rw [Ub _ _ t x hl];refine Kw h fun v w' h=> ?_
     rw [Av]at h⊢;exact ih _ _ _ h
    ·exact h.elim
def Z9:List Nat->(Nat->Prop)->Prop
 |[],_=>True|[i],F=>F i|i::l,F=>F i/\Z9 l F
theorem Ri:∀ {l:List Nat} {F:Nat->Prop},Z9 l F->∀i∈l,F i
 |[],_,_,_,h=>by cases h
 |[j],F,h,i,hi=>by simp at hi;subst hi;exact h
 |j::k::l,F,h,i,hi=>by
  cases hi with
  |head=>exact h.1
  |tail _ hi=>exact Ri h.2 i hi
def WC (P:Program) (o:Oper):Bool:=
 match o.op with
 | .binOp _ t x y _=>HP P t x y| .index t _ i=> !HQ P t i| .move _| .assign _| .nilCheck _| .indexAddr .. | .slice .. | .pick .. | .makeFunc .. | .unOp .. | .makeInterface .. | .fieldAddr .. | .field .. | .extract .. | .build .. =>true| .call { callee:= .builtin b,.. } =>match b with| .len| .cap| .min| .max=>true|_=>false
 |_=>false
def firstFree (P:Program) (ops:Array Oper) (listed:Array Bool):Option Nat:=
 (Region.ready .any ops listed).find? fun i=>(match ops[i]? with|some o=>WC P o|none=>false)&&Region.free .any ops listed i
def Nc (P:Program) (ops:Array Oper) (Q:Act->World->Prop):Nat->Array Bool->Act->World->Prop
 |0,listed,a,w=>cond (Region.ready .any ops listed).isEmpty (Q a w) False|n+1,listed,a,w=>
  match firstFree P ops listed with
  |some i=>match ops[i]? with
   |some o=>cond (Region.wanted o (yielded ops a.tmps))
    (match B0 P a.eval o with
     |some p=>p.then fun v=>Dz (B1 ops.toList i) (fun v w'=>Nc P ops Q n (listed.setIfInBounds i true) (a.put o.dst v) w') v w
     |none=>False)
    (Nc P ops Q n (listed.setIfInBounds i true) (a.put o.dst undef) w)
   |none=>False
  |none=>match Region.ready .any ops listed with
   |[]=>Q a w|l=>Z9 l fun i=>match ops[i]? with
    |some o=>cond (Region.wanted o (yielded ops a.tmps))
     (Hj P a.eval o (Dz (B1 ops.toList i) fun v w'=>Nc P ops Q n (listed.setIfInBounds i true) (a.put o.dst v) w') w)
     (Nc P ops Q n (listed.setIfInBounds i true) (a.put o.dst undef) w)
    |none=>False
def B7 (Q:Act->World->Prop):Exit->Act->World->Prop
 | .normal,a,w=>Q a w|_,_,_=>False
theorem HS {P:Program} {ops:Array Oper} {Q:Act->World->Prop} (i9:Region.noSelect ops=true):∀(n:Nat) (listed:Array Bool) (a:Act) (w:World),Nc P ops Q n listed a w->wpAny P .any ops (B7 Q) n listed a w:=by
 intro n
 induction n with
 |zero=>
  intro listed a w h;simp only [Nc]at h;cases hr:Region.ready .any ops listed with
  |nil=>rw [hr]at h;exact⟨hr,h⟩
  |cons x xs=>rw [hr]at h;exact h.elim
 |succ n ih=>
  intro listed a w h;simp only [Nc]at h;split at h
  ·rename_i i hf;have ia:=List.mem_of_find?_eq_some hf;have ko:=find?_some hf;simp only [and_eq_true]at ko;split at h
   ·rename_i o ho;have iG:=Region.free_spec (md:= .any) ho ko.2;have fin:∀v,Yields P ops o v a->Nc P ops Q n (listed.setIfInBounds i true) (a.put o.dst v) w->wpAny P .any ops (B7 Q) (n+1) listed a w:=by
     intro v hy hh;exact wpAny_first ho (fun j o cs b=>Region.noSelect_spec i9 j o cs b) (fun c a w h=>h) n listed a w iG ia hy (ih _ _ _ hh)
    cases hw:Region.wanted o (yielded ops a.tmps)with
    |false=>rw [hw]at h;exact fin undef (.inr ⟨hw,rfl⟩) h
    |true=>
     rw [hw]at h;simp only [cond_true]at h;split at h
     ·rename_i p hp;obtain⟨v,h1,_,h2⟩:=Fo hp h;exact fin v (.inl ⟨hw,h2⟩) ((Av _ _ _ _).1 h1)
     ·exact h.elim
   ·exact h.elim
  ·split at h
   ·rename_i hr;refine⟨fun _=>h,fun i hi=> ?_⟩;rw [hr]at hi;cases hi
   ·rename_i cf;refine⟨fun hr=>absurd hr cf,fun i hi=> ?_⟩;have ft:=Ri h i hi;unfold wpOp;split at ft
    ·rename_i o ho;simp only [ho];cases hw:Region.wanted o (yielded ops a.tmps)with
     |false=>rw [hw]at ft;simp only [false_eq_true,if_false];exact ih _ _ _ ft
     |true=>
      rw [hw]at ft;simp only [if_true];exact .inl (Zp (Cq ft fun v w' h=>ih _ _ _ ((Av _ _ _ _).1 h)))
    ·exact ft.elim
def Cx (o:Oper):Bool:=match o.op with| .load .. =>true|_=>false
def Rj (ops:Array Oper) (listed:Array Bool):Option Nat:=
 (Region.ready .any ops listed).find? fun i=>(match ops[i]? with|some o=>Cx o|none=>false)&&Region.free .any ops listed i
def Sp (P:Program) (ρ:Operand->Value) (o:Oper) (S:World->Prop) (next:Value->Prop):Prop:=
 match o.op with
 | .load t x=>match ρ x,P.underlying t with
  | .pointer p,some _=>Ak p fun a=>match M9 P t with
   | .one c=>c.ex fun v=>(∀w,S w->w.cell? a=some v)/\next v
   | .agg cs=>cond (cs.length==Hq P t) (Kb cs fun l=>(∀w,S w->Ad w a l)/\next (.agg ⟨l⟩)) False
  |_,_=>False
 |_=>False
theorem HT {P:Program} {ρ:Operand->Value} {o:Oper} {S:World->Prop} {next:Value->Prop} (h:Sp P ρ o S next): ∃v,next v/\∀w,S w->(execOp ρ o).run P w= .ok (.value v) w:=by
 unfold Sp at h;split at h
 ·rename_i t x ho;split at h
  ·rename_i q d ha hd;obtain⟨a,rfl⟩:∃a,q=some a:=by cases q with|none=>exact h.elim|some a=>exact⟨a,rfl⟩
   have fin:∀v w,(loadVar t a).run P w= .ok v w->(execOp ρ o).run P w= .ok (.value v) w:=by
    intro v w hr;obtain⟨dst,op,type,pos,after,guard⟩:=o;simp only at ho;subst ho;simp only [execOp,Instr.loadAt,ha,Instr.sureAddr,Sem.run_bind,Sem.run_pure,Result.andThen_ok,hr]
   simp only [Ak]at h;split at h
   ·rename_i c hc;obtain⟨v,h1,h2⟩:=dv.qt h;refine⟨v,h2,fun w hS=>fin v w ?_⟩;simp only [loadVar,Sem.run_bind,Hc hd,HK hc d hd,Result.andThen_ok,false_eq_true,if_false,run_load,h1 w hS]
   ·rename_i cs hc;obtain⟨d',dU,wR⟩:=Vw hc;obtain rfl:d=d':=Option.some.inj (hd.symm.trans dU);cases hs:(cs.length==Hq P t)with
    |false=>rw [hs]at h;exact h.elim
    |true=>
     rw [hs]at h;obtain⟨l,hl,h1,h2⟩:=Kc h;obtain⟨i,hi⟩:=Jt hd;have eU:l.length=i.size:=by
      have:=eq_of_beq hs;simp only [Hq,hi]at this;omega
     refine⟨_,h2,fun w hS=>fin _ w ?_⟩;simp only [loadVar,Sem.run_bind,Hc hd,wR,Result.andThen_ok,if_true,sizeOf,typeInfo,run_program,hi,Sem.run_pure,loadCells];rw [←eU,H7 l 0 #[] (fun j hj=>by simpa using h1 w hS j hj)];simp
  ·exact h.elim
 ·exact h.elim
theorem Xi {P:Program} {ρ:Operand->Value} {o:Oper} {S:World->Prop} {next next':Value->Prop} (h:Sp P ρ o S next) (hk:∀v,next v->next' v):Sp P ρ o S next':=by
 unfold Sp at*;split at h
 ·split at h
  ·rename_i q d ha hd;cases q with
   |none=>exact h.elim
   |some a=>
    simp only [Ak]at h⊢;split at h
    ·exact dv.qu h fun v h=>⟨h.1,hk _ h.2⟩
    ·rename_i cs hc;cases hs:(cs.length==Hq P _)with
     |false=>rw [hs]at h;exact h.elim
     |true=>rw [hs]at h;exact Kd h fun v h=>⟨h.1,hk _ h.2⟩
  ·exact h.elim
 ·exact h.elim
def HU (o:Oper):Bool:=match o.op with| .store .. =>true|_=>false
def HV (o:Oper) (i:Nat):Bool:=o.after.any fun e=>Region.binds .any e&&e.on==i
def wU (acc:List Nat):List Edge->Nat->Nat
 |[],m=>m|e::l,m=>wU acc l (cond (Region.binds .any e) ((m|||(1<<<e.on))|||acc.getD e.on 0) m)
def zE:List Oper->List Nat->List Nat
 |[],acc=>acc|o::r,acc=>zE r (acc++[wU acc o.after.toList 0])
def rX (ops:Array Oper) (j:Nat):Bool:=(List.range ops.size).all fun i=>match ops[i]? with
 |some q=> !Cx q||((zE ops.toList []).getD j 0).testBit i|none=>true
def Ei (P:Program) (ops:Array Oper) (Q:Act->World->Prop) (S:World->Prop) (late:Nat->Bool):Nat->Array Bool->Bool->Act->World->Prop
 |0,listed,_,a,w=>cond (Region.ready .any ops listed).isEmpty (Q a w) False|n+1,listed,early,a,w=>
  match firstFree P ops listed with
  |some i=>match ops[i]? with
   |some o=>cond (Region.wanted o (yielded ops a.tmps))
    (match B0 P a.eval o with
     |some p=>p.then fun v=>Dz (B1 ops.toList i) (fun v w'=>Ei P ops Q S late n (listed.setIfInBounds i true) early (a.put o.dst v) w') v w
     |none=>False)
    (Ei P ops Q S late n (listed.setIfInBounds i true) early (a.put o.dst undef) w)
   |none=>False
  |none=>match cond early (Rj ops listed) none with
   |some i=>match ops[i]? with
    |some o=>cond (Region.wanted o (yielded ops a.tmps))
     (Sp P a.eval o S fun v=>Dz (B1 ops.toList i) (fun v w'=>Ei P ops Q S late n (listed.setIfInBounds i true) early (a.put o.dst v) w') v w)
     (Ei P ops Q S late n (listed.setIfInBounds i true) early (a.put o.dst undef) w)
    |none=>False
   |none=>match Region.ready .any ops listed with
    |[]=>Q a w|l=>Z9 l fun i=>match ops[i]? with
     |some o=>cond (Region.wanted o (yielded ops a.tmps))
      (Hj P a.eval o (fun v w'=>cond (late i) (Dz (B1 ops.toList i) (fun v w'=>Ei P ops Q S late n (listed.setIfInBounds i true) false (a.put o.dst v) w') v w') (S w'/\Dz (B1 ops.toList i) (fun v w'=>Ei P ops Q S late n (listed.setIfInBounds i true) false (a.put o.dst v) w') v w')) w)
      (Ei P ops Q S late n (listed.setIfInBounds i true) false (a.put o.dst undef) w)
     |none=>False
def zF (P:Program) (ops:Array Oper) (listed:Array Bool):Bool:=(List.range ops.size).all fun j=>listed.getD j true||(match ops[j]? with|some o=>wS P o|none=>true)
def WD (ops:Array Oper):Bool:=Nat.ble 3 (ops.toList.countP fun o=>Cx o&&o.guard.isSome)
def Fp (P:Program) (ops:Array Oper) (Q:Act->World->Prop) (S:World->Prop) (late:Nat->Bool) (kp:Bool):Nat->Array Bool->Bool->Act->World->Prop
 |0,listed,_,a,w=>cond (Region.ready .any ops listed).isEmpty (Q a w) False|n+1,listed,early,a,w=>
  match firstFree P ops listed with
  |some i=>match ops[i]? with
   |some o=>cond (Region.wanted o (yielded ops a.tmps))
    (match B0 P a.eval o with
     |some p=>p.then fun v=>Dz (B1 ops.toList i) (fun v w'=>Fp P ops Q S late kp n (listed.setIfInBounds i true) early (a.put o.dst v) w') v w
     |none=>False)
    (Fp P ops Q S late kp n (listed.setIfInBounds i true) early (a.put o.dst undef) w)
   |none=>False
  |none=>match cond early (Rj ops listed) none with
   |some i=>match ops[i]? with
    |some o=>cond (Region.wanted o (yielded ops a.tmps))
     (Sp P a.eval o S fun v=>Dz (B1 ops.toList i) (fun v w'=>Fp P ops Q S late kp n (listed.setIfInBounds i true) early (a.put o.dst v) w') v w)
     (Fp P ops Q S late kp n (listed.setIfInBounds i true) early (a.put o.dst undef) w)
    |none=>False
   |none=>cond (!early&&zF P ops listed) (Ei P ops Q (fun u=>u=w) (fun _=>false) (n+1) listed true a w) (match Region.ready .any ops listed with
    |[]=>Q a w|l=>Z9 l fun i=>match ops[i]? with
     |some o=>cond (Region.wanted o (yielded ops a.tmps))
      (Hj P a.eval o (fun v w'=>cond (late i) (Dz (B1 ops.toList i) (fun v w'=>Fp P ops Q S late kp n (listed.setIfInBounds i true) false (a.put o.dst v) w') v w') (S w'/\Dz (B1 ops.toList i) (fun v w'=>Fp P ops Q S late kp n (listed.setIfInBounds i true) (early&&kp) (a.put o.dst v) w') v w')) w)
      (Fp P ops Q S late kp n (listed.setIfInBounds i true) (early&&kp) (a.put o.dst undef) w)
     |none=>False)
def N9 (P:Program) (o:Oper):Bool:= !wS P o
def rY (P:Program) (ops:Array Oper) (j:Nat):Bool:=match ops[j]? with|some o=>N9 P o|none=>false
def Vz (P:Program) (ops:Array Oper):List Oper->Nat->Array Bool->Bool->Bool
 |[],_,listed,_=>(Region.ready .any ops listed).isEmpty|o::rest,i,listed,st=>cond (N9 P o) (Region.ready .any ops listed==[i]&&Vz P ops rest (i+1) (listed.setIfInBounds i true) true)
  (wS P o&&(Region.ready .any ops listed).contains i&&Region.free .any ops listed i&&(!Cx o||(!st&&(ops.toList.all fun q=> !N9 P q||HV q i)))&&Vz P ops rest (i+1) (listed.setIfInBounds i true) st)
def WE (ops:Array Oper):Bool:=ops.toList.any fun o=>match o.op with
 | .store _ (.tmp t) _=>ops.toList.any fun q=>(q.dst==some t)&&(match q.op with| .indexAddr .. =>true| .fieldAddr .. =>true|_=>false)
 |_=>false
def WG (P:Program) (ops:Array Oper):Bool:=ops.toList.any Cx&&ops.toList.any HU&&ops.toList.any fun o=>N9 P o&& !HU o
def rZ (P:Program) (ops:Array Oper):Bool:=(WE ops||WG P ops)&&Region.noSelect ops&&Vz P ops ops.toList 0 (replicate ops.size false) false
def Hs (P:Program) (ops:Array Oper) (Q:Act->World->Prop):List Oper->Nat->Act->World->Prop
 |[],_,a,w=>Q a w|o::rest,i,a,w=>
  cond (Region.wanted o (yielded ops a.tmps))
   (match B0 P a.eval o with
    |some p=>p.then fun v=>Dz (B1 ops.toList i) (fun v w'=>Hs P ops Q rest (i+1) (a.put o.dst v) w') v w
    |none=>cond (Cx o||N9 P o) (T8 P a.eval o (Dz (B1 ops.toList i) fun v w'=>Hs P ops Q rest (i+1) (a.put o.dst v) w') w) False)
   (Hs P ops Q rest (i+1) (a.put o.dst undef) w)
def Fb (P:Program) (ops:Array Oper) (Q:Exit->Act->World->Prop) (S:World->Prop) (late:Nat->Bool):Nat->Array Bool->Act->World->Prop
 |0,listed,a,w=>Region.ready .any ops listed=[]/\Q .normal a w|fuel+1,listed,a,w=>
  (Region.ready .any ops listed=[]->Q .normal a w)/\
  ∀i∈Region.ready .any ops listed,wpOp P ops Q i (fun a' w'=>(late i=false->S w->S w')/\Fb P ops Q S late fuel (listed.setIfInBounds i true) a' w') a w
theorem H8 {P:Program} {ops:Array Oper} {Q:Exit->Act->World->Prop} {S:World->Prop} {late:Nat->Bool} :∀(fuel:Nat) (listed:Array Bool) (a:Act) (w:World),Fb P ops Q S late fuel listed a w->wpAny P .any ops Q fuel listed a w
 |0,_,_,_,h=>h
 |fuel+1,_,_,_,h=>⟨h.1,fun i hi=>wpOp_mono (fun a' w' h'=>H8 fuel _ a' w' h'.2) (h.2 i hi)⟩
def DC (ops:Array Oper) (listed:Array Bool):Prop:=∀(k:Nat) (ok:Oper),ops[k]? =some ok->listed.getD k false=true->∀e∈ok.after,Region.binds .any e=true->listed.getD e.on false=true
theorem DC.start (ops:Array Oper) (n:Nat):DC ops (replicate n false):=fun k ok _ h=>by
 exfalso;rw [getD_eq_getD_getElem?]at h;by_cases hk:k<n
 ·simp [hk]at h
 ·simp [hk]at h
theorem getD_set_true {listed:Array Bool} {j k:Nat} (h:listed.getD k false=true):(listed.setIfInBounds j true).getD k false=true:=by
 by_cases kq:j=k
 ·subst kq;rw [getD_eq_getD_getElem?]at h⊢;by_cases hk:j<listed.size
  ·simp [hk]
  ·rw [getElem?_eq_none (by omega)]at h;cases h
 ·rw [getD_eq_getD_getElem?]at h⊢;rw [Array.getElem?_setIfInBounds_ne kq];exact h
theorem DC.put {ops:Array Oper} {listed:Array Bool} {j:Nat} (h:DC ops listed) (hj:j∈Region.ready .any ops listed):DC ops (listed.setIfInBounds j true):=fun k ok hk hl e he hb=>by
 obtain⟨_,oj,kr,gw⟩:=mem_ready.1 hj;by_cases kq:j=k
 ·subst kq;rw [kr]at hk;cases hk;exact getD_set_true (gw e he hb)
 ·refine getD_set_true (h k ok hk ?_ e he hb);rw [getD_eq_getD_getElem?]at hl⊢;rw [Array.getElem?_setIfInBounds_ne kq]at hl;exact hl
theorem WH {P:Program} {ops:Array Oper} {Q:Exit->Act->World->Prop} {S:World->Prop} {late:Nat->Bool} {i:Nat} {oi:Oper} {v:Value} (hi:ops[i]? =some oi) (i9:∀(j:Nat) (o:Oper) cs b,ops[j]? =some o->o.op≠.select cs b) (hQ:∀c a w,Q (.panic c) (a.put oi.dst v) w->Q (.panic c) a w) (tR:∀j oj,ops[j]? =some oj->late j=true->j≠i->∃e∈oj.after,Region.binds .any e=true/\e.on=i): ∀(fuel:Nat) (listed:Array Bool) (a:Act) (w:World),(∀j oj,ops[j]? =some oj->j≠i->listed.getD j true=false->(∀e∈oj.after,Region.binds .any e=true->e.on≠i)->oi.apart ops oj=true)->i∈Region.ready .any ops listed->YieldsIf P ops S oi v a->S w->Fb P ops Q S late fuel (listed.setIfInBounds i true) (a.put oi.dst v) w->Fb P ops Q S late (fuel+1) listed a w:=by
 intro fuel
 induction fuel with
 |zero=>
  intro listed a w _ hr hy hS H;refine⟨fun h=>(by rw [h]at hr;cases hr),fun j hj=> ?_⟩;by_cases gR:j=i
  ·subst gR;exact hy.wpOp hi hS ⟨fun _ _=>hS,H⟩
  ·have:=ready_mono hj gR;rw [H.1]at this;cases this
 |succ fuel ih=>
  intro listed a w iG hr hy hS H;refine⟨fun h=>(by rw [h]at hr;cases hr),fun j hj=> ?_⟩;by_cases gR:j=i
  ·subst gR;exact hy.wpOp hi hS ⟨fun _ _=>hS,H⟩
  ·have h1:=H.2 j (ready_mono hj gR);obtain⟨pq,oj,kr,gw⟩:=mem_ready.1 hj;have nn:∀e∈oj.after,Region.binds .any e=true->e.on≠i:=fun e he hb heq=>by
    have h1:=gw e he hb;have h0:=(mem_ready.1 hr).1;rw [heq]at h1;rcases Nat.lt_or_ge i listed.size with h'|h'
    ·simp [h']at h0 h1;rw [h0]at h1;cases h1
    ·simp [getElem?_eq_none h']at h1
   have hl:late j=false:=by
    cases hb:late j with
    |false=>rfl
    |true=>obtain⟨e,he,hb,ho⟩:=tR j oj kr hb gR;exact absurd ho (nn e he hb)
   have h2:=wpOp_putIf kr (iG j oj kr gR pq nn) (fun cs b=>i9 i oi cs b hi) (fun cs b=>i9 j oj cs b kr) hQ hy h1;have tS:∀k ok,ops[k]? =some ok->k≠i->(listed.setIfInBounds j true).getD k true=false->
    (∀e∈ok.after,Region.binds .any e=true->e.on≠i)->oi.apart ops ok=true:=fun k ok hk pv pw fG=>by
    refine iG k ok hk pv ?_ fG;by_cases kq:j=k
    ·subst kq;exact pq
    ·rw [getD_set_ne true kq]at pw;exact pw
   refine wpOp_mono (fun a' w' h3=>⟨h3.2.1,ih (listed.setIfInBounds j true) a' w' tS (ready_mono hr (Ne.symm gR)) h3.1 (h3.2.1 hl hS) ?_⟩) h2;rw [Array.setIfInBounds_comm _ _ gR];exact h3.2.2
theorem Sa {P:Program} {ops:Array Oper} {Q:Exit->Act->World->Prop} {S:World->Prop} {late:Nat->Bool} {i:Nat} {oi:Oper} {v:Value} (hi:ops[i]? =some oi) (i9:∀(j:Nat) (o:Oper) cs b,ops[j]? =some o->o.op≠.select cs b) (hQ:∀c a w,Q (.panic c) (a.put oi.dst v) w->Q (.panic c) a w) (tR:∀listed j,DC ops listed->i∈Region.ready .any ops listed->j∈Region.ready .any ops listed->late j=true->False): ∀(fuel:Nat) (listed:Array Bool) (a:Act) (w:World),DC ops listed->(∀j oj,ops[j]? =some oj->j≠i->listed.getD j true=false->(∀e∈oj.after,Region.binds .any e=true->e.on≠i)->oi.apart ops oj=true)->i∈Region.ready .any ops listed->YieldsIf P ops S oi v a->S w->Fb P ops Q S late fuel (listed.setIfInBounds i true) (a.put oi.dst v) w->Fb P ops Q S late (fuel+1) listed a w:=by
 intro fuel
 induction fuel with
 |zero=>
  intro listed a w _ _ hr hy hS H;refine⟨fun h=>(by rw [h]at hr;cases hr),fun j hj=> ?_⟩;by_cases gR:j=i
  ·subst gR;exact hy.wpOp hi hS ⟨fun _ _=>hS,H⟩
  ·have:=ready_mono hj gR;rw [H.1]at this;cases this
 |succ fuel ih=>
  intro listed a w gS iG hr hy hS H;refine⟨fun h=>(by rw [h]at hr;cases hr),fun j hj=> ?_⟩;by_cases gR:j=i
  ·subst gR;exact hy.wpOp hi hS ⟨fun _ _=>hS,H⟩
  ·have h1:=H.2 j (ready_mono hj gR);obtain⟨pq,oj,kr,gw⟩:=mem_ready.1 hj;have nn:∀e∈oj.after,Region.binds .any e=true->e.on≠i:=fun e he hb heq=>by
    have h1:=gw e he hb;have h0:=(mem_ready.1 hr).1;rw [heq]at h1;rcases Nat.lt_or_ge i listed.size with h'|h'
    ·simp [h']at h0 h1;rw [h0]at h1;cases h1
    ·simp [getElem?_eq_none h']at h1
   have hl:late j=false:=by
    cases hb:late j with
    |false=>rfl
    |true=>exact(tR listed j gS hr hj hb).elim
   have h2:=wpOp_putIf kr (iG j oj kr gR pq nn) (fun cs b=>i9 i oi cs b hi) (fun cs b=>i9 j oj cs b kr) hQ hy h1;have tS:∀k ok,ops[k]? =some ok->k≠i->(listed.setIfInBounds j true).getD k true=false->
    (∀e∈ok.after,Region.binds .any e=true->e.on≠i)->oi.apart ops ok=true:=fun k ok hk pv pw fG=>by
    refine iG k ok hk pv ?_ fG;by_cases kq:j=k
    ·subst kq;exact pq
    ·rw [getD_set_ne true kq]at pw;exact pw
   refine wpOp_mono (fun a' w' h3=>⟨h3.2.1,ih (listed.setIfInBounds j true) a' w' (gS.put hj) tS (ready_mono hr (Ne.symm gR)) h3.1 (h3.2.1 hl hS) ?_⟩) h2;rw [Array.setIfInBounds_comm _ _ gR];exact h3.2.2
theorem P2 {P:Program} {ops:Array Oper} {Q:Exit->Act->World->Prop} {S:World->Prop} {late:Nat->Bool} {i:Nat} {oi:Oper} {v:Value} (hi:ops[i]? =some oi) (i9:∀(j:Nat) (o:Oper) cs b,ops[j]? =some o->o.op≠.select cs b) (hQ:∀c a w,Q (.panic c) (a.put oi.dst v) w->Q (.panic c) a w): ∀(fuel:Nat) (listed:Array Bool) (a:Act) (w:World),(∀j oj,ops[j]? =some oj->j≠i->listed.getD j true=false->(∀e∈oj.after,Region.binds .any e=true->e.on≠i)->oi.apart ops oj=true)->i∈Region.ready .any ops listed->YieldsIf P ops (fun _=>True) oi v a->Fb P ops Q S late fuel (listed.setIfInBounds i true) (a.put oi.dst v) w->Fb P ops Q S late (fuel+1) listed a w:=by
 intro fuel
 induction fuel with
 |zero=>
  intro listed a w _ hr hy H;refine⟨fun h=>(by rw [h]at hr;cases hr),fun j hj=> ?_⟩;by_cases gR:j=i
  ·subst gR;exact hy.wpOp hi trivial ⟨fun _ h=>h,H⟩
  ·have:=ready_mono hj gR;rw [H.1]at this;cases this
 |succ fuel ih=>
  intro listed a w iG hr hy H;refine⟨fun h=>(by rw [h]at hr;cases hr),fun j hj=> ?_⟩;by_cases gR:j=i
  ·subst gR;exact hy.wpOp hi trivial ⟨fun _ h=>h,H⟩
  ·have h1:=H.2 j (ready_mono hj gR);obtain⟨pq,oj,kr,gw⟩:=mem_ready.1 hj;have nn:∀e∈oj.after,Region.binds .any e=true->e.on≠i:=fun e he hb heq=>by
    have h1:=gw e he hb;have h0:=(mem_ready.1 hr).1;rw [heq]at h1;rcases Nat.lt_or_ge i listed.size with h'|h'
    ·simp [h']at h0 h1;rw [h0]at h1;cases h1
    ·simp [getElem?_eq_none h']at h1
   have h2:=wpOp_putIf kr (iG j oj kr gR pq nn) (fun cs b=>i9 i oi cs b hi) (fun cs b=>i9 j oj cs b kr) hQ hy h1;have tS:∀k ok,ops[k]? =some ok->k≠i->(listed.setIfInBounds j true).getD k true=false->
    (∀e∈ok.after,Region.binds .any e=true->e.on≠i)->oi.apart ops ok=true:=fun k ok hk pv pw fG=>by
    refine iG k ok hk pv ?_ fG;by_cases kq:j=k
    ·subst kq;exact pq
    ·rw [getD_set_ne true kq]at pw;exact pw
   refine wpOp_mono (fun a' w' h3=>⟨h3.2.1,ih (listed.setIfInBounds j true) a' w' tS (ready_mono hr (Ne.symm gR)) h3.1 ?_⟩) h2;rw [Array.setIfInBounds_comm _ _ gR];exact h3.2.2
theorem WI {P:Program} {ops:Array Oper} {Q:Act->World->Prop} {w0:World} (i9:Region.noSelect ops=true):∀(l:List Oper) (i:Nat) (listed:Array Bool) (st:Bool) (a:Act) (w:World),ops.toList.drop i=l->Vz P ops l i listed st=true->(st=false->w=w0)->Hs P ops Q l i a w->Fb P ops (B7 Q) (fun u=>u=w0) (rY P ops) l.length listed a w:=by
 intro l
 induction l with
 |nil=>
  intro i listed st a w _ hk _ h;simp only [Vz,List.isEmpty_iff]at hk;exact⟨hk,h⟩
 |cons o rest ih=>
  intro i listed st a w hd hk eJ h;have ho:ops[i]? =some o:=by
   have:=congrArg (·[0]?) hd;simpa using this
  have dU:ops.toList.drop (i+1)=rest:=by
   rw [←List.drop_drop,hd];rfl
  have kh:Region.wanted o (yielded ops a.tmps)=true->Hj P a.eval o (Dz (B1 ops.toList i) fun v w'=>Hs P ops Q rest (i+1) (a.put o.dst v) w') w/\((B0 P a.eval o).isSome=true\/(∃t x,o.op= .load t x)\/N9 P o=true):=by
   intro hw;simp only [Hs,hw,cond_true]at h;unfold Hj;split at h
   ·rename_i p hp;rw [hp];exact⟨h,.inl rfl⟩
   ·rename_i hp;rw [hp];cases hl:Cx o with
    |true=>
     rw [hl]at h;refine⟨h,.inr (.inl ?_)⟩;unfold Cx at hl;split at hl
     ·rename_i t x he;exact⟨t,x,he⟩
     ·cases hl
    |false=>
     cases hq:N9 P o with
     |true=>rw [hl,hq]at h;exact⟨h,.inr (.inr rfl)⟩
     |false=>rw [hl,hq]at h;exact h.elim
  simp only [Vz]at hk;cases hs:N9 P o with
  |true=>
   rw [hs]at hk;simp only [cond_true,and_eq_true,beq_iff_eq]at hk;refine⟨fun hr=>(by rw [hk.1]at hr;cases hr),fun j hj=> ?_⟩;rw [hk.1,List.mem_singleton]at hj;subst hj;unfold wpOp;simp only [ho];have aP:rY P ops j=true:=by unfold rY;rw [ho];exact hs
   cases hw:Region.wanted o (yielded ops a.tmps)with
   |false=>
    simp only [Hs,hw,cond_false]at h;simp only [false_eq_true,if_false];exact⟨fun h'=>(by rw [aP]at h';cases h'),ih _ _ true _ _ dU hk.2 nofun h⟩
   |true=>
    simp only [if_true];exact .inl (Zp (Cq (kh hw).1 fun v w' h=>⟨fun h'=>(by rw [aP]at h';cases h'),ih _ _ true _ _ dU hk.2 nofun ((Av _ _ _ _).1 h)⟩))
  |false=>
   rw [hs]at hk;simp only [cond_false,and_eq_true]at hk;obtain⟨⟨⟨⟨h2,h3⟩,h4⟩,h5⟩,h6⟩:=hk;have HW:∀v,YieldsIf P ops (fun _=>True) o v a->Hs P ops Q rest (i+1) (a.put o.dst v) w->Fb P ops (B7 Q) (fun u=>u=w0) (rY P ops) (rest.length+1) listed a w:=fun v hy hh=>
    P2 ho (fun j o cs b=>Region.noSelect_spec i9 j o cs b) (fun c a w h=>h) _ listed a w (Region.free_spec ho h4) (by simpa using h3) hy (ih _ _ st _ _ dU h6 eJ hh)
   cases hw:Region.wanted o (yielded ops a.tmps)with
   |false=>
    simp only [Hs,hw,cond_false]at h;exact HW undef (.inr ⟨hw,rfl⟩) h
   |true=>
    obtain⟨g1,g2⟩:=kh hw;rw [hs]at g2;cases hp:B0 P a.eval o with
    |some p=>
     unfold Hj at g1;rw [hp]at g1;obtain⟨v,k1,_,k2⟩:=Fo hp g1;exact HW v (.inl ⟨hw,fun u _=>k2 u⟩) ((Av _ _ _ _).1 k1)
    |none=>
     rw [hp]at g2;obtain⟨tt,xx,hl⟩:∃t x,o.op= .load t x:=by
      rcases g2 with g|g|g
      ·cases g
      ·exact g
      ·cases g
     have my:Cx o=true:=by unfold Cx;rw [hl]
     rw [my]at h5;simp only [Bool.not_true,Bool.false_or,and_eq_true,Bool.not_eq_true']at h5;have wV:w=w0:=eJ h5.1;have tR:∀j oj,ops[j]? =some oj->rY P ops j=true->j≠i->∃e∈oj.after,Region.binds .any e=true/\e.on=i:=by
      intro j oj hj hl _;unfold rY at hl;rw [hj]at hl;simp only at hl;have:=List.all_eq_true.1 h5.2 oj (by simpa using Array.mem_of_getElem? hj);rw [hl]at this;simp only [Bool.not_true,Bool.false_or,HV]at this;obtain⟨e,he,hb⟩:=Array.any_eq_true'.1 this;simp only [and_eq_true,beq_iff_eq]at hb;exact⟨e,he,hb.1,hb.2⟩
     obtain⟨v,k1,k2⟩:=HR (.inr ⟨tt,xx,hl⟩) g1;exact WH ho (fun j o cs b=>Region.noSelect_spec i9 j o cs b) (fun c a w h=>h) tR _ listed a w (Region.free_spec ho h4) (by simpa using h3) (.inl ⟨hw,fun u hu=>by rw [hu,←wV];exact k2⟩) wV (ih _ _ st _ _ dU h6 eJ ((Av _ _ _ _).1 k1))
theorem HY {acc:List Nat} {i:Nat} :∀(l:List Edge) (m:Nat),(wU acc l m).testBit i=true->m.testBit i=true\/∃e∈l,Region.binds .any e=true/\(e.on=i\/(acc.getD e.on 0).testBit i=true)
 |[],m,h=> .inl h
 |e::l,m,h=>by
  simp only [wU]at h;rcases HY l _ h with h1|⟨e',kY,h1⟩
  ·cases hb:Region.binds .any e with
   |false=>rw [hb]at h1;exact .inl h1
   |true=>
    rw [hb]at h1;simp only [cond_true,Nat.testBit_or,Bool.or_eq_true]at h1;rcases h1 with(h1|h1)|h1
    ·exact .inl h1
    ·refine .inr ⟨e,by simp,hb,.inl ?_⟩;rw [Nat.one_shiftLeft,Nat.testBit_two_pow]at h1;simpa using h1
    ·exact .inr ⟨e,by simp,hb,.inr h1⟩
  ·exact .inr ⟨e',List.mem_cons_of_mem _ kY,h1⟩
def HZ (ops:Array Oper) (A:List Nat):Prop:=∀(k i:Nat) (ok:Oper),ops[k]? =some ok->(A.getD k 0).testBit i=true->∀listed,DC ops listed->(∀e∈ok.after,Region.binds .any e=true->listed.getD e.on false=true)->listed.getD i false=true
theorem H_ (ops:Array Oper):∀(l:List Oper) (acc:List Nat),HZ ops acc->ops.toList.drop acc.length=l->HZ ops (zE l acc)
 |[],acc,h,_=>h
 |o::r,acc,h,hd=>by
  have ho:ops[acc.length]? =some o:=by
   rw [←Array.getElem?_toList,show acc.length=acc.length+0 by omega,←List.getElem?_drop,hd];rfl
  refine H_ ops r _ ?_ (by rw [List.length_append,List.length_singleton,←List.drop_drop,hd];rfl);intro k i ok hk hb listed gS gw;by_cases aP:k<acc.length
  ·refine h k i ok hk ?_ listed gS gw;rw [List.getD_eq_getElem?_getD,List.getElem?_append_left aP,←List.getD_eq_getElem?_getD]at hb;exact hb
  ·by_cases he:k=acc.length
   ·subst he;rw [ho]at hk;cases hk;rw [List.getD_eq_getElem?_getD,List.getElem?_append_right (Nat.le_refl _)]at hb;simp only [Nat.sub_self,List.getElem?_cons_zero,Option.getD_some]at hb;rcases HY _ _ hb with h0|⟨e,he,ot,h1⟩
    ·rw [Nat.zero_testBit]at h0;cases h0
    ·have hl:=gw e (by simpa using he) ot;rcases h1 with rfl|h1
     ·exact hl
     ·have aP:e.on<ops.size:=by
       by_cases hx:e.on<ops.size
       ·exact hx
       ·exfalso;have:acc.length<=ops.size:=by have:=(Array.getElem?_eq_some_iff.1 ho).1;omega
        rw [List.getD_eq_getElem?_getD,List.getElem?_eq_none (by omega)]at h1;simp at h1
      exact h e.on i _ (Array.getElem?_eq_getElem aP) h1 listed gS (gS e.on _ (Array.getElem?_eq_getElem aP) hl)
   ·exfalso;rw [List.getD_eq_getElem?_getD,List.getElem?_eq_none (by rw [List.length_append,List.length_singleton];omega)]at hb;simp at hb
theorem Ia {ops:Array Oper} {j i:Nat} {oi:Oper} (hl:rX ops j=true) (hi:ops[i]? =some oi) (my:Cx oi=true) (listed:Array Bool) (gS:DC ops listed) (ri:i∈Region.ready .any ops listed) (rj:j∈Region.ready .any ops listed):False:=by
 unfold rX at hl;have:=List.all_eq_true.1 hl i (List.mem_range.2 (Array.getElem?_eq_some_iff.1 hi).1);rw [hi]at this;simp only [my,Bool.not_true,Bool.false_or]at this;obtain⟨_,oj,kr,gw⟩:=mem_ready.1 rj;have h1:=H_ ops ops.toList [] (fun k i ok _ hb=>by simp at hb) rfl j i oj kr this listed gS gw;have h0:=(mem_ready.1 ri).1;rw [getD_eq_getD_getElem?]at h0 h1;cases hx:listed[i]? with
 |none=>rw [hx]at h1;cases h1
 |some b=>rw [hx]at h0 h1;simp at h0 h1;rw [h0]at h1;cases h1
theorem WJ {P:Program} {ops:Array Oper} {Q:Act->World->Prop} {S:World->Prop} {late:Nat->Bool} (i9:Region.noSelect ops=true) (zG:∀j,late j=true->rX ops j=true):∀(n:Nat) (listed:Array Bool) (early:Bool) (a:Act) (w:World),DC ops listed->(early=true->S w)->Ei P ops Q S late n listed early a w->Fb P ops (B7 Q) S late n listed a w:=by
 intro n
 induction n with
 |zero=>
  intro listed early a w _ _ h;simp only [Ei]at h;cases hr:Region.ready .any ops listed with
  |nil=>rw [hr]at h;exact⟨hr,h⟩
  |cons x xs=>rw [hr]at h;exact h.elim
 |succ n ih=>
  intro listed early a w gS hS h;simp only [Ei]at h;split at h
  ·rename_i i hf;have ia:=List.mem_of_find?_eq_some hf;have ko:=find?_some hf;simp only [and_eq_true]at ko;split at h
   ·rename_i o ho;have iG:=Region.free_spec (md:= .any) ho ko.2;have fin:∀v,YieldsIf P ops (fun _=>True) o v a->Ei P ops Q S late n (listed.setIfInBounds i true) early (a.put o.dst v) w->Fb P ops (B7 Q) S late (n+1) listed a w:=fun v hy hh=>
     P2 ho (fun j o cs b=>Region.noSelect_spec i9 j o cs b) (fun c a w h=>h) _ listed a w iG ia hy (ih _ _ _ _ (gS.put ia) hS hh)
    cases hw:Region.wanted o (yielded ops a.tmps)with
    |false=>rw [hw]at h;exact fin undef (.inr ⟨hw,rfl⟩) h
    |true=>
     rw [hw]at h;simp only [cond_true]at h;split at h
     ·rename_i p hp;obtain⟨v,h1,_,h2⟩:=Fo hp h;exact fin v (.inl ⟨hw,fun u _=>h2 u⟩) ((Av _ _ _ _).1 h1)
     ·exact h.elim
   ·exact h.elim
  ·split at h
   ·rename_i i hf;have he:early=true:=by cases early with|false=>cases hf|true=>rfl
    have hf:Rj ops listed=some i:=by rw [he]at hf;exact hf
    have ia:=List.mem_of_find?_eq_some hf;have ko:=find?_some hf;simp only [and_eq_true]at ko;split at h
    ·rename_i o ho;have iG:=Region.free_spec (md:= .any) ho ko.2;have my:Cx o=true:=by have:=ko.1;rw [ho]at this;exact this
     have fin:∀v,YieldsIf P ops S o v a->Ei P ops Q S late n (listed.setIfInBounds i true) early (a.put o.dst v) w->Fb P ops (B7 Q) S late (n+1) listed a w:=fun v hy hh=>
      Sa ho (fun j o cs b=>Region.noSelect_spec i9 j o cs b) (fun c a w h=>h) (fun listed j gS ri rj hl=>Ia (zG j hl) ho my listed gS ri rj) _ listed a w gS iG ia hy (hS he) (ih _ _ _ _ (gS.put ia) hS hh)
     cases hw:Region.wanted o (yielded ops a.tmps)with
     |false=>rw [hw]at h;exact fin undef (.inr ⟨hw,rfl⟩) h
     |true=>
      rw [hw]at h;obtain⟨v,h1,h2⟩:=HT h;exact fin v (.inl ⟨hw,h2⟩) ((Av _ _ _ _).1 h1)
    ·exact h.elim
   ·split at h
    ·rename_i hr;refine⟨fun _=>h,fun i hi=> ?_⟩;rw [hr]at hi;cases hi
    ·rename_i cf;refine⟨fun hr=>absurd hr cf,fun i hi=> ?_⟩;have ft:=Ri h i hi;unfold wpOp;split at ft
     ·rename_i o ho;simp only [ho];cases hw:Region.wanted o (yielded ops a.tmps)with
      |false=>rw [hw]at ft;simp only [false_eq_true,if_false];exact⟨fun _ h=>h,ih _ false _ _ (gS.put hi) nofun ft⟩
      |true=>
       rw [hw]at ft;simp only [cond_true]at ft;simp only [if_true];refine .inl (Zp (Cq ft fun v w' h=> ?_));cases hl:late i with
       |true=>rw [hl]at h;simp only [cond_true]at h;exact⟨nofun,ih _ false _ _ (gS.put hi) nofun ((Av _ _ _ _).1 h)⟩
       |false=>rw [hl]at h;simp only [cond_false]at h;exact⟨fun _ _=>h.1,ih _ false _ _ (gS.put hi) nofun ((Av _ _ _ _).1 h.2)⟩
     ·exact ft.elim
theorem Ib {P:Program} {ops:Array Oper} {Q:Exit->Act->World->Prop} {S:World->Prop} {late:Nat->Bool} {w0:World} :∀(fuel:Nat) (listed:Array Bool) (a:Act) (w:World),w=w0->Fb P ops Q (fun u=>u=w0) (fun _=>false) fuel listed a w->Fb P ops Q S late fuel listed a w
 |0,_,_,_,_,h=>h
 |fuel+1,_,_,w,e,h=>⟨h.1,fun i hi=>wpOp_mono (fun a' w' h'=>by
  have e':w'=w0:=h'.1 rfl e;exact⟨fun _ hS=>by rw [e',←e];exact hS,Ib fuel _ a' w' e' h'.2⟩) (h.2 i hi)⟩
theorem Ic {P:Program} {ops:Array Oper} {Q:Act->World->Prop} {S:World->Prop} {late:Nat->Bool} {kp:Bool} (i9:Region.noSelect ops=true) (zG:∀j,late j=true->rX ops j=true):∀(n:Nat) (listed:Array Bool) (early:Bool) (a:Act) (w:World),DC ops listed->(early=true->S w)->Fp P ops Q S late kp n listed early a w->Fb P ops (B7 Q) S late n listed a w:=by
 intro n
 induction n with
 |zero=>
  intro listed early a w _ _ h;simp only [Fp]at h;cases hr:Region.ready .any ops listed with
  |nil=>rw [hr]at h;exact⟨hr,h⟩
  |cons x xs=>rw [hr]at h;exact h.elim
 |succ n ih=>
  intro listed early a w gS hS h;simp only [Fp]at h;split at h
  ·rename_i i hf;have ia:=List.mem_of_find?_eq_some hf;have ko:=find?_some hf;simp only [and_eq_true]at ko;split at h
   ·rename_i o ho;have iG:=Region.free_spec (md:= .any) ho ko.2;have fin:∀v,YieldsIf P ops (fun _=>True) o v a->Fp P ops Q S late kp n (listed.setIfInBounds i true) early (a.put o.dst v) w->Fb P ops (B7 Q) S late (n+1) listed a w:=fun v hy hh=>
     P2 ho (fun j o cs b=>Region.noSelect_spec i9 j o cs b) (fun c a w h=>h) _ listed a w iG ia hy (ih _ _ _ _ (gS.put ia) hS hh)
    cases hw:Region.wanted o (yielded ops a.tmps)with
    |false=>rw [hw]at h;exact fin undef (.inr ⟨hw,rfl⟩) h
    |true=>
     rw [hw]at h;simp only [cond_true]at h;split at h
     ·rename_i p hp;obtain⟨v,h1,_,h2⟩:=Fo hp h;exact fin v (.inl ⟨hw,fun u _=>h2 u⟩) ((Av _ _ _ _).1 h1)
     ·exact h.elim
   ·exact h.elim
  ·split at h
   ·rename_i i hf;have he:early=true:=by cases early with|false=>cases hf|true=>rfl
    have hf:Rj ops listed=some i:=by rw [he]at hf;exact hf
    have ia:=List.mem_of_find?_eq_some hf;have ko:=find?_some hf;simp only [and_eq_true]at ko;split at h
    ·rename_i o ho;have iG:=Region.free_spec (md:= .any) ho ko.2;have my:Cx o=true:=by have:=ko.1;rw [ho]at this;exact this
     have fin:∀v,YieldsIf P ops S o v a->Fp P ops Q S late kp n (listed.setIfInBounds i true) early (a.put o.dst v) w->Fb P ops (B7 Q) S late (n+1) listed a w:=fun v hy hh=>
      Sa ho (fun j o cs b=>Region.noSelect_spec i9 j o cs b) (fun c a w h=>h) (fun listed j gS ri rj hl=>Ia (zG j hl) ho my listed gS ri rj) _ listed a w gS iG ia hy (hS he) (ih _ _ _ _ (gS.put ia) hS hh)
     cases hw:Region.wanted o (yielded ops a.tmps)with
     |false=>rw [hw]at h;exact fin undef (.inr ⟨hw,rfl⟩) h
     |true=>
      rw [hw]at h;obtain⟨v,h1,h2⟩:=HT h;exact fin v (.inl ⟨hw,h2⟩) ((Av _ _ _ _).1 h1)
    ·exact h.elim
   ·cases qw:(!early&&zF P ops listed)with
    |true=>
     rw [qw]at h;simp only [cond_true]at h;exact Ib (w0:=w) _ _ _ _ rfl (WJ (S:=fun u=>u=w) (late:=fun _=>false) i9 (fun _ h=>by cases h) (n+1) listed true a w gS (fun _=>rfl) h)
    |false=>
    rw [qw]at h;simp only [cond_false]at h;split at h
    ·rename_i hr;refine⟨fun _=>h,fun i hi=> ?_⟩;rw [hr]at hi;cases hi
    ·rename_i cf;refine⟨fun hr=>absurd hr cf,fun i hi=> ?_⟩;have ft:=Ri h i hi;unfold wpOp;split at ft
     ·rename_i o ho;simp only [ho];cases hw:Region.wanted o (yielded ops a.tmps)with
      |false=>rw [hw]at ft;simp only [false_eq_true,if_false];exact⟨fun _ h=>h,ih _ (early&&kp) _ _ (gS.put hi) (fun he=>hS (Bool.and_eq_true_iff.1 he).1) ft⟩
      |true=>
       rw [hw]at ft;simp only [cond_true]at ft;simp only [if_true];refine .inl (Zp (Cq ft fun v w' h=> ?_));cases hl:late i with
       |true=>rw [hl]at h;simp only [cond_true]at h;exact⟨nofun,ih _ false _ _ (gS.put hi) nofun ((Av _ _ _ _).1 h)⟩
       |false=>rw [hl]at h;simp only [cond_false]at h;exact⟨fun _ _=>h.1,ih _ (early&&kp) _ _ (gS.put hi) (fun _=>h.1) ((Av _ _ _ _).1 h.2)⟩
     ·exact ft.elim
def Ie (ops:Array Oper):Nat->Bool:=rX ops
theorem Xj {ops:Array Oper} (j:Nat) (h:Ie ops j=true):rX ops j=true:=by
 exact h
def Ml (P:Program) (ops:Array Oper) (Q:Act->World->Prop) (a:Act) (w:World):Prop:=cond (P.follows .mixedOrders) (cond (Zq P ops.toList&&Region.lexB .any ops) (∀w',w'=w.drew->Eu P ops Q ops.toList 0 a w') (cond (rZ P ops) (∀w',w'=w.drew->Hs P ops Q ops.toList 0 a w') (cond (Region.noSelect ops) (cond (ops.toList.any Cx) (∀w',w'=w.drew->∃S:World->Prop,S w'/\Fp P ops Q S (Ie ops) (WD ops) ops.size (replicate ops.size false) true a w') (∀w',w'=w.drew->Nc P ops Q ops.size (replicate ops.size false) a w')) False))) False
theorem Ig {P:Program} {ops:Array Oper} {Q:Act->World->Prop} {a:Act} {w:World} (ht:rZ P ops=true) (h:Hs P ops Q ops.toList 0 a w):wpAny P .any ops (B7 Q) ops.size (replicate ops.size false) a w:=by
 simp only [rZ,and_eq_true]at ht;have:=WI (w0:=w) ht.1.2 ops.toList 0 (replicate ops.size false) false a w (by simp) ht.2 (fun _=>rfl) h;simpa using H8 _ _ _ _ this
theorem WK {P:Program} {id:Nat} {ops:Array Oper} {Q:Exit->Act->World->Prop} {a:Act} {w:World} (h:Ml P ops (Q .normal) a w):(Code.region id ops true).wp P Q a w:=by
 unfold Ml at h;cases hm:P.follows .mixedOrders with
 |false=>rw [hm]at h;exact h.elim
 |true=>
  rw [hm]at h;simp only [cond_true]at h;cases hc:(Zq P ops.toList&&Region.lexB .any ops)with
  |true=>
   rw [hc]at h;simp only [and_eq_true]at hc;exact wp_region_quiet (C:=fun w'=>w'=w.drew) hm hc.2 rfl (Kg _ _ _ (h _ rfl))
  |false=>
   rw [hc]at h;simp only [cond_false]at h;cases ht:rZ P ops with
   |true=>
    rw [ht]at h;refine wp_mono (wp_region_any hm (Ig ht (h _ rfl))) fun e a w h=> ?_
    cases e<;>first|exact h|exact(h:False).elim
   |false=>
   rw [ht]at h;simp only [cond_false]at h;cases hs:Region.noSelect ops with
   |false=>rw [hs]at h;exact h.elim
   |true=>
    rw [hs]at h;simp only [cond_true]at h;cases hl:ops.toList.any Cx with
    |true=>
     rw [hl]at h;obtain⟨S,hS,h⟩:=h _ rfl;refine wp_mono (wp_region_any hm (H8 _ _ _ _ (Ic hs Xj _ _ _ _ _ (DC.start _ _) (fun _=>hS) h))) fun e a w h=> ?_
     cases e<;>first|exact h|exact(h:False).elim
    |false=>
     rw [hl]at h;refine wp_mono (wp_region_any hm (HS hs _ _ _ _ (h _ rfl))) fun e a w h=> ?_
     cases e<;>first|exact h|exact(h:False).elim
end Go.Vc
