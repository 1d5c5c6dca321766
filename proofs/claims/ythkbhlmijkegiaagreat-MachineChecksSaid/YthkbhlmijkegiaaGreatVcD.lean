/- The conditions of Go code: a library of this claim. -/
import Derived.OrdersHeld
import Derived.Test.YthkbhlmijkegiaaGreatVcC
import Derived.Deep.Quiet
open Bool (and_eq_true false_eq_true)
open Array (replicate getD_eq_getD_getElem? getElem?_eq_none)
open List (find?_some)
namespace Go.Vc
def Zw:Operand->Bool
 | .const (.pointer none)=>true|_=>false
def G_ (P:Program) (t:TypeId) (x y:Operand):Bool:=
 match P.underlying t with
 |some (.array _ _)=>false|some (.interface _)=>false|some (.struct fs)=>fs.toList.all fun f=> !(f.name== "_")&&match P.underlying f.type with|some (.int _)=>true|some .bool=>true|some .string=>true|_=>false
 |some (.pointer _)=>Zw x||Zw y|_=>true
def HA (P:Program) (t:TypeId) (i:Operand):Bool:=match P.underlying t with
 |some (.array n e)=> !(Mz i||zo P n e)|_=>false
def wH (P:Program) (o:Oper):Bool:=
 match o.op with
 | .binOp _ t x y _=>G_ P t x y| .index t _ i=> !HA P t i| .move _| .assign _| .nilCheck _| .indexAddr .. | .slice .. | .pick .. | .makeFunc .. | .unOp .. | .makeInterface .. | .fieldAddr .. | .field .. | .extract .. | .build .. =>true| .load t _=>(P.underlying t).isSome| .call { callee:= .builtin b,.. } =>match b with| .len| .cap| .min| .max=>true|_=>false
 |_=>false
def Zg (P:Program) (l:List Oper):Bool:=l.all (wH P)
theorem HB {P:Program} {ρ:Operand->Value} {o:Oper} {next:Value->World->Prop} {w:World} (hp:(Bw P ρ o).isSome=true\/∃t x,o.op= .load t x) (h:Hj P ρ o next w): ∃v,next v w/\(execOp ρ o).run P w= .ok (.value v) w:=by
 unfold Hj at h;split at h
 ·rename_i p WL;obtain⟨v,h1,_,h2⟩:=Fo WL h;exact⟨v,h1,h2 w⟩
 ·rename_i hn;rcases hp with hp|⟨t,x,hl⟩
  ·rw [hn]at hp;cases hp
  ·obtain⟨dst,op,type,pos,after,guard⟩:=o;simp only at hl;subst hl;simp only [Tv]at h;split at h
   ·rename_i q d ha hd;obtain⟨a,rfl⟩:∃a,q=some a:=by cases q with|none=>exact h.elim|some a=>exact⟨a,rfl⟩
    obtain⟨v,h1,h2⟩:=Zv h (by rw [hd];simp);exact⟨v,h2,by simp only [execOp,Instr.loadAt,ha,Instr.sureAddr,Sem.run_bind,Sem.run_pure,Result.andThen_ok,h1]⟩
   ·exact h.elim
def Er (P:Program) (ops:Array Oper) (Q:Act->World->Prop):List Oper->Nat->Act->World->Prop
 |[],_,a,w=>Q a w|o::rest,i,a,w=>
  cond (Region.wanted o (yielded ops a.tmps))
   (match Bw P a.eval o with
    |some p=>p.then fun v=>Dx (Bz ops.toList i) (fun v w'=>Er P ops Q rest (i+1) (a.put o.dst v) w') v w
    |none=>match o.op with
     | .load _ _=>Tv P a.eval o (Dx (Bz ops.toList i) fun v w'=>Er P ops Q rest (i+1) (a.put o.dst v) w') w
     |_=>False)
   (Er P ops Q rest (i+1) (a.put o.dst undef) w)
theorem Kf {P:Program} {ops:Array Oper} {Q:Act->World->Prop} {w:World} :∀(l:List Oper) (i:Nat) (a:Act),Er P ops Q l i a w->wpQuiet P ops (fun w'=>w'=w) (fun a'=>∀w',w'=w->Q a' w') l a:=by
 intro l
 induction l with
 |nil=>intro i a h w' hw;rw [hw];exact h
 |cons o rest ih=>
  intro i a h;simp only [Er]at h;simp only [wpQuiet];cases hw:Region.wanted o (yielded ops a.tmps)with
  |false=>
   rw [hw]at h;simp only [false_eq_true,if_false];exact ih _ _ h
  |true=>
   rw [hw]at h;simp only [if_true];have fin:∀v,Dx (Bz ops.toList i) (fun v w'=>Er P ops Q rest (i+1) (a.put o.dst v) w') v w->(execOp a.eval o).run P w= .ok (.value v) w->
    o.quiet P a (fun w'=>w'=w) (wpQuiet P ops (fun w'=>w'=w) (fun a'=>∀w',w'=w->Q a' w') rest):=by
    intro v h1 h2;refine⟨v,fun w' jW=> ?_,ih _ _ ((Ar _ _ _ _).1 h1)⟩;subst jW;unfold Oper.quietAt;rw [h2];exact⟨rfl,rfl⟩
   simp only [cond_true]at h;split at h
   ·rename_i p hp;obtain⟨v,h1,_,h2⟩:=Fo hp h;exact fin v h1 (h2 w)
   ·rename_i hn;split at h
    ·rename_i t x hl;have kR:Hj P a.eval o (Dx (Bz ops.toList i) fun v w'=>Er P ops Q rest (i+1) (a.put o.dst v) w') w:=by
      unfold Hj;rw [hn];exact h
     obtain⟨v,h1,h2⟩:=HB (.inr ⟨t,x,hl⟩) kR;exact fin v h1 h2
    ·exact h.elim
def Zx (c:Bool):Value->Value->Option Value
 | .bool x,.bool y=>some (.bool (cond c x y))| .int k x,.int k' y=>cond (decide (k=k')) (some (.int k (cond c x y))) none|_,_=>none
def Vp (c:Bool):List Value->List Value->Option (List Value)
 |[],[]=>some []|x::xs,y::ys=>match Zx c x y,Vp c xs ys with
  |some v,some l=>some (v::l)|_,_=>none
 |_,_=>none
theorem WM {x y v:Value} (h:Zx true x y=some v):v=x:=by
 unfold Zx at h;split at h
 ·cases h;rfl
 ·rename_i k a k' b;cases hk:decide (k=k')with
  |true=>rw [hk]at h;cases h;rfl
  |false=>rw [hk]at h;cases h
 ·cases h
theorem WN {x y v:Value} (h:Zx false x y=some v):v=y:=by
 unfold Zx at h;split at h
 ·cases h;rfl
 ·rename_i k a k' b;cases hk:decide (k=k')with
  |true=>rw [hk]at h;cases h;have:=of_decide_eq_true hk;subst this;rfl
  |false=>rw [hk]at h;cases h
 ·cases h
theorem W6:∀ {x y v:List Value},Vp true x y=some v->v=x
 |[],[],_,h=>by cases h;rfl
 |x::xs,y::ys,v,h=>by
  simp only [Vp]at h;split at h
  ·rename_i u l h1 h2;cases h
   rw [WM h1,W6 h2]
  ·cases h
 |[],_::_,_,h=>by cases h
 |_::_,[],_,h=>by cases h
theorem T1:∀ {x y v:List Value},Vp false x y=some v->v=y
 |[],[],_,h=>by cases h;rfl
 |x::xs,y::ys,v,h=>by
  simp only [Vp]at h;split at h
  ·rename_i u l h1 h2;cases h
   rw [WN h1,T1 h2]
  ·cases h
 |[],_::_,_,h=>by cases h
 |_::_,[],_,h=>by cases h
def wI (a:Act) (live:List Nat):List Value:=live.map fun i=>a.tmps.getD i undef
def under (c:Bool) (b:Bool):List Prop->List Prop
 |[]=>[]|p::l=>(c=b->p)::under c b l
def T2:List Prop->Prop->Prop
 |[],K=>K|p::l,K=>p/\T2 l K
theorem Nz:∀ {l:List Prop} {K:Prop},T2 l K->(∀p∈l,p)/\K
 |[],_,h=>⟨fun _ h=>(by cases h),h⟩
 |p::l,_,h=>by
  obtain⟨h1,h2⟩:=Nz h.2;refine⟨fun q hq=> ?_,h2⟩;cases hq with
  |head=>exact h.1
  |tail _ hq=>exact h1 q hq
theorem N0:∀ {l:List Prop} {K K':Prop},T2 l K->(K->K')->T2 l K'
 |[],_,_,h,hk=>hk h
 |_::_,_,_,h,hk=>⟨h.1,N0 h.2 hk⟩
theorem Vq {c b:Bool} (hc:c=b):∀ {l:List Prop},(∀p∈under c b l,p)->∀p∈l,p
 |[],_,_,h=>by cases h
 |p::l,h,q,hq=>by
  cases hq with
  |head=>exact h (c=b->p) (by simp [under]) hc
  |tail _ hq=>exact Vq hc (fun r hr=>h r (by simp [under,hr])) q hq
def merged (P:Program) (ops:Array Oper) (live:List Nat):List Oper->Nat->Act->Option (List Prop×List Value)
 |[],_,a=>some ([],wI a live)|o::rest,i,a=>
  cond (Region.wanted o (yielded ops a.tmps))
   (match Bw P a.eval o with
    |some (.val v)=>cond (Bz ops.toList i)
     (match v with
      | .bool c=>match merged P ops live rest (i+1) (a.put o.dst (.bool true)),merged P ops live rest (i+1) (a.put o.dst (.bool false))with
       |some (p1,l1),some (p2,l2)=>match Vp c l1 l2 with
        |some l=>some (under c true p1++under c false p2,l)|none=>none
       |_,_=>none
      |_=>none)
     (merged P ops live rest (i+1) (a.put o.dst v))
    |some (.when q v)=>cond (Bz ops.toList i) none
     (match merged P ops live rest (i+1) (a.put o.dst v)with
      |some (p,l)=>some (q::p,l)|none=>none)
    |_=>none)
   (merged P ops live rest (i+1) (a.put o.dst undef))
theorem W7 {P:Program} {ops:Array Oper} {live:List Nat} {w:World} :∀(l:List Oper) (i:Nat) (a:Act) {ps:List Prop} {vs:List Value},merged P ops live l i a=some (ps,vs)->(∀p∈ps,p)->Er P ops (fun a' w'=>w'=w/\wI a' live=vs) l i a w:=by
 intro l
 induction l with
 |nil=>intro i a ps vs h _;simp only [merged]at h;cases h;exact⟨rfl,rfl⟩
 |cons o rest ih=>
  intro i a ps vs h hp;simp only [merged]at h;simp only [Er];cases hw:Region.wanted o (yielded ops a.tmps)with
  |false=>rw [hw]at h;exact ih _ _ h hp
  |true=>
   rw [hw]at h;simp only [cond_true]at h⊢;split at h
   ·rename_i v hv;simp only [hv,gI.then];rw [Ar];cases hg:Bz ops.toList i with
    |false=>rw [hg]at h;exact ih _ _ h hp
    |true=>
     rw [hg]at h;simp only [cond_true]at h;split at h
     ·rename_i c;split at h
      ·rename_i p1 l1 p2 l2 h1 h2;split at h
       ·rename_i lm hm;cases h
        cases c with
        |true=>rw [W6 hm];exact ih _ _ h1 (Vq rfl fun p jH=>hp p (List.mem_append_left _ jH))
        |false=>rw [T1 hm];exact ih _ _ h2 (Vq rfl fun p jH=>hp p (List.mem_append_right _ jH))
       ·cases h
      ·cases h
     ·cases h
   ·rename_i q v hv;simp only [hv,gI.then];rw [Ar];cases hg:Bz ops.toList i with
    |true=>rw [hg]at h;cases h
    |false=>
     rw [hg]at h;simp only [cond_false]at h;split at h
     ·rename_i p l1 h1;cases h
      exact⟨hp q (by simp),ih _ _ h1 fun r hr=>hp r (by simp [hr])⟩
     ·cases h
   ·cases h
theorem WO {P:Program} {ops:Array Oper} {Q:Act->World->Prop} :∀(l:List Oper) (i:Nat) (a:Act) (w:World),Er P ops Q l i a w->Kv P ops Q l i a w:=by
 intro l
 induction l with
 |nil=>intro i a w h;exact h
 |cons o rest ih=>
  intro i a w h;simp only [Er]at h;simp only [Kv];cases hw:Region.wanted o (yielded ops a.tmps)with
  |false=>rw [hw]at h;exact ih _ _ _ h
  |true=>
   rw [hw]at h;simp only [cond_true]at h⊢;unfold Hj;rw [T0];split at h
   ·rename_i p hp;rw [hp];refine gI.pq h fun v h=> ?_
    rw [Ar]at h⊢;exact ih _ _ _ h
   ·rename_i hp;rw [hp];split at h
    ·rename_i t x hl;rw [Tz _ _ t x hl];refine Kw h fun v w' h=> ?_
     rw [Ar]at h⊢;exact ih _ _ _ h
    ·exact h.elim
def Zy:List Nat->(Nat->Prop)->Prop
 |[],_=>True|[i],F=>F i|i::l,F=>F i/\Zy l F
theorem Q7:∀ {l:List Nat} {F:Nat->Prop},Zy l F->∀i∈l,F i
 |[],_,_,_,h=>by cases h
 |[j],F,h,i,hi=>by simp at hi;subst hi;exact h
 |j::k::l,F,h,i,hi=>by
  cases hi with
  |head=>exact h.1
  |tail _ hi=>exact Q7 h.2 i hi
def WQ (P:Program) (o:Oper):Bool:=
 match o.op with
 | .binOp _ t x y _=>G_ P t x y| .index t _ i=> !HA P t i| .move _| .assign _| .nilCheck _| .indexAddr .. | .slice .. | .pick .. | .makeFunc .. | .unOp .. | .makeInterface .. | .fieldAddr .. | .field .. | .extract .. | .build .. =>true| .call { callee:= .builtin b,.. } =>match b with| .len| .cap| .min| .max=>true|_=>false
 |_=>false
def firstFree (P:Program) (ops:Array Oper) (listed:Array Bool):Option Nat:=
 (Region.ready .any ops listed).find? fun i=>(match ops[i]? with|some o=>WQ P o|none=>false)&&Region.free .any ops listed i
def M6 (P:Program) (ops:Array Oper) (Q:Act->World->Prop):Nat->Array Bool->Act->World->Prop
 |0,listed,a,w=>cond (Region.ready .any ops listed).isEmpty (Q a w) False|n+1,listed,a,w=>
  match firstFree P ops listed with
  |some i=>match ops[i]? with
   |some o=>cond (Region.wanted o (yielded ops a.tmps))
    (match Bw P a.eval o with
     |some p=>p.then fun v=>Dx (Bz ops.toList i) (fun v w'=>M6 P ops Q n (listed.setIfInBounds i true) (a.put o.dst v) w') v w
     |none=>False)
    (M6 P ops Q n (listed.setIfInBounds i true) (a.put o.dst undef) w)
   |none=>False
  |none=>match Region.ready .any ops listed with
   |[]=>Q a w|l=>Zy l fun i=>match ops[i]? with
    |some o=>cond (Region.wanted o (yielded ops a.tmps))
     (Hj P a.eval o (Dx (Bz ops.toList i) fun v w'=>M6 P ops Q n (listed.setIfInBounds i true) (a.put o.dst v) w') w)
     (M6 P ops Q n (listed.setIfInBounds i true) (a.put o.dst undef) w)
    |none=>False
def B6 (Q:Act->World->Prop):Exit->Act->World->Prop
 | .normal,a,w=>Q a w|_,_,_=>False
theorem HC {P:Program} {ops:Array Oper} {Q:Act->World->Prop} (i3:Region.noSelect ops=true):∀(n:Nat) (listed:Array Bool) (a:Act) (w:World),M6 P ops Q n listed a w->wpAny P .any ops (B6 Q) n listed a w:=by
 intro n
 induction n with
 |zero=>
  intro listed a w h;simp only [M6]at h;cases hr:Region.ready .any ops listed with
  |nil=>rw [hr]at h;exact⟨hr,h⟩
  |cons x xs=>rw [hr]at h;exact h.elim
 |succ n ih=>
  intro listed a w h;simp only [M6]at h;split at h
  ·rename_i i hf;have gP:=List.mem_of_find?_eq_some hf;have j9:=find?_some hf;simp only [and_eq_true]at j9;split at h
   ·rename_i o ho;have iu:=Region.free_spec (md:= .any) ho j9.2;have fin:∀v,Yields P ops o v a->M6 P ops Q n (listed.setIfInBounds i true) (a.put o.dst v) w->wpAny P .any ops (B6 Q) (n+1) listed a w:=by
     intro v hy hh;exact wpAny_first ho (fun j o cs b=>Region.noSelect_spec i3 j o cs b) (fun c a w h=>h) n listed a w iu gP hy (ih _ _ _ hh)
    cases hw:Region.wanted o (yielded ops a.tmps)with
    |false=>rw [hw]at h;exact fin undef (.inr ⟨hw,rfl⟩) h
    |true=>
     rw [hw]at h;simp only [cond_true]at h;split at h
     ·rename_i p hp;obtain⟨v,h1,_,h2⟩:=Fo hp h;exact fin v (.inl ⟨hw,h2⟩) ((Ar _ _ _ _).1 h1)
     ·exact h.elim
   ·exact h.elim
  ·split at h
   ·rename_i hr;refine⟨fun _=>h,fun i hi=> ?_⟩;rw [hr]at hi;cases hi
   ·rename_i bZ;refine⟨fun hr=>absurd hr bZ,fun i hi=> ?_⟩;have eN:=Q7 h i hi;unfold wpOp;split at eN
    ·rename_i o ho;simp only [ho];cases hw:Region.wanted o (yielded ops a.tmps)with
     |false=>rw [hw]at eN;simp only [false_eq_true,if_false];exact ih _ _ _ eN
     |true=>
      rw [hw]at eN;simp only [if_true];exact .inl (Zf (Cn eN fun v w' h=>ih _ _ _ ((Ar _ _ _ _).1 h)))
    ·exact eN.elim
def Ct (o:Oper):Bool:=match o.op with| .load .. =>true|_=>false
def Q8 (ops:Array Oper) (listed:Array Bool):Option Nat:=
 (Region.ready .any ops listed).find? fun i=>(match ops[i]? with|some o=>Ct o|none=>false)&&Region.free .any ops listed i
def Sg (P:Program) (ρ:Operand->Value) (o:Oper) (S:World->Prop) (next:Value->Prop):Prop:=
 match o.op with
 | .load t x=>match ρ x,P.underlying t with
  | .pointer p,some _=>Aj p fun a=>match My P t with
   | .one c=>c.ex fun v=>(∀w,S w->w.cell? a=some v)/\next v
   | .agg cs=>cond (cs.length==Hq P t) (Ka cs fun l=>(∀w,S w->Ad w a l)/\next (.agg ⟨l⟩)) False
  |_,_=>False
 |_=>False
theorem Zz {P:Program} {ρ:Operand->Value} {o:Oper} {S:World->Prop} {next:Value->Prop} (h:Sg P ρ o S next): ∃v,next v/\∀w,S w->(execOp ρ o).run P w= .ok (.value v) w:=by
 unfold Sg at h;split at h
 ·rename_i t x ho;split at h
  ·rename_i q d ha hd;obtain⟨a,rfl⟩:∃a,q=some a:=by cases q with|none=>exact h.elim|some a=>exact⟨a,rfl⟩
   have fin:∀v w,(loadVar t a).run P w= .ok v w->(execOp ρ o).run P w= .ok (.value v) w:=by
    intro v w hr;obtain⟨dst,op,type,pos,after,guard⟩:=o;simp only at ho;subst ho;simp only [execOp,Instr.loadAt,ha,Instr.sureAddr,Sem.run_bind,Sem.run_pure,Result.andThen_ok,hr]
   simp only [Aj]at h;split at h
   ·rename_i c hc;obtain⟨v,h1,h2⟩:=dc.qu h;refine⟨v,h2,fun w hS=>fin v w ?_⟩;simp only [loadVar,Sem.run_bind,G9 hd,GU hc d hd,Result.andThen_ok,false_eq_true,if_false,run_load,h1 w hS]
   ·rename_i cs hc;obtain⟨d',dw,wG⟩:=Vo hc;obtain rfl:d=d':=Option.some.inj (hd.symm.trans dw);cases hs:(cs.length==Hq P t)with
    |false=>rw [hs]at h;exact h.elim
    |true=>
     rw [hs]at h;obtain⟨l,hl,h1,h2⟩:=Kb h;obtain⟨i,hi⟩:=Js hd;have eb:l.length=i.size:=by
      have:=eq_of_beq hs;simp only [Hq,hi]at this;omega
     refine⟨_,h2,fun w hS=>fin _ w ?_⟩;simp only [loadVar,Sem.run_bind,G9 hd,wG,Result.andThen_ok,if_true,sizeOf,typeInfo,run_program,hi,Sem.run_pure,loadCells];rw [←eb,H6 l 0 #[] (fun j hj=>by simpa using h1 w hS j hj)];simp
  ·exact h.elim
 ·exact h.elim
theorem W8 {P:Program} {ρ:Operand->Value} {o:Oper} {S:World->Prop} {next next':Value->Prop} (h:Sg P ρ o S next) (hk:∀v,next v->next' v):Sg P ρ o S next':=by
 unfold Sg at*;split at h
 ·split at h
  ·rename_i q d ha hd;cases q with
   |none=>exact h.elim
   |some a=>
    simp only [Aj]at h⊢;split at h
    ·exact dc.qv h fun v h=>⟨h.1,hk _ h.2⟩
    ·rename_i cs hc;cases hs:(cs.length==Hq P _)with
     |false=>rw [hs]at h;exact h.elim
     |true=>rw [hs]at h;exact Kc h fun v h=>⟨h.1,hk _ h.2⟩
  ·exact h.elim
 ·exact h.elim
def HD (o:Oper):Bool:=match o.op with| .store .. =>true|_=>false
def HE (o:Oper) (i:Nat):Bool:=o.after.any fun e=>Region.binds .any e&&e.on==i
def wJ (acc:List Nat):List Edge->Nat->Nat
 |[],m=>m|e::l,m=>wJ acc l (cond (Region.binds .any e) ((m|||(1<<<e.on))|||acc.getD e.on 0) m)
def zq:List Oper->List Nat->List Nat
 |[],acc=>acc|o::r,acc=>zq r (acc++[wJ acc o.after.toList 0])
def rV (ops:Array Oper) (j:Nat):Bool:=(List.range ops.size).all fun i=>match ops[i]? with
 |some q=> !Ct q||((zq ops.toList []).getD j 0).testBit i|none=>true
def Ef (P:Program) (ops:Array Oper) (Q:Act->World->Prop) (S:World->Prop) (late:Nat->Bool):Nat->Array Bool->Bool->Act->World->Prop
 |0,listed,_,a,w=>cond (Region.ready .any ops listed).isEmpty (Q a w) False|n+1,listed,early,a,w=>
  match firstFree P ops listed with
  |some i=>match ops[i]? with
   |some o=>cond (Region.wanted o (yielded ops a.tmps))
    (match Bw P a.eval o with
     |some p=>p.then fun v=>Dx (Bz ops.toList i) (fun v w'=>Ef P ops Q S late n (listed.setIfInBounds i true) early (a.put o.dst v) w') v w
     |none=>False)
    (Ef P ops Q S late n (listed.setIfInBounds i true) early (a.put o.dst undef) w)
   |none=>False
  |none=>match cond early (Q8 ops listed) none with
   |some i=>match ops[i]? with
    |some o=>cond (Region.wanted o (yielded ops a.tmps))
     (Sg P a.eval o S fun v=>Dx (Bz ops.toList i) (fun v w'=>Ef P ops Q S late n (listed.setIfInBounds i true) early (a.put o.dst v) w') v w)
     (Ef P ops Q S late n (listed.setIfInBounds i true) early (a.put o.dst undef) w)
    |none=>False
   |none=>match Region.ready .any ops listed with
    |[]=>Q a w|l=>Zy l fun i=>match ops[i]? with
     |some o=>cond (Region.wanted o (yielded ops a.tmps))
      (Hj P a.eval o (fun v w'=>cond (late i) (Dx (Bz ops.toList i) (fun v w'=>Ef P ops Q S late n (listed.setIfInBounds i true) false (a.put o.dst v) w') v w') (S w'/\Dx (Bz ops.toList i) (fun v w'=>Ef P ops Q S late n (listed.setIfInBounds i true) false (a.put o.dst v) w') v w')) w)
      (Ef P ops Q S late n (listed.setIfInBounds i true) false (a.put o.dst undef) w)
     |none=>False
def Z0 (P:Program) (ops:Array Oper) (listed:Array Bool):Bool:=(List.range ops.size).all fun j=>listed.getD j true||(match ops[j]? with|some o=>wH P o|none=>true)
def WR (ops:Array Oper):Bool:=Nat.ble 3 (ops.toList.countP fun o=>Ct o&&o.guard.isSome)
def Fp (P:Program) (ops:Array Oper) (Q:Act->World->Prop) (S:World->Prop) (late:Nat->Bool) (kp:Bool):Nat->Array Bool->Bool->Act->World->Prop
 |0,listed,_,a,w=>cond (Region.ready .any ops listed).isEmpty (Q a w) False|n+1,listed,early,a,w=>
  match firstFree P ops listed with
  |some i=>match ops[i]? with
   |some o=>cond (Region.wanted o (yielded ops a.tmps))
    (match Bw P a.eval o with
     |some p=>p.then fun v=>Dx (Bz ops.toList i) (fun v w'=>Fp P ops Q S late kp n (listed.setIfInBounds i true) early (a.put o.dst v) w') v w
     |none=>False)
    (Fp P ops Q S late kp n (listed.setIfInBounds i true) early (a.put o.dst undef) w)
   |none=>False
  |none=>match cond early (Q8 ops listed) none with
   |some i=>match ops[i]? with
    |some o=>cond (Region.wanted o (yielded ops a.tmps))
     (Sg P a.eval o S fun v=>Dx (Bz ops.toList i) (fun v w'=>Fp P ops Q S late kp n (listed.setIfInBounds i true) early (a.put o.dst v) w') v w)
     (Fp P ops Q S late kp n (listed.setIfInBounds i true) early (a.put o.dst undef) w)
    |none=>False
   |none=>cond (!early&&Z0 P ops listed) (Ef P ops Q (fun u=>u=w) (fun _=>false) (n+1) listed true a w) (match Region.ready .any ops listed with
    |[]=>Q a w|l=>Zy l fun i=>match ops[i]? with
     |some o=>cond (Region.wanted o (yielded ops a.tmps))
      (Hj P a.eval o (fun v w'=>cond (late i) (Dx (Bz ops.toList i) (fun v w'=>Fp P ops Q S late kp n (listed.setIfInBounds i true) false (a.put o.dst v) w') v w') (S w'/\Dx (Bz ops.toList i) (fun v w'=>Fp P ops Q S late kp n (listed.setIfInBounds i true) (early&&kp) (a.put o.dst v) w') v w')) w)
      (Fp P ops Q S late kp n (listed.setIfInBounds i true) (early&&kp) (a.put o.dst undef) w)
     |none=>False)
def N2 (P:Program) (o:Oper):Bool:= !wH P o
def rX (P:Program) (ops:Array Oper) (j:Nat):Bool:=match ops[j]? with|some o=>N2 P o|none=>false
def Vr (P:Program) (ops:Array Oper):List Oper->Nat->Array Bool->Bool->Bool
 |[],_,listed,_=>(Region.ready .any ops listed).isEmpty|o::rest,i,listed,st=>cond (N2 P o) (Region.ready .any ops listed==[i]&&Vr P ops rest (i+1) (listed.setIfInBounds i true) true)
  (wH P o&&(Region.ready .any ops listed).contains i&&Region.free .any ops listed i&&(!Ct o||(!st&&(ops.toList.all fun q=> !N2 P q||HE q i)))&&Vr P ops rest (i+1) (listed.setIfInBounds i true) st)
def WS (ops:Array Oper):Bool:=ops.toList.any fun o=>match o.op with
 | .store _ (.tmp t) _=>ops.toList.any fun q=>(q.dst==some t)&&(match q.op with| .indexAddr .. =>true| .fieldAddr .. =>true|_=>false)
 |_=>false
def WT (P:Program) (ops:Array Oper):Bool:=ops.toList.any Ct&&ops.toList.any HD&&ops.toList.any fun o=>N2 P o&& !HD o
def rY (P:Program) (ops:Array Oper):Bool:=(WS ops||WT P ops)&&Region.noSelect ops&&Vr P ops ops.toList 0 (replicate ops.size false) false
def Hs (P:Program) (ops:Array Oper) (Q:Act->World->Prop):List Oper->Nat->Act->World->Prop
 |[],_,a,w=>Q a w|o::rest,i,a,w=>
  cond (Region.wanted o (yielded ops a.tmps))
   (match Bw P a.eval o with
    |some p=>p.then fun v=>Dx (Bz ops.toList i) (fun v w'=>Hs P ops Q rest (i+1) (a.put o.dst v) w') v w
    |none=>cond (Ct o||N2 P o) (Tv P a.eval o (Dx (Bz ops.toList i) fun v w'=>Hs P ops Q rest (i+1) (a.put o.dst v) w') w) False)
   (Hs P ops Q rest (i+1) (a.put o.dst undef) w)
def E9 (P:Program) (ops:Array Oper) (Q:Exit->Act->World->Prop) (S:World->Prop) (late:Nat->Bool):Nat->Array Bool->Act->World->Prop
 |0,listed,a,w=>Region.ready .any ops listed=[]/\Q .normal a w|fuel+1,listed,a,w=>
  (Region.ready .any ops listed=[]->Q .normal a w)/\
  ∀i∈Region.ready .any ops listed,wpOp P ops Q i (fun a' w'=>(late i=false->S w->S w')/\E9 P ops Q S late fuel (listed.setIfInBounds i true) a' w') a w
theorem H7 {P:Program} {ops:Array Oper} {Q:Exit->Act->World->Prop} {S:World->Prop} {late:Nat->Bool} :∀(fuel:Nat) (listed:Array Bool) (a:Act) (w:World),E9 P ops Q S late fuel listed a w->wpAny P .any ops Q fuel listed a w
 |0,_,_,_,h=>h
 |fuel+1,_,_,_,h=>⟨h.1,fun i hi=>wpOp_mono (fun a' w' h'=>H7 fuel _ a' w' h'.2) (h.2 i hi)⟩
def DC (ops:Array Oper) (listed:Array Bool):Prop:=∀(k:Nat) (ok:Oper),ops[k]? =some ok->listed.getD k false=true->∀e∈ok.after,Region.binds .any e=true->listed.getD e.on false=true
theorem DC.start (ops:Array Oper) (n:Nat):DC ops (replicate n false):=fun k ok _ h=>by
 exfalso;rw [getD_eq_getD_getElem?]at h;by_cases hk:k<n
 ·simp [hk]at h
 ·simp [hk]at h
theorem getD_set_true {listed:Array Bool} {j k:Nat} (h:listed.getD k false=true):(listed.setIfInBounds j true).getD k false=true:=by
 by_cases j_:j=k
 ·subst j_;rw [getD_eq_getD_getElem?]at h⊢;by_cases hk:j<listed.size
  ·simp [hk]
  ·rw [getElem?_eq_none (by omega)]at h;cases h
 ·rw [getD_eq_getD_getElem?]at h⊢;rw [Array.getElem?_setIfInBounds_ne j_];exact h
theorem DC.put {ops:Array Oper} {listed:Array Bool} {j:Nat} (h:DC ops listed) (hj:j∈Region.ready .any ops listed):DC ops (listed.setIfInBounds j true):=fun k ok hk hl e he hb=>by
 obtain⟨_,oj,ka,fI⟩:=mem_ready.1 hj;by_cases j_:j=k
 ·subst j_;rw [ka]at hk;cases hk;exact getD_set_true (fI e he hb)
 ·refine getD_set_true (h k ok hk ?_ e he hb);rw [getD_eq_getD_getElem?]at hl⊢;rw [Array.getElem?_setIfInBounds_ne j_]at hl;exact hl
theorem WU {P:Program} {ops:Array Oper} {Q:Exit->Act->World->Prop} {S:World->Prop} {late:Nat->Bool} {i:Nat} {oi:Oper} {v:Value} (hi:ops[i]? =some oi) (i3:∀(j:Nat) (o:Oper) cs b,ops[j]? =some o->o.op≠.select cs b) (hQ:∀c a w,Q (.panic c) (a.put oi.dst v) w->Q (.panic c) a w) (tP:∀j oj,ops[j]? =some oj->late j=true->j≠i->∃e∈oj.after,Region.binds .any e=true/\e.on=i): ∀(fuel:Nat) (listed:Array Bool) (a:Act) (w:World),(∀j oj,ops[j]? =some oj->j≠i->listed.getD j true=false->(∀e∈oj.after,Region.binds .any e=true->e.on≠i)->oi.apart ops oj=true)->i∈Region.ready .any ops listed->YieldsIf P ops S oi v a->S w->E9 P ops Q S late fuel (listed.setIfInBounds i true) (a.put oi.dst v) w->E9 P ops Q S late (fuel+1) listed a w:=by
 intro fuel
 induction fuel with
 |zero=>
  intro listed a w _ hr hy hS H;refine⟨fun h=>(by rw [h]at hr;cases hr),fun j hj=> ?_⟩;by_cases gn:j=i
  ·subst gn;exact hy.wpOp hi hS ⟨fun _ _=>hS,H⟩
  ·have:=ready_mono hj gn;rw [H.1]at this;cases this
 |succ fuel ih=>
  intro listed a w iu hr hy hS H;refine⟨fun h=>(by rw [h]at hr;cases hr),fun j hj=> ?_⟩;by_cases gn:j=i
  ·subst gn;exact hy.wpOp hi hS ⟨fun _ _=>hS,H⟩
  ·have h1:=H.2 j (ready_mono hj gn);obtain⟨pv,oj,ka,fI⟩:=mem_ready.1 hj;have nA:∀e∈oj.after,Region.binds .any e=true->e.on≠i:=fun e he hb heq=>by
    have h1:=fI e he hb;have h0:=(mem_ready.1 hr).1;rw [heq]at h1;rcases Nat.lt_or_ge i listed.size with h'|h'
    ·simp [h']at h0 h1;rw [h0]at h1;cases h1
    ·simp [getElem?_eq_none h']at h1
   have hl:late j=false:=by
    cases hb:late j with
    |false=>rfl
    |true=>obtain⟨e,he,hb,ho⟩:=tP j oj ka hb gn;exact absurd ho (nA e he hb)
   have h2:=wpOp_putIf ka (iu j oj ka gn pv nA) (fun cs b=>i3 i oi cs b hi) (fun cs b=>i3 j oj cs b ka) hQ hy h1;have tQ:∀k ok,ops[k]? =some ok->k≠i->(listed.setIfInBounds j true).getD k true=false->
    (∀e∈ok.after,Region.binds .any e=true->e.on≠i)->oi.apart ops ok=true:=fun k ok hk pw px eU=>by
    refine iu k ok hk pw ?_ eU;by_cases j_:j=k
    ·subst j_;exact pv
    ·rw [getD_set_ne true j_]at px;exact px
   refine wpOp_mono (fun a' w' h3=>⟨h3.2.1,ih (listed.setIfInBounds j true) a' w' tQ (ready_mono hr (Ne.symm gn)) h3.1 (h3.2.1 hl hS) ?_⟩) h2;rw [Array.setIfInBounds_comm _ _ gn];exact h3.2.2
theorem Rz {P:Program} {ops:Array Oper} {Q:Exit->Act->World->Prop} {S:World->Prop} {late:Nat->Bool} {i:Nat} {oi:Oper} {v:Value} (hi:ops[i]? =some oi) (i3:∀(j:Nat) (o:Oper) cs b,ops[j]? =some o->o.op≠.select cs b) (hQ:∀c a w,Q (.panic c) (a.put oi.dst v) w->Q (.panic c) a w) (tP:∀listed j,DC ops listed->i∈Region.ready .any ops listed->j∈Region.ready .any ops listed->late j=true->False): ∀(fuel:Nat) (listed:Array Bool) (a:Act) (w:World),DC ops listed->(∀j oj,ops[j]? =some oj->j≠i->listed.getD j true=false->(∀e∈oj.after,Region.binds .any e=true->e.on≠i)->oi.apart ops oj=true)->i∈Region.ready .any ops listed->YieldsIf P ops S oi v a->S w->E9 P ops Q S late fuel (listed.setIfInBounds i true) (a.put oi.dst v) w->E9 P ops Q S late (fuel+1) listed a w:=by
 intro fuel
 induction fuel with
 |zero=>
  intro listed a w _ _ hr hy hS H;refine⟨fun h=>(by rw [h]at hr;cases hr),fun j hj=> ?_⟩;by_cases gn:j=i
  ·subst gn;exact hy.wpOp hi hS ⟨fun _ _=>hS,H⟩
  ·have:=ready_mono hj gn;rw [H.1]at this;cases this
 |succ fuel ih=>
  intro listed a w gp iu hr hy hS H;refine⟨fun h=>(by rw [h]at hr;cases hr),fun j hj=> ?_⟩;by_cases gn:j=i
  ·subst gn;exact hy.wpOp hi hS ⟨fun _ _=>hS,H⟩
  ·have h1:=H.2 j (ready_mono hj gn);obtain⟨pv,oj,ka,fI⟩:=mem_ready.1 hj;have nA:∀e∈oj.after,Region.binds .any e=true->e.on≠i:=fun e he hb heq=>by
    have h1:=fI e he hb;have h0:=(mem_ready.1 hr).1;rw [heq]at h1;rcases Nat.lt_or_ge i listed.size with h'|h'
    ·simp [h']at h0 h1;rw [h0]at h1;cases h1
    ·simp [getElem?_eq_none h']at h1
   have hl:late j=false:=by
    cases hb:late j with
    |false=>rfl
    |true=>exact(tP listed j gp hr hj hb).elim
   have h2:=wpOp_putIf ka (iu j oj ka gn pv nA) (fun cs b=>i3 i oi cs b hi) (fun cs b=>i3 j oj cs b ka) hQ hy h1;have tQ:∀k ok,ops[k]? =some ok->k≠i->(listed.setIfInBounds j true).getD k true=false->
    (∀e∈ok.after,Region.binds .any e=true->e.on≠i)->oi.apart ops ok=true:=fun k ok hk pw px eU=>by
    refine iu k ok hk pw ?_ eU;by_cases j_:j=k
    ·subst j_;exact pv
    ·rw [getD_set_ne true j_]at px;exact px
   refine wpOp_mono (fun a' w' h3=>⟨h3.2.1,ih (listed.setIfInBounds j true) a' w' (gp.put hj) tQ (ready_mono hr (Ne.symm gn)) h3.1 (h3.2.1 hl hS) ?_⟩) h2;rw [Array.setIfInBounds_comm _ _ gn];exact h3.2.2
theorem Pu {P:Program} {ops:Array Oper} {Q:Exit->Act->World->Prop} {S:World->Prop} {late:Nat->Bool} {i:Nat} {oi:Oper} {v:Value} (hi:ops[i]? =some oi) (i3:∀(j:Nat) (o:Oper) cs b,ops[j]? =some o->o.op≠.select cs b) (hQ:∀c a w,Q (.panic c) (a.put oi.dst v) w->Q (.panic c) a w): ∀(fuel:Nat) (listed:Array Bool) (a:Act) (w:World),(∀j oj,ops[j]? =some oj->j≠i->listed.getD j true=false->(∀e∈oj.after,Region.binds .any e=true->e.on≠i)->oi.apart ops oj=true)->i∈Region.ready .any ops listed->YieldsIf P ops (fun _=>True) oi v a->E9 P ops Q S late fuel (listed.setIfInBounds i true) (a.put oi.dst v) w->E9 P ops Q S late (fuel+1) listed a w:=by
 intro fuel
 induction fuel with
 |zero=>
  intro listed a w _ hr hy H;refine⟨fun h=>(by rw [h]at hr;cases hr),fun j hj=> ?_⟩;by_cases gn:j=i
  ·subst gn;exact hy.wpOp hi trivial ⟨fun _ h=>h,H⟩
  ·have:=ready_mono hj gn;rw [H.1]at this;cases this
 |succ fuel ih=>
  intro listed a w iu hr hy H;refine⟨fun h=>(by rw [h]at hr;cases hr),fun j hj=> ?_⟩;by_cases gn:j=i
  ·subst gn;exact hy.wpOp hi trivial ⟨fun _ h=>h,H⟩
  ·have h1:=H.2 j (ready_mono hj gn);obtain⟨pv,oj,ka,fI⟩:=mem_ready.1 hj;have nA:∀e∈oj.after,Region.binds .any e=true->e.on≠i:=fun e he hb heq=>by
    have h1:=fI e he hb;have h0:=(mem_ready.1 hr).1;rw [heq]at h1;rcases Nat.lt_or_ge i listed.size with h'|h'
    ·simp [h']at h0 h1;rw [h0]at h1;cases h1
    ·simp [getElem?_eq_none h']at h1
   have h2:=wpOp_putIf ka (iu j oj ka gn pv nA) (fun cs b=>i3 i oi cs b hi) (fun cs b=>i3 j oj cs b ka) hQ hy h1;have tQ:∀k ok,ops[k]? =some ok->k≠i->(listed.setIfInBounds j true).getD k true=false->
    (∀e∈ok.after,Region.binds .any e=true->e.on≠i)->oi.apart ops ok=true:=fun k ok hk pw px eU=>by
    refine iu k ok hk pw ?_ eU;by_cases j_:j=k
    ·subst j_;exact pv
    ·rw [getD_set_ne true j_]at px;exact px
   refine wpOp_mono (fun a' w' h3=>⟨h3.2.1,ih (listed.setIfInBounds j true) a' w' tQ (ready_mono hr (Ne.symm gn)) h3.1 ?_⟩) h2;rw [Array.setIfInBounds_comm _ _ gn];exact h3.2.2
theorem WV {P:Program} {ops:Array Oper} {Q:Act->World->Prop} {w0:World} (i3:Region.noSelect ops=true):∀(l:List Oper) (i:Nat) (listed:Array Bool) (st:Bool) (a:Act) (w:World),ops.toList.drop i=l->Vr P ops l i listed st=true->(st=false->w=w0)->Hs P ops Q l i a w->E9 P ops (B6 Q) (fun u=>u=w0) (rX P ops) l.length listed a w:=by
 intro l
 induction l with
 |nil=>
  intro i listed st a w _ hk _ h;simp only [Vr,List.isEmpty_iff]at hk;exact⟨hk,h⟩
 |cons o rest ih=>
  intro i listed st a w hd hk dU h;have ho:ops[i]? =some o:=by
   have:=congrArg (·[0]?) hd;simpa using this
  have dw:ops.toList.drop (i+1)=rest:=by
   rw [←List.drop_drop,hd];rfl
  have kR:Region.wanted o (yielded ops a.tmps)=true->Hj P a.eval o (Dx (Bz ops.toList i) fun v w'=>Hs P ops Q rest (i+1) (a.put o.dst v) w') w/\((Bw P a.eval o).isSome=true\/(∃t x,o.op= .load t x)\/N2 P o=true):=by
   intro hw;simp only [Hs,hw,cond_true]at h;unfold Hj;split at h
   ·rename_i p hp;rw [hp];exact⟨h,.inl rfl⟩
   ·rename_i hp;rw [hp];cases hl:Ct o with
    |true=>
     rw [hl]at h;refine⟨h,.inr (.inl ?_)⟩;unfold Ct at hl;split at hl
     ·rename_i t x he;exact⟨t,x,he⟩
     ·cases hl
    |false=>
     cases hq:N2 P o with
     |true=>rw [hl,hq]at h;exact⟨h,.inr (.inr rfl)⟩
     |false=>rw [hl,hq]at h;exact h.elim
  simp only [Vr]at hk;cases hs:N2 P o with
  |true=>
   rw [hs]at hk;simp only [cond_true,and_eq_true,beq_iff_eq]at hk;refine⟨fun hr=>(by rw [hk.1]at hr;cases hr),fun j hj=> ?_⟩;rw [hk.1,List.mem_singleton]at hj;subst hj;unfold wpOp;simp only [ho];have aO:rX P ops j=true:=by unfold rX;rw [ho];exact hs
   cases hw:Region.wanted o (yielded ops a.tmps)with
   |false=>
    simp only [Hs,hw,cond_false]at h;simp only [false_eq_true,if_false];exact⟨fun h'=>(by rw [aO]at h';cases h'),ih _ _ true _ _ dw hk.2 nofun h⟩
   |true=>
    simp only [if_true];exact .inl (Zf (Cn (kR hw).1 fun v w' h=>⟨fun h'=>(by rw [aO]at h';cases h'),ih _ _ true _ _ dw hk.2 nofun ((Ar _ _ _ _).1 h)⟩))
  |false=>
   rw [hs]at hk;simp only [cond_false,and_eq_true]at hk;obtain⟨⟨⟨⟨h2,h3⟩,h4⟩,h5⟩,h6⟩:=hk;have HF:∀v,YieldsIf P ops (fun _=>True) o v a->Hs P ops Q rest (i+1) (a.put o.dst v) w->E9 P ops (B6 Q) (fun u=>u=w0) (rX P ops) (rest.length+1) listed a w:=fun v hy hh=>
    Pu ho (fun j o cs b=>Region.noSelect_spec i3 j o cs b) (fun c a w h=>h) _ listed a w (Region.free_spec ho h4) (by simpa using h3) hy (ih _ _ st _ _ dw h6 dU hh)
   cases hw:Region.wanted o (yielded ops a.tmps)with
   |false=>
    simp only [Hs,hw,cond_false]at h;exact HF undef (.inr ⟨hw,rfl⟩) h
   |true=>
    obtain⟨g1,g2⟩:=kR hw;rw [hs]at g2;cases hp:Bw P a.eval o with
    |some p=>
     unfold Hj at g1;rw [hp]at g1;obtain⟨v,k1,_,k2⟩:=Fo hp g1;exact HF v (.inl ⟨hw,fun u _=>k2 u⟩) ((Ar _ _ _ _).1 k1)
    |none=>
     rw [hp]at g2;obtain⟨tt,xx,hl⟩:∃t x,o.op= .load t x:=by
      rcases g2 with g|g|g
      ·cases g
      ·exact g
      ·cases g
     have mG:Ct o=true:=by unfold Ct;rw [hl]
     rw [mG]at h5;simp only [Bool.not_true,Bool.false_or,and_eq_true,Bool.not_eq_true']at h5;have wK:w=w0:=dU h5.1;have tP:∀j oj,ops[j]? =some oj->rX P ops j=true->j≠i->∃e∈oj.after,Region.binds .any e=true/\e.on=i:=by
      intro j oj hj hl _;unfold rX at hl;rw [hj]at hl;simp only at hl;have:=List.all_eq_true.1 h5.2 oj (by simpa using Array.mem_of_getElem? hj);rw [hl]at this;simp only [Bool.not_true,Bool.false_or,HE]at this;obtain⟨e,he,hb⟩:=Array.any_eq_true'.1 this;simp only [and_eq_true,beq_iff_eq]at hb;exact⟨e,he,hb.1,hb.2⟩
     obtain⟨v,k1,k2⟩:=HB (.inr ⟨tt,xx,hl⟩) g1;exact WU ho (fun j o cs b=>Region.noSelect_spec i3 j o cs b) (fun c a w h=>h) tP _ listed a w (Region.free_spec ho h4) (by simpa using h3) (.inl ⟨hw,fun u hu=>by rw [hu,←wK];exact k2⟩) wK (ih _ _ st _ _ dw h6 dU ((Ar _ _ _ _).1 k1))
theorem HG {acc:List Nat} {i:Nat} :∀(l:List Edge) (m:Nat),(wJ acc l m).testBit i=true->m.testBit i=true\/∃e∈l,Region.binds .any e=true/\(e.on=i\/(acc.getD e.on 0).testBit i=true)
 |[],m,h=> .inl h
 |e::l,m,h=>by
  simp only [wJ]at h;rcases HG l _ h with h1|⟨e',kS,h1⟩
  ·cases hb:Region.binds .any e with
   |false=>rw [hb]at h1;exact .inl h1
   |true=>
    rw [hb]at h1;simp only [cond_true,Nat.testBit_or,Bool.or_eq_true]at h1;rcases h1 with(h1|h1)|h1
    ·exact .inl h1
    ·refine .inr ⟨e,by simp,hb,.inl ?_⟩;rw [Nat.one_shiftLeft,Nat.testBit_two_pow]at h1;simpa using h1
    ·exact .inr ⟨e,by simp,hb,.inr h1⟩
  ·exact .inr ⟨e',List.mem_cons_of_mem _ kS,h1⟩
def HH (ops:Array Oper) (A:List Nat):Prop:=∀(k i:Nat) (ok:Oper),ops[k]? =some ok->(A.getD k 0).testBit i=true->∀listed,DC ops listed->(∀e∈ok.after,Region.binds .any e=true->listed.getD e.on false=true)->listed.getD i false=true
theorem HJ (ops:Array Oper):∀(l:List Oper) (acc:List Nat),HH ops acc->ops.toList.drop acc.length=l->HH ops (zq l acc)
 |[],acc,h,_=>h
 |o::r,acc,h,hd=>by
  have ho:ops[acc.length]? =some o:=by
   rw [←Array.getElem?_toList,show acc.length=acc.length+0 by omega,←List.getElem?_drop,hd];rfl
  refine HJ ops r _ ?_ (by rw [List.length_append,List.length_singleton,←List.drop_drop,hd];rfl);intro k i ok hk hb listed gp fI;by_cases aO:k<acc.length
  ·refine h k i ok hk ?_ listed gp fI;rw [List.getD_eq_getElem?_getD,List.getElem?_append_left aO,←List.getD_eq_getElem?_getD]at hb;exact hb
  ·by_cases he:k=acc.length
   ·subst he;rw [ho]at hk;cases hk;rw [List.getD_eq_getElem?_getD,List.getElem?_append_right (Nat.le_refl _)]at hb;simp only [Nat.sub_self,List.getElem?_cons_zero,Option.getD_some]at hb;rcases HG _ _ hb with h0|⟨e,he,oo,h1⟩
    ·rw [Nat.zero_testBit]at h0;cases h0
    ·have hl:=fI e (by simpa using he) oo;rcases h1 with rfl|h1
     ·exact hl
     ·have aO:e.on<ops.size:=by
       by_cases hx:e.on<ops.size
       ·exact hx
       ·exfalso;have:acc.length<=ops.size:=by have:=(Array.getElem?_eq_some_iff.1 ho).1;omega
        rw [List.getD_eq_getElem?_getD,List.getElem?_eq_none (by omega)]at h1;simp at h1
      exact h e.on i _ (Array.getElem?_eq_getElem aO) h1 listed gp (gp e.on _ (Array.getElem?_eq_getElem aO) hl)
   ·exfalso;rw [List.getD_eq_getElem?_getD,List.getElem?_eq_none (by rw [List.length_append,List.length_singleton];omega)]at hb;simp at hb
theorem HK {ops:Array Oper} {j i:Nat} {oi:Oper} (hl:rV ops j=true) (hi:ops[i]? =some oi) (mG:Ct oi=true) (listed:Array Bool) (gp:DC ops listed) (ri:i∈Region.ready .any ops listed) (rj:j∈Region.ready .any ops listed):False:=by
 unfold rV at hl;have:=List.all_eq_true.1 hl i (List.mem_range.2 (Array.getElem?_eq_some_iff.1 hi).1);rw [hi]at this;simp only [mG,Bool.not_true,Bool.false_or]at this;obtain⟨_,oj,ka,fI⟩:=mem_ready.1 rj;have h1:=HJ ops ops.toList [] (fun k i ok _ hb=>by simp at hb) rfl j i oj ka this listed gp fI;have h0:=(mem_ready.1 ri).1;rw [getD_eq_getD_getElem?]at h0 h1;cases hx:listed[i]? with
 |none=>rw [hx]at h1;cases h1
 |some b=>rw [hx]at h0 h1;simp at h0 h1;rw [h0]at h1;cases h1
theorem WW {P:Program} {ops:Array Oper} {Q:Act->World->Prop} {S:World->Prop} {late:Nat->Bool} (i3:Region.noSelect ops=true) (zr:∀j,late j=true->rV ops j=true):∀(n:Nat) (listed:Array Bool) (early:Bool) (a:Act) (w:World),DC ops listed->(early=true->S w)->Ef P ops Q S late n listed early a w->E9 P ops (B6 Q) S late n listed a w:=by
 intro n
 induction n with
 |zero=>
  intro listed early a w _ _ h;simp only [Ef]at h;cases hr:Region.ready .any ops listed with
  |nil=>rw [hr]at h;exact⟨hr,h⟩
  |cons x xs=>rw [hr]at h;exact h.elim
 |succ n ih=>
  intro listed early a w gp hS h;simp only [Ef]at h;split at h
  ·rename_i i hf;have gP:=List.mem_of_find?_eq_some hf;have j9:=find?_some hf;simp only [and_eq_true]at j9;split at h
   ·rename_i o ho;have iu:=Region.free_spec (md:= .any) ho j9.2;have fin:∀v,YieldsIf P ops (fun _=>True) o v a->Ef P ops Q S late n (listed.setIfInBounds i true) early (a.put o.dst v) w->E9 P ops (B6 Q) S late (n+1) listed a w:=fun v hy hh=>
     Pu ho (fun j o cs b=>Region.noSelect_spec i3 j o cs b) (fun c a w h=>h) _ listed a w iu gP hy (ih _ _ _ _ (gp.put gP) hS hh)
    cases hw:Region.wanted o (yielded ops a.tmps)with
    |false=>rw [hw]at h;exact fin undef (.inr ⟨hw,rfl⟩) h
    |true=>
     rw [hw]at h;simp only [cond_true]at h;split at h
     ·rename_i p hp;obtain⟨v,h1,_,h2⟩:=Fo hp h;exact fin v (.inl ⟨hw,fun u _=>h2 u⟩) ((Ar _ _ _ _).1 h1)
     ·exact h.elim
   ·exact h.elim
  ·split at h
   ·rename_i i hf;have he:early=true:=by cases early with|false=>cases hf|true=>rfl
    have hf:Q8 ops listed=some i:=by rw [he]at hf;exact hf
    have gP:=List.mem_of_find?_eq_some hf;have j9:=find?_some hf;simp only [and_eq_true]at j9;split at h
    ·rename_i o ho;have iu:=Region.free_spec (md:= .any) ho j9.2;have mG:Ct o=true:=by have:=j9.1;rw [ho]at this;exact this
     have fin:∀v,YieldsIf P ops S o v a->Ef P ops Q S late n (listed.setIfInBounds i true) early (a.put o.dst v) w->E9 P ops (B6 Q) S late (n+1) listed a w:=fun v hy hh=>
      Rz ho (fun j o cs b=>Region.noSelect_spec i3 j o cs b) (fun c a w h=>h) (fun listed j gp ri rj hl=>HK (zr j hl) ho mG listed gp ri rj) _ listed a w gp iu gP hy (hS he) (ih _ _ _ _ (gp.put gP) hS hh)
     cases hw:Region.wanted o (yielded ops a.tmps)with
     |false=>rw [hw]at h;exact fin undef (.inr ⟨hw,rfl⟩) h
     |true=>
      rw [hw]at h;obtain⟨v,h1,h2⟩:=Zz h;exact fin v (.inl ⟨hw,h2⟩) ((Ar _ _ _ _).1 h1)
    ·exact h.elim
   ·split at h
    ·rename_i hr;refine⟨fun _=>h,fun i hi=> ?_⟩;rw [hr]at hi;cases hi
    ·rename_i bZ;refine⟨fun hr=>absurd hr bZ,fun i hi=> ?_⟩;have eN:=Q7 h i hi;unfold wpOp;split at eN
     ·rename_i o ho;simp only [ho];cases hw:Region.wanted o (yielded ops a.tmps)with
      |false=>rw [hw]at eN;simp only [false_eq_true,if_false];exact⟨fun _ h=>h,ih _ false _ _ (gp.put hi) nofun eN⟩
      |true=>
       rw [hw]at eN;simp only [cond_true]at eN;simp only [if_true];refine .inl (Zf (Cn eN fun v w' h=> ?_));cases hl:late i with
       |true=>rw [hl]at h;simp only [cond_true]at h;exact⟨nofun,ih _ false _ _ (gp.put hi) nofun ((Ar _ _ _ _).1 h)⟩
       |false=>rw [hl]at h;simp only [cond_false]at h;exact⟨fun _ _=>h.1,ih _ false _ _ (gp.put hi) nofun ((Ar _ _ _ _).1 h.2)⟩
     ·exact eN.elim
theorem HL {P:Program} {ops:Array Oper} {Q:Exit->Act->World->Prop} {S:World->Prop} {late:Nat->Bool} {w0:World} :∀(fuel:Nat) (listed:Array Bool) (a:Act) (w:World),w=w0->E9 P ops Q (fun u=>u=w0) (fun _=>false) fuel listed a w->E9 P ops Q S late fuel listed a w
 |0,_,_,_,_,h=>h
 |fuel+1,_,_,w,e,h=>⟨h.1,fun i hi=>wpOp_mono (fun a' w' h'=>by
  have e':w'=w0:=h'.1 rfl e;exact⟨fun _ hS=>by rw [e',←e];exact hS,HL fuel _ a' w' e' h'.2⟩) (h.2 i hi)⟩
theorem HM {P:Program} {ops:Array Oper} {Q:Act->World->Prop} {S:World->Prop} {late:Nat->Bool} {kp:Bool} (i3:Region.noSelect ops=true) (zr:∀j,late j=true->rV ops j=true):∀(n:Nat) (listed:Array Bool) (early:Bool) (a:Act) (w:World),DC ops listed->(early=true->S w)->Fp P ops Q S late kp n listed early a w->E9 P ops (B6 Q) S late n listed a w:=by
 intro n
 induction n with
 |zero=>
  intro listed early a w _ _ h;simp only [Fp]at h;cases hr:Region.ready .any ops listed with
  |nil=>rw [hr]at h;exact⟨hr,h⟩
  |cons x xs=>rw [hr]at h;exact h.elim
 |succ n ih=>
  intro listed early a w gp hS h;simp only [Fp]at h;split at h
  ·rename_i i hf;have gP:=List.mem_of_find?_eq_some hf;have j9:=find?_some hf;simp only [and_eq_true]at j9;split at h
   ·rename_i o ho;have iu:=Region.free_spec (md:= .any) ho j9.2;have fin:∀v,YieldsIf P ops (fun _=>True) o v a->Fp P ops Q S late kp n (listed.setIfInBounds i true) early (a.put o.dst v) w->E9 P ops (B6 Q) S late (n+1) listed a w:=fun v hy hh=>
     Pu ho (fun j o cs b=>Region.noSelect_spec i3 j o cs b) (fun c a w h=>h) _ listed a w iu gP hy (ih _ _ _ _ (gp.put gP) hS hh)
    cases hw:Region.wanted o (yielded ops a.tmps)with
    |false=>rw [hw]at h;exact fin undef (.inr ⟨hw,rfl⟩) h
    |true=>
     rw [hw]at h;simp only [cond_true]at h;split at h
     ·rename_i p hp;obtain⟨v,h1,_,h2⟩:=Fo hp h;exact fin v (.inl ⟨hw,fun u _=>h2 u⟩) ((Ar _ _ _ _).1 h1)
     ·exact h.elim
   ·exact h.elim
  ·split at h
   ·rename_i i hf;have he:early=true:=by cases early with|false=>cases hf|true=>rfl
    have hf:Q8 ops listed=some i:=by rw [he]at hf;exact hf
    have gP:=List.mem_of_find?_eq_some hf;have j9:=find?_some hf;simp only [and_eq_true]at j9;split at h
    ·rename_i o ho;have iu:=Region.free_spec (md:= .any) ho j9.2;have mG:Ct o=true:=by have:=j9.1;rw [ho]at this;exact this
     have fin:∀v,YieldsIf P ops S o v a->Fp P ops Q S late kp n (listed.setIfInBounds i true) early (a.put o.dst v) w->E9 P ops (B6 Q) S late (n+1) listed a w:=fun v hy hh=>
      Rz ho (fun j o cs b=>Region.noSelect_spec i3 j o cs b) (fun c a w h=>h) (fun listed j gp ri rj hl=>HK (zr j hl) ho mG listed gp ri rj) _ listed a w gp iu gP hy (hS he) (ih _ _ _ _ (gp.put gP) hS hh)
     cases hw:Region.wanted o (yielded ops a.tmps)with
     |false=>rw [hw]at h;exact fin undef (.inr ⟨hw,rfl⟩) h
     |true=>
      rw [hw]at h;obtain⟨v,h1,h2⟩:=Zz h;exact fin v (.inl ⟨hw,h2⟩) ((Ar _ _ _ _).1 h1)
    ·exact h.elim
   ·cases qx:(!early&&Z0 P ops listed)with
    |true=>
     rw [qx]at h;simp only [cond_true]at h;exact HL (w0:=w) _ _ _ _ rfl (WW (S:=fun u=>u=w) (late:=fun _=>false) i3 (fun _ h=>by cases h) (n+1) listed true a w gp (fun _=>rfl) h)
    |false=>
    rw [qx]at h;simp only [cond_false]at h;split at h
    ·rename_i hr;refine⟨fun _=>h,fun i hi=> ?_⟩;rw [hr]at hi;cases hi
    ·rename_i bZ;refine⟨fun hr=>absurd hr bZ,fun i hi=> ?_⟩;have eN:=Q7 h i hi;unfold wpOp;split at eN
     ·rename_i o ho;simp only [ho];cases hw:Region.wanted o (yielded ops a.tmps)with
      |false=>rw [hw]at eN;simp only [false_eq_true,if_false];exact⟨fun _ h=>h,ih _ (early&&kp) _ _ (gp.put hi) (fun he=>hS (Bool.and_eq_true_iff.1 he).1) eN⟩
      |true=>
       rw [hw]at eN;simp only [cond_true]at eN;simp only [if_true];refine .inl (Zf (Cn eN fun v w' h=> ?_));cases hl:late i with
       |true=>rw [hl]at h;simp only [cond_true]at h;exact⟨nofun,ih _ false _ _ (gp.put hi) nofun ((Ar _ _ _ _).1 h)⟩
       |false=>rw [hl]at h;simp only [cond_false]at h;exact⟨fun _ _=>h.1,ih _ (early&&kp) _ _ (gp.put hi) (fun _=>h.1) ((Ar _ _ _ _).1 h.2)⟩
     ·exact eN.elim
def HN (ops:Array Oper):Nat->Bool:=rV ops
theorem W9 {ops:Array Oper} (j:Nat) (h:HN ops j=true):rV ops j=true:=by
 exact h
def Mg (P:Program) (ops:Array Oper) (Q:Act->World->Prop) (a:Act) (w:World):Prop:=cond (P.follows .mixedOrders) (cond (Zg P ops.toList&&Region.lexB .any ops) (∀w',w'=w.drew->Er P ops Q ops.toList 0 a w') (cond (rY P ops) (∀w',w'=w.drew->Hs P ops Q ops.toList 0 a w') (cond (Region.noSelect ops) (cond (ops.toList.any Ct) (∀w',w'=w.drew->∃S:World->Prop,S w'/\Fp P ops Q S (HN ops) (WR ops) ops.size (replicate ops.size false) true a w') (∀w',w'=w.drew->M6 P ops Q ops.size (replicate ops.size false) a w')) False))) False
theorem HO {P:Program} {ops:Array Oper} {Q:Act->World->Prop} {a:Act} {w:World} (ht:rY P ops=true) (h:Hs P ops Q ops.toList 0 a w):wpAny P .any ops (B6 Q) ops.size (replicate ops.size false) a w:=by
 simp only [rY,and_eq_true]at ht;have:=WV (w0:=w) ht.1.2 ops.toList 0 (replicate ops.size false) false a w (by simp) ht.2 (fun _=>rfl) h;simpa using H7 _ _ _ _ this
theorem WX {P:Program} {id:Nat} {ops:Array Oper} {Q:Exit->Act->World->Prop} {a:Act} {w:World} (h:Mg P ops (Q .normal) a w):(Code.region id ops true).wp P Q a w:=by
 unfold Mg at h;cases hm:P.follows .mixedOrders with
 |false=>rw [hm]at h;exact h.elim
 |true=>
  rw [hm]at h;simp only [cond_true]at h;cases hc:(Zg P ops.toList&&Region.lexB .any ops)with
  |true=>
   rw [hc]at h;simp only [and_eq_true]at hc;exact wp_region_quiet (C:=fun w'=>w'=w.drew) hm hc.2 rfl (Kf _ _ _ (h _ rfl))
  |false=>
   rw [hc]at h;simp only [cond_false]at h;cases ht:rY P ops with
   |true=>
    rw [ht]at h;refine wp_mono (wp_region_any hm (HO ht (h _ rfl))) fun e a w h=> ?_
    cases e<;>first|exact h|exact(h:False).elim
   |false=>
   rw [ht]at h;simp only [cond_false]at h;cases hs:Region.noSelect ops with
   |false=>rw [hs]at h;exact h.elim
   |true=>
    rw [hs]at h;simp only [cond_true]at h;cases hl:ops.toList.any Ct with
    |true=>
     rw [hl]at h;obtain⟨S,hS,h⟩:=h _ rfl;refine wp_mono (wp_region_any hm (H7 _ _ _ _ (HM hs W9 _ _ _ _ _ (DC.start _ _) (fun _=>hS) h))) fun e a w h=> ?_
     cases e<;>first|exact h|exact(h:False).elim
    |false=>
     rw [hl]at h;refine wp_mono (wp_region_any hm (HC hs _ _ _ _ (h _ rfl))) fun e a w h=> ?_
     cases e<;>first|exact h|exact(h:False).elim
end Go.Vc
