/- The conditions of Go code: a library of this claim. -/
import Derived.Test.YthkbhlmijkegiaaGreatVcG
namespace Go.Vc
open Go.RowKit (Below)
def H3:Obj->Bool
 | .deferred _=>false| .loop _=>false|_=>true
structure Ai (m:List Nat) (w w':World):Prop where
 os:w'.os=w.os
 tape:w'.tape=w.tape
 output:w'.output=w.output
 size:w.heap.size<=w'.heap.size
 block:∀k,k<w.heap.size->k∉m->w'.heap[k]? =w.heap[k]?
structure Grown (B:Nat) (w w':World):Prop where
 os:w'.os=w.os
 tape:w'.tape=w.tape
 output:w'.output=w.output
 size:w.heap.size<=w'.heap.size
 block:∀k o,w.heap[k]? =some o->(k<B\/H3 o=true)->w'.heap[k]? =some o
theorem Grown.refl (B:Nat) (w:World):Grown B w w:=⟨rfl,rfl,rfl,Nat.le_refl _,fun _ _ h _=>h⟩
theorem Grown.trans {B:Nat} {a b c:World} (h:Grown B a b) (k:Grown B b c):Grown B a c:=
 ⟨k.os.trans h.os,k.tape.trans h.tape,k.output.trans h.output,Nat.le_trans h.size k.size,fun j o hj hc=>k.block j o (h.block j o hj hc) hc⟩
theorem Grown.of {B:Nat} {W W':World} {row:Option Nat} (hg:W.grownBy W' row) (hr:∀r,row=some r->B<=r/\∃o:Obj,W.heap[r]? =some o/\H3 o=false):Grown B W W':=by
 refine⟨hg.os,hg.tape,hg.output,hg.size,fun k o hk hc=> ?_⟩;rw [hg.block k (Array.getElem?_eq_some_iff.1 hk).1 (fun e=> ?_)]
 ·exact hk
 ·obtain⟨h1,o',h2,h3⟩:=hr k e.symm;rw [hk]at h2;cases h2
  rcases hc with h|h
  ·omega
  ·rw [h3]at h;cases h
structure tV (M:List Nat) (B:Nat) (w w':World):Prop where
 os:w'.os=w.os
 tape:w'.tape=w.tape
 output:w'.output=w.output
 size:w.heap.size<=w'.heap.size
 block:∀k,k<B->k∉M->w'.heap[k]? =w.heap[k]?
structure Pa (M:List Nat) (B:Nat) (w w':World):Prop where
 kp:tV M B w w'
 rest:∀k o,B<=k->w.heap[k]? =some o->H3 o=false->w'.heap[k]? =some o
theorem Pa.refl (M:List Nat) (B:Nat) (w:World):Pa M B w w:=⟨⟨rfl,rfl,rfl,Nat.le_refl _,fun _ _ _=>rfl⟩,fun _ _ _ h _=>h⟩
def dv.den:dv->Type
 | .int _=>Int| .bool=>Bool| .string=>List UInt8| .slice=>Option Addr×Nat×Nat| .pointer=>Option Addr| .map=>Option Nat| .any=>Value
def dv.val:(c:dv)->c.den->Value
 | .int k,n=> .int k n| .bool,b=> .bool b| .string,s=> .string (bS s)| .slice,x=> .slice x.1 x.2.1 x.2.2| .pointer,p=> .pointer p| .map,r=> .map r| .any,v=>v
def dv.qB:(c:dv)->(c.den->Prop)->Prop
 | .int _,F=>∀n:Int,F n| .bool,F=>∀b:Bool,F b| .string,F=>∀s:List UInt8,F s| .slice,F=>∀(a:Option Addr) (n c:Nat),F (a,n,c)| .pointer,F=>∀p:Option Addr,F p| .map,F=>∀r:Option Nat,F r| .any,F=>∀v:Value,F v
theorem dv.tW {c:dv} {F:c.den->Prop} (h:c.qB F) (x:c.den):F x:=by
 cases c
 case slice=>obtain⟨a,n,c⟩:=x;exact h a n c
 all_goals exact h x
def Ds:List dv->Type
 |[]=>Unit|[c]=>c.den|c::d::cs=>c.den×Ds (d::cs)
def Ds.Fc:(cs:List dv)->Ds cs->List Value
 |[],_=>[]|[c],x=>[c.val x]|c::d::cs,x=>c.val x.1::Ds.Fc (d::cs) x.2
def Ds.all:(cs:List dv)->(Ds cs->Prop)->Prop
 |[],F=>F ()|[c],F=>c.qB F|c::d::cs,F=>c.qB fun x=>Ds.all (d::cs) fun y=>F (x,y)
theorem Ds.r8:∀ {cs:List dv} {F:Ds cs->Prop},Ds.all cs F->∀x,F x
 |[],_,h,_=>h
 |[_],_,h,x=>dv.tW h x
 |_::_::_,_,h,(x,y)=>Ds.r8 (dv.tW h x) y
inductive iH where
 |int (k:IntKind)|bool|string|slice|pointer|map|any|row (l:List dv)
def iH.den:iH->Type
 | .int _=>Int| .bool=>Bool| .string=>List UInt8| .slice=>Option Addr×Nat×Nat| .pointer=>Option Addr| .map=>Option Nat| .any=>Value| .row l=>Ds l
def iH.val:(c:iH)->c.den->Value
 | .int k,n=> .int k n| .bool,b=> .bool b| .string,s=> .string (bS s)| .slice,x=> .slice x.1 x.2.1 x.2.2| .pointer,p=> .pointer p| .map,r=> .map r| .any,v=>v| .row l,x=> .agg ⟨Ds.Fc l x⟩
def iH.qB:(c:iH)->(c.den->Prop)->Prop
 | .int _,F=>∀n:Int,F n| .bool,F=>∀b:Bool,F b| .string,F=>∀s:List UInt8,F s| .slice,F=>∀(a:Option Addr) (n c:Nat),F (a,n,c)| .pointer,F=>∀p:Option Addr,F p| .map,F=>∀r:Option Nat,F r| .any,F=>∀v:Value,F v| .row l,F=>Ds.all l F
theorem iH.tW {c:iH} {F:c.den->Prop} (h:c.qB F) (x:c.den):F x:=by
 cases c
 case slice=>obtain⟨a,n,c⟩:=x;exact h a n c
 case row l=>exact Ds.r8 h x
 all_goals exact h x
def Dn:List iH->Type
 |[]=>Unit|[c]=>c.den|c::d::cs=>c.den×Dn (d::cs)
def Dn.Fc:(cs:List iH)->Dn cs->List Value
 |[],_=>[]|[c],x=>[c.val x]|c::d::cs,x=>c.val x.1::Dn.Fc (d::cs) x.2
def Dn.all:(cs:List iH)->(Dn cs->Prop)->Prop
 |[],F=>F ()|[c],F=>c.qB F|c::d::cs,F=>c.qB fun x=>Dn.all (d::cs) fun y=>F (x,y)
theorem Dn.r8:∀ {cs:List iH} {F:Dn cs->Prop},Dn.all cs F->∀x,F x
 |[],_,h,_=>h
 |[_],_,h,x=>iH.tW h x
 |_::_::_,_,h,(x,y)=>Dn.r8 (iH.tW h x) y
theorem Dn.length:∀(cs:List iH) (x:Dn cs),(Dn.Fc cs x).length=cs.length
 |[],_=>rfl
 |[_],_=>rfl
 |_::d::cs,(_,y)=>by simp [Dn.Fc,Dn.length (d::cs) y]
def Im (P:Program) (gf:Nat) (lb:Array Value) (dK:List iH) (M:List Nat) (xs:List (Dn dK)) (w:World):Prop:=∀(l:Nat) (J Jx:List (Dn dK)->World->Prop) (W:World),Grown w.heap.size w W->(∀pre A B,J pre A->A.grownBy B none->J pre B)->(∀pre A B,Jx pre A->A.grownBy B none->Jx pre B)->(∀pre x W1,J pre W1->(pre++[x])<+:xs->Ky P l ⟨Dn.Fc dK x⟩ (fun b W'=>cond b (J (pre++[x]) W'/\tV M w.heap.size W1 W') (Jx (pre++[x]) W')) W1)->J [] W->Calls P gf (#[.func (.yield l) #[] #[]]++lb) W (aG fun _ W'=>J xs W'\/∃pre,pre<+:xs/\Jx pre W')
structure wX (F F':List Nat) (w w':World):Prop where
 kp:Ai F w w'
 sub:∀k∈F',k∈F\/w.heap.size<=k
def qC (P:Program) (gf:Nat) (lb:Array Value) (dK:List iH) (M:List Nat) (xs:List (Dn dK)) (w:World):Prop:=(∀b∈M,b<w.heap.size)/\∀(l:Nat) (J:List Nat->List (Dn dK)->World->Prop) (Jx:List (Dn dK)->World->Prop) (W:World),Grown w.heap.size w W->(∀F pre A B,J F pre A->A.grownBy B none->J F pre B)->(∀pre A B,Jx pre A->A.grownBy B none->Jx pre B)->(∀F pre x W1,J F pre W1->(pre++[x])<+:xs->Ky P l ⟨Dn.Fc dK x⟩ (fun b W'=>cond b (∃F',J F' (pre++[x]) W'/\wX F F' W1 W') (Jx (pre++[x]) W')) W1)->J M [] W->Calls P gf (#[.func (.yield l) #[] #[]]++lb) W (aG fun _ W'=>(∃F,J F xs W')\/∃pre,pre<+:xs/\Jx pre W')
theorem qC.of {P:Program} {gf:Nat} {lb:Array Value} {dK:List iH} {M:List Nat} {xs:List (Dn dK)} {w:World} (hM:∀b∈M,b<w.heap.size) (h:Im P gf lb dK M xs w):qC P gf lb dK M xs w:=by
 refine⟨hM,fun l J Jx W hG hJ hX hY h0=> ?_⟩;refine Calls.mono (h l (fun pre W1=>∃F,J F pre W1/\(∀k∈F,k∈M\/w.heap.size<=k)/\w.heap.size<=W1.heap.size) Jx W hG (fun pre A B ⟨F,h1,h2,h3⟩ hg=>⟨F,hJ _ _ _ _ h1 hg,h2,Nat.le_trans h3 hg.size⟩) hX ?_ ⟨M,h0,fun k hk=> .inl hk,hG.size⟩) ?_
 ·rintro pre x W1 ⟨F,h1,h2,h3⟩ hp;refine Ky.mono (hY F pre x W1 h1 hp) fun b W' hb=> ?_
  cases b with
  |false=>exact hb
  |true=>
   obtain⟨F',h4,h5⟩:=hb;refine⟨⟨F',h4,fun k hk=> ?_,Nat.le_trans h3 h5.kp.size⟩,h5.kp.os,h5.kp.tape,h5.kp.output,h5.kp.size,fun k hk hm=>h5.kp.block k (by omega) fun hF=> ?_⟩
   ·rcases h5.sub k hk with h6|h6
    ·exact h2 k h6
    ·exact .inr (by omega)
   ·rcases h2 k hF with h6|h6
    ·exact hm h6
    ·omega
 ·intro e W' he;cases e with
  |returned v=>
   rcases he with⟨F,h1,_⟩|h1
   ·exact .inl ⟨F,h1⟩
   ·exact .inr h1
  |_=>exact he
def Sb:List Oper->Act->Option Act
 |[],a=>some a|o::l,a=>match o.guard,o.op with
  |none,.assign x=>Sb l (a.put o.dst (a.eval x))|none,.move x=>Sb l (a.put o.dst (a.eval x))|_,_=>none
def D8:Code->Act->Option Act
 | .skip,a=>some a| .region _ ops false,a=>Sb ops.toList a| .seq x y,a=>match D8 x a with|some a'=>D8 y a'|none=>none
 |_,_=>none
def zI:List Oper->Bool
 |[]=>true|o::l=>match o.guard,o.op with
  |none,.assign _=>zI l|none,.move _=>zI l|_,_=>false
def Ng:Code->Bool
 | .skip=>true| .region _ ops false=>zI ops.toList| .seq x y=>Ng x&&Ng y|_=>false
theorem Io {P:Program} {cl:List (Nat×Nat×Nat)} {ops:Array Oper} {Q:Act->World->Prop} {w:World} :∀(l:List Oper) (i:Nat) (a a':Act),Sb l a=some a'->Q a' w->Dr P cl ops Q l i a w
 |[],_,a,a',h,hq=>by simp only [Sb]at h;cases h;exact hq
 |o::l,i,a,a',h,hq=>by
  simp only [Sb]at h;have key:∀x,o.guard=none->(o.op= .assign x\/o.op= .move x)->Sb l (a.put o.dst (a.eval x))=some a'->Dr P cl ops Q (o::l) i a w:=by
   intro x hg ho hm;simp only [Dr];have hw:Region.wanted o (yielded ops a.tmps)=true:=by unfold Region.wanted;rw [hg]
   rw [hw];have hE:Et ops.toList o=o:=by unfold Et;rcases ho with ho|ho<;>rw [ho]
   rw [hE];have:=Io (P:=P) (cl:=cl) (ops:=ops) (Q:=Q) (w:=w) l (i+1) _ _ hm hq;have hp:B0 P a.eval o=some (.val (a.eval x)):=by unfold B0;rcases ho with ho|ho<;>rw [ho]
   have h2:O9 P cl a.eval o (Dz (B1 ops.toList i) fun v w'=>Dr P cl ops Q l (i+1) (a.put o.dst v) w') w:=by
    have h3:Hj P a.eval o (Dz (B1 ops.toList i) fun v w'=>Dr P cl ops Q l (i+1) (a.put o.dst v) w') w:=by
     unfold Hj;rw [hp];exact(Av (B1 ops.toList i) (fun v w'=>Dr P cl ops Q l (i+1) (a.put o.dst v) w') _ _).2 this
    unfold O9;rcases ho with ho|ho<;>rw [ho]<;>exact h3
   exact h2
  split at h
  ·rename_i x hg ho;exact key x hg (.inl ho) h
  ·rename_i x hg ho;exact key x hg (.inr ho) h
  ·cases h
theorem Kh:∀(l:List Oper) (a a':Act),Sb l a=some a'->a'.defers=a.defers/\(∀o∈l,Be o=true)
 |[],a,a',h=>by simp only [Sb]at h;cases h;exact⟨rfl,by simp⟩
 |o::l,a,a',h=>by
  simp only [Sb]at h;have hp:∀v,(a.put o.dst v).defers=a.defers:=by intro v;cases o.dst<;>rfl
  split at h
  ·rename_i ho;obtain⟨h1,h2⟩:=Kh l _ _ h;exact⟨h1.trans (hp _),fun q hq=>by cases hq with|head=>simp [Be,ho]|tail _ hq=>exact h2 q hq⟩
  ·rename_i ho;obtain⟨h1,h2⟩:=Kh l _ _ h;exact⟨h1.trans (hp _),fun q hq=>by cases hq with|head=>simp [Be,ho]|tail _ hq=>exact h2 q hq⟩
  ·cases h
theorem Ug:∀ {c:Code} {a a':Act},D8 c a=some a'->a'.defers=a.defers:=by
 intro c
 induction c with
 |skip=>intro a a' h;simp only [D8]at h;cases h;rfl
 |region id ops draw=>
  intro a a' h;cases draw with
  |true=>cases h
  |false=>exact(Kh _ _ _ h).1
 |seq x y gT gU=>
  intro a a' h;simp only [D8]at h;split at h
  ·rename_i a1 h1;exact(gU h).trans (gT h1)
  ·cases h
 |_=>intro a a' h;cases h
theorem XC {P:Program} {G:Fence} (hG:Good G) {n:Nat} {W:World} :∀ {c:Code} {a a':Act} {Q:Exit->Act->World->Prop},D8 c a=some a'->Q .normal a' W->c.wpIn G n P Q a W:=by
 intro c
 induction c with
 |skip=>intro a a' Q h hq;simp only [D8]at h;cases h;exact wpIn_skip hq
 |region id ops draw=>
  intro a a' Q h hq;cases draw with
  |true=>cases h
  |false=>
   simp only [D8]at h;exact Sq (cl:=[]) hG (List.all_eq_true.2 (Kh _ _ _ h).2) (Io _ _ _ _ h hq)
 |seq x y gT gU=>
  intro a a' Q h hq;simp only [D8]at h;split at h
  ·rename_i a1 h1;exact wpIn_seq (gT (Q:=Exit.then (y.wpIn G n P Q) Q) h1 (gU h hq))
  ·cases h
 |_=>intro a a' Q h;cases h
def mk (D:Nat):Deferred:= { target:= .collected D,args:= #[] }
def Cc (ds:List Nat) (w:World):Prop:=ds.Nodup/\∀D∈ds,w.heap[D]? =some (.deferred (some []))
def shut:List Nat->World->World
 |[],w=>w|D::ds,w=>shut ds (w.putObj D (.deferred none))
abbrev QR:=Exit->Act->List Nat->World->Prop
def QR.then (next:Act->List Nat->World->Prop) (Q:QR):QR
 | .normal,a,ds,w=>next a ds w|e,a,ds,w=>Q e a ds w
def QR.inBlock (id:Nat) (Q:QR):QR
 | .exit tT,a,ds,w=>if tT=id then Q .normal a ds w else Q (.exit tT) a ds w
 |e,a,ds,w=>Q e a ds w
def Code.gL:Code->Bool
 | .rangeFunc .. =>false| .seq a b=>Code.gL a&&Code.gL b| .cond _ a b=>Code.gL a&&Code.gL b| .block _ c=>Code.gL c| .loop c=>Code.gL c|_=>true
def Code.leaves:Code->List Nat->List Nat
 | .exit id,bs=>cond (bs.contains id) [] [id]| .seq a b,bs=>Code.leaves a bs++Code.leaves b bs| .cond _ a b,bs=>Code.leaves a bs++Code.leaves b bs| .block id c,bs=>Code.leaves c (id::bs)| .loop c,bs=>Code.leaves c bs|_,_=>[]
def dedup:List Nat->List Nat
 |[]=>[]|x::l=>cond (l.contains x) (dedup l) (x::dedup l)
def tX:List Nat->(Nat->Prop)->Prop->Prop
 |[],_,K=>K|i::l,F,K=>F i/\tX l F K
theorem Ip:∀ {l:List Nat} {F:Nat->Prop} {K:Prop},tX l F K->(∀i∈l,F i)/\K
 |[],_,_,h=>⟨by simp,h⟩
 |i::l,F,K,h=>by
  obtain⟨h1,h2⟩:=Ip h.2;exact⟨fun j hj=>by cases hj with|head=>exact h.1|tail _ hj=>exact h1 j hj,h2⟩
theorem Iq:∀ {l:List Nat} {F F':Nat->Prop} {K K':Prop},tX l F K->(∀i,F i->F' i)->(K->K')->tX l F' K'
 |[],_,_,_,_,h,_,hk=>hk h
 |_::_,_,_,_,_,h,hf,hk=>⟨hf _ h.1,Iq h.2 hf hk⟩
def Uh (L:Option (Nat×Nat×Nat)) (K:Act->World->Prop) (a:Act) (w:World):Prop:=
 match L with
 |some ow=>Kz ow.2.2 fun ps=>a.tmps.getD ow.1 undef=Rk ow.2.1 ps/\K (a.put (some ow.1) (Rk ow.2.1 ps)) w
 |none=>K a w
theorem Ir (a:Act) (s:Nat):a.put (some s) (a.tmps.getD s undef)=a:=by
 obtain⟨tmps,defers⟩:=a;have h:tmps.setIfInBounds s (tmps.getD s undef)=tmps:=by
  apply Array.ext
  ·simp
  ·intro i h1 h2;rw [Array.getElem_setIfInBounds h2];split
   ·rename_i e;subst e;simp [Array.getD,h2]
   ·rfl
 show({ tmps:=tmps.setIfInBounds s (tmps.getD s undef),defers:=defers } :Act)=_
 rw [h]
theorem XD {L:Option (Nat×Nat×Nat)} {K K':Act->World->Prop} {a:Act} {w:World} (h:Uh L K a w) (hk:K a w->K' a w):Uh L K' a w:=by
 cases L with
 |none=>exact hk h
 |some ow=>
  refine L8 (h:Kz ow.2.2 _) fun ps ⟨h1,h2⟩=>⟨h1,?_⟩
  rw [←h1,Ir]at h2⊢;exact hk h2
theorem XE {L:Option (Nat×Nat×Nat)} {K:Act->World->Prop} {a:Act} {w:World} (h:Uh L K a w):K a w:=by
 cases L with
 |none=>exact h
 |some ow=>
  obtain⟨ps,h1,h2⟩:=L7 (h:Kz ow.2.2 _);rw [←h1,Ir]at h2;exact h2
structure r9 extends qx where
 ranges:List (Nat×List iH):=[]
 zJ:List (Nat×Nat×Nat):=[]
 Iu:Bool:=false
 XF:List (Nat×Nat×Nat×Nat):=[]
 zK:List (Nat×Nat):=[]
def Iv (body:QR->Act->List Nat->World->Prop) (Q:QR):Nat->Act->List Nat->World->Prop
 |0,_,_,_=>False|n+1,a,ds,w=>body (QR.then (Iv body Q n) Q) a ds w
def tY {α:Type} (exits:List Nat) (F:List Nat) (I:List Nat->List α->World->Prop) (Xr:List α->World->Prop) (Xe:Nat->List α->World->Prop) (xs:List α) (W:World):Exit->Act->List Nat->World->Prop
 | .normal,_,_,W'=>∃F',wX F F' W W'/\I F' xs W'| .ret,_,_,W'=>Ai F W W'/\Xr xs W'| .exit id,_,_,W'=>cond (exits.contains id) (Ai F W W'/\Xe id xs W') False|_,_,_,_=>False
def XG (B:Nat) (W:World) (k:World->Act->Prop):QR
 | .normal,a1,np,W1=>Ai [] W W1/\np=[]/\∀W2,Grown B W1 W2->k W2 a1|_,_,_,_=>False
def zL (P:Program) (dK:List iH) (exits:List Nat) (gv:Value) (act:Dn dK->Option Act) (XH:Option (QR->Act->List Nat->World->Prop)) (body:QR->Act->List Nat->World->Prop) (Q:QR) (a:Act) (ds:List Nat) (w:World):Prop:=
 match gv with
 | .func (.func gf) first lb=>cond (first.size==0&&Cd P gf)
  (∃(M:List Nat) (xs:List (Dn dK)),qC P gf lb dK M xs w/\
   ∃(I:List Nat->List (Dn dK)->World->Prop) (Xr:List (Dn dK)->World->Prop) (Xe:Nat->List (Dn dK)->World->Prop),I M [] w/\
    (∀(F:List Nat) (pre:List (Dn dK)),Dn.all dK fun x=>∀W0 W:World,I F pre W0->Grown w.heap.size W0 W->(pre++[x])<+:xs->match act x with
     |some a1=>(match XH with
      |none=>body (tY exits F I Xr Xe (pre++[x]) W) a1 [] W|some f=>f (XG w.heap.size W fun W2 a2=>body (tY exits F I Xr Xe (pre++[x]) W2) a2 [] W2) a1 [] W)
     |none=>False)/\
    (∀(pre:List (Dn dK)) (W0 W:World) (D:Nat),pre<+:xs->Xr pre W0->Grown w.heap.size W0 W->w.heap.size<=D->W.heap[D]? =some (.deferred (some []))->Q .ret { a with defers:=mk D::a.defers } (D::ds) W)/\
    tX exits (fun id=>∀(pre:List (Dn dK)) (W0 W:World) (D:Nat),pre<+:xs->Xe id pre W0->Grown w.heap.size W0 W->w.heap.size<=D->W.heap[D]? =some (.deferred (some []))->Q (.exit id) { a with defers:=mk D::a.defers } (D::ds) W)
    (∀(F:List Nat) (W0 W:World) (D:Nat),I F xs W0->Grown w.heap.size W0 W->w.heap.size<=D->W.heap[D]? =some (.deferred (some []))->Q .normal { a with defers:=mk D::a.defers } (D::ds) W))
  False
 |_=>False
def B3 (P:Program) (cA:r9):Code->Bool->Nat->QR->Act->List Nat->World->Prop
 | .skip,_,_,Q,a,ds,w=>Q .normal a ds w| .region _ ops draw,_,pos,Q,a,ds,w=>cond (ops.toList.all Be) (match Ec cA.jJ pos with
  |some live=>cond draw
   (cond (P.follows .mixedOrders&&Region.lexB .any ops) (∀w',w'=w.drew->Fk P ops (live.filter fun i=>(ops.toList.filterMap (·.dst)).contains i) (fun a w=>Q .normal a ds w) a w') False)
   (Fk P ops (live.filter fun i=>(ops.toList.filterMap (·.dst)).contains i) (fun a w=>Q .normal a ds w) a w)
  |none=>cond draw (Ml P ops (Uh (Ec cA.XF pos) (fun a w=>Q .normal a ds w)) a w) (Dr P cA.zJ ops (fun a w=>Q .normal a ds w) ops.toList 0 a w)) False
 | .seq x y,r,pos,Q,a,ds,w=>match Ec cA.dH pos with
  |some live=>cond (Code.gL x) (Ii (Ev (Code.writes x) live) (Code.writes x) (fun Q' a w=>B3 P cA x r (2*pos) (fun e a _ w=>Q' e a w) a ds w) (fun _ a w=>B3 P cA y r (2*pos+1) Q a ds w) (fun e a w=>Q e a ds w) a w) False
  |none=>B3 P cA x r (2*pos) (QR.then (B3 P cA y r (2*pos+1) Q) Q) a ds w
 | .cond c x y,r,pos,Q,a,ds,w=>match a.eval c with
  | .bool b=>cond b (B3 P cA x r (2*pos) Q a ds w) (B3 P cA y r (2*pos+1) Q a ds w)|_=>False
 | .block id c,r,pos,Q,a,ds,w=>B3 P cA c r (2*pos) (QR.inBlock id Q) a ds w| .loop c,r,pos,Q,a,ds,w=>match Ec cA.zK pos with
  |some n=>Iv (fun Q' a ds w=>B3 P cA c r (2*pos) Q' a ds w) Q n a ds w
  |none=>cond (Code.gL c)
   (V0 (Ev (Code.writes c) ((Ec cA.loops pos).getD [])) (Code.writes c) (fun Q' a w=>B3 P cA c r (2*pos) (fun e a _ w=>Q' e a w) a ds w) (fun e a w=>Q e a ds w) a w)
   (∃(I:List Nat->Inv ((Ev (Code.writes c) ((Ec cA.loops pos).getD [])).map (·.2))) (μ:ib ((Ev (Code.writes c) ((Ec cA.loops pos).getD [])).map (·.2))),
    Inv.at _ (I ds) (Fc a ((Ev (Code.writes c) ((Ec cA.loops pos).getD [])).map (·.1))) w/\Cc ds w/\
    ∀(g:Nat->Value) (es:List Nat),Mn ((Ev (Code.writes c) ((Ec cA.loops pos).getD [])).map (·.2)) fun vs=>∀w,Inv.at _ (I es) vs w->Cc es w->
     B3 P cA c r (2*pos) (QR.then (fun a' nq w'=>Inv.at _ (I nq) (Fc a' ((Ev (Code.writes c) ((Ec cA.loops pos).getD [])).map (·.1))) w'/\ib.at _ μ (Fc a' ((Ev (Code.writes c) ((Ec cA.loops pos).getD [])).map (·.1))) w'<ib.at _ μ vs w/\Cc nq w') Q)
      { (E0 a (Code.writes c) g ((Ev (Code.writes c) ((Ec cA.loops pos).getD [])).map (·.1)) vs)with defers:=es.map mk } es w)
 | .exit id,_,_,Q,a,ds,w=>Q (.exit id) a ds w| .label _,_,_,Q,a,ds,w=>Q .normal a ds w| .ret,_,_,Q,a,ds,w=>Q .ret a ds w| .rangeFunc g ps assign body,r,pos,Q,a,ds,w=>cond (r|| !Code.gL body|| !(((Ec cA.ranges pos).getD []).length==ps.size)|| !Code.gL assign) False
  (zL P ((Ec cA.ranges pos).getD []) (dedup (Code.leaves body [])) (a.eval g)
   (fun x=>cond (Ng assign) (D8 assign { tmps:=(ps.zip (⟨Dn.Fc _ x⟩:Array Value)).foldl (fun t (p,v)=>t.setIfInBounds p v) a.tmps,defers:=[] }) (some { tmps:=(ps.zip (⟨Dn.Fc _ x⟩:Array Value)).foldl (fun t (p,v)=>t.setIfInBounds p v) a.tmps,defers:=[] }))
   (cond (Ng assign) none (some fun Q' a ds w=>B3 P cA assign true (2*pos) Q' a ds w))
   (fun Q' a ds w=>B3 P cA body true (2*pos+1) Q' a ds w) Q a ds w)
 |_,_,_,_,_,_,_=>False
end Go.Vc
