/- A part of the proof: conditions of the code, contracts, the plain law. -/
import Derived.Test.YthkbhlmijkegiaaGreatM7
import Derived.Test.YthkbhlmijkegiaaGreatM5
import Derived.Test.YthkbhlmijkegiaaGreatM9
import Derived.LoopNIn
import GoSem.ClaimWide
import Derived.Test.YthkbhlmijkegiaaGreatLoop
import Derived.KernelRfl
open Bool (and_eq_true not_eq_true')
open Nat (ble eq_of_beq_eq_true le_of_ble_eq_true le_refl lt_or_ge blt le_trans)
open Array (getD_eq_getD_getElem? getElem?_eq_getElem replicate ext')
open List (length_append mem_of_getElem? take_length mem_cons mem_map)
open Int (toNat_natCast)
open Option (getD_some)
namespace Go.Am
open Go.Vc
variable {R:Type}
def U2 (P:Program) (tm:Tm) (M:Tr aI) (o:Oper):Option AV:=match o.op with
 | .load t x=>se P tm t x M some| .convert s d x=>match cF tm x with
  |some (.slice ..)=>xk P tm s d x M|_=>Jy P tm o
 |_=>Jy P tm o
theorem Atx {P:Program} {tm:Tm} {M:Tr aI} {n:Nat} {o:Oper} {av:AV} (h:U2 P tm M o=some av):eW P tm o M n av M n:=by
 unfold U2 at h;split at h
 ·rename_i t x ho;obtain⟨z9,h1,h2⟩:=Z8 (n:=n) ho h;cases h1
  exact h2
 ·rename_i s d x ho;split at h
  ·exact JF ho h
  ·exact eW.pure (P5 h)
 ·exact eW.pure (P5 h)
theorem Aro {P:Program} {tm:Tm} {M M':Tr aI} {o:Oper} (hl:Xf tm o=false):U2 P tm M o=U2 P tm M' o:=by
 unfold U2;unfold Xf at hl;split
 ·rename_i ho;rw [ho]at hl;cases hl
 ·rename_i ho;rw [ho]at hl;split
  ·rename_i h;simp only [h]at hl;cases hl
  ·rfl
 ·rfl
def Qx (P:Program) (tm:Tm) (M:Tr aI) (o:Oper) (av:AV):Prop:=U2 P tm M o=some av\/M9 P tm o av
theorem Qx.ok {P:Program} {tm:Tm} {M:Tr aI} {n:Nat} {o:Oper} {av:AV} (h:Qx P tm M o av):eW P tm o M n av M n:=h.elim Atx eW.pure
theorem Qx.any {P:Program} {tm:Tm} {M M':Tr aI} {o:Oper} {av:AV} (hl:Xf tm o=false) (h:Qx P tm M o av):Qx P tm M' o av:=h.imp (fun h=>by rw [Aro (M':=M) hl];exact h) id
abbrev vK (R:Type):Type:=Tm->Tr aI->(AV->Option R)->Option R
def Az8 (f:hU R):vK R:=fun tm _ K=>f tm K
def yG (P:Program) (o:Oper):vK R:=fun tm M K=>match U2 P tm M o with
 |some av=>fO o av K|none=>none
def Az9 (gx:Tm->Option AV):vK R:=fun tm M K=>sJ (gx tm) fun b k=>oK ((Tr.gB b).get M) fun x=>xy x fun l _=>oK ((sK k).get l) K
def yH (P:Program) (o:Oper):Bx (vK R):=match xu P o with
 |some q=>b1 Az8 q|none=>match o.op with
  | .load t x=>match ow P t with
   |some false=>b1 Az9 (cR x)|_=>⟨yG P o⟩
  |_=>⟨yG P o⟩
theorem QE {P:Program} {o:Oper} {tm:Tm} {M:Tr aI} {K:AV->Option R} {r:R} (h:yG P o tm M K=some r):∃av,K av=some r/\Qx P tm M o av:=by
 unfold yG at h;split at h
 ·rename_i av eA;rw [KF]at h;exact⟨av,h,.inl eA⟩
 ·cases h
theorem Aty {P:Program} {o:Oper} {tm:Tm} {M:Tr aI} {K:AV->Option R} {r:R} (h:(yH P o).get tm M K=some r):∃av,K av=some r/\Qx P tm M o av:=by
 unfold yH at h;split at h
 ·rename_i q hq;obtain⟨av,h1,h2⟩:=KB hq tm K r h;exact⟨av,h1,.inr h2⟩
 ·split at h
  ·rename_i t x ho;split at h
   ·rename_i ha;obtain⟨b,k,hx,h⟩:=Re (show sJ ((cR x).get tm) _=some r from h);obtain⟨y,hb,h⟩:=Bp h;obtain⟨l,rw,rfl,h⟩:=Qa h;obtain⟨av,hk,h⟩:=Bp h;rw [Eu]at hx;rw [Zk]at hk;refine⟨av,h,.inl ?_⟩;have hb:M.get b=some (.cells l rw):=hb;unfold U2;rw [ho];simp only [se,hx,hb,ha,hk]
   ·exact QE h
  ·exact QE h
abbrev vL (R:Type):Type:=Tm->(List AV->(Nat->AV)->Option R)->Option R
def vM (P:Program) (o:Oper):vL R:=fun tm K=>match N7 P tm o with
 |some (z,f)=>fL z fun z=>K z f
 |none=>none
def Baa (z:List AV):vL R:=fun _ K=>K z fun n=> .ptr n 0
def Bbe (gx:Tm->Option AV):vL R:=fun tm K=>oK (gx tm) fun a=>ef (a1 a) (K [a] fun n=> .ptr n 0) (fL a.cells fun l=>K l fun n=> .ptr n 0)
def yI (P:Program) (o:Oper):Bx (vL R):=match o.op with
 | .alloc t=>match Kz P t with
  |some z=>match nG z some with
   |some z=>⟨Baa z⟩|none=>⟨vM P o⟩
  |none=>⟨vM P o⟩
 | .box _ x=>b1 Bbe (cR x)|_=>⟨vM P o⟩
theorem Awl {P:Program} {o:Oper} {tm:Tm} {K:List AV->(Nat->AV)->Option R} {r:R} (h:(yI P o).get tm K=some r):∃z f,N7 P tm o=some (z,f)/\K z f=some r:=by
 have qM:vM P o tm K=some r->∃z f,N7 P tm o=some (z,f)/\K z f=some r:=by
  intro h;unfold vM at h;split at h
  ·rename_i z f hz;rw [R0]at h;exact⟨z,f,hz,h⟩
  ·cases h
 unfold yI at h;split at h
 ·rename_i t ho;split at h
  ·rename_i z hz;rw [Z6]at h;exact⟨z,_,by unfold N7;rw [ho];simp only [hz],h⟩
  ·exact qM h
 ·rename_i t x ho;obtain⟨a,hx,h⟩:=Bp (show oK ((cR x).get tm) _=some r from h);rw [Eu]at hx;refine⟨a.cells,_,by unfold N7;rw [ho];simp only [hx];rfl,?_⟩;cases h1:a1 a with
  |true=>rw [h1]at h;rw [(AX h1).2];exact h
  |false=>
   rw [h1]at h;have h:fL a.cells _=some r:=h;rw [R0]at h;exact h
 ·exact qM h
def DQ:Value->Value->Bool
 | .int k n,.int k' n'=>decide (k=k')&&decide (n=n')| .bool a,.bool b=>decide (a=b)| .string ⟨⟨s⟩⟩,.string ⟨⟨t⟩⟩=>decide (s=t)| .pointer none,.pointer none=>true| .slice none a b,.slice none c d=>Nat.beq a c&&Nat.beq b d| .map none,.map none=>true| .nilFunc,.nilFunc=>true| .nilIface,.nilIface=>true|_,_=>false
theorem At2 {v u:Value} (h:DQ v u=true):v=u:=by
 unfold DQ at h;split at h<;>simp_all
def yJ:AV->AV->Bool
 | .lit v,.lit u=>DQ v u| .ptr b o,.ptr c p=>Nat.beq b c&&Nat.beq o p| .slice b o n sz c x,.slice b' o' n' DR c' x'=>Nat.beq b b'&&Nat.beq o o'&&Nat.beq n n'&&Nat.beq sz DR&&Nat.beq c c'&&decide (x=x')| .map b,.map c=>Nat.beq b c| .nC k lo hi,.nC k' wU eN=>decide (k=k')&&decide (lo=wU)&&decide (hi=eN)| .same i k lo hi,.same i' k' wU eN=>Nat.beq i i'&&decide (k=k')&&decide (lo=wU)&&decide (hi=eN)| .mH,.mH=>true|_,_=>false
theorem QF {v u:AV} (h:yJ v u=true):v=u:=by
 unfold yJ at h;split at h
 ·rw [At2 h]
 ·simp only [and_eq_true]at h;rw [eq_of_beq_eq_true h.1,eq_of_beq_eq_true h.2]
 ·simp only [and_eq_true,decide_eq_true_eq]at h;obtain⟨⟨⟨⟨⟨h1,h2⟩,h3⟩,h4⟩,h5⟩,h6⟩:=h;rw [eq_of_beq_eq_true h1,eq_of_beq_eq_true h2,eq_of_beq_eq_true h3,eq_of_beq_eq_true h4,eq_of_beq_eq_true h5,h6]
 ·rw [eq_of_beq_eq_true h]
 ·simp only [and_eq_true,decide_eq_true_eq]at h;rw [h.1.1,h.1.2,h.2]
 ·simp only [and_eq_true,decide_eq_true_eq]at h;rw [eq_of_beq_eq_true h.1.1.1,h.1.1.2,h.1.2,h.2]
 ·rfl
 ·cases h
def td:List AV->List AV->Bool
 |[],[]=>true|a::l,b::m=>yJ a b&&td l m|_,_=>false
theorem QG:∀ {l m:List AV},td l m=true->l=m
 |[],[],_=>rfl
 |a::l,b::m,h=>by simp only [td,and_eq_true]at h;rw [QF h.1,QG h.2]
 |[],_::_,h=>by simp [td]at h
 |_::_,[],h=>by simp [td]at h
def same:AV->AV->Bool
 | .agg l,.agg m=>td l m|a,b=>yJ a b
theorem Awm {v u:AV} (h:same v u=true):v=u:=by
 unfold same at h;split at h
 ·rw [QG h]
 ·exact QF h
structure Rc where
 i:Nat
 o:Oper
 tm:Tm
 av:AV
 z:List AV
 s:Nat
 w:Bool
def Rc.mem (x:Rc):Bool:=x.w&&Ji x.o
def Rc.gF (x:Rc):Bool:=x.w&&Ji x.o&& !Gz x.o
def Rc.alloc (x:Rc):Bool:=x.w&&Ji x.o&&Gz x.o
theorem Rc.DS {x:Rc} (h:x.mem=true):x.gF=true\/x.alloc=true:=by
 unfold Rc.mem at h;unfold Rc.gF Rc.alloc;rw [h];cases Gz x.o<;>simp
theorem Rc.vN {x:Rc} (h:x.gF=true):x.mem=true:=by unfold Rc.gF at h;unfold Rc.mem;simp_all
theorem Rc.qi {x:Rc} (h:x.alloc=true):x.mem=true:=by unfold Rc.alloc at h;unfold Rc.mem;simp_all
theorem Rc.Bj4 {x:Rc} (h:x.gF=true) (k:x.alloc=true):False:=by unfold Rc.gF at h;unfold Rc.alloc at k;simp_all
abbrev Gi:Type:=Tr aI×Nat
abbrev Ld (R:Type):Type:=A9 R->Nat->Tm->Tr aI->Nat->Nat->List Rc->List Gi->(Tm->List Rc->List Gi->Option R)->Option R
def Bbf:Ld R:=fun _ _ tm _ _ _ recs eh K=>K tm recs eh
def QH (i:Nat) (o:Oper) (p:qQ R) (g:Ld R):Ld R:=fun call n0 tm M n s recs eh K=>p tm (.lit undef) fun bt=>g call n0 bt M n s (⟨i,o,tm,.lit undef,[],s,false⟩::recs) eh K
def Bab (i:Nat) (o:Oper) (c:vK R) (p:qQ R) (g:Ld R):Ld R:=fun call n0 tm M n s recs eh K=>c tm M fun av=>p tm av fun bt=>g call n0 bt M n s (⟨i,o,tm,av,[],s,true⟩::recs) eh K
def Bbg (i:Nat) (o:Oper) (c:vL R) (p:qQ R) (g:Ld R):Ld R:=fun call n0 tm M n s recs eh K=>c tm fun z f=>fN (Nat.add n0 i) fun b=>iJ (Tr.sB b) fun q=>q M (some (.cells z true)) fun M'=>fA (f b) fun av=>p tm av fun bt=>fN (Nat.succ s) fun s'=>g call n0 bt M' n s' (⟨i,o,tm,av,z,s,true⟩::recs) ((M',n)::eh) K
def Bac (i:Nat) (o:Oper) (f:lO R) (p:qQ R) (g:Ld R):Ld R:=fun call n0 tm M n s recs eh K=>f call tm M n fun av M' n'=>p tm av fun bt=>fN (Nat.succ s) fun s'=>g call n0 bt M' n' s' (⟨i,o,tm,av,[],s,true⟩::recs) ((M',n')::eh) K
def Bbh (q:Tm->Option R->Option R->Option R) (f g:Ld R):Ld R:=fun call n0 tm M n s recs eh K=>q tm (f call n0 tm M n s recs eh K) (g call n0 tm M n s recs eh K)
def yK (P:Program) (sz:Nat) (i:Nat) (o:Oper) (g:Bx (Ld R)):Bx (Ld R):=cond (qS o) (b3 (Bab i o) (yH P o) (V2 sz o.dst) g) (cond (Gz o) (b3 (Bbg i o) (yI P o) (V2 sz o.dst) g) (b3 (Bac i o) (pP P o) (V2 sz o.dst) g))
def Pa (P:Program) (sz:Nat) (ops:Array Oper):List (Nat×Oper)->Bx (Ld R)
 |[]=>⟨Bbf⟩|(i,o)::rest=>match o.guard with
  |none=>yK P sz i o (Pa P sz ops rest)|some _=>b3 Bbh (sN ops o) (yK P sz i o (Pa P sz ops rest)) (b2 (QH i o) (V2 sz o.dst) (Pa P sz ops rest))
def E3 (l:List Rc):Nat:=(l.filter Rc.mem).length
structure Qy (P:Program) (sz:Nat) (ops:Array Oper) (nb:Nat) (gG:Tm) (M0:Tr aI) (n0:Nat) (l:List Rc) (tm:Tm) (ss:List Gi):Prop where
 first:ss[0]? =some (M0,n0)
 len:ss.length=E3 l+1
 j4:∀(i:Nat) (x:Rc),l[i]? =some x->x.s=E3 (l.take i)
 want:∀(i:Nat) (x:Rc),l[i]? =some x->F4 ops x.o x.tm=some x.w
 no:∀(i:Nat) (x:Rc),l[i]? =some x->x.w=false->x.av= .lit undef
 calm:∀(i:Nat) (x:Rc),l[i]? =some x->x.w=true->qS x.o=true->∃m:Gi,ss[x.s]? =some m/\Qx P x.tm m.1 x.o x.av
 gF:∀(i:Nat) (x:Rc),l[i]? =some x->x.gF=true->∃m m':Gi,ss[x.s]? =some m/\ss[x.s+1]? =some m'/\eW P x.tm x.o m.1 m.2 x.av m'.1 m'.2
 alloc:∀(i:Nat) (x:Rc),l[i]? =some x->x.alloc=true->∃(m m':Gi) (f:Nat->AV),ss[x.s]? =some m/\ss[x.s+1]? =some m'/\Sj P x.tm x.o x.z f/\x.av=f (nb+x.i)/\(∀j,m'.1.get j=if j=nb+x.i then some (.cells x.z true)else m.1.get j)/\m'.2=m.2
 QI:∀(i:Nat) (x:Rc),l[i]? =some x->∀t,x.tm.get t=(match((l.take i).reverse.find? fun y=>y.o.dst==some t)with|some y=>some y.av|none=>gG.get t)
 tm:∀t,tm.get t=(match(l.reverse.find? fun y=>y.o.dst==some t)with|some y=>some y.av|none=>gG.get t)
 fits:∀(i:Nat) (x:Rc),l[i]? =some x->∀d,x.o.dst=some d->d<sz
theorem At3 {sz:Nat} {tm:Tm} {d:Option Nat} {av:AV} {K:Tm->Option R} {r:R} (h:pO sz tm d av K=some r):∃bt,K bt=some r/\(∀t,bt.get t=if d=some t then some av else tm.get t)/\∀t,d=some t->t<sz:=by
 unfold pO at h;split at h
 ·exact⟨tm,h,fun t=>by simp,nofun⟩
 ·rename_i d;cases hc:ble (d+1) sz with
  |false=>rw [hc]at h;cases h
  |true=>
   rw [hc]at h;obtain⟨bt,h1,h2⟩:=Tm.zy h;refine⟨bt,h1,fun t=> ?_,fun t ht=>by cases ht;exact le_of_ble_eq_true hc⟩;rw [h2];by_cases e:t=d
   ·subst e;simp
   ·rw [if_neg e,if_neg (fun h=>e (Option.some.inj h).symm)]
theorem Kr (l:List Rc) (x:Rc):E3 (l++[x])=E3 l+(if x.mem then 1 else 0):=by
 unfold E3;rw [List.filter_append,length_append];cases hx:x.mem<;>simp [hx]
theorem Ov {P:Program} {sz:Nat} {ops:Array Oper} {nb:Nat} {gG tm bt:Tm} {M0:Tr aI} {n0:Nat} {l:List Rc} {ss te:List Gi} {i0:Nat} {o:Oper} {av:AV} {z:List AV} {w:Bool} (h:Qy P sz ops nb gG M0 n0 l tm ss)
 (hw:F4 ops o tm=some w) (eU:w=false->av= .lit undef) (fK:∀t,bt.get t=if o.dst=some t then some av else tm.get t) (gJ:∀t,o.dst=some t->t<sz)
 (hs:(w&&Ji o)=false/\te=ss\/(w&&Ji o)=true/\∃m m',ss[E3 l]? =some m/\te=ss++[m']/\(Gz o=false/\eW P tm o m.1 m.2 av m'.1 m'.2\/
 Gz o=true/\∃f:Nat->AV,Sj P tm o z f/\av=f (nb+i0)/\(∀j,m'.1.get j=if j=nb+i0 then some (.cells z true)else m.1.get j)/\m'.2=m.2))
 (yL:w=true->qS o=true->∃m:Gi,ss[E3 l]? =some m/\Qx P tm m.1 o av):
 Qy P sz ops nb gG M0 n0 (l++[⟨i0,o,tm,av,z,E3 l,w⟩]) bt te:=by
 have fg:∀(i:Nat) (m:Gi),ss[i]? =some m->te[i]? =some m:=by
  intro i m hi;rcases hs with⟨_,rfl⟩|⟨_,_,m',_,rfl,_⟩
  ·exact hi
  ·rw [List.getElem?_append_left (List.getElem?_eq_some_iff.1 hi).1];exact hi
 have snoc:∀ {i:Nat} {x:Rc},(l++[(⟨i0,o,tm,av,z,E3 l,w⟩:Rc)])[i]? =some x->(l[i]? =some x/\(l++[(⟨i0,o,tm,av,z,E3 l,w⟩:Rc)]).take i=l.take i)\/(x=⟨i0,o,tm,av,z,E3 l,w⟩/\(l++[(⟨i0,o,tm,av,z,E3 l,w⟩:Rc)]).take i=l):=by
  intro i x hi;rcases lt_or_ge i l.length with aO|jZ
  ·rw [List.getElem?_append_left aO]at hi;exact .inl ⟨hi,List.take_append_of_le_length (Nat.le_of_lt aO)⟩
  ·rw [List.getElem?_append_right jZ]at hi;have h0:i-l.length=0:=by
    have:=(List.getElem?_eq_some_iff.1 hi).1;simp at this;omega
   rw [h0]at hi;have:i=l.length:=by omega
   subst this;exact .inr ⟨by simpa using hi.symm,List.take_left' rfl⟩
 have tf:∀ {m':Gi},te=ss++[m']->te[E3 l+1]? =some m':=by
  intro m' e;rw [e,List.getElem?_append_right (by rw [h.len];exact le_refl _),h.len];simp
 refine⟨fg 0 _ h.first,?_,fun i x hi=> ?_,fun i x hi=> ?_,fun i x hi=> ?_,fun i x hi=> ?_,fun i x hi=> ?_,fun i x hi=> ?_,fun i x hi=> ?_,fun t=> ?_,fun i x hi=> ?_⟩
 ·rw [Kr];rcases hs with⟨h1,rfl⟩|⟨h1,_,m',_,rfl,_⟩
  ·rw [if_neg (by unfold Rc.mem;simp [h1])];exact h.len
  ·rw [if_pos (by unfold Rc.mem;exact h1),length_append,h.len];rfl
 ·rcases snoc hi with⟨g1,g2⟩|⟨rfl,g2⟩
  ·rw [g2];exact h.j4 i x g1
  ·rw [g2]
 ·rcases snoc hi with⟨g1,g2⟩|⟨rfl,g2⟩
  ·exact h.want i x g1
  ·exact hw
 ·rcases snoc hi with⟨g1,g2⟩|⟨rfl,g2⟩
  ·exact h.no i x g1
  ·exact eU
 ·rcases snoc hi with⟨g1,g2⟩|⟨rfl,g2⟩
  ·intro e1 e2;obtain⟨m,k1,k2⟩:=h.calm i x g1 e1 e2;exact⟨m,fg _ _ k1,k2⟩
  ·intro e1 e2;obtain⟨m,k1,k2⟩:=yL e1 e2;exact⟨m,fg _ _ k1,k2⟩
 ·rcases snoc hi with⟨g1,g2⟩|⟨rfl,g2⟩
  ·intro e1;obtain⟨m,m',k1,k2,k3⟩:=h.gF i x g1 e1;exact⟨m,m',fg _ _ k1,fg _ _ k2,k3⟩
  ·intro e1;have e0:(w&&Ji o)=true:=Rc.vN e1;have e2:Gz o=false:=by unfold Rc.gF at e1;simp at e1;exact e1.2
   rcases hs with⟨h1,_⟩|⟨_,m,m',k1,DT,k3⟩
   ·rw [h1]at e0;cases e0
   ·rcases k3 with⟨_,k3⟩|⟨k3,_⟩
    ·exact⟨m,m',fg _ _ k1,tf DT,k3⟩
    ·rw [e2]at k3;cases k3
 ·rcases snoc hi with⟨g1,g2⟩|⟨rfl,g2⟩
  ·intro e1;obtain⟨m,m',f,k1,k2,k3⟩:=h.alloc i x g1 e1;exact⟨m,m',f,fg _ _ k1,fg _ _ k2,k3⟩
  ·intro e1;have e0:(w&&Ji o)=true:=Rc.qi e1;have e2:Gz o=true:=by unfold Rc.alloc at e1;simp at e1;exact e1.2
   rcases hs with⟨h1,_⟩|⟨_,m,m',k1,DT,k3⟩
   ·rw [h1]at e0;cases e0
   ·rcases k3 with⟨k3,_⟩|⟨_,f,k3⟩
    ·rw [e2]at k3;cases k3
    ·exact⟨m,m',f,fg _ _ k1,tf DT,k3⟩
 ·rcases snoc hi with⟨g1,g2⟩|⟨rfl,g2⟩
  ·rw [g2];exact h.QI i x g1
  ·rw [g2];exact h.tm
 ·rw [fK,List.reverse_append];simp only [List.reverse_cons,List.reverse_nil,List.nil_append,List.singleton_append,List.find?_cons];by_cases e:o.dst=some t
  ·simp [e]
  ·have:(o.dst==some t)=false:=by simpa using e
   rw [if_neg e,this];exact h.tm t
 ·rcases snoc hi with⟨g1,g2⟩|⟨rfl,g2⟩
  ·exact h.fits i x g1
  ·exact gJ
theorem Qz {P:Program} {call:A9 R} (dq:E0 P call) {sz:Nat} {ops:Array Oper} {nb:Nat} {gG:Tm} {M0:Tr aI} {n0:Nat} {K:Tm->List Rc->List Gi->Option R} {r:R} :∀ {rest:List (Nat×Oper)} {tm:Tm} {M:Tr aI} {n s:Nat} {recs:List Rc} {eh:List Gi},(Pa P sz ops rest).get call nb tm M n s recs eh K=some r->
 Qy P sz ops nb gG M0 n0 recs.reverse tm eh.reverse->s=E3 recs.reverse->eh.head? =some (M,n)->
 ∃bt nu nv,K bt nu nv=some r/\Qy P sz ops nb gG M0 n0 nu.reverse bt nv.reverse/\nu.reverse.map (fun x=>(x.i,x.o))=recs.reverse.map (fun x=>(x.i,x.o))++rest
 |[],tm,M,n,s,recs,eh,h,hp,hs,hh=>⟨tm,recs,eh,h,hp,by simp⟩
 |(i,o)::rest,tm,M,n,s,recs,eh,h,hp,hs,hh=>by
  have pb:eh.reverse[E3 recs.reverse]? =some (M,n):=by
   have h1:=hp.len;have h2:eh≠[]:=by intro e;rw [e]at hh;cases hh
   obtain⟨m,ms,rfl⟩:=List.exists_cons_of_ne_nil h2;simp only [List.head?_cons,Option.some.injEq]at hh;subst hh;simp only [List.reverse_cons,length_append,List.length_singleton]at h1⊢;rw [List.getElem?_append_right (by omega),show E3 recs.reverse-ms.reverse.length=0 by omega];rfl
  have jM:∀ {av:AV} {K':Tm->Option R},(V2 sz o.dst).get tm av K'=some r->∃bt,K' bt=some r/\(∀t,bt.get t=if o.dst=some t then some av else tm.get t)/\∀t,o.dst=some t->t<sz:=by
   intro av K' h;rw [BF]at h;exact At3 h
  have un:F4 ops o tm=some false->QH i o (V2 sz o.dst).get (Pa P sz ops rest).get call nb tm M n s recs eh K=some r->∃bt nu nv,K bt nu nv=some r/\Qy P sz ops nb gG M0 n0 nu.reverse bt nv.reverse/\nu.reverse.map (fun x=>(x.i,x.o))=recs.reverse.map (fun x=>(x.i,x.o))++(i,o)::rest:=by
   intro hw h;obtain⟨bt,h1,h2,h3⟩:=jM h;have jH:=Ov (i0:=i) (z:=[]) hp hw (fun _=>rfl) h2 h3 (.inl ⟨rfl,rfl⟩) nofun;subst hs;obtain⟨nw,rE,rF,g1,g2,g3⟩:=Qz dq h1 (by simpa using jH) (by simp [Kr,Rc.mem]) hh;exact⟨nw,rE,rF,g1,g2,by rw [g3];simp⟩
  have yes:F4 ops o tm=some true->(yK P sz i o (Pa P sz ops rest)).get call nb tm M n s recs eh K=some r->∃bt nu nv,K bt nu nv=some r/\Qy P sz ops nb gG M0 n0 nu.reverse bt nv.reverse/\nu.reverse.map (fun x=>(x.i,x.o))=recs.reverse.map (fun x=>(x.i,x.o))++(i,o)::rest:=by
   intro hw h;unfold yK at h;cases hc:qS o with
   |true=>
    rw [hc]at h;obtain⟨av,h,eA⟩:=Aty (show(yH P o).get tm M _=some r from h);obtain⟨bt,h1,h2,h3⟩:=jM h;have jH:=Ov (i0:=i) (z:=[]) (w:=true) hp hw nofun h2 h3 (.inl ⟨by simp [Ji,no,hc],rfl⟩) (fun _ _=>⟨_,pb,eA⟩);subst hs;obtain⟨nw,rE,rF,g1,g2,g3⟩:=Qz dq h1 (by simpa using jH) (by simp [Kr,Rc.mem,Ji,no,hc]) hh;exact⟨nw,rE,rF,g1,g2,by rw [g3];simp⟩
   |false=>
    rw [hc]at h;simp only [cond_false]at h;cases ha:Gz o with
    |true=>
     rw [ha]at h;obtain⟨z,f,hz,h⟩:=Awl (show(yI P o).get tm _=some r from h);rw [Ew]at h;obtain⟨M',k1,k2⟩:=Tr.jn (f:=FU) (show Tr.iK FU M (nb+i) _ _=some r from h);rw [P2]at k1;obtain⟨bt,h1,h2,h3⟩:=jM k1;rw [Ew]at h1;have jH:=Ov (i0:=i) (z:=z) (w:=true) hp hw nofun h2 h3 (.inr ⟨by simp [Ji,no,hc],(M,n),(M',n),pb,rfl,.inr ⟨ha,f,IC hz,rfl,k2,rfl⟩⟩) (fun _ e=>by rw [hc]at e;cases e);subst hs;obtain⟨nw,rE,rF,g1,g2,g3⟩:=Qz dq h1 (by simpa using jH) (by simp [Kr,Rc.mem,Ji,no,hc]) rfl;exact⟨nw,rE,rF,g1,g2,by rw [g3];simp⟩
    |false=>
     rw [ha]at h;obtain⟨av,M',n',k1,k2⟩:=KL P o dq (show(pP P o).get call tm M n _=some r from h);obtain⟨bt,h1,h2,h3⟩:=jM k1;rw [Ew]at h1;have jH:=Ov (i0:=i) (z:=[]) (w:=true) hp hw nofun h2 h3 (.inr ⟨by simp [Ji,no,hc],(M,n),(M',n'),pb,rfl,.inl ⟨ha,k2⟩⟩) (fun _ e=>by rw [hc]at e;cases e);subst hs;obtain⟨nw,rE,rF,g1,g2,g3⟩:=Qz dq h1 (by simpa using jH) (by simp [Kr,Rc.mem,Ji,no,hc]) rfl;exact⟨nw,rE,rF,g1,g2,by rw [g3];simp⟩
  unfold Pa at h;split at h
  ·rename_i hg;exact yes (by unfold F4;rw [hg]) h
  ·rename_i j hg;rcases KM (show(sN ops o).get tm _ _=some r from h)with⟨h1,h2⟩|⟨h1,h2⟩
   ·exact yes h1 h2
   ·exact un h1 h2
theorem Ayw {a b:Nat} (h:a<b):blt a b=true:=Nat.ble_eq_true_of_le h
theorem Ayx {a b:Nat} (h:blt a b=true):a<b:=le_of_ble_eq_true h
def allI {α:Type} (f:Nat->α->Bool):List α->Nat->Bool
 |[],_=>true|x::l,i=>f i x&&allI f l (i+1)
theorem U3 {α:Type} {f:Nat->α->Bool} :∀ {l:List α} {i j:Nat} {x:α},allI f l i=true->l[j]? =some x->f (i+j) x=true
 |[],_,_,_,_,h=>by simp at h
 |y::l,i,0,x,h,hx=>by
  simp only [allI,and_eq_true]at h;simp only [List.getElem?_cons_zero,Option.some.injEq]at hx;subst hx;exact h.1
 |y::l,i,j+1,x,h,hx=>by
  simp only [allI,and_eq_true]at h;simp only [List.getElem?_cons_succ]at hx;rw [show i+(j+1)=i+1+j by omega];exact U3 h.2 hx
theorem QJ {α:Type} {f:Nat->α->Bool} :∀ {l:List α} {i:Nat},(∀(j:Nat) (x:α),l[j]? =some x->f (i+j) x=true)->allI f l i=true
 |[],_,_=>rfl
 |y::l,i,h=>by
  simp only [allI,and_eq_true];exact⟨h 0 y rfl,QJ fun j x hx=>by rw [show i+1+j=i+(j+1) by omega];exact h (j+1) x (by simpa using hx)⟩
def yM (A:Nat) (l:List Rc) (i s:Nat):Bool:=allI (fun _ y=>cond y.mem (cond (blt y.s s) (!fh A i y.i) (cond (Gz y.o) true (!fh A y.i i))) true) l 0
def tg (nb s:Nat) (A xi:Nat):List Rc->Tr aI->(Tr aI->Option R)->Option R
 |[],M,K=>K M|y::l,M,K=>cond (y.alloc&&ble s y.s&&fh A y.i xi) (fN (nb+y.i) fun b=>Tr.iK FU M b (some (.cells y.z true)) fun M'=>tg nb s A xi l M' K) (tg nb s A xi l M K)
theorem Wt {nb s A xi:Nat} {r:R} :∀ {l:List Rc} {M:Tr aI} {K:Tr aI->Option R},tg nb s A xi l M K=some r->
 ∃M',K M'=some r/\∀j x,M'.get j=some x->M.get j=some x\/∃y∈l,y.alloc=true/\s<=y.s/\fh A y.i xi=true/\j=nb+y.i/\x= .cells y.z true
 |[],M,K,h=>⟨M,h,fun _ _ h=> .inl h⟩
 |y::l,M,K,h=>by
  simp only [tg]at h;cases hc:(y.alloc&&ble s y.s&&fh A y.i xi)with
  |true=>
   rw [hc]at h;simp only [cond_true,Ew]at h;simp only [and_eq_true]at hc;obtain⟨M1,h1,h2⟩:=Tr.jn (f:=FU) h;obtain⟨M',h3,h4⟩:=Wt h1;refine⟨M',h3,fun j x hx=> ?_⟩;rcases h4 j x hx with g|⟨z,g1,g2⟩
   ·rw [h2]at g;split at g
    ·rename_i e;cases g
     exact .inr ⟨y,by simp,hc.1.1,le_of_ble_eq_true hc.1.2,hc.2,e,rfl⟩
    ·exact .inl g
   ·exact .inr ⟨z,by simp [g1],g2⟩
  |false=>
   rw [hc]at h;simp only [cond_false]at h;obtain⟨M',h3,h4⟩:=Wt h;refine⟨M',h3,fun j x hx=> ?_⟩;rcases h4 j x hx with g|⟨z,g1,g2⟩
   ·exact .inl g
   ·exact .inr ⟨z,by simp [g1],g2⟩
def DU (P:Program) (x:Rc) (M:Tr aI):Option Unit:=match U2 P x.tm M x.o with
 |some av=>cond (same av x.av) (some ()) none|none=>none
def QK {α:Type} :Option α->Bool
 |none=>true|some _=>false
theorem Ayy {α:Type} {o:Option α} (h:QK o=true):o=none:=by cases o;rfl;cases h
def DV {α:Type} :Option α->Bool
 |none=>false|some _=>true
theorem Ayz {α:Type} {o:Option α} (h:DV o=true):∃x,o=some x:=by cases o;cases h;exact⟨_,rfl⟩
def yN (k:Nat):List Gi->Bool
 |[]=>true|m::l=>an (ble k m.2) (yN k l)
theorem QL {k:Nat} :∀ {l:List Gi} {m:Gi},yN k l=true->m∈l->k<=m.2
 |[],_,_,h=>by cases h
 |y::l,m,h,hm=>by
  simp only [yN,Qb,and_eq_true]at h;rcases mem_cons.1 hm with rfl|hm
  ·exact le_of_ble_eq_true h.1
  ·exact QL h.2 hm
def Ay0 (nb:Nat) (l:List Rc) (ss:List Gi):Bool:=allI (fun s m=>allI (fun _ y=>cond (y.alloc&&ble s y.s) (QK (m.1.get (nb+y.i))) true) l 0) ss 0
def Bad (P:Program) (nb A F:Nat) (l:List Rc) (ss:List Gi):Bool:=allI (fun _ x=>cond (x.w&&Xf x.tm x.o&& !V3 F x.i) (allI (fun s m=>cond (yM A l x.i s) (DV (tg nb s A x.i l m.1 (DU P x))) true) ss 0) true) l 0
def DW (P:Program) (nb N A F:Nat) (ld al:Bool) (recs:List Rc) (eh:List Gi):Bool:=an (yN (Nat.add nb N) eh) (an (qR al (Ay0 nb recs.reverse eh.reverse) true) (qR ld (Bad P nb A F recs.reverse eh.reverse) true))
def DX (eh:List Gi) (K:Tr aI->Nat->Option R):Option R:=List.casesOn (motive:=fun _=>Option R) eh none (fun m _=>Prod.casesOn (motive:=fun _=>Option R) m K)
theorem Aof {eh:List Gi} {K:Tr aI->Nat->Option R} {r:R} (h:DX eh K=some r):∃M n l,eh=(M,n)::l/\K M n=some r:=by
 cases eh with
 |nil=>cases h
 |cons m l=>exact⟨m.1,m.2,l,rfl,h⟩
def th (P:Program) (N A F:Nat) (ld al:Bool) (f:Ld R):mM R:=fun call tm M n K=>fN (Nat.add n N) fun n1=>f call n tm M n1 0 [] [(M,n1)] fun bt recs eh=>ef (DW P n N A F ld al recs eh) (DX eh fun M' n'=>K bt M' n') none
def Xs (P:Program) (sz:Nat) (ops:Array Oper):Bx (mM R):=cond (ops.toList.all Bc) (match BM ops with
 |some ⟨A,i4,F,ld,al⟩=>fz A fun A=>fz F fun F=>fz ops.size fun N=>match ld,al with
  |true,true=>b1 (th P N A F true true) (Pa P sz ops i4)|true,false=>b1 (th P N A F true false) (Pa P sz ops i4)|false,true=>b1 (th P N A F false true) (Pa P sz ops i4)|false,false=>b1 (th P N A F false false) (Pa P sz ops i4)
 |none=>⟨fun _ _ _ _ _=>none⟩) ⟨fun _ _ _ _ _=>none⟩
theorem Nu {l:List Rc} {i:Nat} {x:Rc} (h:l[i]? =some x):E3 (l.take (i+1))=E3 (l.take i)+(if x.mem then 1 else 0):=by
 rw [List.take_add_one,h];exact Kr _ _
theorem Ks (l:List Rc):∀ {i j:Nat},i<=j->E3 (l.take i)<=E3 (l.take j)
 |i,j,h=>by
  have:l.take i<+:l.take j:=List.take_prefix_take_left h;obtain⟨t,ht⟩:=this;rw [←ht];unfold E3;rw [List.filter_append,length_append];omega
theorem DY {l:List Rc} {i:Nat} {x:Rc} (h:l[i]? =some x) (hx:x.mem=true):E3 (l.take i)<E3 l:=by
 have h1:=Nu h;rw [hx,if_pos rfl]at h1;have h2:=Ks l (i:=i+1) (j:=l.length) (List.getElem?_eq_some_iff.1 h).1;rw [take_length]at h2;omega
theorem U4 (l:List Rc):∀(i s:Nat),s<E3 (l.take i)->∃k x,k<i/\l[k]? =some x/\x.mem=true/\E3 (l.take k)=s
 |0,s,h=>by simp [E3]at h
 |i+1,s,h=>by
  cases hx:l[i]? with
  |none=>
   have:l.take (i+1)=l.take i:=by rw [List.take_add_one,hx];simp
   rw [this]at h;obtain⟨k,x,h1,h2⟩:=U4 l i s h;exact⟨k,x,by omega,h2⟩
  |some x=>
   rw [Nu hx]at h;by_cases hs:s<E3 (l.take i)
   ·obtain⟨k,y,h1,h2⟩:=U4 l i s hs;exact⟨k,y,by omega,h2⟩
   ·cases hl:x.mem with
    |false=>rw [hl]at h;simp at h;omega
    |true=>rw [hl]at h;simp only [if_true]at h;exact⟨i,x,by omega,hx,hl,by omega⟩
theorem DZ {l:List Rc} {i k:Nat} {x y:Rc} (hi:l[i]? =some x) (hk:l[k]? =some y) (hx:x.mem=true) (hy:y.mem=true) (h:E3 (l.take i)=E3 (l.take k)):i=k:=by
 rcases Nat.lt_trichotomy i k with h'|h'|h'
 ·have h1:=Nu hi;rw [hx,if_pos rfl]at h1;have h2:=Ks l (i:=i+1) (j:=k) h';omega
 ·exact h'
 ·have h1:=Nu hk;rw [hy,if_pos rfl]at h1;have h2:=Ks l (i:=k+1) (j:=i) h';omega
section
variable {P:Program} {b0:Base} {d0:List Deferred} {sz nb:Nat} {ops:Array Oper} {gG bt:Tm} {M0:Tr aI} {n0:Nat} {l:List Rc} {ss:List Gi}
def yO (b0:Base) (nb:Nat) (l:List Rc) (L:Array Bool) (s:Nat) (e:Env) (m:Gi) (w:World):Prop:=∃F:Mm,(∀(k:Nat) (y:Rc),l[k]? =some y->y.alloc=true->L.getD y.i false=true->s<=y.s->F (nb+y.i)=some (.cells y.z true))/\(∀j,(∀(k:Nat) (y:Rc),l[k]? =some y->y.alloc=true->L.getD y.i false=true->s<=y.s->j≠nb+y.i)->F j=m.1.get j)/\Bb b0 e F m.2 w
structure U5 (d0:List Deferred) (b0:Base) (sz nb:Nat) (ops:Array Oper) (gG:Tm) (l:List Rc) (ss:List Gi) (L:Array Bool) (s:Nat) (e:Env) (a:Act) (w:World):Prop where
 size:L.size=ops.size
 cl:Cl ops L
 low:∀(k:Nat) (y:Rc),l[k]? =some y->y.mem=true->y.s<s->L.getD y.i false=true
 high:∀(k:Nat) (y:Rc),l[k]? =some y->y.gF=true->L.getD y.i false=true->y.s<s
 le:s<=E3 l
 mem:∀m:Gi,ss[s]? =some m->yO b0 nb l L s e m w
 free:∀i,i<ops.size->L.getD i false=false->e (nb+i)=none
 qj:a.tmps.size=sz
 defers:a.defers=d0
 done:∀(k:Nat) (y:Rc) (t:Nat),l[k]? =some y->y.o.dst=some t->L.getD y.i false=true->y.av.rep e (a.tmps.getD t undef)
 old:∀(t:Nat) (av:AV),gG.get t=some av->(∀(k:Nat) (y:Rc),l[k]? =some y->y.o.dst=some t->L.getD y.i false=false)->t<sz/\av.rep e (a.tmps.getD t undef)
theorem U5.Bmb (hp:Qy P sz ops nb gG M0 n0 l bt ss) {L:Array Bool} {s:Nat} {e:Env} {a:Act} {w:World} (hD:U5 d0 b0 sz nb ops gG l ss L s e a w) {k:Nat} {y:Rc} (hk:l[k]? =some y) (hy:y.alloc=true) (hs:y.s=s) (hL:L.getD y.i false=true):U5 d0 b0 sz nb ops gG l ss L (s+1) e a w:=by
 obtain⟨m,m',f,k1,k2,_,_,k5,k6⟩:=hp.alloc k y hk hy;rw [hs]at k1 k2;have one:∀ {k':Nat} {y':Rc},l[k']? =some y'->y'.mem=true->y'.s=s->y'=y:=by
  intro k' y' h h1 h2;have:=DZ h hk h1 (Rc.qi hy) (by rw [←hp.j4 k' y' h,←hp.j4 k y hk,h2,hs]);subst this;rw [hk]at h;cases h;rfl
 refine⟨hD.size,hD.cl,fun k' y' h h1 h2=> ?_,fun k' y' h h1 h2=> ?_,?_,fun m2 kV=> ?_,hD.free,hD.qj,hD.defers,hD.done,hD.old⟩
 ·by_cases h3:y'.s=s
  ·rw [one h h1 h3];exact hL
  ·exact hD.low k' y' h h1 (by omega)
 ·have:=hD.high k' y' h h1 h2;omega
 ·have:=DY hk (Rc.qi hy);rw [←hp.j4 k y hk,hs]at this;exact this
 ·rw [k2]at kV;cases kV
  obtain⟨F,f1,f2,f3⟩:=hD.mem m k1;refine⟨F,fun k' y' h h1 h2 h3=>f1 k' y' h h1 h2 (by omega),fun j hj=> ?_,by rw [k6];exact f3⟩;rw [k5];split
  ·rename_i e;subst e;exact f1 k y hk hy hL (by omega)
  ·rename_i e;refine f2 j fun k' y' h h1 h2 h3=> ?_
   by_cases h4:y'.s=s
   ·rw [one h (Rc.qi h1) h4];exact e
   ·exact hj k' y' h h1 h2 (by omega)
theorem Xt {l:List Rc} {t:Nat} {y:Rc} (h:(l.reverse.find? fun y=>y.o.dst==some t)=some y):∃k:Nat,l[k]? =some y/\k<l.length/\y.o.dst=some t:=by
 have h1:=List.mem_of_find?_eq_some h;have h2:=List.find?_some h;obtain⟨k,hk,rfl⟩:=List.mem_iff_getElem.1 (List.mem_reverse.1 h1);exact⟨k,by simp [hk],hk,by simpa using h2⟩
theorem Xu {l:List Rc} {t:Nat} (h:(l.reverse.find? fun y=>y.o.dst==some t)=none):∀(k:Nat) (y:Rc),l[k]? =some y->y.o.dst≠some t:=by
 intro k y hk e;have:=List.find?_eq_none.1 h y (List.mem_reverse.2 (mem_of_getElem? hk));simp [e]at this
theorem At6 (hp:Qy P sz ops nb gG M0 n0 l bt ss):∀(d:Nat) {s t:Nat} {m m':Gi},s+d=t->ss[s]? =some m->ss[t]? =some m'->(∀(k:Nat) (y:Rc),l[k]? =some y->y.mem=true->s<=y.s->y.s<t->y.alloc=true)->∀j z,m'.1.get j=some z->(∃(k:Nat) (y:Rc),l[k]? =some y/\y.alloc=true/\s<=y.s/\y.s<t/\j=nb+y.i/\z= .cells y.z true)\/m.1.get j=some z:=by
 intro d
 induction d with
 |zero=>
  intro s t m m' dU hm jk _ j z hz;rw [Nat.add_zero]at dU;subst dU;rw [hm]at jk;cases jk;exact .inr hz
 |succ d ih=>
  intro s t m m' dU hm jk gV j z hz;have ht:t<ss.length:=(List.getElem?_eq_some_iff.1 jk).1;rw [hp.len]at ht;obtain⟨k,y,g1,g2,g3,g4⟩:=U4 l l.length (t-1) (by rw [take_length];omega);have vO:y.s=t-1:=by rw [hp.j4 k y g2,g4]
  have vP:=gV k y g2 g3 (by omega) (by omega);obtain⟨m1,m2,f,k1,k2,_,_,k5,_⟩:=hp.alloc k y g2 vP;rw [vO]at k1 k2;rw [show t-1+1=t by omega,jk]at k2;cases k2
  rw [k5]at hz;split at hz
  ·rename_i hj;cases hz
   exact .inl ⟨k,y,g2,vP,by omega,by omega,hj,rfl⟩
  ·rcases ih (t:=t-1) (by omega) hm k1 (fun k y hk hy h1 h2=>gV k y hk hy h1 (by omega)) j z hz with⟨k',y',q1,q2,q3,q4,q5,q6⟩|q
   ·exact .inl ⟨k',y',q1,q2,q3,by omega,q5,q6⟩
   ·exact .inr q
theorem Arq (hp:Qy P sz ops nb gG M0 n0 l bt ss):∀(d:Nat) {s t:Nat} {m m':Gi},s+d=t->ss[s]? =some m->ss[t]? =some m'->(∀(k:Nat) (y:Rc),l[k]? =some y->y.mem=true->s<=y.s->y.s<t->y.alloc=true)->∀j z,m.1.get j=some z->(∀(k:Nat) (y:Rc),l[k]? =some y->y.alloc=true->s<=y.s->y.s<t->j≠nb+y.i)->m'.1.get j=some z:=by
 intro d
 induction d with
 |zero=>
  intro s t m m' dU hm jk _ j z hz _;rw [Nat.add_zero]at dU;subst dU;rw [hm]at jk;cases jk;exact hz
 |succ d ih=>
  intro s t m m' dU hm jk gV j z hz bZ;have ht:t<ss.length:=(List.getElem?_eq_some_iff.1 jk).1;rw [hp.len]at ht;obtain⟨k,y,g1,g2,g3,g4⟩:=U4 l l.length (t-1) (by rw [take_length];omega);have vO:y.s=t-1:=by rw [hp.j4 k y g2,g4]
  have vP:=gV k y g2 g3 (by omega) (by omega);obtain⟨m1,m2,f,k1,k2,_,_,k5,_⟩:=hp.alloc k y g2 vP;rw [vO]at k1 k2;rw [show t-1+1=t by omega,jk]at k2;cases k2
  rw [k5,if_neg (bZ k y g2 vP (by omega) (by omega))];exact ih (t:=t-1) (by omega) hm k1 (fun k y hk hy h1 h2=>gV k y hk hy h1 (by omega)) j z hz (fun k y hk hy h1 h2=>bZ k y hk hy h1 (by omega))
theorem At7 {g:uz} (hg:BN ops g) {A:Nat} (D_:g.A=A) (hp:Qy P sz ops nb gG M0 n0 l bt ss) (hl:l.map (fun x=>(x.i,x.o))=g.i4) (pF:∀ {s:Nat} {m:Gi},ss[s]? =some m->nb+ops.size<=m.2) (EA:∀ {s:Nat} {m:Gi} {k:Nat} {y:Rc},ss[s]? =some m->l[k]? =some y->y.alloc=true->s<=y.s->m.1.get (nb+y.i)=none) (Bo2:∀ {p:Nat} {x:Rc},l[p]? =some x->x.w=true->Xf x.tm x.o=true->V3 g.F x.i=true\/∀ {s:Nat} {m:Gi},ss[s]? =some m->yM A l x.i s=true->DV (tg nb s A x.i l m.1 (DU P x))=true) (hRb:∀b,b0.R b->b<nb) {X:Exit->Act->World->Prop} {e0:Env} (hX:∀e a w (m:Gi),ss[E3 l]? =some m->Az e0 e->Bb b0 e m.1.get m.2 w->Jt sz d0 e bt a->X .normal a w): ∀(fuel:Nat) (L:Array Bool) (s:Nat) (e:Env) (a:Act) (w:World),U5 d0 b0 sz nb ops gG l ss L s e a w->Az e0 e->(L.toList.filter (! ·)).length<=fuel->wpAny P .any ops X fuel L a w:=by
 have QM:A=xG ops.toList:=by rw [←D_];exact hg.A
 have ti:∀ {k:Nat} {y:Rc},l[k]? =some y->g.i4[k]? =some (y.i,y.o):=by
  intro k y hk;rw [←hl,List.getElem?_map,hk];rfl
 have tj:∀ {k:Nat} {y:Rc},l[k]? =some y->ops[y.i]? =some y.o:=by
  intro k y hk;have:=hg.at_ _ (mem_of_getElem? (ti hk));simpa using this
 have aO:∀ {k:Nat} {y:Rc},l[k]? =some y->y.i<ops.size:=fun hk=>(Array.getElem?_eq_some_iff.1 (tj hk)).1
 have QN:∀ {i:Nat},i<ops.size->∃(k:Nat) (y:Rc),l[k]? =some y/\y.i=i:=by
  intro i hi;obtain⟨z,h2,h3⟩:=hg.has i hi;rw [←hl]at h2;obtain⟨y,h4,rfl⟩:=mem_map.1 h2;obtain⟨k,hk,vQ⟩:=List.mem_iff_getElem.1 h4;exact⟨k,y,by rw [List.getElem?_eq_getElem hk,vQ],h3⟩
 have oD:∀ {i j:Nat} {x y:Rc},l[i]? =some x->l[j]? =some y->i<j->(x.i,x.o)∈g.i4.take j/\xI ops A (g.i4.take j) (y.i,y.o):=by
  intro i j x y hi hj aO;refine⟨?_,D_▸hg.ux j _ (ti hj)⟩;refine mem_of_getElem? (i:=i) ?_;rw [List.getElem?_take_of_lt aO];exact ti hi
 have ud:∀ {i j:Nat} {x y:Rc},l[i]? =some x->l[j]? =some y->i≠j->x.i≠y.i:=by
  intro i j x y hi hj bZ h;rcases Nat.lt_or_gt_of_ne bZ with aO|aO
  ·obtain⟨g1,g2⟩:=oD hi hj aO;exact g2.ne _ g1 h
  ·obtain⟨g1,g2⟩:=oD hj hi aO;exact g2.ne _ g1 h.symm
 have EB:∀ {i j:Nat} {x y:Rc},l[i]? =some x->l[j]? =some y->x.i=y.i->i=j:=by
  intro i j x y hi hj h;by_cases bZ:i=j
  ·exact bZ
  ·exact absurd h (ud hi hj bZ)
 have qK:∀ {i j:Nat} {x y:Rc} {t:Nat},l[i]? =some x->l[j]? =some y->i≠j->x.o.dst=some t->y.o.dst≠some t:=by
  intro i j x y t hi hj bZ hx hy;rcases Nat.lt_or_gt_of_ne bZ with aO|aO
  ·obtain⟨g1,g2⟩:=oD hi hj aO;exact g2.dst _ g1 t hx hy
  ·obtain⟨g1,g2⟩:=oD hj hi aO;exact g2.dst _ g1 t hy hx
 have QO:∀ {i j:Nat} {x y:Rc} {t:Nat},l[i]? =some x->l[j]? =some y->i≠j->x.o.dst=some t->t∈y.o.looksAt ops->(i<j->fh A x.i y.i=true)/\(j<i->fh A y.i x.i=true):=by
  intro i j x y t hi hj bZ hx ht;constructor
  ·intro aO;obtain⟨g1,g2⟩:=oD hi hj aO;exact g2.look _ g1 t hx ht
  ·intro aO;obtain⟨g1,g2⟩:=oD hj hi aO;exact g2.Bpz _ g1 t hx ht
 have Bmd:∀ {i j:Nat} {x y:Rc},l[i]? =some x->l[j]? =some y->x.mem=true->y.gF=true->i<j->fh A x.i y.i=true:=by
  intro i j x y hi hj hx hy aO;obtain⟨g1,g2⟩:=oD hi hj aO;unfold Rc.mem at hx;unfold Rc.gF at hy;simp only [and_eq_true,not_eq_true']at hx hy;exact g2.mem _ g1 hx.2 (by unfold Jz;rw [Qb,uu,hy.1.2,hy.2];rfl)
 have Bq9:∀ {i:Nat} {x:Rc},l[i]? =some x->∀e∈x.o.after.toList,Region.binds .any e=true->∃(k:Nat) (y:Rc),k<i/\l[k]? =some y/\y.i=e.on:=by
  intro i x hi e he hb;obtain⟨z,h2,h3⟩:=(hg.ux i _ (ti hi)).Bpy e he hb;rw [←hl,←List.map_take]at h2;obtain⟨y,h4,rfl⟩:=mem_map.1 h2;obtain⟨k,hk,vQ⟩:=List.mem_iff_getElem.1 h4;have tV:k<i:=by rw [List.length_take]at hk;omega
  refine⟨k,y,tV,?_,h3⟩;rw [←List.getElem?_take_of_lt tV,List.getElem?_eq_getElem hk,vQ]
 have EC:∀ {s:Nat},s<=E3 l->∃m,ss[s]? =some m:=fun {s} hs=>⟨ss[s]'(by rw [hp.len];omega),by simp⟩
 have QP:∀(d:Nat) {L:Array Bool} {s t:Nat} {e:Env} {a:Act} {w:World},U5 d0 b0 sz nb ops gG l ss L s e a w->t<=E3 l->s+d=t->(∀(k:Nat) (y:Rc),l[k]? =some y->y.mem=true->s<=y.s->y.s<t->L.getD y.i false=true)->U5 d0 b0 sz nb ops gG l ss L t e a w:=by
  intro d
  induction d with
  |zero=>intro L s t e a w hD _ dU _;rw [Nat.add_zero]at dU;exact dU▸hD
  |succ d ih=>
   intro L s t e a w hD ht dU QQ;have h':s<E3 (l.take l.length):=by rw [take_length];omega
   obtain⟨k,y,h1,h2,h3,h4⟩:=U4 l l.length s h';have vO:y.s=s:=by rw [hp.j4 k y h2,h4]
   have qk:=QQ k y h2 h3 (by omega) (by omega);rcases Rc.DS h3 with h5|h5
   ·have:=hD.high k y h2 h5 qk;omega
   ·exact ih (hD.Bmb hp h2 h5 vO qk) ht (by omega) fun k y hk hy g1 g2=>QQ k y hk hy (by omega) g2
 have mK:∀ {L:Array Bool} {s:Nat} {e:Env} {a:Act} {w:World},U5 d0 b0 sz nb ops gG l ss L s e a w->Az e0 e->(∀k,k<ops.size->L.getD k false=true)->X .normal a w:=by
  intro L s e a w vR lB fI;have hle:=vR.le;have hD:=QP (E3 l-s) vR (le_refl _) (by omega) fun k y hk _ _ _=>fI _ (aO hk)
  obtain⟨m,hm⟩:=EC (le_refl _);obtain⟨F,f1,f2,f3⟩:=hD.mem m hm;refine hX e a w m hm lB (f3.same fun j=> ?_) ⟨⟨fun t av ht=> ?_⟩,hD.qj,hD.defers⟩
  ·rw [f2 j fun k y hk hy _ hs=> ?_];have:=DY hk (Rc.qi hy);rw [←hp.j4 k y hk]at this;omega
  ·rw [hp.tm]at ht;split at ht
   ·rename_i y hy;cases ht
    obtain⟨k,h1,h2,h3⟩:=Xt hy;exact⟨by rw [hD.qj];exact hp.fits k y h1 t h3,hD.done k y t h1 h3 (fI _ (aO h1))⟩
   ·rename_i hn;obtain⟨g1,g2⟩:=hD.old t av ht fun k y hk hy=>absurd hy (Xu hn k y hk)
    exact⟨by rw [hD.qj];exact g1,g2⟩
 have ED:∀ {L:Array Bool} {i:Nat},i<L.size->∀k,(L.setIfInBounds i true).getD k false=(if i=k then true else L.getD k false):=by
  intro L i qL k;rw [getD_eq_getD_getElem?,Array.getElem?_setIfInBounds,getD_eq_getD_getElem?];split
  ·subst_vars;simp
  ·rfl
 have yP:∀ {L:Array Bool} {s s':Nat} {e e':Env} {a:Act} {w w':World} {i:Nat} {x:Rc} {v:Value},U5 d0 b0 sz nb ops gG l ss L s e a w->l[i]? =some x->L.getD x.i false=false->(∀ed∈x.o.after.toList,Region.binds .any ed=true->L.getD ed.on false=true)->
  Az e e'->x.av.rep e' v->(x.gF=true->x.s=s/\s'=s+1/\s<E3 l)->(x.gF=false->s'=s)->(∀m:Gi,ss[s']? =some m->yO b0 nb l (L.setIfInBounds x.i true) s' e' m w')->(∀j,j<ops.size->j≠x.i->L.getD j false=false->e' (nb+j)=none)->U5 d0 b0 sz nb ops gG l ss (L.setIfInBounds x.i true) s' e' (a.put x.o.dst v) w':=by
  intro L s s' e e' a w w' i x v hD hx hi hed kO hv lq kX gP jL;have qL:x.i<L.size:=by rw [hD.size];exact aO hx
  have fK:=ED qL;have jM:∀t,(a.put x.o.dst v).tmps.getD t undef=(if x.o.dst=some t/\t<a.tmps.size then v else a.tmps.getD t undef):=by
   intro t;cases hd:x.o.dst with
   |none=>simp [Act.put]
   |some d=>
    show(a.tmps.setIfInBounds d v).getD t undef=_
    rw [getD_eq_getD_getElem?,Array.getElem?_setIfInBounds,getD_eq_getD_getElem?];by_cases e:d=t
    ·subst e;by_cases aO:d<a.tmps.size
     ·simp [aO]
     ·simp [aO]
    ·have:¬(some d=some t/\t<a.tmps.size):=fun h=>e (Option.some.inj h.1)
     rw [if_neg e,if_neg this]
  have eb:(a.put x.o.dst v).tmps.size=a.tmps.size:=by
   cases x.o.dst<;>simp [Act.put]
  have QS:∀ {k:Nat} {y:Rc},l[k]? =some y->x.i=y.i->i=k/\y=x:=by
   intro k y hk h;have:=EB hx hk h;subst this;rw [hx]at hk;cases hk;exact⟨rfl,rfl⟩
  refine⟨by rw [Array.size_setIfInBounds];exact hD.size,fun j o ho hj ed he hb=> ?_,fun k y hk hy hs=> ?_,fun k y hk hy hL=> ?_,?_,gP,fun j hj mz=> ?_,by rw [eb];exact hD.qj,by cases x.o.dst<;>exact hD.defers,fun k y t hk hy kx=> ?_,fun t av ht eU=> ?_⟩
  ·rw [fK]at hj⊢;split at hj
   ·rename_i lG;subst lG;have:=tj hx;rw [ho]at this;cases this
    have:=hed ed he hb;split
    ·rfl
    ·exact this
   ·have:=hD.cl j o ho hj ed he hb;split
    ·rfl
    ·exact this
  ·rw [fK];split
   ·rfl
   ·rename_i bZ;cases fy:x.gF with
    |false=>rw [kX fy]at hs;exact hD.low k y hk hy hs
    |true=>
     obtain⟨g1,g2,_⟩:=lq fy;by_cases h3:y.s=s
     ·have:=DZ hx hk (Rc.vN fy) hy (by rw [←hp.j4 i x hx,←hp.j4 k y hk,g1,h3]);subst this;rw [hx]at hk;cases hk;exact absurd rfl bZ
     ·exact hD.low k y hk hy (by omega)
  ·rw [fK]at hL;split at hL
   ·rename_i bZ;obtain⟨_,rfl⟩:=QS hk bZ;obtain⟨g1,g2,_⟩:=lq hy;omega
   ·have:=hD.high k y hk hy hL;cases fy:x.gF with
    |false=>rw [kX fy];exact this
    |true=>obtain⟨g1,g2,_⟩:=lq fy;omega
  ·cases fy:x.gF with
   |false=>rw [kX fy];exact hD.le
   |true=>obtain⟨_,g2,g3⟩:=lq fy;omega
  ·rw [fK]at mz;split at mz
   ·cases mz
   ·rename_i bZ;exact jL j hj (Ne.symm bZ) mz
  ·rw [jM];rw [fK]at kx;by_cases vS:x.i=y.i
   ·obtain⟨_,rfl⟩:=QS hk vS;have hts:t<a.tmps.size:=by rw [hD.qj];exact hp.fits i y hx t hy
    rw [if_pos ⟨hy,hts⟩];exact hv
   ·rw [if_neg vS]at kx;rw [if_neg (fun h=>qK hx hk (fun h=>by subst h;rw [hx]at hk;cases hk;exact vS rfl) h.1 hy)];exact E6 kO (hD.done k y t hk hy kx)
  ·have sD:x.o.dst≠some t:=by
    intro hy;have:=eU i x hx hy;rw [fK,if_pos rfl]at this;cases this
   obtain⟨g1,g2⟩:=hD.old t av ht fun k y hk hy=>by
    have:=eU k y hk hy;rw [fK]at this;split at this
    ·cases this
    ·exact this
   rw [jM,if_neg (fun h=>sD h.1)];exact⟨g1,E6 kO g2⟩
 have pG:∀ {L:Array Bool} {s:Nat} {e:Env} {w:World} {m:Gi} {i:Nat} {x:Rc},L.size=ops.size->l[i]? =some x->x.alloc=false->yO b0 nb l L s e m w->yO b0 nb l (L.setIfInBounds x.i true) s e m w:=by
  intro L s e w m i x eb hx ha ⟨F,f1,f2,f3⟩;have fK:=ED (L:=L) (i:=x.i) (by rw [eb];exact aO hx);have QT:∀ {k:Nat} {y:Rc},l[k]? =some y->y.alloc=true->((L.setIfInBounds x.i true).getD y.i false=true↔L.getD y.i false=true):=by
   intro k y hk hy;rw [fK];split
   ·rename_i yQ;have:=EB hx hk yQ;subst this;rw [hx]at hk;cases hk;rw [ha]at hy;cases hy
   ·exact Iff.rfl
  exact⟨F,fun k y hk hy hL hs=>f1 k y hk hy ((QT hk hy).1 hL) hs,fun j hj=>f2 j fun k y hk hy hL hs=>hj k y hk hy ((QT hk hy).2 hL) hs,f3⟩
 intro fuel
 induction fuel with
 |zero=>
  intro L s e a w hD lB yR;have fI:∀k,k<ops.size->L.getD k false=true:=by
   intro k hk;have mF:L.toList.filter (! ·)=[]:=List.eq_nil_of_length_eq_zero (by omega);have:=List.filter_eq_nil_iff.1 mF (L[k]'(by rw [hD.size];exact hk)) (by simp);rw [getD_eq_getD_getElem?,getElem?_eq_getElem (by rw [hD.size];exact hk)];simpa using this
  refine⟨?_,mK hD lB fI⟩;unfold Region.ready;refine List.filter_eq_nil_iff.2 fun k hk=> ?_
  have hk:=List.mem_range.1 hk;have h1:=fI k hk;rw [getD_eq_getD_getElem?,getElem?_eq_getElem (by rw [hD.size];exact hk)]at h1;have h1:L[k]'(by rw [hD.size];exact hk)=true:=h1;rw [getD_eq_getD_getElem?,getElem?_eq_getElem (by rw [hD.size];exact hk),getD_some,h1];simp
 |succ fuel ih=>
  intro L s e a w hD lB yR;have QU:∀k,k∈Region.ready .any ops L↔k<ops.size/\L.getD k false=false/\∀o,ops[k]? =some o->∀ed∈o.after.toList,Region.binds .any ed=true->L.getD ed.on false=true:=by
   intro k;unfold Region.ready;rw [List.mem_filter,List.mem_range];constructor
   ·rintro⟨h1,h2⟩;simp only [and_eq_true]at h2;refine⟨h1,?_,fun o ho ed he hb=> ?_⟩
    ·have:=h2.1;rw [getD_eq_getD_getElem?,getElem?_eq_getElem (by rw [hD.size];exact h1)]at this⊢;simpa using this
    ·have:=h2.2;rw [ho]at this;simp only [Option.map_some,getD_some,Array.all_eq_true_iff_forall_mem]at this;have:=this ed (by simpa using he);rw [hb]at this;simpa using this
   ·rintro⟨h1,h2,h3⟩;refine⟨h1,?_⟩;simp only [and_eq_true];constructor
    ·rw [getD_eq_getD_getElem?,getElem?_eq_getElem (by rw [hD.size];exact h1)]at h2⊢;simpa using h2
    ·rw [getElem?_eq_getElem h1];simp only [Option.map_some,getD_some,Array.all_eq_true_iff_forall_mem];intro ed he;cases hb:Region.binds .any ed with
     |false=>rfl
     |true=>simpa using h3 ops[k] (by simp [h1]) ed (by simpa using he) hb
  refine⟨fun mF=>mK hD lB ?_,fun i hi=> ?_⟩
  ·have gX:∀(k:Nat) (y:Rc),l[k]? =some y->L.getD y.i false=true:=by
    intro k
    induction k using Nat.strongRecOn with
    |_ k ihk=>
     intro y hk;cases hc:L.getD y.i false with
     |true=>rfl
     |false=>
      have:y.i∈Region.ready .any ops L:=(QU y.i).2 ⟨aO hk,hc,fun o ho ed he hb=>by
       rw [tj hk]at ho;cases ho
       obtain⟨k',y',g1,g2,g3⟩:=Bq9 hk ed he hb;rw [←g3];exact ihk k' g1 y' g2⟩
      rw [mF]at this;cases this
   intro i hi;obtain⟨k,y,h1,rfl⟩:=QN hi;exact gX k y h1
  ·obtain⟨h1,h2,h3⟩:=(QU i).1 hi;obtain⟨p,x,hx,rfl⟩:=QN h1;have EE:=tj hx;have h3:=h3 x.o EE;have vT:∀b,fh A b x.i=true->L.getD b false=true:=by rw [QM];exact KR hD.size hD.cl x.i x.o EE h3
   have EF:∀ {k:Nat} {y:Rc},l[k]? =some y->L.getD y.i false=true->∀b,fh A b y.i=true->L.getD b false=true:=by
    rw [QM];exact fun hk kx=>KR hD.size hD.cl _ _ (tj hk) (hD.cl _ _ (tj hk) kx)
   have yS:uo e x.tm a ops x.o:=by
    intro t av ht eA;rw [hp.QI p x hx]at eA;split at eA
    ·rename_i y hy;cases eA
     obtain⟨k,g1,g2,g3⟩:=Xt hy;have pw:k<p:=by simp at g2;omega
     rw [List.getElem?_take_of_lt pw]at g1;have kT:=(QO g1 hx (by omega) g3 ht).1 pw;exact⟨by rw [hD.qj];exact hp.fits k y g1 t g3,hD.done k y t g1 g3 (vT _ kT)⟩
    ·rename_i hn;obtain⟨g1,g2⟩:=hD.old t av eA fun k y hk hy=>by
      rcases Nat.lt_trichotomy k p with h|h|h
      ·exact absurd hy (Xu hn k y (by rw [List.getElem?_take_of_lt h];exact hk))
      ·subst h;rw [hx]at hk;cases hk;exact h2
      ·cases kx:L.getD y.i false with
       |false=>rfl
       |true=>
        have:=EF hk kx x.i ((QO hk hx (by omega) hy ht).2 h);rw [h2]at this;cases this
     exact⟨by rw [hD.qj];exact g1,g2⟩
   have hw:=Sr (hp.want p x hx) yS;have yT:((L.setIfInBounds x.i true).toList.filter (! ·)).length<=fuel:=by
    have hiL:x.i<L.toList.length:=by rw [Array.length_toList,hD.size];exact h1
    have e1:L.toList=L.toList.take x.i++L.toList[x.i]::L.toList.drop (x.i+1):=by rw [List.getElem_cons_drop,List.take_append_drop]
    have e2:(L.setIfInBounds x.i true).toList=L.toList.take x.i++true::L.toList.drop (x.i+1):=by
     rw [Array.toList_setIfInBounds,List.set_eq_take_append_cons_drop,if_pos hiL]
    have e3:L.toList[x.i]=false:=by
     rw [getD_eq_getD_getElem?,getElem?_eq_getElem (by rw [hD.size];exact h1)]at h2;simpa using h2
    rw [e1,e3]at yR;rw [e2];simp only [List.filter_append,List.filter_cons,length_append]at yR⊢;simp at yR⊢;omega
   have iu:∀ {e':Env},(∀j,j<ops.size->L.getD j false=false->e' (nb+j)=none)->∀j,j<ops.size->j≠x.i->L.getD j false=false->e' (nb+j)=none:=fun h j hj _ hL=>h j hj hL
   unfold wpOp;rw [EE];simp only [hw];cases tl:x.w with
   |false=>
    have fy:x.gF=false:=by unfold Rc.gF;rw [tl];rfl
    have lD:x.alloc=false:=by unfold Rc.alloc;rw [tl];rfl
    simp only [Bool.false_eq_true,if_false];exact ih _ s e _ w (yP hD hx h2 h3 (Az.refl e) (by rw [hp.no p x hx tl];simp only [AV.rep]) (fun h=>by rw [fy]at h;cases h) (fun _=>rfl) (fun m hm=>pG hD.size hx lD (hD.mem m hm)) (iu hD.free)) lB yT
   |true=>
    simp only [if_true];refine .inl (Sf ?_);cases fy:x.gF with
    |true=>
     have lD:x.alloc=false:=by cases h:x.alloc;rfl;exact absurd h fun h=>Rc.Bj4 fy h
     have jZ:s<=x.s:=by
      rcases lt_or_ge x.s s with h|h
      ·have:=hD.low p x hx (Rc.vN fy) h;rw [h2]at this;cases this
      ·exact h
     have QV:x.s<E3 l:=by rw [hp.j4 p x hx];exact DY hx (Rc.vN fy)
     have hD:=QP (x.s-s) hD (Nat.le_of_lt QV) (by omega) fun k y hk hy g1 g2=>by
      refine vT _ (Bmd hk hx hy fy ?_);rcases lt_or_ge k p with h|h
      ·exact h
      ·have:=Ks l h;rw [←hp.j4 p x hx,←hp.j4 k y hk]at this;omega
     obtain⟨m,m',k1,k2,k3⟩:=hp.gF p x hx fy;obtain⟨F,f1,f2,f3⟩:=hD.mem m k1;have Bo7:∀j,(∃(k:Nat) (y:Rc),l[k]? =some y/\y.alloc=true/\L.getD y.i false=true/\x.s<=y.s/\j=nb+y.i)->m.1.get j=none:=by
      rintro j ⟨k,y,g1,g2,g3,g4,rfl⟩;exact EA k1 g1 g2 g4
     have eU:∀ {j},¬(∃(k:Nat) (y:Rc),l[k]? =some y/\y.alloc=true/\L.getD y.i false=true/\x.s<=y.s/\j=nb+y.i)->F j=m.1.get j:=fun h=>f2 _ fun k y g1 g2 g3 g4 g5=>h ⟨k,y,g1,g2,g3,g4,g5⟩
     obtain⟨b1,cg,vU,EG⟩:=f3.frame (f:=m.1.get) (fun j=>∃(k:Nat) (y:Rc),l[k]? =some y/\y.alloc=true/\L.getD y.i false=true/\x.s<=y.s/\j=nb+y.i)
      (fun b=>b0.R b\/∃j,j<ops.size/\L.getD j false=false/\b=nb+j) (fun b h=> .inl h)
      (fun b h=>by
       rcases h with h|⟨j,g1,g2,rfl⟩
       ·exact⟨f3.res b h,f3.new b (.inr h)⟩
       ·have:=pF k1;exact⟨by omega,hD.free j g1 g2⟩)
      (fun j z hz=>by
       have QW:¬(∃(k:Nat) (y:Rc),l[k]? =some y/\y.alloc=true/\L.getD y.i false=true/\x.s<=y.s/\j=nb+y.i):=fun h=>by rw [Bo7 j h]at hz;cases hz
       exact⟨by rw [eU QW];exact hz,QW⟩)
     refine k3 b1 e a w vU yS.cR _ fun e' v w' kO hM hv=> ?_
     refine ih _ (x.s+1) e' _ w' (yP hD hx h2 h3 kO hv (fun _=>⟨rfl,rfl,QV⟩) (fun h=>by rw [fy]at h;cases h) (fun m2 kV=> ?_) (iu fun j hj mz=>hM.new _ (.inr (by rw [cg];exact .inr ⟨j,hj,mz,rfl⟩)))) (lB.trans kO) yT;rw [k2]at kV;cases kV
     refine pG hD.size hx lD ?_;have bZ:∀ {k:Nat} {y:Rc},l[k]? =some y->y.alloc=true->x.s<=y.s->x.s+1<=y.s:=by
      intro k y hk hy hs;rcases lt_or_ge x.s y.s with h|h
      ·exact h
      ·have:=DZ hx hk (Rc.vN fy) (Rc.qi hy) (by rw [←hp.j4 p x hx,←hp.j4 k y hk];omega);subst this;rw [hx]at hk;cases hk;rw [lD]at hy;cases hy
     open Classical in
     refine⟨fun j=>if(∃(k:Nat) (y:Rc),l[k]? =some y/\y.alloc=true/\L.getD y.i false=true/\x.s<=y.s/\j=nb+y.i)then F j else m'.1.get j,fun k y g1 g2 g3 g4=> ?_,fun j hj=> ?_,EG e' m'.1.get m'.2 w' kO hM _ fun j z hz=> ?_⟩
     ·exact(if_pos ⟨k,y,g1,g2,g3,by omega,rfl⟩).trans (f1 k y g1 g2 g3 (by omega))
     ·exact if_neg fun⟨k,y,g1,g2,g3,g4,g5⟩=>hj k y g1 g2 g3 (bZ g1 g2 g4) g5
     ·split at hz
      ·rename_i h;exact .inl ⟨h,hz⟩
      ·rename_i h;exact .inr ⟨h,hz⟩
    |false=>
    cases lD:x.alloc with
    |true=>
     obtain⟨mm,mm',f,_,_,k3,k4,_,_⟩:=hp.alloc p x hx lD;have jZ:s<=x.s:=by
      rcases lt_or_ge x.s s with h|h
      ·have:=hD.low p x hx (Rc.qi lD) h;rw [h2]at this;cases this
      ·exact h
     obtain⟨m,hm⟩:=EC hD.le;obtain⟨F,f1,f2,f3⟩:=hD.mem m hm;obtain⟨zs,T,v,g1,g2,g3⟩:=k3 e a w yS.cR;rw [g1];have Bra:=pF hm;obtain⟨l1,l2⟩:=Iy (M':=fun j=>if j=nb+x.i then some (.cells x.z true)else F j) T f3 (hD.free x.i h1 h2) (fun h=>by have:=hRb _ h;omega) (le_refl m.2) (show nb+x.i<m.2 by omega) g2 (fun j=>rfl);have hv:x.av.rep (e.put (nb+x.i) (w.heap.size,zs.length)) v:=by rw [k4];exact g3 _ _ (Gd _ _ _)
     refine ih _ s _ _ _ (yP hD hx h2 h3 l1 hv (fun h=>by rw [fy]at h;cases h) (fun _=>rfl) (fun m2 kV=> ?_) (fun j hj bZ mz=> ?_)) (lB.trans l1) yT
     ·rw [hm]at kV;cases kV
      have fK:=ED (L:=L) (i:=x.i) (by rw [hD.size];exact h1);refine⟨_,fun k y hk hy qk hs=> ?_,fun j hj=> ?_,l2⟩
      ·by_cases yQ:x.i=y.i
       ·have:=EB hx hk yQ;subst this;rw [hx]at hk;cases hk;exact if_pos rfl
       ·rw [if_neg (by omega)];rw [fK,if_neg yQ]at qk;exact f1 k y hk hy qk hs
      ·have hjx:j≠nb+x.i:=hj p x hx lD (by rw [fK,if_pos rfl]) jZ;rw [if_neg hjx];refine f2 j fun k y hk hy qk hs=>hj k y hk hy (by rw [fK];split;rfl;exact qk) hs
     ·rw [Pz (by omega)];exact hD.free j hj mz
    |false=>
     have yL:qS x.o=true:=by
      unfold Rc.gF at fy;unfold Rc.alloc at lD;rw [tl]at fy lD;cases h:qS x.o with
      |true=>rfl
      |false=>
       rw [show Ji x.o=true by unfold Ji;rw [h];rfl]at fy lD;cases h':Gz x.o<;>rw [h']at fy lD<;>simp at fy lD
     obtain⟨m,hm⟩:=EC hD.le;obtain⟨m0,pD,QX⟩:=hp.calm p x hx tl yL;obtain⟨F,f1,f2,f3⟩:=hD.mem m hm;have hF:∃M:Tr aI,(∀j z,M.get j=some z->F j=some z)/\Qx P x.tm M x.o x.av:=by
      cases vV:Xf x.tm x.o with
      |false=>
       exact⟨Tr.nil,(fun j z hz=>by rw [Tr.get_nil]at hz;cases hz),QX.any vV⟩
      |true=>
       rcases Bo2 hx tl vV with zp|gu
       ·
        have BJ:x.mem=false:=by
         unfold Rc.mem;rw [show Ji x.o=false by unfold Ji;rw [yL];rfl];simp
        have QY:∀ {k:Nat} {y:Rc},l[k]? =some y->y.mem=true->(k<p->fh A y.i x.i=true)/\(p<k->y.gF=true->fh A x.i y.i=true):=by
         intro k y hk hy;have qU:Ji y.o=true:=by unfold Rc.mem at hy;simp only [and_eq_true]at hy;exact hy.2
         have:=hg.fix p k _ _ (ti hx) (ti hk) zp qU;rw [D_]at this;refine⟨this.1,fun h1 h2=>this.2 h1 ?_⟩;unfold Rc.gF at h2;simp only [and_eq_true,not_eq_true']at h2;show Jz y.o=true
         unfold Jz;rw [Qb,uu,h2.1.2,h2.2];rfl
        have QZ:∀ {k:Nat} {y:Rc},l[k]? =some y->y.mem=true->(y.s<x.s↔k<p):=by
         intro k y hk hy;rw [hp.j4 p x hx,hp.j4 k y hk];constructor
         ·intro h;rcases lt_or_ge k p with h'|h'
          ·exact h'
          ·have:=Ks l h';omega
         ·intro h;have h1:=Nu hk;rw [hy,if_pos rfl]at h1;have h2:=Ks l (i:=k+1) (j:=p) h;omega
        refine⟨m0.1,fun j z hz=> ?_,QX⟩;have bZ:∀ {s':Nat} {m':Gi} {z:aI},ss[s']? =some m'->m'.1.get j=some z->∀(k:Nat) (y:Rc),l[k]? =some y->y.alloc=true->s'<=y.s->j≠nb+y.i:=by
         intro s' m' z jY lH k y hk hy hle hj;subst hj;rw [EA jY hk hy hle]at lH;cases lH
        rcases Nat.le_total s x.s with hsx|hsx
        ·have gV:∀(k:Nat) (y:Rc),l[k]? =some y->y.mem=true->s<=y.s->y.s<x.s->y.alloc=true/\L.getD y.i false=true:=by
          intro k y hk hy vW vX;have hd:=vT _ ((QY hk hy).1 ((QZ hk hy).1 vX));rcases Rc.DS hy with h5|h5
          ·have:=hD.high k y hk h5 hd;omega
          ·exact⟨h5,hd⟩
         rcases At6 hp (x.s-s) (by omega) hm pD (fun k y hk hy vW vX=>(gV k y hk hy vW vX).1) j z hz with⟨k,y,q1,q2,q3,q4,rfl,rfl⟩|q
         ·exact f1 k y q1 q2 (gV k y q1 (Rc.qi q2) q3 q4).2 q3
         ·rw [f2 j fun k y hk hy _ hs=>bZ hm q k y hk hy hs];exact q
        ·have gV:∀(k:Nat) (y:Rc),l[k]? =some y->y.mem=true->x.s<=y.s->y.s<s->y.alloc=true:=by
          intro k y hk hy vW vX;have hd:=hD.low k y hk hy vX;rcases Rc.DS hy with h5|h5
          ·have CB:p<k:=by
            rcases Nat.lt_trichotomy p k with h|h|h
            ·exact h
            ·subst h;rw [hx]at hk;cases hk;rw [BJ]at hy;cases hy
            ·have:=(QZ hk hy).2 h;omega
           have:=EF hk hd x.i ((QY hk hy).2 CB h5);rw [h2]at this;cases this
          ·exact h5
         have lH:=Arq hp (s-x.s) (by omega) pD hm gV j z hz (fun k y hk hy vW _=>bZ pD hz k y hk hy vW);rw [f2 j fun k y hk hy _ hs=>bZ hm lH k y hk hy hs];exact lH
       ·have Bpa:yM A l x.i s=true:=by
         unfold yM;refine QJ fun k y hk=> ?_
         cases qU:y.mem with
         |false=>rfl
         |true=>
          simp only [cond_true];cases hb:blt y.s s with
          |true=>
           simp only [cond_true,not_eq_true'];have mz:=hD.low k y hk qU (Ayx hb);cases kT:fh A x.i y.i with
           |false=>rfl
           |true=>
            have:=EF hk mz x.i kT;rw [h2]at this;cases this
          |false=>
           simp only [cond_false];cases ha:Gz y.o with
           |true=>rfl
           |false=>
            simp only [cond_false,not_eq_true'];have hyl:y.gF=true:=by unfold Rc.mem at qU;unfold Rc.gF;rw [qU,ha];rfl
            cases kT:fh A y.i x.i with
            |false=>rfl
            |true=>
             have:=hD.high k y hk hyl (vT _ kT);have:blt y.s s=true:=Ayw this;rw [hb]at this;cases this
        obtain⟨u,h6⟩:=Ayz (gu hm Bpa);obtain⟨M,h7,h8⟩:=Wt h6;refine⟨M,fun j z hz=> ?_,?_⟩
        ·rcases h8 j z hz with g|⟨y,g1,g2,g3,g4,rfl,rfl⟩
         ·rw [f2 j fun k y hk hy qk hs hj=> ?_]
          ·exact g
          ·subst hj;rw [EA hm hk hy hs]at g;cases g
         ·obtain⟨k,hk,vQ⟩:=List.mem_iff_getElem.1 g1;exact f1 k y (by rw [List.getElem?_eq_getElem hk,vQ]) g2 (vT _ g4) g3
        ·unfold DU at h7;split at h7
         ·rename_i av eA;cases Q_:same av x.av with
          |true=>rw [Awm Q_]at eA;exact .inl eA
          |false=>rw [Q_]at h7;cases h7
         ·cases h7
     obtain⟨M,su,Brb⟩:=hF;obtain⟨b1,cg,vU,EG⟩:=f3.frame (f:=M.get) (fun j=>M.get j=none) (fun b=>b0.R b\/∃j,j<ops.size/\L.getD j false=false/\b=nb+j) (fun b h=> .inl h)
      (fun b h=>by
       rcases h with h|⟨j,g1,g2,rfl⟩
       ·exact⟨f3.res b h,f3.new b (.inr h)⟩
       ·have:=pF hm;exact⟨by omega,hD.free j g1 g2⟩)
      (fun j z hz=>⟨su j z hz,fun h=>by rw [hz]at h;cases h⟩)
     refine Qx.ok (n:=m.2) Brb b1 e a w vU yS.cR _ fun e' v w' kO hM hv=> ?_
     refine ih _ s e' _ w' (yP hD hx h2 h3 kO hv (fun h=>by rw [fy]at h;cases h) (fun _=>rfl) (fun m2 kV=> ?_) (iu fun j hj mz=>hM.new _ (.inr (by rw [cg];exact .inr ⟨j,hj,mz,rfl⟩)))) (lB.trans kO) yT;rw [hm]at kV;cases kV
     refine pG hD.size hx lD ⟨F,f1,f2,EG e' M.get m.2 w' kO hM F fun j z hz=> ?_⟩;cases hc:M.get j with
     |none=>exact .inl ⟨rfl,hz⟩
     |some z'=>
      have:=su j z' hc;rw [hz]at this;cases this
      exact .inr ⟨nofun,rfl⟩
end
theorem At8 {P:Program} {call:A9 R} (dq:E0 P call) {sz:Nat} {ops:Array Oper} {g:uz} (hg:BN ops g) {tm:Tm} {M:Tr aI} {n:Nat} {K:Tm->Tr aI->Nat->Option R} {r:R} (h:th P ops.size g.A g.F g.ld g.al (Pa P sz ops g.i4).get call tm M n K=some r): ∃bt M' n',K bt M' n'=some r/\∀(X:Exit->Act->World->Prop) b0 d0 e a w,Bb b0 e M.get n w->Jt sz d0 e tm a->(∀e' a' w',Az e e'->Bb b0 e' M'.get n' w'->Jt sz d0 e' bt a'->X .normal a' w')->wpAny P .any ops X ops.size (replicate ops.size false) a { w with drawn:=w.drawn+1 } :=by
 unfold th at h;rw [Ew]at h;have Bme:Qy P sz ops n tm M (n+ops.size) ([]:List Rc) tm [(M,n+ops.size)]:=
  ⟨rfl,rfl,fun i x hi=>by simp at hi,fun i x hi=>by simp at hi,fun i x hi=>by simp at hi,fun i x hi=>by simp at hi,fun i x hi=>by simp at hi,fun i x hi=>by simp at hi,fun i x hi=>by simp at hi,fun t=>by simp,fun i x hi=>by simp at hi⟩
 obtain⟨bt,recs,eh,h1,h2,h3⟩:=Qz dq (recs:=[]) (eh:=[(M,n+ops.size)]) h (by simpa using Bme) rfl rfl;simp only [List.reverse_nil,List.map_nil,List.nil_append]at h3;cases vY:DW P n ops.size g.A g.F g.ld g.al recs eh with
 |false=>rw [vY]at h1;cases h1
 |true=>
 rw [vY]at h1;obtain⟨M',n',nv,rfl,h1⟩:=Aof (show DX eh _=some r from h1);unfold DW at vY;simp only [Qb,xz,and_eq_true]at vY;obtain⟨d1,d2,d3⟩:=vY;have RA:∀ {k:Nat} {y:Rc},recs.reverse[k]? =some y->(y.i,y.o)∈g.i4:=by
  intro k y hk;rw [←h3];exact mem_map.2 ⟨y,mem_of_getElem? hk,rfl⟩
 refine⟨bt,M',n',h1,fun X b0 d0 e a w hM hA hX=> ?_⟩;have pd:((M',n')::nv).reverse[E3 recs.reverse]? =some (M',n'):=by
  have hlen:=h2.len;simp only [List.reverse_cons,length_append,List.length_singleton]at hlen⊢;rw [List.getElem?_append_right (by omega),show E3 recs.reverse-nv.reverse.length=0 by omega];rfl
 have lB:∀k,(replicate ops.size false).getD k false=false:=by
  intro k;rw [getD_eq_getD_getElem?];simp only [Array.getElem?_replicate];split<;>rfl
 refine At7 hg rfl h2 h3 (fun {s m} hm=>QL d1 (List.mem_reverse.1 (mem_of_getElem? hm))) (fun {s m k y} qF hk hy hs=> ?_) (fun {p x} hx hw vV=> ?_) hM.res (X:=X) (e0:=e) (fun e' a' w' m vZ kO su hAA=> ?_) ops.size (replicate ops.size false) 0 e a _ ⟨by simp,fun i o ho hi=> ?_,fun k y hk hy hs=>absurd hs (Nat.not_lt_zero _),fun k y hk hy kx=> ?_,Nat.zero_le _,fun m vZ=> ?_,fun i hi _=>hM.new _ (.inl (Nat.le_add_right _ _)),hA.size,hA.defers,fun k y t hk hy kx=> ?_,fun t av ht _=> ?_⟩ (Az.refl e) ?_
 ·cases gV:g.al with
  |false=>
   have:=hg.al gV _ (RA hk);unfold Rc.alloc at hy;rw [this]at hy;simp at hy
  |true=>
   rw [gV]at d2;have h1:=U3 (show allI _ _ 0=true from d2) qF;have h2:=U3 h1 hk;rw [Nat.zero_add,hy,show ble s y.s=true from Nat.ble_eq_true_of_le hs]at h2;exact Ayy h2
 ·cases RB:g.ld with
  |false=>exact .inl (hg.ld RB _ (RA hx) (Awe vV))
  |true=>
   cases hb:V3 g.F x.i with
   |true=>exact .inl rfl
   |false=>
    refine .inr fun {s m} qF hpo=> ?_
    rw [RB]at d3;have h4:=U3 (show allI _ _ 0=true from d3) hx;simp only [hw,vV,hb,Bool.and_self,Bool.not_false,cond_true]at h4;have h5:=U3 h4 qF;rw [Nat.zero_add,hpo]at h5;exact h5
 ·rw [pd]at vZ;cases vZ
  exact hX e' a' w' kO su hAA
 ·rw [lB]at hi;cases hi
 ·rw [lB]at kx;cases kx
 ·rw [h2.first]at vZ;cases vZ
  exact⟨M.get,⟨fun k y hk hy kx=>by (rw [lB]at kx;cases kx),fun j _=>rfl,(hM.drew _).more (Nat.le_add_right _ _)⟩⟩
 ·rw [lB]at kx;cases kx
 ·have:=hA.tm.at_ t av ht;rw [hA.size]at this;exact this
 ·refine le_trans (List.length_filter_le _ _) (by simp)
theorem Arr {P:Program} {call:A9 R} {sz:Nat} {ops:Array Oper} {tm:Tm} {M:Tr aI} {n:Nat} {K:Tm->Tr aI->Nat->Option R} {r:R} (h:(Xs P sz ops).get call tm M n K=some r):∀(i:Nat) (o:Oper),ops[i]? =some o->Bc o=true:=by
 intro i o ho;unfold Xs at h;cases hd:ops.toList.all Bc with
 |true=>exact List.all_eq_true.1 hd o (by simpa using Array.mem_of_getElem? ho)
 |false=>rw [hd]at h;cases h
theorem At9 {P:Program} {call:A9 R} (dq:E0 P call) {sz:Nat} {ops:Array Oper} {tm:Tm} {M:Tr aI} {n:Nat} {K:Tm->Tr aI->Nat->Option R} {r:R} (h:(Xs P sz ops).get call tm M n K=some r): ∃bt M' n',K bt M' n'=some r/\∀(X:Exit->Act->World->Prop) b0 d0 e a w,Bb b0 e M.get n w->Jt sz d0 e tm a->(∀e' a' w',Az e e'->Bb b0 e' M'.get n' w'->Jt sz d0 e' bt a'->X .normal a' w')->wpAny P .any ops X ops.size (replicate ops.size false) a { w with drawn:=w.drawn+1 } :=by
 unfold Xs at h;cases hd:ops.toList.all Bc with
 |false=>rw [hd]at h;cases h
 |true=>
 rw [hd]at h;simp only [cond_true]at h;split at h
 case h_2=>cases h
 rename_i A i4 F ld al hr;have hg:=Atk hr;simp only [ur]at h;cases ld<;>cases al<;>exact At8 dq hg h
variable {R:Type}
abbrev tn (R:Type):Type:=Tm->Tr aI->Nat->(hH->Tm->Tr aI->Nat->Option R)->Option R
abbrev Jo (R:Type):Type:=A9 R->tn R
def EH (f g:Jo R):Jo R:=fun call tm M n K=>f call tm M n fun ex tm M n=>hH.casesOn (motive:=fun _=>Option R) ex (g call tm M n K) (K .ret tm M n) (fun i=>K (.exit i) tm M n)
def RC (f:mM R):Jo R:=fun call tm M n K=>f call tm M n fun tm M n=>K .normal tm M n
def RD (f:mM R) (g:Jo R):Jo R:=fun call tm M n K=>f call tm M n fun tm M n=>g call tm M n K
def Baf (x y:Bx (Jo R)) (gc:Tm->Option AV):Jo R:=fun call tm M n K=>uj (gc tm) fun b=>ef b (iJ x fun f=>f call tm M n K) (iJ y fun f=>f call tm M n K)
def Ay3 (id:Nat) (f:Jo R):Jo R:=fun call tm M n K=>f call tm M n fun ex tm M n=>hH.casesOn (motive:=fun _=>Option R) ex (K .normal tm M n) (K .ret tm M n) (fun i=>ef (Nat.beq i id) (K .normal tm M n) (K (.exit i) tm M n))
abbrev tp (R:Type):Type:=tn R->Tm->Tr aI->Nat->(hH->Tm->Tr aI->Nat->Option R)->(Tm->Tr aI->Nat->Option R)->Option R
def RE:tp R:=fun body tm M n K N=>body tm M n fun ex tm M n=>hH.casesOn (motive:=fun _=>Option R) ex (N tm M n) (K .ret tm M n) (fun i=>K (.exit i) tm M n)
def RF (i:tp R):tp R:=fun body tm M n K N=>i body tm M n K fun tm M n=>i body tm M n K N
def yU:Nat->Bx (tp R)
 |0=>⟨RE⟩|j+1=>b1 RF (yU j)
def RG (i:tp R) (f:Jo R):Jo R:=fun call tm M n K=>i (f call) tm M n K fun _ _ _=>none
def RH:Jo R:=fun _ _ _ _ _=>none
def EI (v:Value) (f:FuncId->List AV->Option R):Option R:=match v with
 | .func (.func g) ⟨[]⟩ ⟨l⟩=>fL (l.map .lit) fun l=>f g l
 |_=>none
def RI (x:AV) (f:FuncId->List AV->Option R):Option R:=AV.casesOn (motive_1:=fun _=>Option R) x (fun v=>EI v f) (fun _ _=>none) (fun _ _ _ _ _ _=>none) (fun _=>none) (fun _=>none) (fun g first kf=>List.casesOn (motive:=fun _=>Option R) first (f g kf) (fun _ _=>none)) (fun _=>none) (fun _ _=>none) (fun _=>none) (fun _ _ _=>none) none (fun _ _ _ _=>none)
def v7 (x:aI) (f:Tm->Nat->List Nat->Code->Code->Nat->hH->Option R):Option R:=aI.casesOn (motive:=fun _=>Option R) x (fun _ _=>none) (fun _ _=>none) (fun r=>Z5.casesOn (motive:=fun _=>Option R) r f)
def RJ (P:Program) (sz:Nat) (ps:List Nat) (assign body:Code) (gf:Tm->Option AV):Jo R:=fun call tm M n K=>oK (gf tm) fun f=>RI f fun g kf=>ef (an (ble (Nat.succ g) YB) (Cc P g)) (iJ (Tr.sB n) fun s=>s M (some (.loop ⟨tm,sz,ps,assign,body,0,.normal⟩)) fun M1=>fN (Nat.succ n) fun n1=>call g (.yield n::kf) M1 n1 fun _ M2 n2=>oK ((Tr.gB n).get M2) fun x=>v7 x fun _ _ _ _ _ st ot=>ef (no (Nat.beq st 1)) (iJ (Tr.sB n) fun s=>s M2 none fun M3=>hH.casesOn (motive:=fun _=>Option R) ot (K .normal tm M3 n2) (K .ret tm M3 n2) (fun i=>K (.exit i) tm M3 n2)) none) none
def Fj (P:Program) (sz:Nat) (lf:Nat) (cy:Bool):Code->Bx (Jo R)
 | .skip=>⟨fun _ tm M n K=>K .normal tm M n⟩
 | .label _=>⟨fun _ tm M n K=>K .normal tm M n⟩
 | .ret=>⟨fun _ tm M n K=>K .ret tm M n⟩
 | .exit id=>⟨fun _ tm M n K=>K (.exit id) tm M n⟩
 | .seq x y=>match x with
  | .region _ ops false=>b2 RD (R4 P sz ops ops.toList) (Fj P sz lf cy y)| .region _ ops true=>b2 RD (Xs P sz ops) (Fj P sz lf cy y)|_=>b2 EH (Fj P sz lf cy x) (Fj P sz lf cy y)
 | .cond c x y=>b1 (Baf (Fj P sz lf cy x) (Fj P sz lf cy y)) (cR c)| .block id c=>b1 (Ay3 id) (Fj P sz lf cy c)| .loop c=>b2 RG (yU lf) (Fj P sz lf cy c)| .scope c=>Fj P sz lf cy c| .region _ ops false=>b1 RC (R4 P sz ops ops.toList)| .region _ ops true=>b1 RC (Xs P sz ops)| .rangeFunc f ps assign body=>cond cy ⟨RH⟩ (b1 (RJ P sz ps.toList assign body) (cR f))|_=>⟨RH⟩
def Ow (b:Base) (ds:List Nat):Prop:=ds.Nodup/\∀D∈ds,b.X D/\b.w.heap[D]? =some (.deferred (some []))
structure Ext (b:Base) (ds:List Nat) (b':Base) (cb:List Nat):Prop where
 kept:Kept b b'.w
 X:∀k,b.X k->b'.X k
 R:b'.R=b.R
 new:∀D∈cb,D∈ds\/¬b.X D
theorem Ext.refl (b:Base) (ds:List Nat):Ext b ds b ds:=⟨⟨rfl,rfl,rfl,le_refl _,fun _ _=>rfl⟩,fun _ h=>h,rfl,fun _ h=> .inl h⟩
theorem Ext.trans {b b1 b2:Base} {ds nM EJ:List Nat} (h:Ext b ds b1 nM) (k:Ext b1 nM b2 EJ):Ext b ds b2 EJ:=
 ⟨⟨k.kept.os.trans h.kept.os,k.kept.tape.trans h.kept.tape,k.kept.output.trans h.kept.output,le_trans h.kept.size k.kept.size,fun j hj=>(k.kept.block j (h.X j hj)).trans (h.kept.block j hj)⟩,fun j hj=>k.X j (h.X j hj),k.R.trans h.R,fun D hD=>by
   rcases k.new D hD with h1|h1
   ·exact h.new D h1
   ·exact .inr fun h2=>h1 (h.X D h2)⟩
def Q0 (cy:Bool) (sz:Nat) (b0:Base) (ds:List Nat) (e:Env) (bt:Tm) (M':Tr aI) (n':Nat) (a':Act) (w':World):Prop:=∃e' b' cb,Az e e'/\Ext b0 ds b' cb/\(cy=true->b'=b0/\cb=ds)/\Bb b' e' M'.get n' w'/\Jt sz (cb.map mk) e' bt a'/\Ow b' cb
theorem Q0.later {cy:Bool} {sz:Nat} {b0 b1:Base} {ds nM:List Nat} {e e1:Env} {bt:Tm} {M':Tr aI} {n':Nat} {a':Act} {w':World} (hl:Az e e1) (hx:Ext b0 ds b1 nM) (hr:cy=true->b1=b0/\nM=ds) (h:Q0 cy sz b1 nM e1 bt M' n' a' w'):Q0 cy sz b0 ds e bt M' n' a' w':=by
 obtain⟨e',b',cb,h1,h2,h3,h4⟩:=h;exact⟨e',b',cb,hl.trans h1,hx.trans h2,fun hh=>⟨(h3 hh).1.trans (hr hh).1,(h3 hh).2.trans (hr hh).2⟩,h4⟩
def yV (cy:Bool) (G:Fence):Prop:=Vc.Good G/\(cy=false->G=Fence.wide)
def Baj (P:Program) (cy:Bool) (sz:Nat) (c:Code) (tm:Tm) (M:Tr aI) (n:Nat) (ex:hH) (bt:Tm) (M':Tr aI) (n':Nat):Prop:=∀(G:Fence) (n0:Nat) b0 ds e a w,yV cy G->Bb b0 e M.get n w->Jt sz (ds.map mk) e tm a->Ow b0 ds->c.wpIn G n0 P (fun x a' w'=>x=ex.nD/\Q0 cy sz b0 ds e bt M' n' a' w') a w
def Mv (P:Program) (cy:Bool) (sz:Nat) (c:Code) (body:tn R):Prop:=∀tm M n K r,body tm M n K=some r->∃ex bt M' n',K ex bt M' n'=some r/\Baj P cy sz c tm M n ex bt M' n'
theorem Kt {cy:Bool} {sz:Nat} {b0:Base} {ds:List Nat} {e e':Env} {tm:Tm} {M:Tr aI} {n:Nat} {a:Act} {w:World} (hl:Az e e') (hM:Bb b0 e' M.get n w) (hA:Jt sz (ds.map mk) e' tm a) (hD:Ow b0 ds):Q0 cy sz b0 ds e tm M n a w:=
 ⟨e',b0,ds,hl,Ext.refl _ _,fun _=>⟨rfl,rfl⟩,hM,hA,hD⟩
theorem Al8 {A A':Act->World->Prop} {Q Q':Exit->Act->World->Prop} (h1:∀a w,A a w->A' a w) (h2:∀x a w,Q x a w->Q' x a w):∀x a w,Exit.then A Q x a w->Exit.then A' Q' x a w:=by
 intro x a w h;cases x<;>first|exact h1 _ _ h|exact h2 _ _ _ h
theorem Sa {G:Fence} {n0:Nat} {P:Program} {c:Code} {Q Q':Exit->Act->World->Prop} (hq:∀x a w,Q x a w->Q' x a w):∀(k:Nat) {a:Act} {w:World},Code.roundsIn G n0 P c Q k a w->Code.roundsIn G n0 P c Q' k a w
 |0,_,_,h=>h
 |k+1,_,_,h=>by
  rw [roundsIn_succ]at h⊢;exact wpIn_mono h (Al8 (fun _ _=>Sa hq k) hq)
def Bak (P:Program) (cy:Bool) (sz:Nat) (c:Code) (k:Nat) (tm:Tm) (M:Tr aI) (n:Nat) (bt:Tm) (M':Tr aI) (n':Nat):Prop:=∀(G:Fence) (n0:Nat) (Q:Exit->Act->World->Prop) (m:Nat) b0 ds e a w,yV cy G->Bb b0 e M.get n w->Jt sz (ds.map mk) e tm a->Ow b0 ds->(∀a' w',Q0 cy sz b0 ds e bt M' n' a' w'->Code.roundsIn G n0 P c Q m a' w')->Code.roundsIn G n0 P c Q (k+m) a w
def RK (P:Program) (cy:Bool) (sz:Nat) (c:Code) (tm:Tm) (M:Tr aI) (n:Nat) (ex:hH) (bt:Tm) (M':Tr aI) (n':Nat):Prop:=∃k,∀(G:Fence) (n0:Nat) b0 ds e a w,yV cy G->Bb b0 e M.get n w->Jt sz (ds.map mk) e tm a->Ow b0 ds->Code.roundsIn G n0 P c (fun x a' w'=>x=ex.nD/\Q0 cy sz b0 ds e bt M' n' a' w') k a w
def yW (P:Program) (cy:Bool) (sz:Nat) (c:Code) (k:Nat) (it:Tm->Tr aI->Nat->(hH->Tm->Tr aI->Nat->Option R)->(Tm->Tr aI->Nat->Option R)->Option R):Prop:=∀ {tm M n K N r},it tm M n K N=some r->(∃ex bt M' n',K ex bt M' n'=some r/\RK P cy sz c tm M n ex bt M' n')\/ ∃bt M' n',N bt M' n'=some r/\Bak P cy sz c k tm M n bt M' n'
theorem Awp {P:Program} {cy:Bool} {sz:Nat} {c:Code} {body:tn R} (hb:Mv P cy sz c body):yW P cy sz c 1 (RE body):=by
 intro tm M n K N r h;obtain⟨ex,iy,M1,n1,h1,h2⟩:=hb _ _ _ _ _ h;have out:∀ {y:hH},y.nD≠.normal->ex=y->K y iy M1 n1=some r->∃ex bt M' n',K ex bt M' n'=some r/\RK P cy sz c tm M n ex bt M' n':=by
  intro y hy hex hk;subst hex;refine⟨ex,iy,M1,n1,hk,1,fun G n0 b0 ds e a w hG hM hA hD=> ?_⟩;rw [roundsIn_succ];refine wpIn_mono (h2 G n0 b0 ds e a w hG hM hA hD) ?_;rintro x a' w' ⟨rfl,hx⟩;cases RL:ex.nD with
  |normal=>exact absurd RL hy
  |_=>exact⟨RL▸rfl,hx⟩
 cases ex with
 |normal=>
  refine .inr ⟨iy,M1,n1,h1,fun G n0 Q m b0 ds e a w hG hM hA hD hN=> ?_⟩;rw [Nat.add_comm,roundsIn_succ];refine wpIn_mono (h2 G n0 b0 ds e a w hG hM hA hD) ?_;rintro x a' w' ⟨rfl,hp⟩;exact hN a' w' hp
 |ret=>exact .inl (out (by simp [hH.nD]) rfl h1)
 |exit id=>exact .inl (out (by simp [hH.nD]) rfl h1)
theorem Awq {P:Program} {cy:Bool} {sz:Nat} {c:Code} {k:Nat} {i:tp R} {body:tn R} (hi:yW P cy sz c k (i body)):yW P cy sz c (k+k) (RF i body):=by
 intro tm M n K N r h;rcases hi h with h1|⟨iy,M1,n1,h1,h2⟩
 ·exact .inl h1
 ·rcases hi h1 with⟨ex,bt,M',n',h3,m,h4⟩|⟨bt,M',n',h3,h4⟩
  ·refine .inl ⟨ex,bt,M',n',h3,k+m,fun G n0 b0 ds e a w hG hM hA hD=>h2 G n0 _ m b0 ds e a w hG hM hA hD fun a' w' hp=> ?_⟩;obtain⟨e',b',cb,g1,g2,g3,g4,g5,g6⟩:=hp;exact Sa (fun x a w ⟨hx,hp⟩=>⟨hx,hp.later g1 g2 g3⟩) m (h4 G n0 b' cb e' a' w' hG g4 g5 g6)
  ·refine .inr ⟨bt,M',n',h3,fun G n0 Q m b0 ds e a w hG hM hA hD hN=> ?_⟩;rw [Nat.add_assoc];refine h2 G n0 Q (k+m) b0 ds e a w hG hM hA hD fun a' w' hp=> ?_
   obtain⟨e',b',cb,g1,g2,g3,g4,g5,g6⟩:=hp;exact h4 G n0 Q m b' cb e' a' w' hG g4 g5 g6 fun jI jm jH=>hN jI jm (jH.later g1 g2 g3)
theorem RM {P:Program} {cy:Bool} {sz:Nat} {c:Code} {body:tn R} (hb:Mv P cy sz c body):∀j,yW P cy sz c (2^j) ((yU j).get body)
 |0=>Awp hb
 |j+1=>by
  rw [Nat.pow_succ,Nat.mul_two];exact Awq (RM hb j)
theorem Auc {P:Program} {cy:Bool} {sz:Nat} {c:Code} {f:Jo R} {call:A9 R} (hb:Mv P cy sz c (f call)) (j:Nat):Mv P cy sz (.loop c) (RG (yU j).get f call):=by
 intro tm M n K r h;rcases RM hb j h with⟨ex,bt,M',n',h3,k,h4⟩|⟨_,_,_,h1,_⟩
 ·exact⟨ex,bt,M',n',h3,fun G n0 b0 ds e a w hG hM hA hD=>wpIn_loop_rounds k (h4 G n0 b0 ds e a w hG hM hA hD)⟩
 ·cases h1
theorem Awr {P:Program} {cy:Bool} {sz:Nat} {x y:Code} {f g:Jo R} {call:A9 R} (hf:Mv P cy sz x (f call)) (hg:Mv P cy sz y (g call)):Mv P cy sz (.seq x y) (EH f g call):=by
 intro tm M n K r h;obtain⟨ex,iy,M1,n1,h1,h2⟩:=hf _ _ _ _ _ h;cases ex with
 |normal=>
  obtain⟨ex,bt,M',n',h3,h4⟩:=hg _ _ _ _ _ h1;refine⟨ex,bt,M',n',h3,fun G n0 b0 ds e a w hG hM hA hD=>wpIn_seq (wpIn_mono (h2 G n0 b0 ds e a w hG hM hA hD) ?_)⟩;rintro x a' w' ⟨rfl,e',b',cb,g1,g2,g3,g4,g5,g6⟩;exact wpIn_mono (h4 G n0 b' cb e' a' w' hG g4 g5 g6) fun x a w ⟨hx,hp⟩=>⟨hx,hp.later g1 g2 g3⟩
 |ret=>exact⟨.ret,iy,M1,n1,h1,fun G n0 b0 ds e a w hG hM hA hD=>wpIn_seq (wpIn_mono (h2 G n0 b0 ds e a w hG hM hA hD) (by rintro x a' w' ⟨rfl,hx⟩;exact⟨rfl,hx⟩))⟩
 |exit id=>exact⟨.exit id,iy,M1,n1,h1,fun G n0 b0 ds e a w hG hM hA hD=>wpIn_seq (wpIn_mono (h2 G n0 b0 ds e a w hG hM hA hD) (by rintro x a' w' ⟨rfl,hx⟩;exact⟨rfl,hx⟩))⟩
theorem Al9 {v:Value} {f:FuncId->List AV->Option R} {r:R} (h:EI v f=some r):∃g l,v= .func (.func g) #[] ⟨l⟩/\f g (l.map .lit)=some r:=by
 unfold EI at h;split at h
 ·rw [R0]at h;exact⟨_,_,rfl,h⟩
 ·cases h
theorem Ars {x:AV} {f:FuncId->List AV->Option R} {r:R} (h:RI x f=some r):∃g kf,f g kf=some r/\∀e v,x.rep e v->∃us,v= .func (.func g) #[] ⟨us⟩/\AV.bF e kf us:=by
 cases x with
 |lit v=>
  obtain⟨g,l,rfl,h'⟩:=Al9 h;exact⟨g,_,h',fun e v hv=>by simp only [AV.rep]at hv;exact⟨l,hv,Ky l⟩⟩
 |func g first kf=>
  cases first with
  |nil=>
   refine⟨g,kf,h,fun e v hv=> ?_⟩;simp only [AV.rep,AV.bF]at hv;obtain⟨vs,us,h1,rfl,h2⟩:=hv;exact⟨us,h1,h2⟩
  |cons a l=>cases h
 |_=>cases h
theorem Ox {x:aI} {f:Tm->Nat->List Nat->Code->Code->Nat->hH->Option R} {r:R} (h:v7 x f=some r):∃l:Z5,x= .loop l/\f l.tm l.sz l.ps l.assign l.body l.st l.ot=some r:=by
 cases x with
 |loop l=>exact⟨l,rfl,h⟩
 |_=>cases h
theorem Oy {P:Program} {g:FuncId} (eu:Cc P g=true) (args:Array Value) (w:World):(callFunc g args).run P w= .ok (.enter g args) w:=by
 unfold Cc at eu;split at eu
 ·rename_i f hf;simp only [and_eq_true,not_eq_true']at eu;have hb:f.body.isNone=false:=by cases tN:f.body<;>simp_all
  simp only [callFunc,Sem.run_bind,run_program,Result.andThen_ok,hf,eu.2,Bool.false_eq_true,if_false,hb,Sem.run_pure]
 ·cases eu
theorem U6 (w:World) (B:Nat) (o:Obj):w.grownBy (w.putObj B o) (some B):=grownBy_putObj' w B o
theorem Bb.loop {b0:Base} {w:World} {e:Env} {M:Tr aI} {n b B t:Nat} {r r':Z5} {S S':Loop} {M':Tr aI} (h:Bb b0 e M.get n w) (hx:M.get b=some (.loop r)) (he:e b=some (B,t)) (hS:w.heap[B]? =some (.loop S)) (hB:¬b0.X B) (hM:∀j,M'.get j=if j=b then some (.loop r')else M.get j) (hr:sa e r' S'):Bb b0 e M'.get n (w.putObj B (.loop S')):=
 h.kB hx he hB (U6 w B _) hM ⟨B,t,S',he,World.putObj_heap_same (Array.getElem?_eq_some_iff.1 hS).1,hr,hB⟩
theorem Bb.getLoop {b0:Base} {w:World} {e:Env} {M:Tr aI} {n b B t:Nat} {r:Z5} (h:Bb b0 e M.get n w) (hx:M.get b=some (.loop r)) (he:e b=some (B,t)):∃S,w.heap[B]? =some (.loop S)/\sa e r S/\¬b0.X B:=by
 obtain⟨B',t',S,h1,h2,h3,h4⟩:=h.bG b _ hx;rw [he]at h1;cases h1;exact⟨S,h2,h3,h4⟩
theorem Art {P:Program} {call:A9 R} (dq:E0 P call) {sz:Nat} {f:Operand} {ps:Array Tmp} {assign body:Code} :Mv P false sz (.rangeFunc f ps assign body) (RJ P sz ps.toList assign body (cR f).get call):=by
 intro tm M n K r h;obtain⟨av,hf,h⟩:=Bp h;rw [Eu]at hf;obtain⟨g,kf,h,pT⟩:=Ars h;obtain⟨yX,h⟩:=Jg h;rw [Qb,and_eq_true]at yX;obtain⟨M1,h,vU⟩:=Tr.jn (f:=FU) (show Tr.iK FU M n _ _=some r from h);rw [Ew]at h;obtain⟨z9,M2,n2,h,sd⟩:=dq _ _ _ _ _ _ h;obtain⟨x,hx,h⟩:=Bp h;obtain⟨l2,rfl,h⟩:=Ox h;obtain⟨dU,h⟩:=Jg h;obtain⟨M3,h,EK⟩:=Tr.jn (f:=FU) (show Tr.iK FU M2 n _ _=some r from h);have dU:l2.st≠1:=fun e=>by rw [uu,e]at dU;cases dU
 have hx:M2.get n=some (.loop l2):=hx;have sd:=sd.1 (le_of_ble_eq_true yX.1);refine⟨l2.ot,tm,M3,n2,by cases hp:l2.ot<;>rw [hp]at h<;>exact h,fun G n0 b0 ds e a w hG hM hA hD=> ?_⟩;have zZ:=hG.2 rfl;subst zZ;obtain⟨us,mj,iL⟩:=pT e _ (Zi hA.tm hf);refine wpIn_rangeFunc fun fn _=> ?_
 obtain⟨D,ql⟩:∃D,D=w.heap.size:=⟨_,rfl⟩
 obtain⟨S,hS⟩:∃S:Loop,S= { state:= .ready,pending:=none,fn,tmps:=a.tmps,params:=ps,assign,body,defers:=w.heap.size } :=⟨_,rfl⟩
 have v8:∀ {k},b0.X k->k<D:=fun hk=>by rw [ql];exact Nat.lt_of_lt_of_le (b0.lt _ hk) hM.kept.size
 let wD:World:=w.alloc (.deferred (some []))
 have yY:wD.heap.size=D+1:=by rw [ql];exact World.size_alloc _ _
 let b1:Base:=⟨wD,fun k=>b0.X k\/k=D,fun k hk=>by
  rw [yY];rcases hk with hk|hk
  ·have:=v8 hk;omega
  ·omega,b0.R⟩
 have hold:∀ {k},k<D->wD.heap[k]? =w.heap[k]? :=fun hk=>by
  have:=World.grownBy_alloc w (.deferred (some [])) none;exact this.block _ (by omega) (by simp)
 have EL:=World.grownBy_alloc w (.deferred (some [])) none;have Brc:wD.heap[D]? =some (.deferred (some [])):=by rw [ql];exact World.alloc_heap_new w _
 have kU:Kept b0 wD:=⟨EL.os.trans hM.kept.os,EL.tape.trans hM.kept.tape,EL.output.trans hM.kept.output,le_trans hM.kept.size (by rw [yY];omega),fun k hk=>(hold (v8 hk)).trans (hM.kept.block k hk)⟩
 have xc:Bb b1 e M.get n wD:=by
  refine⟨hM.new,hM.res,fun b x hb=> ?_,hM.eO,⟨rfl,rfl,rfl,le_refl _,fun _ _=>rfl⟩⟩;have v9:=hM.bG b x hb;obtain⟨B',t',g1,g2,_⟩:=v9.at;refine v9.aP (Az.refl e) (fun B t hB hX hc=> ?_) fun B t hB=> ?_
  ·rw [g1]at hB;cases hB;rcases hc with hc|hc
   ·exact hX hc
   ·omega
  ·rw [g1]at hB;cases hB;exact hold (by omega)
 have jo:e n=none:=hM.new n (.inl (le_refl _));have Brd:Bb b1 (e.put n (wD.heap.size,0)) M1.get (n+1) (wD.alloc (.loop S)):=by
  refine xc.push rfl jo (fun h=>Nat.lt_irrefl _ (hM.res n h)) (Nat.le_succ n) (Nat.lt_succ_self n) vU ⟨wD.heap.size,0,S,Gd _ _ _,World.alloc_heap_new _ _,?_,fun hc=> ?_⟩
  ·rw [hS];exact⟨rfl,rfl,hA.size,fun t av ht=>⟨(hA.tm.at_ t av ht).1,E6 (Az.put jo _) (hA.tm.at_ t av ht).2⟩,rfl,rfl,rfl⟩
  ·rcases hc with hc|hc
   ·have:=v8 hc;omega
   ·omega
 have RN:AV.bF (e.put n (wD.heap.size,0)) (.yield n::kf) (.func (.yield (D+1)) #[] #[]::us):=by
  simp only [AV.bF];exact⟨_,_,rfl,by simp only [AV.rep];exact⟨_,_,Gd _ _ _,by rw [yY]⟩,Ej (Az.put jo _) iL⟩
 refine⟨D+1,[mk D],wD.alloc (.loop S),{ target:= .fn (.func g) ⟨us⟩,args:= #[.func (.yield (D+1)) #[] #[]] },wD.alloc (.loop S),g,#[.func (.yield (D+1)) #[] #[]]++⟨us⟩,wD.alloc (.loop S),?_,?_,fun _ _=>trivial,?_,fun h=>(by cases h),callsIn_wide.2 ?_⟩
 ·rw [hS,ql];exact run_enterLoop_outer _ _ _ _ _
 ·simp only [resolve,mj];simp [go_sem]
 ·simp [invoke,go_sem,Oy yX.2]
 have hc:=sd b1 _ _ _ Brd RN (fun v w'=>rangePost Fence.wide n0 P (D+1) (fun x a' w'=>x=l2.ot.nD/\Q0 false sz b0 ds e tm M3 n2 a' w') { a with defers:=[mk D]++a.defers } (.returned v) w') ?_
 ·rw [Oy yX.2]at hc;have e1:(⟨.func (.yield (D+1)) #[] #[]::us⟩:Array Value)= #[.func (.yield (D+1)) #[] #[]]++⟨us⟩:=by apply ext';simp
  rw [e1]at hc;refine Calls.mono (hc:Calls P g _ _ _) fun en w' h=> ?_
  cases en with
  |returned v=>exact h
  |panicked c=>exact(h:False).elim
  |outgrown=>exact(h:False).elim
 ·intro e2 v w2 kX RO _;have EM:e2 n=some (D+1,0):=by have:=kX n _ (Gd _ _ _);rwa [yY]at this
  obtain⟨S2,v_,ky,qm⟩:=RO.getLoop hx EM;have Bpd:S2.state≠.busy:=by
   rw [ky.state]
   match hs:l2.st with
   |0=>simp [py]
   |1=>exact absurd hs dU
   |2=>simp [py]
   |k+3=>simp [py]
  have pH:=run_endLoop (P:=P) v_ Bpd;refine⟨S2.pending,_,pH,?_⟩;have EN:Bb b1 e2 M3.get n2 (w2.putObj (D+1) (.loop { S2 with state:= .exhausted })):=by
   obtain⟨M4,RP⟩:∃M4:Mm,∀j,M4 j=if j=n then some (.loop { l2 with st:=3 })else M2.get j:=⟨_,fun j=>rfl⟩
   have h4:Bb b1 e2 M4 n2 (w2.putObj (D+1) (.loop { S2 with state:= .exhausted })):=
    RO.kB hx EM qm (U6 w2 _ _) RP ⟨_,_,_,EM,World.putObj_heap_same (Array.getElem?_eq_some_iff.1 v_).1,⟨rfl,ky.pending,ky.size,ky.tmps,ky.params,ky.assign,ky.body⟩,qm⟩
   refine h4.sub fun j z hz=> ?_
   rw [EK]at hz;split at hz
   ·cases hz
   ·rename_i hj;rw [RP,if_neg hj];exact hz
  have kO:Az e e2:=(Az.put jo _).trans kX;have xJ:∀D'∈D::ds,D'∈ds\/¬b0.X D':=by
   intro D' h';rcases mem_cons.1 h' with rfl|h'
   ·exact .inr fun hc=>by have:=v8 hc;omega
   ·exact .inl h'
  have wb:Q0 false sz b0 ds e tm M3 n2 { a with defers:=[mk D]++a.defers } (w2.putObj (D+1) (.loop { S2 with state:= .exhausted })):=by
   refine⟨e2,b1,D::ds,kO,⟨kU,fun k hk=> .inl hk,rfl,xJ⟩,nofun,EN,⟨⟨fun t av ht=> ?_⟩,hA.size,by simp [hA.defers]⟩,List.nodup_cons.2 ⟨fun hc=> ?_,hD.1⟩,fun D' h'=> ?_⟩
   ·exact⟨(hA.tm.at_ t av ht).1,E6 kO (hA.tm.at_ t av ht).2⟩
   ·have:=v8 (hD.2 D hc).1;omega
   ·rcases mem_cons.1 h' with rfl|h'
    ·exact⟨.inr rfl,Brc⟩
    ·have RQ:=(hD.2 D' h').1;exact⟨.inl RQ,(kU.block D' RQ).trans (hD.2 D' h').2⟩
  have hpe:=ky.pending
  revert wb
  generalize w2.putObj (D+1) (.loop { S2 with state:= .exhausted })=w5;intro wb;rw [hpe];cases hlp:l2.ot with
  |normal=>exact⟨rfl,wb⟩
  |ret=>exact wpIn_ret ⟨rfl,wb⟩
  |exit i=>exact wpIn_exit ⟨rfl,wb⟩
theorem Hg {P:Program} {b:Frame} {a:Act} {k:List Item} {cs:List Frame} {w:World} {c:Code} :step P (lone (b.atR a (.code (.scope c)::k)) cs w)= .next (lone (b.atR a (.code c::.inScope c::k)) cs w):=
 step_lone_go (by simp [stepG,stepG.exec,Frame.atR])
theorem Aen {P:Program} {b:Frame} {a:Act} {k:List Item} {cs:List Frame} {w:World} {c:Code} :step P (lone (b.atR a (.inScope c::k)) cs w)= .next (lone (b.atR a k) cs w):=
 step_lone_go (by simp [stepG,stepG.exec,Frame.atR])
theorem Aoh {F:Fence} {n:Nat} {P:Program} {c:Code} {Q:Exit->Act->World->Prop} {a:Act} {w:World} (hn:∀l a w,¬Q (.goto l) a w) (h:c.wpIn F n P Q a w):(Code.scope c).wpIn F n P Q a w:=by
 intro b k cs hro hb hr;have h0:(lone (b.atR a (.code (.scope c)::k)) cs w).fenced P F:=fenced_calm hb hr rfl;obtain⟨e,a₁,w₁,hq,tq⟩:=h b (.inScope c::k) cs hro hb hr;cases e with
 |normal=>exact⟨.normal,a₁,w₁,hq,.head h0 Hg (StepsIn.trans tq (.one (fenced_calm hb hr rfl) Aen))⟩
 |exit id=>
  have hx:exitTo id (.inScope c::k)=exitTo id k:=by simp [exitTo]
  exact⟨.exit id,a₁,w₁,hq,fun k' hk=> .head h0 Hg (tq.1 k' (by rw [hx];exact hk)),
   fun mi hk=>let ⟨k₁,h1,h2⟩:=tq.2 mi (by rw [hx];exact hk);⟨k₁,h1,.head h0 Hg h2⟩⟩
 |goto l=>exact absurd hq (hn l a₁ w₁)
 |ret=>exact⟨_,a₁,w₁,hq,.of_steps (.one h0 Hg) tq⟩
 |panic ch=>exact⟨_,a₁,w₁,hq,.of_steps (.one h0 Hg) tq⟩
 |outgrown=>exact⟨_,a₁,w₁,hq,.of_steps (.one h0 Hg) tq⟩
theorem EO {P:Program} {call:A9 R} (dq:E0 P call) (hm:P.follows .mixedOrders=true) {sz lf:Nat} {cy:Bool} :∀(c:Code),Mv P cy sz c ((Fj P sz lf cy c).get call):=by
 intro c
 induction c with
 |skip=>exact fun tm M n K r h=>⟨.normal,tm,M,n,h,fun G n0 b0 ds e a w hG hM hA hD=>wpIn_skip ⟨rfl,Kt (Az.refl e) hM hA hD⟩⟩
 |label l=>exact fun tm M n K r h=>⟨.normal,tm,M,n,h,fun G n0 b0 ds e a w hG hM hA hD=>wpIn_label ⟨rfl,Kt (Az.refl e) hM hA hD⟩⟩
 |ret=>exact fun tm M n K r h=>⟨.ret,tm,M,n,h,fun G n0 b0 ds e a w hG hM hA hD=>wpIn_ret ⟨rfl,Kt (Az.refl e) hM hA hD⟩⟩
 |exit id=>exact fun tm M n K r h=>⟨.exit id,tm,M,n,h,fun G n0 b0 ds e a w hG hM hA hD=>wpIn_exit ⟨rfl,Kt (Az.refl e) hM hA hD⟩⟩
 |seq x y gq gr=>
  have gen:Mv P cy sz (.seq x y) (EH (Fj P sz lf cy x).get (Fj P sz lf cy y).get call):=Awr gq gr;unfold Fj;split
  ·rename_i i ops;intro tm M n K r h;refine gen tm M n K r ?_;exact h
  ·rename_i i ops;intro tm M n K r h;refine gen tm M n K r ?_;exact h
  ·exact gen
 |cond c x y gq gr=>
  intro tm M n K r h;obtain⟨b,hc,h⟩:=Sn (show uj ((cR c).get tm) _=some r from h);rw [Eu]at hc;cases b with
  |true=>
   obtain⟨ex,bt,M',n',h3,h4⟩:=gq _ _ _ _ _ (show(Fj P sz lf cy x).get call tm M n K=some r from h);exact⟨ex,bt,M',n',h3,fun G n0 b0 ds e a w hG hM hA hD=>wpIn_cond_true (by have:=Zi hA.tm hc;simpa only [AV.rep] using this) (h4 G n0 b0 ds e a w hG hM hA hD)⟩
  |false=>
   obtain⟨ex,bt,M',n',h3,h4⟩:=gr _ _ _ _ _ (show(Fj P sz lf cy y).get call tm M n K=some r from h);exact⟨ex,bt,M',n',h3,fun G n0 b0 ds e a w hG hM hA hD=>wpIn_cond_false (by have:=Zi hA.tm hc;simpa only [AV.rep] using this) (h4 G n0 b0 ds e a w hG hM hA hD)⟩
 |block id c ih=>
  intro tm M n K r h;obtain⟨ex,iy,M1,n1,h1,h2⟩:=ih _ _ _ _ _ (show(Fj P sz lf cy c).get call tm M n _=some r from h);cases ex with
  |normal=>exact⟨.normal,iy,M1,n1,h1,fun G n0 b0 ds e a w hG hM hA hD=>wpIn_block (wpIn_mono (h2 G n0 b0 ds e a w hG hM hA hD) (by rintro x a' w' ⟨rfl,hx⟩;exact⟨rfl,hx⟩))⟩
  |ret=>exact⟨.ret,iy,M1,n1,h1,fun G n0 b0 ds e a w hG hM hA hD=>wpIn_block (wpIn_mono (h2 G n0 b0 ds e a w hG hM hA hD) (by rintro x a' w' ⟨rfl,hx⟩;exact⟨rfl,hx⟩))⟩
  |exit i=>
   simp only at h1;cases hi:Nat.beq i id with
   |true=>
    rw [hi]at h1;have:=eq_of_beq_eq_true hi;subst this;exact⟨.normal,iy,M1,n1,h1,fun G n0 b0 ds e a w hG hM hA hD=>wpIn_block (wpIn_mono (h2 G n0 b0 ds e a w hG hM hA hD) (by rintro x a' w' ⟨rfl,hx⟩;show if i=i then _ else _;rw [if_pos rfl];exact⟨rfl,hx⟩))⟩
   |false=>
    rw [hi]at h1;have bZ:i≠id:=fun e=>by subst e;simp at hi
    exact⟨.exit i,iy,M1,n1,h1,fun G n0 b0 ds e a w hG hM hA hD=>wpIn_block (wpIn_mono (h2 G n0 b0 ds e a w hG hM hA hD) (by rintro x a' w' ⟨rfl,hx⟩;show if i=id then _ else _;rw [if_neg bZ];exact⟨rfl,hx⟩))⟩
 |loop c ih=>exact Auc ih lf
 |scope c ih=>
  intro tm M n K r h;obtain⟨ex,iy,M1,n1,h1,h2⟩:=ih _ _ _ _ _ (show(Fj P sz lf cy c).get call tm M n K=some r from h);exact⟨ex,iy,M1,n1,h1,fun G n0 b0 ds e a w hG hM hA hD=>Aoh (fun l a w hq=>by cases ex<;>cases hq.1) (h2 G n0 b0 ds e a w hG hM hA hD)⟩
 |region id ops draw=>
  intro tm M n K r h;cases draw with
  |false=>
   obtain⟨bt,M',n',h3,h6⟩:=BH dq ops.toList 0 (by simp) (show(R4 P sz ops ops.toList).get call tm M n _=some r from h);refine⟨.normal,bt,M',n',h3,fun G n0 b0 ds e a w hG hM hA hD=>wpIn_region ?_⟩;have:=h6 G n0 (fun x a' w'=>x=hH.normal.nD/\Q0 cy sz b0 ds e bt M' n' a' w') b0 (ds.map mk) e a w hG.1 hM hA fun e' a' w' hl fx tr=>⟨rfl,Kt hl fx tr hD⟩
   rw [List.range_eq_range'];simpa using this
  |true=>
   have fI:=Arr (show(Xs P sz ops).get call tm M n _=some r from h);obtain⟨bt,M',n',h3,h6⟩:=At9 dq (show(Xs P sz ops).get call tm M n _=some r from h);refine⟨.normal,bt,M',n',h3,fun G n0 b0 ds e a w hG hM hA hD=> ?_⟩;have:=h6 (B6 fun a' w'=>Q0 cy sz b0 ds e bt M' n' a' w') b0 (ds.map mk) e a w hM hA fun e' a' w' hl fx tr=>Kt hl fx tr hD
   refine wpIn_mono (wpIn_region_any hm (Vz hG.1 fI K2 _ _ _ _ this)) fun x a w h=> ?_
   cases x<;>first|exact⟨rfl,h⟩|exact(h:False).elim
 |rangeFunc f ps assign body _ _=>
  unfold Fj;cases cy with
  |true=>intro tm M n K r h;cases h
  |false=>exact Art dq
 |_=>intro tm M n K r h;cases h
def yZ (sz:Nat):List Nat->List AV->Tm->(Tm->Option R)->Option R
 |[],[],tm,K=>K tm|p::ps,a::az,tm,K=>pO sz tm (some p) a fun tm=>yZ sz ps az tm K
 |_,_,_,_=>none
theorem RR {sz:Nat} :∀ {ps:List Nat} {az:List AV} {tm:Tm} {K:Tm->Option R} {r:R},yZ sz ps az tm K=some r->∃bt,K bt=some r/\ps.length=az.length/\
 ∀e vs (T:Array Value),AV.bF e az vs->Jt sz [] e tm { tmps:=T,defers:=[] } ->Jt sz [] e bt { tmps:=(ps.zip vs).foldl (fun T (x:Nat×Value)=>T.setIfInBounds x.1 x.2) T,defers:=[] }
 |[],[],tm,K,r,h=>⟨tm,h,rfl,fun e vs T hv hA=>by simpa using hA⟩
 |p::ps,a::az,tm,K,r,h=>by
  obtain⟨iy,h1,h2⟩:=A_ (show pO sz tm (some p) a (fun tm=>yZ sz ps az tm K)=some r from h);obtain⟨bt,h3,h4,h5⟩:=RR h1;refine⟨bt,h3,by simp [h4],fun e vs T hv hA=> ?_⟩;simp only [AV.bF]at hv;obtain⟨x,xs,rfl,hx,oL⟩:=hv;exact h5 e xs _ oL (h2 [] e e _ x hA (Az.refl e) hx)
 |[],_::_,_,_,_,h=>by cases h
 |_::_,[],_,_,_,h=>by cases h
def EP (P:Program) (lf:Nat) (call:A9 R) (b:Nat) (az:List AV) (M:Tr aI) (n:Nat) (K:AV->Tr aI->Nat->Option R):Option R:=oK ((Tr.gB b).get M) fun x=>v7 x fun tm sz ps assign body st _=>ef (Nat.beq st 0) (yZ sz ps az tm fun iy=>iJ (Fj P sz lf true assign) fun fa=>fa call iy M n fun ex nw M2 n2=>hH.casesOn (motive:=fun _=>Option R) ex (oK ((Tr.gB b).get M2) fun x2=>v7 x2 fun bt DR ps' az' Bpe rG Bpf=>ef (Nat.beq rG 0) (iJ (Tr.sB b) fun s=>s M2 (some (.loop ⟨bt,DR,ps',az',Bpe,1,Bpf⟩)) fun M3=>iJ (Fj P sz lf true body) fun fb=>fb call nw M3 n2 fun n_ _ M4 n4=>oK ((Tr.gB b).get M4) fun x4=>v7 x4 fun ER ES ET EU EV _ _=>hH.casesOn (motive:=fun _=>Option R) n_ (iJ (Tr.sB b) fun s=>s M4 (some (.loop ⟨ER,ES,ET,EU,EV,0,.normal⟩)) fun M5=>K (.lit (.bool true)) M5 n4) (iJ (Tr.sB b) fun s=>s M4 (some (.loop ⟨ER,ES,ET,EU,EV,2,.ret⟩)) fun M5=>K (.lit (.bool false)) M5 n4) (fun i=>iJ (Tr.sB b) fun s=>s M4 (some (.loop ⟨ER,ES,ET,EU,EV,2,.exit i⟩)) fun M5=>K (.lit (.bool false)) M5 n4)) none) none (fun _=>none)) none
theorem Aru {P:Program} {call:A9 R} (dq:E0 P call) (hm:P.follows .mixedOrders=true) {lf b:Nat} {az:List AV} {M:Tr aI} {n:Nat} {K:AV->Tr aI->Nat->Option R} {r:R} (h:EP P lf call b az M n K=some r):∃av M' n',K av M' n'=some r/\KC P b az M n av M' n':=by
 obtain⟨x,hx,h⟩:=Bp h;obtain⟨l,rfl,h⟩:=Ox h;obtain⟨dU,h⟩:=Jg h;have dU:=eq_of_beq_eq_true dU;obtain⟨iy,h,hlen,cT⟩:=RR h;obtain⟨ex,nw,M2,n2,h,cz⟩:=EO dq hm (cy:=true) l.assign _ _ _ _ _ (show(Fj P l.sz lf true l.assign).get call iy M n _=some r from h);cases ex with
 |ret=>cases h
 |exit i=>cases h
 |normal=>
 obtain⟨x2,mB,h⟩:=Bp (show oK ((Tr.gB b).get M2) _=some r from h);obtain⟨l2,rfl,h⟩:=Ox h;obtain⟨EW,h⟩:=Jg h;have EW:=eq_of_beq_eq_true EW;obtain⟨M3,h,EK⟩:=Tr.jn (f:=FU) (show Tr.iK FU M2 b _ _=some r from h);obtain⟨n_,tm3,M4,n4,h,o1⟩:=EO dq hm (cy:=true) l.body _ _ _ _ _ (show(Fj P l.sz lf true l.body).get call nw M3 n2 _=some r from h);obtain⟨x4,y0,h⟩:=Bp h;obtain⟨l4,rfl,h⟩:=Ox h;have hx:M.get b=some (.loop l):=hx;have mB:M2.get b=some (.loop l2):=mB;have y0:M4.get b=some (.loop l4):=y0;obtain⟨bb,EX,M5,hK,tN,hM5⟩:∃(bb:Bool) (EX:Nat) (M5:Tr aI),K (.lit (.bool bb)) M5 n4=some r/\(bb=n_.jump.isNone/\py EX=if n_.jump.isNone then .ready else .done)/\∀j,M5.get j=if j=b then some (.loop { l4 with st:=EX,ot:=n_ })else M4.get j:=by
  cases n_ with
  |normal=>
   obtain⟨M5,h1,h2⟩:=Tr.jn (f:=FU) (show Tr.iK FU M4 b _ _=some r from h);exact⟨true,0,M5,h1,⟨rfl,rfl⟩,h2⟩
  |ret=>
   obtain⟨M5,h1,h2⟩:=Tr.jn (f:=FU) (show Tr.iK FU M4 b _ _=some r from h);exact⟨false,2,M5,h1,⟨rfl,rfl⟩,h2⟩
  |exit i=>
   obtain⟨M5,h1,h2⟩:=Tr.jn (f:=FU) (show Tr.iK FU M4 b _ _=some r from h);exact⟨false,2,M5,h1,⟨rfl,rfl⟩,h2⟩
 refine⟨_,M5,n4,hK,fun b0 e w vs hM kb B t hB next hk n0=> ?_⟩;obtain⟨S,hS,hL,hXB⟩:=hM.getLoop hx hB;have tZ:=A5 kb;have eb:(⟨vs⟩:Array Value).size=S.params.size:=by rw [hL.params];simp;omega
 have hy:=run_yield (P:=P) (args:=(⟨vs⟩:Array Value)) hS eb;refine⟨S.fn,_,S.assign,S.body,hy,roundIn_of_wpIn trivial ?_⟩;rw [hL.assign,hL.body];have htm:(S.params.zip (⟨vs⟩:Array Value)).foldl (fun tmps (x:Nat×Value)=>tmps.setIfInBounds x.1 x.2) S.tmps=(l.ps.zip vs).foldl (fun T (x:Nat×Value)=>T.setIfInBounds x.1 x.2) S.tmps:=by
  rw [hL.params];have:(⟨l.ps⟩:Array Nat).zip (⟨vs⟩:Array Value)=⟨l.ps.zip vs⟩:=by apply ext';simp
  rw [this];simp
 have y1:Jt l.sz [] e l.tm { tmps:=S.tmps,defers:=[] } :=⟨⟨fun t av ht=>hL.tmps t av ht⟩,hL.size,rfl⟩
 have RS:=cT e vs S.tmps kb y1;rw [←htm]at RS;have hG:yV true (Fence.wide.inRound B):=⟨.inr ⟨B,rfl⟩,nofun⟩
 have vR:Ow b0 []:=⟨List.nodup_nil,nofun⟩
 refine wpIn_mono (cz (Fence.wide.inRound B) n0 b0 [] e _ w hG hM RS vR) ?_;rintro x a2 w2 ⟨rfl,e2,b2,EJ,g1,_,g3,g4,g5,_⟩;obtain⟨rfl,rfl⟩:=g3 rfl;have qm:=g1 _ _ hB;obtain⟨S2,v_,ky,Bre⟩:=g4.getLoop mB qm;refine⟨_,run_beginRound v_ (by rw [ky.state,EW];rfl),?_⟩;have EN:Bb b2 e2 M3.get n2 (w2.putObj B (.loop { S2 with state:= .busy })):=
  g4.loop mB qm v_ Bre EK ⟨rfl,ky.pending,ky.size,ky.tmps,ky.params,ky.assign,ky.body⟩
 refine wpIn_mono (o1 (Fence.wide.inRound B) n0 b2 [] e2 a2 _ hG EN g5 vR) ?_;rintro x a4 w4 ⟨rfl,e4,b4,ds4,k1,_,k3,k4,k5,_⟩;obtain⟨rfl,rfl⟩:=k3 rfl;have y2:=k1 _ _ qm;obtain⟨S4,RT,wc,Brf⟩:=k4.getLoop y0 y2;have pH:=run_endRound (P:=P) n_.jump RT;have Brg:Bb b4 e4 M5.get n4 (w4.putObj B (.loop { S4 with state:=(if n_.jump.isNone then .ready else .done),pending:=n_.jump })):=
  k4.loop y0 y2 RT Brf hM5 ⟨tN.2.symm,rfl,wc.size,wc.tmps,wc.params,wc.assign,wc.body⟩
 have mK:=hk e4 (.bool bb) _ (g1.trans k1) Brg (by simp only [AV.rep]);rw [←tN.1]at pH mK;cases n_ with
 |normal=>exact⟨_,_,pH,bb,rfl,mK⟩
 |ret=>exact⟨_,_,pH,bb,rfl,mK⟩
 |exit i=>exact⟨_,_,pH,bb,rfl,mK⟩
variable {R:Type}
def we:Nat->List AV->Tm->(Tm->Option R)->Option R
 |_,[],tm,K=>K tm|i,a::l,tm,K=>iJ (Tm.sB i) fun s=>s tm (some a) fun tm=>fN (i+1) fun i=>we i l tm K
theorem RU {sz:Nat} :∀ {l:List AV} {i:Nat} {tm:Tm} {K:Tm->Option R} {r:R},we i l tm K=some r->∃bt,K bt=some r/\∀(t:Nat) av,bt.get t=some av->(∃j,l[j]? =some av/\t=i+j)\/tm.get t=some av
 |[],i,tm,K,r,h=>⟨tm,h,fun t av ht=> .inr ht⟩
 |a::l,i,tm,K,r,h=>by
  simp only [we]at h;obtain⟨iy,h1,h2⟩:=Tm.zy h;rw [Ew]at h1;obtain⟨bt,h3,h4⟩:=RU (sz:=sz) h1;refine⟨bt,h3,fun t av ht=> ?_⟩;rcases h4 t av ht with⟨j,g1,g2⟩|g
  ·exact .inl ⟨j+1,by simpa using g1,by omega⟩
  ·rw [h2]at g;split at g
   ·rename_i hti;exact .inl ⟨0,by simpa using g,by omega⟩
   ·exact .inr g
def Zn (P:Program) (tm:Tm) (M:Tr aI):ResultVar->Option AV
 | .tmp t=>tm.get t| .cell s t=>match tm.get s with
  |some (.ptr b k)=>match M.get b with
   |some (.cells l _)=>match ow P t with
    |some true=>match P.info? t with
     |some i=>cond (ble (k+i.size) l.length) (some (.agg ((l.drop k).take i.size))) none|none=>none
    |some false=>l[k]?|none=>none
   |_=>none
  |_=>none
def qn (P:Program) (tm:Tm) (M:Tr aI):List ResultVar->Option (List AV)
 |[]=>some []|x::l=>match Zn P tm M x with
  |some a=>match qn P tm M l with
   |some az=>some (a::az)|none=>none
  |none=>none
def tu:List AV->AV
 |[v]=>v|vs=> .tuple vs
theorem Aoj {P:Program} {b0:Base} {e:Env} {tm:Tm} {M:Tr aI} {n:Nat} {a:Act} {w:World} (hM:Bb b0 e M.get n w) (hT:mJ e tm a) {x:ResultVar} {av:AV} (h:Zn P tm M x=some av): ∃v,av.rep e v/\(N4 a.tmps x).run P w= .ok v w:=by
 cases x with
 |tmp t=>exact⟨_,(hT.at_ t av h).2,rfl⟩
 |cell s t=>
  simp only [Zn]at h;split at h
  case h_2=>cases h
  rename_i b k hs;split at h
  case h_2=>cases h
  rename_i l rw hb;obtain⟨B,tt,vs,rest,h1,h2,h3,h4,h5⟩:=hM.bG b _ hb;have hr:=(hT.at_ s _ hs).2;simp only [AV.rep]at hr;obtain⟨B',t',q1,q2⟩:=hr;rw [h1]at q1;cases q1;split at h
  ·rename_i ha;split at h
   case h_2=>cases h
   rename_i i hi;cases hc:ble (k+i.size) l.length with
   |false=>rw [hc]at h;cases h
   |true=>
    rw [hc]at h;cases h;have hle:=le_of_ble_eq_true hc;have hlen:=A5 h4;have nV:((vs.drop k).take i.size).length=i.size:=by simp;omega
    have mg:Ad w ⟨B,k,none⟩ ((vs.drop k).take i.size):=h2.cells k fun j hj=>by
     rw [nV]at hj;rw [List.getElem?_append_left (by omega),List.getElem?_eq_getElem (by omega)];simp
    have hl:=H6 (P:=P) (w:=w) (a:=⟨B,k,none⟩) ((vs.drop k).take i.size) 0 #[] (fun j hj=>by simpa using mg j hj);rw [nV]at hl;refine⟨.agg ⟨(vs.drop k).take i.size⟩,by simp only [AV.rep];exact⟨_,rfl,Et (F3 h4)⟩,?_⟩;simp only [N4,q2,asAddr,loadVar,Sem.run_bind,Sem.run_pure,Result.andThen_ok,Na ha,if_true,sizeOf,typeInfo,run_program,hi,loadCells,hl];simp
  ·rename_i ha;obtain⟨v,hv,hr⟩:=Jd h4 h;have aO:=(List.getElem?_eq_some_iff.1 hv).1;have hc:w.cell? ⟨B,k,none⟩=some v:=h2.cell (by rw [List.getElem?_append_left aO];exact hv);refine⟨v,hr,?_⟩;simp only [N4,q2,asAddr,loadVar,Sem.run_bind,Sem.run_pure,Result.andThen_ok,Na ha,Bool.false_eq_true,if_false,run_load,hc]
  ·cases h
theorem RV {P:Program} {b0:Base} {e:Env} {tm:Tm} {M:Tr aI} {n:Nat} {a:Act} {w:World} (hM:Bb b0 e M.get n w) (hT:mJ e tm a):∀ {l:List ResultVar} {az:List AV},qn P tm M l=some az->
 ∃vs,AV.bF e az vs/\(l.mapM (N4 a.tmps)).run P w= .ok vs w
 |[],_,h=>by simp only [qn]at h;cases h;exact⟨[],by simp [AV.bF],rfl⟩
 |x::l,_,h=>by
  simp only [qn]at h;split at h
  ·rename_i av eA;split at h
   ·rename_i az has;cases h
    obtain⟨v,h1,h2⟩:=Aoj hM hT eA;obtain⟨vs,h3,h4⟩:=RV hM hT has;refine⟨v::vs,by simp only [AV.bF];exact⟨_,_,rfl,h1,h3⟩,?_⟩;simp only [List.mapM_cons,Sem.run_bind,h2,h4,Result.andThen_ok,Sem.run_pure]
   ·cases h
  ·cases h
theorem Aud {e:Env} {az:List AV} {vs:List Value} (h:AV.bF e az vs):(tu az).rep e (H9 vs):=by
 match az,h with
 |[],h=>simp only [AV.bF]at h;subst h;simp only [tu,H9,AV.rep];exact⟨[],rfl,by simp [AV.bF]⟩
 |[a],h=>
  simp only [AV.bF]at h;obtain⟨x,xs,rfl,h1,rfl⟩:=h;exact h1
 |a::b::l,h=>
  have h':=h;simp only [AV.bF]at h;obtain⟨x,xs,rfl,h1,y,ys,rfl,h2⟩:=h;simp only [tu,H9,AV.rep];exact⟨_,rfl,h'⟩
abbrev y3 (R:Type):Type:=Tm->Tr aI->(AV->Option R)->Option R
def RX (P:Program) (l:List ResultVar):y3 R:=fun tm M K=>match qn P tm M l with
 |some az=>fL az fun az=>fA (tu az) K
 |none=>none
def Bbi (g:Tm->Option AV):y3 R:=fun tm _ K=>oK (g tm) K
def y4 (P:Program) (l:List ResultVar):Bx (y3 R):=match l with
 |[]=>⟨fun _ _ K=>K (.tuple [])⟩
 |[.tmp t]=>b1 Bbi (Tm.gB t)|_=>⟨RX P l⟩
theorem RY {P:Program} {l:List ResultVar} {tm:Tm} {M:Tr aI} {K:AV->Option R} {r:R} (h:(y4 P l).get tm M K=some r):∃az,qn P tm M l=some az/\K (tu az)=some r:=by
 unfold y4 at h;split at h
 ·exact⟨[],rfl,h⟩
 ·rename_i t;obtain⟨a,h1,h2⟩:=Bp (show oK (tm.get t) K=some r from h);exact⟨[a],by simp only [qn,Zn,h1],h2⟩
 ·simp only [RX]at h;split at h
  ·rename_i az has;rw [R0,P2]at h;exact⟨az,has,h⟩
  ·cases h
def EY (nt:Nat) (f:Jo R) (q:y3 R):A9 R->A9 R:=fun call _ args M n K=>ef (ble args.length nt) (we 0 args Tm.nil fun tm=>f call tm M n fun ex tm M n=>hH.casesOn (motive:=fun _=>Option R) ex (q tm M fun av=>K av M n) (q tm M fun av=>K av M n) (fun _=>none)) none
def EZ (P:Program):A9 R->A9 R:=fun _ g args M n K=>match AV.vals? args with
 |some vs=>match ov P (callFunc g ⟨vs⟩)with
  |some (.value v)=>fV v fun v=>K (.lit v) M n
  |_=>none
 |none=>none
def RZ:A9 R->A9 R:=fun _ _ _ _ _ _=>none
def y5 (P:Program) (lf:Nat) (g:FuncId):Bx (A9 R->A9 R):=match P.funcs[g]? with
 |some fn=>cond (fn.name== "runtime.NumGoroutine") ⟨RZ⟩ (match fn.body with
  |some c=>b2 (EY fn.ntmps) (Fj P fn.ntmps lf false c) (y4 P fn.results.toList)|none=>⟨EZ P⟩)
 |none=>⟨RZ⟩
def E_ (P:Program) (ext:A9 R->A9 R) (lf:Nat) (call:A9 R):A9 R:=ext fun g args M n K=>ef (ble YB g) (fN (Nat.sub g YB) fun b=>EP P lf call b args M n K) (iJ (y5 P lf g) fun f=>f call g args M n K)
def FA (P:Program) (ext:A9 R->A9 R) (lf:Nat):Nat->Bx (A9 R)
 |0=>⟨fun _ _ _ _ _=>none⟩
 |k+1=>b1 (E_ P ext lf) (FA P ext lf k)
def tv (P:Program) (ext:A9 R->A9 R) (lf:Nat) (k:Nat):A9 R:=fun g args M n K=>iJ (FA P ext lf k) fun f=>f g args M n K
def Tu (P:Program) (ext:A9 R->A9 R):Prop:=∀call,E0 P call->E0 P (ext call)
theorem R_ (P:Program):Tu P (fun c:A9 R=>c):=fun _ h=>h
theorem Ti:∀(ds:List Nat) (w:World) {k:Nat},k∉ds->(shut ds w).heap[k]? =w.heap[k]?
 |[],_,_,_=>rfl
 |D::ds,w,k,h=>by
  simp only [mem_cons,not_or]at h;simp only [shut];rw [Ti ds _ h.2];exact World.putObj_heap_other h.1
theorem SA:∀(ds:List Nat) (w:World),(shut ds w).os=w.os/\(shut ds w).tape=w.tape/\(shut ds w).output=w.output/\(shut ds w).heap.size=w.heap.size
 |[],_=>⟨rfl,rfl,rfl,rfl⟩
 |D::ds,w=>by
  obtain⟨h1,h2,h3,h4⟩:=SA ds (w.putObj D (.deferred none));exact⟨h1,h2,h3,by rw [shut,h4];simp [World.putObj]⟩
theorem Bb.shut {b0 b':Base} {cb:List Nat} {e':Env} {M':Mm} {n':Nat} {w':World} (hM:Bb b' e' M' n' w') (hx:Ext b0 [] b' cb) (hD:Ow b' cb):Bb b0 e' M' n' (shut cb w'):=by
 obtain⟨f1,f2,f3,f4⟩:=SA cb w';refine⟨fun b hb=>hM.new b (hb.imp id fun h=>by rw [hx.R];exact h),fun b hb=>hM.res b (by rw [hx.R];exact hb),fun b x hb=> ?_,hM.eO,⟨f1.trans (hM.kept.os.trans hx.kept.os),f2.trans (hM.kept.tape.trans hx.kept.tape),f3.trans (hM.kept.output.trans hx.kept.output),le_trans hx.kept.size (by rw [f4];exact hM.kept.size),fun k hk=> ?_⟩⟩
 ·have v9:=hM.bG b x hb;obtain⟨B',t',g1,g2,g3⟩:=v9.at;refine v9.aP (Az.refl e') (fun B t hB hX hc=>hX (hx.X B hc)) fun B t hB=> ?_
  rw [g1]at hB;cases hB;exact Ti cb w' fun hc=>g3 (hD.2 B' hc).1
 ·rw [Ti cb w' fun hc=> ?_]
  ·exact(hM.kept.block k (hx.X k hk)).trans (hx.kept.block k hk)
  ·rcases hx.new k hc with h|h
   ·cases h
   ·exact h hk
theorem Auh {P:Program} (hm:P.follows .mixedOrders=true) {lf:Nat} {call:A9 R} (dq:E0 P call) {g:FuncId} {fn:Func} {c:Code} (rU:P.funcs[g]? =some fn) (hc:fn.body=some c) (wh:(fn.name== "runtime.NumGoroutine")=false)
 {args:List AV} {M:Tr aI} {n:Nat} {K:AV->Tr aI->Nat->Option R} {r:R} (h:EY fn.ntmps (Fj P fn.ntmps lf false c).get (y4 P fn.results.toList).get call g args M n K=some r):∃av M' n',K av M' n'=some r/\xw P g args M n av M' n':=by
 unfold EY at h;cases hn:ble args.length fn.ntmps with
 |false=>rw [hn]at h;cases h
 |true=>
  rw [hn]at h;have hn:=le_of_ble_eq_true hn;obtain⟨gG,h1,h2⟩:=RU (sz:=0) (show we 0 args Tm.nil _=some r from h);obtain⟨ex,tm,M',n',h3,h4⟩:=EO dq hm (cy:=false) c _ _ _ _ _ h1;have hx:∃az,qn P tm M' fn.results.toList=some az/\K (tu az) M' n'=some r/\(ex.nD= .normal\/ex.nD= .ret):=by
   cases ex with
   |exit i=>cases h3
   |normal=>obtain⟨az,q1,q2⟩:=RY h3;exact⟨az,q1,q2,.inl rfl⟩
   |ret=>obtain⟨az,q1,q2⟩:=RY h3;exact⟨az,q1,q2,.inr rfl⟩
  obtain⟨az,g1,g2,g3⟩:=hx;refine⟨_,M',n',g2,fun b0 e w vs hM kb next hk=> ?_⟩;have dq:Cc P g=true:=by unfold Cc;rw [rU];simp [hc,wh]
  have eb:(⟨vs⟩:Array Value).size=args.length:=by simp [A5 kb]
  have hA:Jt fn.ntmps (([]:List Nat).map mk) e gG { tmps:=(⟨vs⟩:Array Value)++replicate (fn.ntmps-(⟨vs⟩:Array Value).size) undef,defers:=[] } :=by
   refine⟨⟨fun t av ht=> ?_⟩,?_,rfl⟩
   ·rcases h2 t av ht with⟨j,q1,q2⟩|q
    ·obtain⟨v,q3,q4⟩:=Jd kb q1;have hj:=(List.getElem?_eq_some_iff.1 q3).1;rw [Nat.zero_add]at q2;subst q2;refine⟨by simp;omega,?_⟩;have:((⟨vs⟩:Array Value)++replicate (fn.ntmps-(⟨vs⟩:Array Value).size) undef).getD t undef=v:=by
      rw [getD_eq_getD_getElem?,Array.getElem?_append_left (by simpa using hj)];have:(⟨vs⟩:Array Value)[t]? =some v:=by simpa using q3
      rw [this];rfl
     rw [this];exact q4
    ·rw [Tm.get_nil]at q;cases q
   ·simp only [Array.size_append,Array.size_replicate];rw [eb];omega
  refine Lx dq (callsIn_wide.1 (callsIn_of_wp_marks (n:=0) rU hc trivial ?_));refine wpIn_mono (h4 Fence.wide 0 b0 [] e _ w ⟨.inl rfl,fun _=>rfl⟩ hM hA ⟨List.nodup_nil,nofun⟩) ?_;rintro x a' w' ⟨rfl,e',b',cb,hl,uy,_,fx,tr,y6⟩;have SB:=fx.shut uy y6;obtain⟨us,r1,r2⟩:=RV SB tr.tm g1;have Brh:=Ly (fn:=fn) r2;have tf:=hk e' (H9 us) _ hl SB (Aud r1);have pI:Ca cb w':=⟨y6.1,fun D SC=>(fx.kept.block D (y6.2 D SC).1).trans (y6.2 D SC).2⟩
  have key:LeavesInM Fence.wide 0 P fn a'.tmps (aN next) a'.defers .returning w':=by
   rw [tr.defers];exact Oa (R:=aN next) cb w' pI Brh tf
  rcases g3 with g3|g3<;>rw [g3]<;>exact key
theorem Awv {P:Program} {call:A9 R} {g:FuncId} {args:List AV} {M:Tr aI} {n:Nat} {K:AV->Tr aI->Nat->Option R} {r:R} (h:EZ P call g args M n K=some r):∃av M' n',K av M' n'=some r/\xw P g args M n av M' n':=by
 unfold EZ at h;split at h
 case h_2=>cases h
 rename_i vs kb;split at h
 case h_2=>cases h
 rename_i v hv;rw [Ie]at h;refine⟨.lit v,M,n,h,fun b0 e w us hM iL next hk=> ?_⟩;have:=P0 kb iL;subst this;rw [Ij hv w];exact hk e v w (Az.refl e) hM (by simp only [AV.rep])
theorem Aui {P:Program} (hm:P.follows .mixedOrders=true) {ext:A9 R->A9 R} (he:Tu P ext) {lf:Nat} {call:A9 R} (dq:E0 P call):E0 P (E_ P ext lf call):=by
 unfold E_;refine he _ ?_;intro g args M n K r h;have h:ef (ble YB g) (fN (Nat.sub g YB) fun b=>EP P lf call b args M n K) (iJ (y5 P lf g) fun f=>f call g args M n K)=some r:=h;cases hY:ble YB g with
 |true=>
  rw [hY]at h;have hY:YB<=g:=le_of_ble_eq_true hY;have h:=(Jg (b:=true) h).2;rw [Ew]at h;obtain⟨av,M',n',h1,h2⟩:=Aru dq hm h;refine⟨av,M',n',h1,fun aO=>absurd aO (Nat.not_lt.2 hY),fun b hb=> ?_⟩;have:Nat.sub g YB=b:=by rw [hb];exact Nat.add_sub_cancel_left YB b
  rw [this]at h2;exact h2
 |false=>
  rw [hY]at h;have hY:¬YB<=g:=fun hh=>by rw [Nat.ble_eq_true_of_le hh]at hY;cases hY
  have h:(y5 P lf g).get call g args M n K=some r:=h
  suffices∃av M' n',K av M' n'=some r/\xw P g args M n av M' n' by
   obtain⟨av,M',n',h1,h2⟩:=this;exact⟨av,M',n',h1,fun _=>h2,fun b hb=>absurd (hb▸Nat.le_add_right YB b) hY⟩
  unfold y5 at h;split at h
  case h_2=>cases h
  rename_i fn rU;cases wh:(fn.name== "runtime.NumGoroutine")with
  |true=>rw [wh]at h;cases h
  |false=>
   rw [wh]at h;simp only [cond_false]at h;split at h
   ·rename_i c hc;exact Auh hm dq rU hc wh h
   ·exact Awv (call:=call) h
theorem SD {P:Program} (hm:P.follows .mixedOrders=true) {ext:A9 R->A9 R} (he:Tu P ext) {lf:Nat} :∀k,E0 P (FA P ext lf k).get
 |0=>fun g args M n K r h=>by cases h
 |k+1=>Aui hm he (SD hm he k)
theorem SE {P:Program} (hm:P.follows .mixedOrders=true) {ext:A9 R->A9 R} (he:Tu P ext) {lf:Nat} (k:Nat):E0 P (tv P ext lf k):=SD hm he k
theorem Aok {P:Program} (hm:P.follows .mixedOrders=true) {ext:A9 AV->A9 AV} (he:Tu P ext) {lf k:Nat} {g:FuncId} {v:Value} (mL:ble (Nat.succ g) YB=true) (h:tv P ext lf k g [] Tr.nil 0 (fun av _ _=>some av)=some (.lit v)) (w:World): D3 P (fun u w'=>u=v/\RowKit.Below w.heap.size w w') ((callFunc g #[]).run P w):=by
 obtain⟨av,M',n',h1,h2⟩:=SE hm he k _ _ _ _ _ _ h;cases h1
 have FB:g<YB:=le_of_ble_eq_true mL;refine h2.1 FB (base w) (fun _=>none) w [] (Bb.start w) (by simp [AV.bF]) _ fun e' u w' _ fx hu=> ?_
 simp only [AV.rep]at hu;exact⟨hu,fx.below⟩
open Go.RowKit (Below)
variable {R:Type}
def FC (P:Program) (g:FuncId) (v:Value):Prop:=∀w,D3 P (fun u w'=>u=v/\Below w.heap.size w w') ((callFunc g #[]).run P w)
theorem Arw {P:Program} (hm:P.follows .mixedOrders=true) {ext:A9 AV->A9 AV} (he:Tu P ext) {lf k:Nat} {g:FuncId} {v:Value} (mL:ble (Nat.succ g) YB=true) (h:tv P ext lf k g [] Tr.nil 0 (fun av _ _=>some av)=some (.lit v)):FC P g v:=fun w=>Aok hm he mL h w
theorem Ai8 {P:Program} {g:FuncId} {v:Value} (eu:Cc P g=true) (h:FC P g v) (w:World):Calls P g #[] w (aN fun u w'=>u=v/\Below w.heap.size w w'):=by
 have:=h w;rw [Oy eu]at this;refine Calls.mono (this:Calls P g _ w _) fun en w' h=> ?_
 cases en with
 |returned v=>exact h
 |panicked c=>exact(h:False).elim
 |outgrown=>exact(h:False).elim
theorem Amg {P:Program} (hm:P.follows .mixedOrders=true) {ext:A9 AV->A9 AV} (he:Tu P ext) {lf k:Nat} {g:FuncId} {l:List AV} {vs:List Value} (hl:AV.vals? l=some vs) (mL:ble (Nat.succ g) YB=true) (eu:Cc P g=true) (h:tv P ext lf k g [] Tr.nil 0 (fun av _ _=>some av)=some (.agg l)) (w:World): Calls P g #[] w (aN fun u w'=>u= .agg ⟨vs⟩/\Below w.heap.size w w'):=by
 obtain⟨av,M',n',h1,h2⟩:=SE hm he k _ _ _ _ _ _ h;cases h1
 have FB:g<YB:=le_of_ble_eq_true mL;have:=h2.1 FB (base w) (fun _=>none) w [] (Bb.start w) (by simp [AV.bF]) (fun u w'=>u= .agg ⟨vs⟩/\Below w.heap.size w w') fun e' u w' _ fx hu=>by
  simp only [AV.rep]at hu;obtain⟨us,rfl,hu⟩:=hu;rw [P0 hl hu];exact⟨rfl,fx.below⟩
 rw [Oy eu]at this;refine Calls.mono (this:Calls P g _ w _) fun en w' h=> ?_
 cases en with
 |returned v=>exact h
 |panicked c=>exact(h:False).elim
 |outgrown=>exact(h:False).elim
end Go.Am
namespace Go.Proofs.YthkbhlmijkegiaaGreat
open Go.Vc Go.Lv Go.Ty
theorem mixed:Tryz.prog.follows .mixedOrders=true:=by kernel_rfl
def y7:List An:=[⟨[],0,0,0⟩,⟨[109,97,114,107],1,0,0⟩,⟨[112,117,115,104],1,0,1⟩,⟨[108,111,97,100],1,0,1⟩,⟨[115,116,111,114,101],1,1,0⟩,⟨[97,112,112,108,121],1,0,1⟩,⟨[106,117,109,112],1,0,0⟩,⟨[122,101,114,111],1,1,0⟩,⟨[111,110,101],1,1,0⟩,⟨[99,104,97,110],2,0,1⟩,⟨[115,101,110,100],0,2,0⟩,⟨[114,101,99,118],1,1,0⟩,⟨[100,114,97,119],1,1,0⟩,⟨[115,108,101,101,112],0,1,0⟩,⟨[115,116,97,114,116],2,0,0⟩,⟨[112,114,105,110,116],0,1,0⟩,⟨[97,115,115,101,114,116],0,1,0⟩,⟨[115,107,105,112],0,0,0⟩,⟨[115,116,111,112],0,0,0⟩,⟨[111,110,114,101,99,118],2,1,0⟩,⟨[111,110,115,101,110,100],1,2,0⟩,⟨[97,102,116,101,114],1,1,0⟩,⟨[101,108,115,101],1,0,0⟩,⟨[115,101,108,101,99,116],0,0,0⟩,⟨[101,110,100],0,0,0⟩,⟨[99,104,111,111,115,101],0,0,0⟩]
theorem Auj:Go.Am.tv Tryz.prog (fun c:Go.Am.A9 Go.Am.AV=>c) 12 60 227 [] Go.Am.Tr.nil 0 (fun av _ _=>some av)=some (.agg [.lit (.string (bI [])),.lit (.int .i64 0),.lit (.int .i64 0),.lit (.int .i64 0),.lit (.string (bI [109,97,114,107])),.lit (.int .i64 1),.lit (.int .i64 0),.lit (.int .i64 0),.lit (.string (bI [112,117,115,104])),.lit (.int .i64 1),.lit (.int .i64 0),.lit (.int .i64 1),.lit (.string (bI [108,111,97,100])),.lit (.int .i64 1),.lit (.int .i64 0),.lit (.int .i64 1),.lit (.string (bI [115,116,111,114,101])),.lit (.int .i64 1),.lit (.int .i64 1),.lit (.int .i64 0),.lit (.string (bI [97,112,112,108,121])),.lit (.int .i64 1),.lit (.int .i64 0),.lit (.int .i64 1),.lit (.string (bI [106,117,109,112])),.lit (.int .i64 1),.lit (.int .i64 0),.lit (.int .i64 0),.lit (.string (bI [122,101,114,111])),.lit (.int .i64 1),.lit (.int .i64 1),.lit (.int .i64 0),.lit (.string (bI [111,110,101])),.lit (.int .i64 1),.lit (.int .i64 1),.lit (.int .i64 0),.lit (.string (bI [99,104,97,110])),.lit (.int .i64 2),.lit (.int .i64 0),.lit (.int .i64 1),.lit (.string (bI [115,101,110,100])),.lit (.int .i64 0),.lit (.int .i64 2),.lit (.int .i64 0),.lit (.string (bI [114,101,99,118])),.lit (.int .i64 1),.lit (.int .i64 1),.lit (.int .i64 0),.lit (.string (bI [100,114,97,119])),.lit (.int .i64 1),.lit (.int .i64 1),.lit (.int .i64 0),.lit (.string (bI [115,108,101,101,112])),.lit (.int .i64 0),.lit (.int .i64 1),.lit (.int .i64 0),.lit (.string (bI [115,116,97,114,116])),.lit (.int .i64 2),.lit (.int .i64 0),.lit (.int .i64 0),.lit (.string (bI [112,114,105,110,116])),.lit (.int .i64 0),.lit (.int .i64 1),.lit (.int .i64 0),.lit (.string (bI [97,115,115,101,114,116])),.lit (.int .i64 0),.lit (.int .i64 1),.lit (.int .i64 0),.lit (.string (bI [115,107,105,112])),.lit (.int .i64 0),.lit (.int .i64 0),.lit (.int .i64 0),.lit (.string (bI [115,116,111,112])),.lit (.int .i64 0),.lit (.int .i64 0),.lit (.int .i64 0),.lit (.string (bI [111,110,114,101,99,118])),.lit (.int .i64 2),.lit (.int .i64 1),.lit (.int .i64 0),.lit (.string (bI [111,110,115,101,110,100])),.lit (.int .i64 1),.lit (.int .i64 2),.lit (.int .i64 0),.lit (.string (bI [97,102,116,101,114])),.lit (.int .i64 1),.lit (.int .i64 1),.lit (.int .i64 0),.lit (.string (bI [101,108,115,101])),.lit (.int .i64 1),.lit (.int .i64 0),.lit (.int .i64 0),.lit (.string (bI [115,101,108,101,99,116])),.lit (.int .i64 0),.lit (.int .i64 0),.lit (.int .i64 0),.lit (.string (bI [101,110,100])),.lit (.int .i64 0),.lit (.int .i64 0),.lit (.int .i64 0),.lit (.string (bI [99,104,111,111,115,101])),.lit (.int .i64 0),.lit (.int .i64 0),.lit (.int .i64 0)]):=by kernel_rfl
theorem Aww:ble (Nat.succ (227:FuncId)) Go.Am.YB=true:=by kernel_rfl
theorem Awx:Cc Tryz.prog 227=true:=by kernel_rfl
set_option maxRecDepth 100000 in
theorem Auk:Nk:=fun w=>Ac (@Go.Am.Amg Tryz.prog mixed (fun c=>c) (Go.Am.R_ Tryz.prog) 12 60 227 [.lit (.string (bI [])),.lit (.int .i64 0),.lit (.int .i64 0),.lit (.int .i64 0),.lit (.string (bI [109,97,114,107])),.lit (.int .i64 1),.lit (.int .i64 0),.lit (.int .i64 0),.lit (.string (bI [112,117,115,104])),.lit (.int .i64 1),.lit (.int .i64 0),.lit (.int .i64 1),.lit (.string (bI [108,111,97,100])),.lit (.int .i64 1),.lit (.int .i64 0),.lit (.int .i64 1),.lit (.string (bI [115,116,111,114,101])),.lit (.int .i64 1),.lit (.int .i64 1),.lit (.int .i64 0),.lit (.string (bI [97,112,112,108,121])),.lit (.int .i64 1),.lit (.int .i64 0),.lit (.int .i64 1),.lit (.string (bI [106,117,109,112])),.lit (.int .i64 1),.lit (.int .i64 0),.lit (.int .i64 0),.lit (.string (bI [122,101,114,111])),.lit (.int .i64 1),.lit (.int .i64 1),.lit (.int .i64 0),.lit (.string (bI [111,110,101])),.lit (.int .i64 1),.lit (.int .i64 1),.lit (.int .i64 0),.lit (.string (bI [99,104,97,110])),.lit (.int .i64 2),.lit (.int .i64 0),.lit (.int .i64 1),.lit (.string (bI [115,101,110,100])),.lit (.int .i64 0),.lit (.int .i64 2),.lit (.int .i64 0),.lit (.string (bI [114,101,99,118])),.lit (.int .i64 1),.lit (.int .i64 1),.lit (.int .i64 0),.lit (.string (bI [100,114,97,119])),.lit (.int .i64 1),.lit (.int .i64 1),.lit (.int .i64 0),.lit (.string (bI [115,108,101,101,112])),.lit (.int .i64 0),.lit (.int .i64 1),.lit (.int .i64 0),.lit (.string (bI [115,116,97,114,116])),.lit (.int .i64 2),.lit (.int .i64 0),.lit (.int .i64 0),.lit (.string (bI [112,114,105,110,116])),.lit (.int .i64 0),.lit (.int .i64 1),.lit (.int .i64 0),.lit (.string (bI [97,115,115,101,114,116])),.lit (.int .i64 0),.lit (.int .i64 1),.lit (.int .i64 0),.lit (.string (bI [115,107,105,112])),.lit (.int .i64 0),.lit (.int .i64 0),.lit (.int .i64 0),.lit (.string (bI [115,116,111,112])),.lit (.int .i64 0),.lit (.int .i64 0),.lit (.int .i64 0),.lit (.string (bI [111,110,114,101,99,118])),.lit (.int .i64 2),.lit (.int .i64 1),.lit (.int .i64 0),.lit (.string (bI [111,110,115,101,110,100])),.lit (.int .i64 1),.lit (.int .i64 2),.lit (.int .i64 0),.lit (.string (bI [97,102,116,101,114])),.lit (.int .i64 1),.lit (.int .i64 1),.lit (.int .i64 0),.lit (.string (bI [101,108,115,101])),.lit (.int .i64 1),.lit (.int .i64 0),.lit (.int .i64 0),.lit (.string (bI [115,101,108,101,99,116])),.lit (.int .i64 0),.lit (.int .i64 0),.lit (.int .i64 0),.lit (.string (bI [101,110,100])),.lit (.int .i64 0),.lit (.int .i64 0),.lit (.int .i64 0),.lit (.string (bI [99,104,111,111,115,101])),.lit (.int .i64 0),.lit (.int .i64 0),.lit (.int .i64 0)] [.string (bI []),.int .i64 0,.int .i64 0,.int .i64 0,.string (bI [109,97,114,107]),.int .i64 1,.int .i64 0,.int .i64 0,.string (bI [112,117,115,104]),.int .i64 1,.int .i64 0,.int .i64 1,.string (bI [108,111,97,100]),.int .i64 1,.int .i64 0,.int .i64 1,.string (bI [115,116,111,114,101]),.int .i64 1,.int .i64 1,.int .i64 0,.string (bI [97,112,112,108,121]),.int .i64 1,.int .i64 0,.int .i64 1,.string (bI [106,117,109,112]),.int .i64 1,.int .i64 0,.int .i64 0,.string (bI [122,101,114,111]),.int .i64 1,.int .i64 1,.int .i64 0,.string (bI [111,110,101]),.int .i64 1,.int .i64 1,.int .i64 0,.string (bI [99,104,97,110]),.int .i64 2,.int .i64 0,.int .i64 1,.string (bI [115,101,110,100]),.int .i64 0,.int .i64 2,.int .i64 0,.string (bI [114,101,99,118]),.int .i64 1,.int .i64 1,.int .i64 0,.string (bI [100,114,97,119]),.int .i64 1,.int .i64 1,.int .i64 0,.string (bI [115,108,101,101,112]),.int .i64 0,.int .i64 1,.int .i64 0,.string (bI [115,116,97,114,116]),.int .i64 2,.int .i64 0,.int .i64 0,.string (bI [112,114,105,110,116]),.int .i64 0,.int .i64 1,.int .i64 0,.string (bI [97,115,115,101,114,116]),.int .i64 0,.int .i64 1,.int .i64 0,.string (bI [115,107,105,112]),.int .i64 0,.int .i64 0,.int .i64 0,.string (bI [115,116,111,112]),.int .i64 0,.int .i64 0,.int .i64 0,.string (bI [111,110,114,101,99,118]),.int .i64 2,.int .i64 1,.int .i64 0,.string (bI [111,110,115,101,110,100]),.int .i64 1,.int .i64 2,.int .i64 0,.string (bI [97,102,116,101,114]),.int .i64 1,.int .i64 1,.int .i64 0,.string (bI [101,108,115,101]),.int .i64 1,.int .i64 0,.int .i64 0,.string (bI [115,101,108,101,99,116]),.int .i64 0,.int .i64 0,.int .i64 0,.string (bI [101,110,100]),.int .i64 0,.int .i64 0,.int .i64 0,.string (bI [99,104,111,111,115,101]),.int .i64 0,.int .i64 0,.int .i64 0] rfl Aww Awx Auj w) fun v w' h=>⟨h.1,Ai.yo h.2⟩
def rowOf (op:Int):An:=if 1<=op/\op<=25 then y7.getD op.toNat ⟨[],0,0,0⟩else⟨[],0,0,0⟩
def Wu (op:Int):Bool:=decide (1<=op/\op<=25)
def nz (op:Int):Int:=(rowOf op).Ng
theorem y8 {p:Int->An->Bool} (h:∀k:Fin 26,1<=k.val->p (k.val:Int) (y7.getD k.val ⟨[],0,0,0⟩)=true) {op:Int} (ho:1<=op/\op<=25):p op (rowOf op)=true:=by
 have:=h ⟨op.toNat,by omega⟩ (by show 1<=op.toNat;omega);simp only at this;rw [Int.toNat_of_nonneg (by omega)]at this;unfold rowOf;rw [if_pos ho];exact this
theorem FD (op:Int) (K:An->Bool->Prop) (h:K (rowOf op) (Wu op)):K6 op K:=by
 refine Aej _ _ (Ab (fun hc=> ?_) fun hc=>⟨Auk,⟨?_,?_⟩,fun x hx=> ?_⟩)
 ·have hn:¬(1<=op/\op<=25):=by simp at hc;omega
  unfold rowOf Wu at h;rw [if_neg hn,decide_eq_false hn]at h;exact h
 ·simp at hc;omega
 ·simp at hc;omega
 ·have hp:1<=op/\op<=25:=by simp at hc;omega
  change y7[op.toNat]? =some x at hx;unfold rowOf Wu at h;rw [if_pos hp,decide_eq_true hp]at h;have:y7.getD op.toNat ⟨[],0,0,0⟩=x:=by simp [List.getD,hx]
  rw [this]at h;exact h
theorem Aul (op:Int):nz op=0\/nz op=1\/nz op=2:=by
 by_cases ho:1<=op/\op<=25
 ·have:=y8 (p:=fun _ r=>r.Ng==0||r.Ng==1||r.Ng==2) (by decide) ho;simp at this;unfold nz;omega
 ·left;unfold nz rowOf;rw [if_neg ho]
def two (op:Int):Bool:=op==9||op==14||op==19
def one (op:Int):Bool:=op==1||(op==2||(op==3||(op==4||(op==5||(op==6||(op==7||(op==8||(op==11||(op==12||(op==20||(op==21||op==22)))))))))))
theorem Bam (op:Int):nz op=if two op then 2 else if one op then 1 else 0:=by
 by_cases ho:1<=op/\op<=25
 ·have:=y8 (p:=fun op r=>r.Ng==if two op then 2 else if one op then 1 else 0) (by decide) ho;exact eq_of_beq this
 ·have h1:two op=false:=by simp [two];omega
  have h2:one op=false:=by simp [one];omega
  unfold nz rowOf;rw [if_neg ho,h1,h2];rfl
theorem Awy (op:Int) (K:Int->Prop) (h:K (nz op)):S8 op K:=by
 rw [Bam]at h;refine Adz _ _ ⟨fun b=>b=two op,?_,?_⟩
 ·unfold two;cases op==9<;>cases op==14<;>rfl
 ·rintro _ rfl;refine Ab (fun hc=>by rw [hc]at h;exact h) fun hc=>⟨fun b=>b=one op,?_,?_⟩
  ·unfold one;cases op==1
   ·cases op==2
    ·cases op==3
     ·cases op==4
      ·cases op==5
       ·cases op==6
        ·cases op==7
         ·cases op==8
          ·cases op==11
           ·cases op==12
            ·cases op==20
             ·cases op==21<;>rfl
             ·rfl
            ·rfl
           ·rfl
          ·rfl
         ·rfl
        ·rfl
       ·rfl
      ·rfl
     ·rfl
    ·rfl
   ·rfl
  ·rintro _ rfl;rw [hc]at h;exact Ab (fun hd=>by rw [hd]at h;exact h) fun hd=>by rw [hd]at h;exact h
def pe (x:Ax):Bool:= !Wu x.op||((decide (nz x.op<1)&&x.a !=0)||(decide (nz x.op<2)&&x.b !=0))
def Xv (x:Ax):Bool:=(x.op !=14||decide (x.b>=0))&&(x.op !=5||decide (3<=x.a/\x.a<=17))
def B7 (x:Ax):Bool:= !pe x&&Xv x
theorem Ay5 (op:Int) (K:Int->Prop) (h:∀n,(decide (n>0))=decide (3<=op/\op<=17)->K n):E1 op K:=by
 refine O8 _ _ (Ab (fun hc=>h 1 ?_) fun hc=>Ab (fun hd=>h 2 ?_) fun hd=>h 0 ?_)
 ·rw [Bool.eq_iff_iff];simp at hc⊢;omega
 ·rw [Bool.eq_iff_iff];simp at hd⊢;omega
 ·rw [Bool.eq_iff_iff];simp at hc hd⊢;omega
theorem FE (x:Ax) (K:Bool->Prop) (h:K (B7 x)):Jm x K:=by
 refine Ab7 _ _ (FD _ _ ⟨fun b=>b=pe x,?_,?_⟩)
 ·unfold pe nz;cases Wu x.op<;>cases decide ((rowOf x.op).Ng<1)<;>cases x.a !=0<;>cases decide ((rowOf x.op).Ng<2)<;>rfl
 ·rintro _ rfl;refine Ab (fun hc=>by unfold B7 at h;rw [hc]at h;exact h) fun hc=> ?_
  have h:K (Xv x):=by unfold B7 at h;rw [hc]at h;simpa using h
  unfold Xv at h;have hw:∀K':Bool->Prop,K' (decide (3<=x.a/\x.a<=17))->E1 x.a (fun x1=>K' (decide (x1>0))):=fun K' hk=>Ay5 _ _ fun n hn=>by rw [hn];exact hk
  refine Ab (fun kP=>Ab (fun h5=> ?_) fun h5=>hw _ ?_) fun kP=>Ab (fun hb=>Ab (fun h5=> ?_) fun h5=>hw _ ?_) fun hb=> ?_
  ·rw [kP,h5]at h;exact h
  ·rw [kP,h5]at h;simpa using h
  ·rw [kP,hb,h5]at h;exact h
  ·rw [kP,hb,h5]at h;simpa using h
  ·rw [kP,hb]at h;exact h
theorem FG (x:Ax) (K:Bool->Prop) (h:K (B7 x)):Jk x K:=by
 have hnz:=Aul x.op;refine Abt _ _ (Awy _ _ ⟨fun b=>b=pe x,?_,?_⟩)
 ·refine Ab (fun hc=> ?_) fun hc=>Ab (fun hd=> ?_) fun hd=> ?_
  ·have:Wu x.op=false:=by simp at hc;simp [Wu];omega
   unfold pe;rw [this];rfl
  ·have:Wu x.op=false:=by simp at hd;simp [Wu];omega
   unfold pe;rw [this];rfl
  ·have:Wu x.op=true:=by simp at hc hd;simp [Wu];omega
   have e:(nz x.op==0)=decide (nz x.op<1):=by rw [Bool.eq_iff_iff];simp;omega
   unfold pe;rw [this,e];cases decide (nz x.op<1)<;>cases x.a !=0<;>cases decide (nz x.op<2)<;>rfl
 ·rintro _ rfl;refine Ab (fun hc=>by unfold B7 at h;rw [hc]at h;exact h) fun hc=> ?_
  have h:K (Xv x):=by unfold B7 at h;rw [hc]at h;simpa using h
  refine⟨fun b=>b= !Xv x,?_,?_⟩
  ·have e1:decide (x.b>=0)= !decide (x.b<0):=by rw [Bool.eq_iff_iff];simp
   have e2:decide (3<=x.a/\x.a<=17)= !(decide (x.a<3)||decide (x.a>17)):=by rw [Bool.eq_iff_iff];simp
   unfold Xv;rw [e1,e2,show(x.op !=14)= !(x.op==14) from rfl,show(x.op !=5)= !(x.op==5) from rfl];cases x.op==14<;>cases decide (x.b<0)<;>cases x.op==5<;>cases decide (x.a<3)<;>cases decide (x.a>17)<;>rfl
  ·rintro _ rfl;refine Ab (fun hd=> ?_) fun hd=> ?_
   ·rw [show Xv x=false by simpa using hd]at h;exact h
   ·rw [show Xv x=true by simpa using hd]at h;exact h
open Go.Tk
namespace Nv
def U7 (s:List UInt8):Bool:=
 match s with
 |[]=>false|c::l=>decide ((c::l).length<=16)&&(ns c&&((c::l).all Tk.Mb&& !decide ((c::l)∈words)))
theorem SG (c:UInt8) (l:List UInt8):U7 (c::l)=(decide ((c::l).length<=16)&&(ns c&&((c::l).all Tk.Mb&& !decide ((c::l)∈words)))):=rfl
theorem SH {α:Type} [BEq α] [LawfulBEq α] (p:α->Bool):∀(l:List α),(l.takeWhile p==l)=l.all p
 |[]=>by simp
 |a::l=>by
  rw [List.takeWhile_cons,List.all_cons];cases h:p a with
  |true=>simp only [if_true,Bool.true_and];rw [←SH p l];rw [Bool.eq_iff_iff];simp
  |false=>simp
theorem SI (n:Nat) (h:n<256) (K:Bool->Prop) (hk:K (qg n)):Hu n K:=by
 refine Uz _ _ ?_;have:=Aoe n h;unfold DN at this;unfold Ns;rw [this];exact hk
theorem Awz (n:Nat) (K:Bool->Prop) (hk:K (qh n)):Ms n K:=by
 refine Wp _ _ ?_;have:qh n=(decide ((n:Int)>=48)&&decide ((n:Int)<=57)):=by
  unfold qh;rw [Bool.eq_iff_iff];simp;omega
 unfold O9;rw [←this];exact hk
theorem Aum (n:Nat) (h:n<256) (K:Bool->Prop) (hk:K (tc n)):K7 n K:=by
 refine U0 _ _ (SI n h _ (Ab (fun hc=> ?_) fun hc=>Awz n _ ?_))
 ·unfold tc at hk;rw [hc]at hk;exact hk
 ·unfold tc at hk;rw [hc]at hk;exact hk
theorem Ay6 (s:List UInt8) (hs:s.length<2^40) (K:List UInt8->Prop) (hk:K (s.takeWhile Tk.Mb)):Em s K:=by
 refine Kl _ _ ⟨fun x n=>∃k:Nat,x=k/\k<=s.length/\n=s.length-k/\∀i (h:i<s.length),i<k->Tk.Mb s[i]=true,⟨_,0,rfl,by omega,rfl,by omega⟩,?_⟩;rintro _ _ ⟨k,rfl,gR,rfl,fI⟩;refine Ab (fun hc=>⟨by simp at hc;omega,?_⟩) fun hc=> ?_
 ·have aO:k<s.length:=by simp at hc;omega
  rw [toNat_natCast,getD_eq s k aO];refine Aum _ (UInt8.toNat_lt _) _ (Ab (fun hd=>⟨by omega,?_⟩) fun hd=> ?_)
  ·have dw:Tk.Mb s[k]=false:=by simpa [Tk.Mb] using hd
   rw [←Lc Tk.Mb s k fI (fun _=>dw)];exact hk
  ·have dw:Tk.Mb s[k]=true:=by simpa [Tk.Mb] using hd
   refine⟨s.length-(k+1),by omega,k+1,by rw [A0 (by omega) (by omega)];omega,by omega,rfl,fun i h hi=> ?_⟩;by_cases vS:i=k
   ·subst vS;exact dw
   ·exact fI i h (by omega)
 ·have om:k=s.length:=by simp at hc;omega
  rw [Lc Tk.Mb s k fI (fun h=>by omega),om,take_length]at hk;exact hk
def pf (i j:Nat):Nat:=(i+j)/2
theorem Aw0 (i j:Nat) (h:i+j<2^40):IntKind.i64.wrap ((IntKind.u64.wrap (IntKind.i64.wrap ((i:Int)+(j:Int)))).fdiv (2^(min 1 IntKind.u64.bits)))=(pf i j:Nat):=by
 have e0:IntKind.i64.wrap ((i:Int)+(j:Int))=(i:Int)+j:=A0 (by omega) (by omega);have e:IntKind.u64.wrap ((i:Int)+(j:Int))=(i:Int)+j:=by rw [IntKind.wrap_u64];omega
 have e2:(min 1 IntKind.u64.bits)=1:=by decide
 have e3:((i:Int)+(j:Int)).fdiv (2^1)=(pf i j:Nat):=by
  rw [Int.fdiv_eq_ediv_of_nonneg _ (by decide)];unfold pf;omega
 rw [e0,e,e2,e3];exact A0 (by omega) (by unfold pf;omega)
theorem Ban (s:List UInt8) (K:Bool->Prop) (hk:K false):E2 s K:=by
 refine Pp _ _ ?_;unfold Jn;rw [beq_self_eq_true];exact hk
theorem Ay7 (s:List UInt8) (K:Bool->Prop) (hk:K false):D8 s K:=by
 refine Mu _ _ ?_;unfold Hf;rw [beq_self_eq_true];exact hk
theorem Ay8 (x y:List UInt8) (K:Bool->Prop) (hk:K (Op.bytesLess x y)):Hv x y K:=
 Qv _ _ _ (Ban _ _ hk)
theorem Aun (l:List (List UInt8)) (hl:QD l) (hn:l.length<1000) (t:List UInt8) (K:Int->Bool->Prop) (hk:∀i,K i (decide (t∈l))):B1 l t K:=by
 refine Fe _ _ _ ⟨fun i j n=>∃i' j':Nat,i=i'/\j=j'/\i'<=j'/\j'<=l.length/\n=j'-i'/\(∀k (h:k<l.length),k<i'->Op.bytesLess l[k] t=true)/\(∀k (h:k<l.length),j'<=k->Op.bytesLess l[k] t=false),
  ⟨_,0,l.length,rfl,rfl,Nat.zero_le _,le_refl _,rfl,fun _ _ h=>absurd h (Nat.not_lt_zero _),fun k h h'=>by omega⟩,?_⟩
 rintro _ _ _ ⟨i,j,rfl,rfl,lG,hj,rfl,mG,SJ⟩;refine Ab (fun hx=> ?_) fun hx=> ?_
 ·have aO:i<j:=by simpa using hx
  rw [Aw0 i j (by omega)];have AJ:i<=pf i j:=by unfold pf;omega
  have kV:pf i j<j:=by unfold pf;omega
  generalize pf i j=m at AJ kV;have FH:m<l.length:=by omega
  refine⟨by omega,by omega,fun x hx=> ?_⟩;rw [toNat_natCast,List.getElem?_eq_getElem FH]at hx;cases hx
  refine Ay8 _ _ _ (Ab (fun hb=> ?_) fun hb=> ?_)
  ·rw [A0 (by omega) (by omega)];refine⟨_,?_,m+1,j,by omega,rfl,by omega,hj,rfl,fun k h hk=> ?_,SJ⟩
   ·omega
   ·rcases lt_or_ge k m with h'|h'
    ·exact Tg _ _ _ (hl k m h FH h') hb
    ·obtain rfl:k=m:=by omega
     exact hb
  ·refine⟨_,?_,i,m,rfl,rfl,AJ,by omega,rfl,mG,fun k h hk=> ?_⟩
   ·omega
   ·rcases lt_or_ge m k with h'|h'
    ·cases hh:Op.bytesLess l[k] t with
     |false=>rfl
     |true=>rw [Tg _ _ _ (hl m k FH h h') hh]at hb;cases hb
    ·obtain rfl:k=m:=by omega
     exact hb
 ·have jZ:i=j:=by have:¬i<j:=by simpa using hx
                  omega
  subst jZ;refine Ab (fun mB=> ?_) fun mB=> ?_
  ·have mC:i<l.length:=by simpa using mB
   have gl:=List.getElem?_eq_getElem mC;refine⟨by omega,fun x hx=> ?_⟩;rw [toNat_natCast,gl]at hx;cases hx
   refine Ab (fun hb=> ?_) fun hb=>⟨by omega,fun x hx=> ?_⟩
   ·have:l[i]=t:=by simpa using hb
    have:=hk i
    rwa [decide_eq_true (by rw [←‹l[i]=t›];exact List.getElem_mem mC)]at this
   ·have bZ:l[i]≠t:=by simpa using hb
    refine Ay7 _ _ ?_;have nA:t∉l:=by
     intro hm;obtain⟨p,hp,rfl⟩:=List.getElem_of_mem hm;rcases Nat.lt_trichotomy p i with h'|h'|h'
     ·have:=mG p hp h';rw [Qw]at this;cases this
     ·subst h';exact bZ rfl
     ·have:=hl i p mC hp h';rw [SJ i mC (le_refl _)]at this;cases this
    have:=hk i
    rwa [decide_eq_false nA]at this
  ·have mC:¬i<l.length:=by simpa using mB
   have nA:t∉l:=by
    intro hm;obtain⟨p,hp,rfl⟩:=List.getElem_of_mem hm;have:=mG p hp (by omega);rw [Qw]at this;cases this
   have:=hk i
   rwa [decide_eq_false nA]at this
theorem Ay9 (s:List UInt8) (K:Bool->Prop) (hk:K (decide (s∈words))):Oo s K:=
 Yo _ _ (Wq _ (Aun words Ai6 (by decide) s _ fun _=>hk))
theorem SK (s:List UInt8) (K:Bool->Prop) (hk:K (U7 s)):Kj s K:=by
 refine Yn _ _ ?_;cases s with
 |nil=>exact Eb rfl hk
 |cons c l=>
  rw [SG]at hk;refine Ei rfl (Ab (fun rH=> ?_) fun rH=> ?_)
  ·have Bri:(c::l).length<=16:=by simp at rH;simp;omega
   rw [decide_eq_true Bri,Bool.true_and]at hk;refine⟨⟨by omega,by simp⟩,SI _ (UInt8.toNat_lt _) _ ?_⟩;have e0:(c::l).getD 0 0=c:=rfl;rw [e0];refine Ab (fun hl=> ?_) fun hl=> ?_
   ·have oa:ns c=true:=hl;rw [oa,Bool.true_and]at hk;refine Ay6 _ (by omega) _ ?_;rw [SH];refine Ab (fun ha=>Ay9 _ _ ?_) fun ha=> ?_
    ·rw [ha,Bool.true_and]at hk;exact hk
    ·rw [ha,Bool.false_and]at hk;exact hk
   ·have oa:ns c=false:=hl;rw [oa,Bool.false_and]at hk;exact hk
  ·rw [decide_eq_false (by simp at rH;simp;omega),Bool.false_and]at hk;exact hk
def Le (s:List UInt8) (k:Nat):Bool:=ns (s.getD k 0)||(decide (k≠0)&&DM (s.getD k 0))
theorem Aup (s:List UInt8):U7 s=(decide (s.length<=16)&&(decide (s≠[])&&(decide (∀k,k<s.length->Le s k=true)&& !decide (s∈words)))):=by
 cases s with
 |nil=>rfl
 |cons c l=>
  rw [SG];have fI:(ns c&&(c::l).all Tk.Mb)=decide (∀k,k<(c::l).length->Le (c::l) k=true):=by
   rw [Bool.eq_iff_iff];simp only [and_eq_true,decide_eq_true_iff,List.all_eq_true];constructor
   ·rintro⟨h0,h1⟩ k hk;cases k with
    |zero=>simp [Le,h0]
    |succ k=>
     have:Tk.Mb ((c::l)[k+1])=true:=h1 _ (List.getElem_mem hk);rw [←getD_eq _ _ hk]at this;simpa [Le,Tk.Mb,tc,ns,DM] using this
   ·intro h;refine⟨by simpa [Le] using h 0 (by simp),fun x hx=> ?_⟩;obtain⟨k,hk,rfl⟩:=List.getElem_of_mem hx;have:=h k hk;rw [←getD_eq _ _ hk];simp only [Le,Bool.or_eq_true,and_eq_true]at this;simp only [Tk.Mb,tc,Bool.or_eq_true];rcases this with h|⟨_,h⟩
    ·exact .inl h
    ·exact .inr h
  rw [←fI];simp [Bool.and_assoc]
theorem Arx (n:Nat) (K:Bool->Prop) (hk:K (qg n)):Om n K:=by
 refine Yi _ _ ?_;have:qg n=(cond (decide ((n:Int)>=97)) ((decide ((n:Int)<=122))||(cond (decide ((n:Int)>=65)) ((decide ((n:Int)<=90))||((n:Int)==95)) ((n:Int)==95))) (cond (decide ((n:Int)>=65)) ((decide ((n:Int)<=90))||((n:Int)==95)) ((n:Int)==95))):=by
  have e1:decide ((n:Int)>=97)=decide (97<=n):=by rw [decide_eq_decide];omega
  have e2:decide ((n:Int)<=122)=decide (n<=122):=by rw [decide_eq_decide];omega
  have e3:decide ((n:Int)>=65)=decide (65<=n):=by rw [decide_eq_decide];omega
  have e4:decide ((n:Int)<=90)=decide (n<=90):=by rw [decide_eq_decide];omega
  have e5:((n:Int)==95)=(n==95):=by rw [Bool.eq_iff_iff];simp;omega
  rw [e1,e2,e3,e4,e5];unfold qg;cases decide (97<=n)<;>cases decide (n<=122)<;>cases decide (65<=n)<;>cases decide (n<=90)<;>cases (n==95)<;>rfl
 unfold Qr;rw [←this];exact hk
theorem Auq (n:Nat) (K:Bool->Prop) (hk:K (qh n)):Ql n K:=by
 refine Abx _ _ ?_;have:qh n=(decide ((n:Int)>=48)&&decide ((n:Int)<=57)):=by
  unfold qh;rw [Bool.eq_iff_iff];simp;omega
 unfold R9;rw [←this];exact hk
theorem Bao (l:List (List UInt8)) (hn:l.length<1000) (s:List UInt8) (K:Bool->Prop) (hk:K (decide (s∈l))):CF l s K:=by
 refine Alr _ _ _ ⟨fun i n=>∃k:Nat,i=k/\k<=l.length/\n=l.length-k/\s∉l.take k,⟨_,0,rfl,by omega,rfl,by simp⟩,?_⟩;rintro _ _ ⟨k,rfl,gR,rfl,eU⟩;refine Ab (fun hc=>⟨by simp at hc;omega,fun x hx=> ?_⟩) fun hc=> ?_
 ·rw [toNat_natCast]at hx;have aO:=(List.getElem?_eq_some_iff.1 hx).1;refine Ab (fun hb=> ?_) fun hb=> ?_
  ·have:x=s:=by simpa using hb
   subst this
   rwa [decide_eq_true (mem_of_getElem? hx)]at hk
  ·rw [A0 (by omega) (by omega)];refine⟨l.length-(k+1),by omega,k+1,by omega,by omega,rfl,?_⟩;rw [List.take_add_one,hx];simp only [Option.toList_some,List.mem_append,List.mem_singleton,not_or];exact⟨eU,fun e=>by rw [e]at hb;simp at hb⟩
 ·rw [List.take_of_length_le (by simp at hc;omega)]at eU
  rwa [decide_eq_false eU]at hk
theorem FI (s:List UInt8) (hs:s.length<2^63) (K:Bool->Prop) (hk:K (U7 s)):Oi s K:=by
 rw [Aup]at hk;refine Ad2 _ _ ⟨fun i n=>∃k:Nat,i=k/\k<=s.length/\n=s.length-k/\∀j,j<k->Le s j=true,⟨_,0,rfl,by omega,rfl,by omega⟩,?_⟩;rintro _ _ ⟨k,rfl,gR,rfl,fI⟩;refine Ab (fun hc=> ?_) fun hc=> ?_
 ·have aO:k<s.length:=by simp at hc;omega
  refine⟨fun b=>b= !Le s k,⟨by omega,?_⟩,?_⟩
  ·rw [toNat_natCast];refine Arx _ _ (Ab (fun h1=> ?_) fun h1=> ?_)
   ·have h1:ns (s.getD k 0)=false:=by simpa [ns] using h1
    refine Ab (fun h0=> ?_) fun h0=>⟨by omega,Auq _ _ ?_⟩
    ·have:k=0:=by simp at h0;omega
     subst this;show _=_
     unfold Le;rw [h1];simp
    ·have h0:k≠0:=by simp at h0;omega
     show _=_
     unfold Le;rw [h1];simp [h0,DM]
   ·have h1:ns (s.getD k 0)=true:=by simpa [ns] using h1
    show _=_
    unfold Le;rw [h1];simp
  ·rintro _ rfl;refine Ab (fun hb=> ?_) fun hb=> ?_
   ·have hb:Le s k=false:=by simpa using hb
    rw [decide_eq_false (p:=∀k,k<s.length->Le s k=true) (fun h=>by rw [h k aO]at hb;cases hb)]at hk;simpa using hk
   ·have hb:Le s k=true:=by simpa using hb
    refine⟨s.length-(k+1),by omega,k+1,by rw [A0 (by omega) (by omega)];omega,by omega,rfl,fun j hj=> ?_⟩;by_cases j_:j=k
    ·subst j_;exact hb
    ·exact fI j (by omega)
 ·have om:k=s.length:=by simp at hc;omega
  subst om;rw [decide_eq_true (p:=∀k,k<s.length->Le s k=true) fI,Bool.true_and]at hk;refine Ab (fun h1=> ?_) fun h1=> ?_
  ·have bZ:s≠[]:=by intro e;subst e;simp at h1
   rw [decide_eq_true bZ,Bool.true_and]at hk;refine Ab (fun rH=> ?_) fun rH=> ?_
   ·rw [decide_eq_true (by simp at rH;omega),Bool.true_and]at hk;refine Aby _ (Bao _ (by decide) _ _ ?_);have:decide (s∈([[99,104,97,110],[112,114,111,99],[109,97,105,110],[118,97,114],[105,102],[101,108,115,101],[119,104,105,108,101],[115,101,108,101,99,116],[99,97,115,101],[119,104,101,110],[97,102,116,101,114],[115,116,97,114,116],[115,108,101,101,112],[114,97,110,100,111,109],[112,114,105,110,116],[97,115,115,101,114,116],[115,107,105,112],[115,116,111,112]]:List (List UInt8)))=decide (s∈words):=by
     rw [decide_eq_decide];have h1:∀x∈([[99,104,97,110],[112,114,111,99],[109,97,105,110],[118,97,114],[105,102],[101,108,115,101],[119,104,105,108,101],[115,101,108,101,99,116],[99,97,115,101],[119,104,101,110],[97,102,116,101,114],[115,116,97,114,116],[115,108,101,101,112],[114,97,110,100,111,109],[112,114,105,110,116],[97,115,115,101,114,116],[115,107,105,112],[115,116,111,112]]:List (List UInt8)),x∈words:=by decide
     have h2:∀x∈words,x∈([[99,104,97,110],[112,114,111,99],[109,97,105,110],[118,97,114],[105,102],[101,108,115,101],[119,104,105,108,101],[115,101,108,101,99,116],[99,97,115,101],[119,104,101,110],[97,102,116,101,114],[115,116,97,114,116],[115,108,101,101,112],[114,97,110,100,111,109],[112,114,105,110,116],[97,115,115,101,114,116],[115,107,105,112],[115,116,111,112]]:List (List UInt8)):=by decide
     exact⟨h1 s,h2 s⟩
    rw [this];exact hk
   ·rw [decide_eq_false (by simp at rH;omega),Bool.false_and]at hk;exact hk
  ·have bZ:s=[]:=by
    cases s with
    |nil=>rfl
    |cons c l=>simp at h1;omega
   subst bZ;simpa using hk
end Nv
end Go.Proofs.YthkbhlmijkegiaaGreat
