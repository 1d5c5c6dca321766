/- A part of the proof: conditions of the code, contracts, the plain law. -/
import Derived.Test.YtpdccfgpbkagcaaGreatM7
import Derived.Test.YtpdccfgpbkagcaaGreatM4
import Derived.Test.YtpdccfgpbkagcaaGreatRows
import Derived.Test.YtpdccfgpbkagcaaGreatVcI
import Derived.Test.YtpdccfgpbkagcaaGreatMem
open Nat (mod ble zero_le le_refl le_trans)
open List (length_append getElem?_eq_getElem mem_singleton mem_append length_singleton length_cons length_nil map_cons length_take append_assoc map_append mem_map mem_cons)
open Int (toNat_natCast)
namespace Go.Vc
theorem Ap3 {P:Program} {g:FuncId} {args captured:Array Value} {K:Value->World->Prop} {w:World} (hg:Cs P g=true) (h:Calls P g (args++captured) w (aD K)):Qj P (.func (.func g) #[] captured) args K w:=by
 show cond (Cs P g) (Calls P g (#[]++args++captured) w (aD K)) (Qi P g (#[]++args++captured) K w)
 rw [hg];simpa using h
end Go.Vc
namespace Go.Proofs.YtpdccfgpbkagcaaGreat
open Go.Vc Go.Lv Go.Ty Go.Tr Go.Tk
section
variable {l:List Ag}
theorem Aso (U:Unit l) {i:Nat} (hi:i<l.length):(tK l i=0->Rl l i 0= -1)/\(tK l i=1->i+1<l.length/\Rl l i 0=((i+1:Nat):Int)):=by
 obtain⟨x,ds,hn⟩:=U.node i hi;obtain⟨h1,h2⟩:=xW U hn;have hk:=X7 hn.at_;have dU:=hn.kids;refine⟨fun h=> ?_,fun h=> ?_⟩
 ·unfold Rl;rw [if_pos (by decide),List.getD_eq_getElem?_getD,List.getElem?_eq_none (by show _<=0;omega)];rfl
 ·obtain⟨k,h3,h4⟩:=h2 0 (by omega);have hf:=h4.first;have gw:=h4.2.2.2;rw [A9]at gw;subst hf;refine⟨gw,?_⟩;unfold Rl;rw [if_pos (by decide),List.getD_eq_getElem?_getD];show((Ar l i)[0]?).getD (-1)=_
  rw [h3];rfl
theorem Ave (S:G2 l) {p:Bn} (P:Fg l p) {i:Nat} (hi:i<l.length) (iq:Az l i=33) (F:o8 l i) (K:Int->Prop) (h:K 0):Qn l p i K:=by
 have U:=S.unit;have hx:=getElem?_eq_getElem hi;obtain⟨n,hn,kE⟩:=P.nu i hi;obtain⟨r,hr,hs⟩:=Wf U hi (by omega) (by omega);obtain⟨j,d,cm,f_,ny⟩:=(S.wr r i hr hs).o7 (.inl iq);have j5:=ny.2 iq;have bO:=kE.o7 (.inl iq) j d cm f_;rw [j5]at bO;obtain⟨hj,_⟩:=Ec U cm;obtain⟨c,cE,cr⟩:=P.de.ch j d hj cm j5;subst bO;obtain⟨Ia,uy⟩:=F.ref iq j d cm f_;rw [←cr]at Ia uy;have gD:=X7 hx;obtain⟨o1,AW⟩:=Aso U hi;refine U7 _ _ _ _ (Bt hn (Bt cE (Bt hx (Ba ?_ (Ay3 l i 0 U.len (by decide) _ ⟨fun b=>b=false,?_,?_⟩)))))
 ·rw [←gD];rcases Ia with⟨h1,h2⟩|⟨h1,h2⟩
  ·rw [h1,h2];rfl
  ·rw [h2,decide_eq_true h1];rfl
 ·rcases Ia with⟨h1,h2⟩|⟨h1,h2⟩
  ·rw [o1 h2];exact Ba rfl rfl
  ·obtain⟨fU,kh⟩:=AW h2;have jw:=getElem?_eq_getElem fU;rw [kh];refine B3 (by simp;omega) (Bt jw (Aa (fun hq=>Bt jw (decide_eq_false ?_)) fun _=>rfl));have:=uy h1 (by rw [Bb jw];simpa using hq);rw [Rs jw]at this;omega
 ·rintro _ rfl;exact Ba rfl h
theorem Ax0 (S:G2 l) {p:Bn} (P:Fg l p) {i:Nat} (hi:i<l.length) (lB:Az l i=26) (F:o8 l i) (K:Int->Prop) (h:K 0):Sy l p i K:=by
 have U:=S.unit;have hx:=getElem?_eq_getElem hi;obtain⟨n,hn,kE⟩:=P.nu i hi;obtain⟨r,hr,hs⟩:=Wf U hi (by omega) (by omega);obtain⟨j,d,cm,f_,ny⟩:=(S.wr r i hr hs).o7 (.inr lB);have j5:Az l d≠38:=fun h=>by have:=ny.1 h;omega
 have bO:=kE.o7 (.inr lB) j d cm f_;rw [show decide (Az l d=38)=false by simp [j5]]at bO;obtain⟨hj,_⟩:=Ec U cm;obtain⟨R,HK,HL⟩:=P.de.rt j d hj cm j5;subst bO;have hf:=F.start lB j d cm f_;have gD:=X7 hx;exact Xq _ _ _ _ (Bt hx (Bt hn (Bt HK (Ba (by rw [←gD,hf,HL];simp) h))))
theorem Ax1 (U:Unit l) {i:Nat} (hi:i<l.length) (se:Az l i=37) (F:o8 l i) (p1:Bn) (K:Int->Prop) (h:K 0):Afl l p1 i K:=by
 intro m w hm lA lC fR hl cQ dT;obtain⟨a0,c0,a1,c1,a3,c3,rfl,_⟩:=Ge dT;have h0:0<i:=by
  rcases Nat.eq_zero_or_pos i with e|e
  ·subst e;have:=Tn U;omega
  ·exact e
 obtain⟨u,j,cm⟩:=xV U hi h0;have jk:u<l.length:=by have:=cm.1;rw [A9]at this;exact this
 have o:=Mem.start hm.lt;have hf:(([]:List Nat),w.heap.size,w)∈[(([]:List Nat),w.heap.size,w)]:= .head _;refine Acv lA l.length lC _ _ _ _ _ _ _ _ _ _ i _ _ ?_;intro b w1 hb aP;have st:=o.xB hb aP;have o:=o.box hb aP;intro b1 w2 bI bR;have st:=st.trans (o.xB bI bR);have o:=o.box bI bR;intro b2 w3 dY cV;have st:=st.trans (o.xB dY cV);have o:=o.box dY cV;intro b3 w4 fp dt;have st:=st.trans (o.xB fp dt);have o:=o.box fp dt;intro w5 fe;have st:=st.trans (o.xE (Aq fe));have o:=o.ext (Aq fe);refine⟨fun u=>Ext w5 u,Ext.refl _,_,_,_,fun u hu=>hu.cell ((o.at 3 rfl).cell rfl),_,_,_,fun u hu=>hu.cell ((o.at 3 rfl).cell rfl),_,fun u hu=>hu.cell ((o.at 1 rfl).cell rfl),?_⟩;refine Ad (Bas l i U.len (fun r=>r=(u:Int)) (fun r hr=>TC cm hr) _ w5 (o.mo hm (by simp) hf) _ _ fR (hl.st st)) ?_;rintro _ w6 ⟨_,rfl,rfl,aW⟩;have st:=st.trans (o.xE aW);have o:=o.ext aW;refine⟨_,rfl,aW.ext,?_⟩;refine Ad (M7 l u (fun a b=>(u:Int)=a/\l=b) ⟨rfl,rfl⟩ _ w6 (o.mo hm (by simp) hf) _ _ fR (hl.st st)) ?_;rintro _ w7 ⟨_,_,⟨rfl,rfl⟩,⟨b4,cs,b5,fl,rfl,⟨el,f⟩,⟨c_,f1⟩⟩,aW⟩;have st:=st.trans (o.xE aW);have o:=o.ext aW;obtain rfl:=f;obtain⟨a,c,rfl,le,f2⟩:=f1;have jQ:=Js l u U.len _ _ (o.mo hm (by simp) hf) _ _ el rfl _ _ c_ ⟨_,_,rfl,le,f2⟩;refine⟨_,_,rfl,?_⟩;have hle:=o.le;have cz:=o.qH;generalize AX:[Pc.box b3 _,Pc.box b2 _,Pc.box b1 _,Pc.box b _]=LL at o st jQ;have g0:LL[0]? =some (.box b3 [.int .i64 0]):=by rw [←AX];rfl
 have g1:LL[1]? =some (.box b2 [.int .i64 i]):=by rw [←AX];rfl
 have g3:LL[3]? =some (.box b [.slice lA l.length lC]):=by rw [←AX];rfl
 refine⟨ms LL m,Ar l u,Kr.of (o.mo hm (by simp) hf).lt jQ,fun F pre w'=>F=ms LL m/\Mem w.heap.size [] m [([],w.heap.size,w)] [] w' LL/\Step m w (ms LL m) w',fun _ _=>False,fun _ _ _=>False,⟨rfl,o,st⟩,?_,fun _ _ _ _ _ h=>h.elim,?_⟩
 ·rintro _ pre x2 w8 w9 ⟨rfl,o,st⟩ hG db;obtain⟨ht,mr⟩:=Kj db;obtain⟨k,x,he,hk,sq⟩:=Gc U jk ht;obtain rfl:x2=(k:Int):=mr.symm.trans he;have gw:=(List.getElem?_eq_some_iff.1 sq).1;have st:=st.trans (Step.grow _ hG);have o:=o.grow hG (fun f hf=>by rw [mem_singleton.1 hf];exact hle) cz;have o:=o.round (M:=ms LL m) (B:=w9.heap.size) (le_refl _) (fun k hk=> .inl hk);obtain⟨p,hA,cF⟩:=vh (hl.st st) gw;refine⟨fun b w'=>b=false/\w'=w9,⟨_,(o.at 1 g1).cell rfl,Aa (fun aE=>⟨_,_,_,(o.at 3 g3).cell rfl,⟨by omega,by omega⟩,Ae hA ⟨_,cF,?_,rfl⟩⟩) fun _=>⟨rfl,rfl⟩⟩,?_⟩
  ·have:=F.zZ se u j k _ cm hk (by simpa using aE);simpa using this
  rintro _ _ ak ⟨rfl,rfl⟩;obtain⟨mB,o⟩:=o.sn fun q hq=>Bj.2 (.inr hq)
  exact Ba rfl ⟨_,mB,rfl,o,st⟩
 ·rintro _ aX a_ D1 ⟨rfl,o,st⟩ hG hD iG;have o:=o.grow hG (fun f hf=>by rw [mem_singleton.1 hf];exact hle) cz;have o:=o.mark iG hD hle cz;refine⟨o.wr 0 g0 rfl,fun aN jy=> ?_⟩;have o:=o.set 0 jy g0;have EF:(LL.set 0 (.box b3 [.int .i64 0]))[0]? =some (.box b3 [.int .i64 0]):=by rw [←AX];rfl
  exact⟨o.marks.1,0,(o.qG 0 EF).cell rfl,0,h,rfl,o.qF⟩
def yo:List Value:=[.int .i64 33,.func (.func 55) #[] #[],.int .i64 26,.func (.func 56) #[] #[],.int .i64 37,.func (.func 57) #[] #[]]
def Jh (op:Int):Int:=if op=33 then 0 else if op=26 then 1 else if op=37 then 2 else-1
set_option maxRecDepth 100000 in
theorem Ap4 {o op:Int} {f:Value} {b2:Nat} {w:World} {K:Value->World->Prop} (hb:w.cell? ⟨b2,0,none⟩=some (.int .i64 op)) (hK:∀w2,Ao [] w w2->K (.bool (o==op)) w2):Qj Tryz.prog (.func (.func 34) #[] #[.pointer (some ⟨b2,0,none⟩)]) #[.agg #[.int .i64 o,f]] K w:=by
 refine Ap3 (by kernel_rfl) ?_;refine Acs o f ⟨b2,0,none⟩ K w ?_;intro b w1 bI aP;exact⟨_,(cB.new bI aP).cell rfl,_,(Ext.alloc aP).cell hb,hK _ (Bd aP)⟩
set_option maxRecDepth 100000 in
theorem Asp (op:Int) {w:World} {rb b2:Nat} (hr:Ac w ⟨rb,0,none⟩ yo) (hb:w.cell? ⟨b2,0,none⟩=some (.int .i64 op)):Calls Tryz.prog 33 #[.slice (some ⟨rb,0,none⟩) 3 3,.func (.func 34) #[] #[.pointer (some ⟨b2,0,none⟩)]] w (aD fun v w'=>v= .int .i64 (Jh op)/\Ao [] w w'):=by
 refine Eh _ _ _ _ _ _ ⟨fun x w1=>∃t:Nat,x=t/\t<=3/\(0<t->op≠33)/\(1<t->op≠26)/\(2<t->op≠37)/\Ao [] w w1,fun x _=>3-x.toNat,⟨0,rfl,by omega,by omega,by omega,by omega,Ao.refl _ _⟩,?_⟩;rintro _ _ w1 ⟨t,rfl,ht,h0,h1,h2,hk⟩;have ek:=Oe hr hk;have bI:=hk.ext.cell hb;have hw:IntKind.i64.wrap ((t:Int)+1)=((t+1:Nat):Int):=by rw [Au (by omega) (by omega)];omega
 refine Aa (fun hc=>⟨⟨by omega,by have:=of_decide_eq_true hc;omega⟩,Ae rfl ?_⟩) fun hc=> ?_
 ·have hc:t<3:=by have:=of_decide_eq_true hc;omega
  have key:∀(o:Int) (f:Value),[Value.int .i64 o,f]=(yo.drop (t*2)).take 2->(op=o->Jh op=t)->(op≠o->(0<t+1->op≠33)/\(1<t+1->op≠26)/\(2<t+1->op≠37))->
   ∃(UH:Int) (UI:Value),Ac w1 ((⟨rb,0,none⟩:Addr).add ((t:Int).toNat*2)) [.int .i64 UH,UI]/\Qj Tryz.prog (.func (.func 34) #[] #[.pointer (some ⟨b2,0,none⟩)]) #[.agg #[.int .i64 UH,UI]] (fun v w2=>∃(x1:Bool),v= .bool x1/\cond (x1) (Value.int .i64 t= .int .i64 (Jh op)/\Ao [] w w2) ((∃t':Nat,IntKind.i64.wrap ((t:Int)+1)=t'/\t'<=3/\(0<t'->op≠33)/\(1<t'->op≠26)/\(2<t'->op≠37)/\Ao [] w w2)/\3-(IntKind.i64.wrap ((t:Int)+1)).toNat<3-(t:Int).toNat)) w1:=by
   intro o f ir Br1 bV;refine⟨o,f,by rw [toNat_natCast];exact Go.Lv.Ac.part ek (t*2) 2 (by have:yo.length=6:=rfl;omega) ir,Ap4 bI fun w2 jC=>⟨_,rfl,Aa (fun he=>⟨?_,hk.trans jC⟩) fun he=>⟨⟨t+1,hw,by omega,?_⟩,?_⟩⟩⟩
   ·rw [Br1 (by simpa using(beq_iff_eq.1 he).symm)]
   ·have:=bV (fun e=>by rw [e]at he;simp at he);exact⟨this.1,this.2.1,this.2.2,hk.trans jC⟩
   ·rw [hw];omega
  rcases(by omega:t=0\/t=1\/t=2)with rfl|rfl|rfl
  ·exact key 33 _ rfl (fun e=>by unfold Jh;rw [if_pos e];rfl) fun e=>⟨fun _=>e,by omega,by omega⟩
  ·exact key 26 _ rfl (fun e=>by unfold Jh;rw [if_neg (h0 (by omega)),if_pos e];rfl) fun e=>⟨fun _=>h0 (by omega),fun _=>e,by omega⟩
  ·exact key 37 _ rfl (fun e=>by unfold Jh;rw [if_neg (h0 (by omega)),if_neg (h1 (by omega)),if_pos e];rfl) fun e=>⟨fun _=>h0 (by omega),fun _=>h1 (by omega),fun _=>e⟩
 ·have:t=3:=by simp at hc;omega
  subst this;unfold Jh;rw [if_neg (h0 (by omega)),if_neg (h1 (by omega)),if_neg (h2 (by omega))];exact⟨rfl,hk⟩
end
section
variable {l:List Ag}
def Azm (p:Bn) (a0:Option Addr) (c0:Nat) (a1:Option Addr) (c1:Nat) (a3:Option Addr) (c3:Nat):List Value:=[.slice a0 p.cH.length c0,.slice a1 p.ck.length c1,.int .i64 p.main,.slice a3 p.A7.length c3]
def jG (rb b1 b:Nat) (pc:List Value):List Pc:=[.box rb yo,.box b1 pc,.box b [.slice none 0 0,.slice none 0 0,.int .i64 0,.slice none 0 0]]
set_option maxRecDepth 100000 in
theorem Ap5 (S:G2 l) (hF:∀i,i<l.length->o8 l i) (K:Bn->Int->Int->Prop) (h:∀p,Fg l p->K p 0 0):Amb l K:=by
 intro m w hm lA lC fR hl;have U:=S.unit;have my:=U.len;have o:=Mem.start hm.lt;have hf:(([]:List Nat),w.heap.size,w)∈[(([]:List Nat),w.heap.size,w)]:= .head _;refine Aj7 _ _ _ _ _ ?_;intro b w1 hb aP;have st:=o.xB hb aP;have o:=o.box hb aP;refine Ad (Ap2 S (fun p a e=>Fg l p/\a=0/\e=0) (fun p hp=>⟨hp,rfl,rfl⟩) _ w1 (o.mo hm (by simp) hf) _ _ fR (hl.st st)) ?_;rintro _ w2 ⟨p,_,_,⟨hP,rfl,rfl⟩,⟨cQ,rfl,dT⟩,aW⟩;have st:=st.trans (o.xE aW);have o:=o.ext aW;obtain⟨a0,c0,a1,c1,a3,c3,rfl,hh⟩:=Ge dT;clear hh;refine⟨_,_,_,_,_,_,_,_,_,_,_,_,rfl,?_⟩;intro b1 w3 bI cV;have aL:=o.xB bI cV;have st:=st.trans aL;have dT:=Cv.st dT aL;have o:=o.box bI cV;refine⟨o.wr 0 rfl rfl,fun w4 dt=> ?_⟩;have ai:=o.pO 0 dt rfl;have st:=st.trans ai;have dT:=Cv.st dT ai;have o:=o.l9 0 dt rfl;refine Ba rfl ?_;refine Aam _ _ ?_;intro rb w6 UJ eK;have bQ:=o.xB UJ eK;have st:=st.trans bQ;have dT:=Cv.st dT bQ;have o:=o.box UJ eK;obtain⟨pc,qh⟩:∃pc:List Value,pc=Azm p a0 c0 a1 c1 a3 c3:=⟨_,rfl⟩
 have o:Mem w.heap.size [] m [([],w.heap.size,w)] [] w6 (jG rb b1 b pc):=by rw [qh];exact o
 have st:Step m w (ms (jG rb b1 b pc) m) w6:=by rw [qh];exact st
 have dT:Cv.rep (ms (jG rb b1 b pc) m) w6 p pc:=by rw [qh];exact dT
 have Bs7:pc.length=4:=by rw [qh];rfl
 refine⟨_,_,_,rfl,fun x w'=>∃t:Nat,x=t/\t<=l.length/\Mem w.heap.size [] m [([],w.heap.size,w)] [] w' (jG rb b1 b pc)/\Step m w (ms (jG rb b1 b pc) m) w'/\Cv.rep (ms (jG rb b1 b pc) m) w' p pc,fun x _=>l.length-x.toNat,⟨0,rfl,zero_le _,o,st,dT⟩,?_⟩;clear o st dT;rintro _ _ w7 ⟨t,rfl,ht,o,st,dT⟩;refine Aa (fun hc=> ?_) fun hc=> ?_
 ·have jF:t<l.length:=by have:=of_decide_eq_true hc;omega
  have hx:=getElem?_eq_getElem jF;have ho:=Bb hx;refine⟨fun w'=>Mem w.heap.size [] m [([],w.heap.size,w)] [] w' (jG rb b1 b pc)/\Step m w (ms (jG rb b1 b pc) m) w'/\Cv.rep (ms (jG rb b1 b pc) m) w' p pc,?_,?_⟩
  ·obtain⟨q,hA,dV⟩:=G4 (hl.st st) hx;refine⟨⟨by omega,by omega⟩,Ae hA ⟨_,_,_,_,_,dV,?_⟩⟩;intro b2 w8 dY fg;have cM:=o.xB dY fg;have o:=o.box dY fg;refine⟨o.wr 0 rfl rfl,fun w9 ff=> ?_⟩;have cR:=o.pO 0 ff rfl;have o:=o.l9 0 ff rfl;refine Ad (Asp (Az l t) (o.at 1 rfl).whole (by rw [ho];exact(o.at 0 rfl).cell rfl)) ?_;rintro _ ak ⟨rfl,aW⟩;have ef:=o.xE aW;have o:=o.ext aW;have stx:=o.xX 0;have o:=o.erase 0;have ph:=cM.trans (cR.trans (ef.trans stx));have st:Step m w (ms (jG rb b1 b pc) m) ak:=st.trans ph;have dT:Cv.rep (ms (jG rb b1 b pc) m) ak p pc:=Cv.st dT ph;have o:Mem w.heap.size [] m [([],w.heap.size,w)] [] ak (jG rb b1 b pc):=o;refine⟨_,rfl,Aa (fun _=>⟨o,st,dT⟩) fun hk=> ?_⟩;have key:∀(k:Nat) (g:FuncId),k<3->Jh (Az l t)=k->yo[k*2+1]? =some (.func (.func g) #[] #[])->Cs Tryz.prog g=true->
    (∀aw,bm (ms (jG rb b1 b pc) m) aw->aF A8 (ms (jG rb b1 b pc) m) aw lA l->Cv.rep (ms (jG rb b1 b pc) m) aw p pc->Calls Tryz.prog g #[.slice lA l.length lC,.agg ⟨pc⟩,.int .i64 t] aw (aD fun v w'=>∃r0:Int,r0=0/\v= .int .i64 r0/\Ao [] aw w'))->
    ∃(J1:Int->World->Prop),(∀aw:World,aw=ak.drew->∃(S:World->Prop),S aw/\((0:Int)<=Jh (Az l t)/\Jh (Az l t)<((3:Nat):Int))/\Ak (some ⟨rb,0,none⟩) (fun a1=>∃(x3:Value),(∀u:World,S u->u.cell? ((a1.add ((Jh (Az l t)).toNat*2)).add 1)=some (x3))/\
     ∃(UK:Option Addr) (UL:Nat) (UM:Nat) (UN:Option Addr) (UO:Nat) (UP:Nat) (UQ:Int) (UR:Option Addr) (US:Nat) (UT:Nat),(∀u:World,S u->Ac u ⟨b1,0,none⟩ [.slice UK UL UM,.slice UN UO UP,.int .i64 UQ,.slice UR US UT])/\
     Qj Tryz.prog x3 #[.slice lA l.length lC,.agg #[.slice UK UL UM,.slice UN UO UP,.int .i64 UQ,.slice UR US UT],.int .i64 t] (fun v3 aJ=>∃(e:Int),v3= .int .i64 e/\J1 e aJ) aw))/\
     ∀(_g1:Nat->Value) (e1:Int) (aQ:World),J1 e1 aQ->e1=0/\Mem w.heap.size [] m [([],w.heap.size,w)] [] aQ (jG rb b1 b pc)/\Step m w (ms (jG rb b1 b pc) m) aQ/\Cv.rep (ms (jG rb b1 b pc) m) aQ p pc:=by
    intro k g TF vd qu eB dP;refine⟨fun e w'=>e=0/\Mem w.heap.size [] m [([],w.heap.size,w)] [] w' (jG rb b1 b pc)/\Step m w (ms (jG rb b1 b pc) m) w'/\Cv.rep (ms (jG rb b1 b pc) m) w' p pc,fun aw il=> ?_,fun _ _ _ hJ=>hJ⟩;have d8:=o.xE (Aq il);have o:=o.ext (Aq il);have st:=st.trans d8;have dT:=Cv.st dT d8;refine⟨fun u=>u=aw,rfl,by rw [vd];omega,Ae rfl ⟨.func (.func g) #[] #[],Cg (P:=fun u=>u.cell? _=_) ?_,a0,p.cH.length,c0,a1,p.ck.length,c1,p.main,a3,p.A7.length,c3,Cg (P:=fun u=>Ac u _ _) ?_,?_⟩⟩
    ·rw [vd,toNat_natCast,Bo,Bo,Nat.zero_add];exact(o.at 0 rfl).cell qu
    ·have:=(o.at 1 rfl).whole;rw [qh]at this;exact this
    ·have n_:=dP aw (o.mo hm (by simp) hf) (hl.st st) dT;rw [show(Value.agg ⟨pc⟩)=Value.agg #[.slice a0 p.cH.length c0,.slice a1 p.ck.length c1,.int .i64 p.main,.slice a3 p.A7.length c3] by rw [qh];rfl]at n_;refine Aq0 rfl eB (Ad n_ ?_)
     ·rintro _ aJ ⟨_,rfl,rfl,aW⟩;have dW:=o.xE aW;exact⟨0,rfl,rfl,o.ext aW,st.trans dW,Cv.st dT dW⟩
   have hk:¬Jh (Az l t)<0:=of_decide_eq_false hk;by_cases iq:Az l t=33
   ·obtain⟨J1,q1,q2⟩:=key 0 _ (by omega) (by unfold Jh;rw [if_pos iq];rfl) rfl (by kernel_rfl) fun aw yp yq oZ=>Ave S hP jF iq (hF t jF) (fun r=>r=0) rfl _ aw yp _ _ fR yq _ oZ
    exact⟨J1,q1,fun g1 e1 aQ h1=>by obtain⟨rfl,h2⟩:=q2 g1 e1 aQ h1;exact Ba rfl h2⟩
   by_cases lB:Az l t=26
   ·obtain⟨J1,q1,q2⟩:=key 1 _ (by omega) (by unfold Jh;rw [if_neg iq,if_pos lB];rfl) rfl (by kernel_rfl) fun aw yp yq oZ=>Ax0 S hP jF lB (hF t jF) (fun r=>r=0) rfl _ aw yp _ _ fR yq _ oZ
    exact⟨J1,q1,fun g1 e1 aQ h1=>by obtain⟨rfl,h2⟩:=q2 g1 e1 aQ h1;exact Ba rfl h2⟩
   by_cases se:Az l t=37
   ·obtain⟨J1,q1,q2⟩:=key 2 _ (by omega) (by unfold Jh;rw [if_neg iq,if_neg lB,if_pos se];rfl) rfl (by kernel_rfl) fun aw yp yq oZ=>Ax1 U jF se (hF t jF) p (fun r=>r=0) rfl _ aw yp _ _ fR yq _ oZ
    exact⟨J1,q1,fun g1 e1 aQ h1=>by obtain⟨rfl,h2⟩:=q2 g1 e1 aQ h1;exact Ba rfl h2⟩
   exfalso;unfold Jh at hk;rw [if_neg iq,if_neg lB,if_neg se]at hk;exact hk (by decide)
  ·rintro _ a_ ⟨o,st,dT⟩;have hw:IntKind.i64.wrap ((t:Int)+1)=((t+1:Nat):Int):=by rw [Au (by omega) (by omega)];omega
   exact⟨⟨t+1,hw,by omega,o,st,dT⟩,by show l.length-(IntKind.i64.wrap ((t:Int)+1)).toNat<l.length-(t:Int).toNat;rw [hw];omega⟩
 ·refine⟨a0,p.cH.length,c0,a1,p.ck.length,c1,p.main,a3,p.A7.length,c3,by have:=(o.at 1 rfl).whole;rw [qh]at this;exact this,o.wr 2 rfl rfl,fun aN jy=> ?_⟩;have ko:=o.pO 2 jy rfl;have dT:=Cv.st dT (ko.trans Mem.d4);have o:=o.l9 2 jy rfl;refine⟨a0,p.cH.length,c0,a1,p.ck.length,c1,p.main,a3,p.A7.length,c3,(o.at 2 rfl).whole,p,0,0,h _ hP,⟨_,rfl,?_⟩,o.done⟩;rw [qh]at dT;exact dT
end
open Go.Rk
def Tu (B:Int) (x:Ay):Prop:=(x.op=2\/x.op=3\/x.op=5)\/((x.op=6\/x.op=7\/x.op=8)/\0<=x.a/\x.a<=B)
theorem Tu.mono {B B':Int} {x:Ay} (h:Tu B x) (hb:B<=B'):Tu B' x:=h.imp id fun h=>⟨h.1,h.2.1,Int.le_trans h.2.2 hb⟩
theorem Tu.d5 {B k:Int} {x:Ay} (h:Tu B x) (hk:0<=k):Tu (B+k) (H7 k x):=by
 unfold H7;rcases h with h|⟨h1,h2,h3⟩
 ·rw [if_neg (by omega),if_neg (by omega)];exact .inl h
 ·rw [if_neg (by omega),if_pos (by omega)];exact .inr ⟨h1,by show 0<=x.a+k;omega,by show x.a+k<=B+k;omega⟩
def Jc (l:List Ay):Prop:=∀x∈l,Tu (l.length:Int) x
theorem F8:∀t:RT,Jc (Al t)
 | .num n=>fun x hx=>by rw [Al,mem_singleton]at hx;subst hx;exact .inl (.inl rfl)
 | .name k=>fun x hx=>by rw [Al,mem_singleton]at hx;subst hx;exact .inl (.inr (.inl rfl))
 | .un op a=>fun x hx=>by
  rw [Al]at hx⊢;rcases mem_append.1 hx with h|h
  ·exact(F8 a x h).mono (by rw [length_append];omega)
  ·rw [mem_singleton]at h;subst h;exact .inl (.inr (.inr rfl))
 | .bin op a b=>fun x hx=>by
  have ha:=F8 a;have hb:=F8 b;have UU:∀(k:Nat) (B:Int),((Al b).length:Int)+k<=B->∀x∈d5 (k:Int) (Al b),Tu B x:=fun k B hB x hx=>by
   obtain⟨y,hy,rfl⟩:=mem_map.1 hx;exact((hb y hy).d5 (by omega)).mono hB
  rw [Al]at hx⊢;by_cases he:Cq op
  ·rw [if_pos he]at hx⊢;have hlen:(Al a++(⟨Bv op,((Al a).length+(Al b).length+4:Nat),0⟩::(d5 ((Al a).length+1:Nat) (Al b)++[⟨Bv op,((Al a).length+(Al b).length+4:Nat),0⟩,⟨2,1-Dm op,0⟩,⟨6,((Al a).length+(Al b).length+5:Nat),0⟩,⟨2,Dm op,0⟩])):List Ay).length=(Al a).length+(Al b).length+5:=by
    simp only [length_append,length_cons,length_nil,Ci];omega
   rw [hlen];have ht:Bv op=7\/Bv op=8:=by rcases he with rfl|rfl<;>simp [Bv]
   rcases mem_append.1 hx with h|h
   ·exact(ha x h).mono (by omega)
   rcases mem_cons.1 h with rfl|h
   ·exact .inr ⟨.inr ht,by show(0:Int)<=((_:Nat):Int);omega,by show((_:Nat):Int)<=_;omega⟩
   rcases mem_append.1 h with h|h
   ·exact UU _ _ (by omega) x h
   ·simp only [mem_cons,List.not_mem_nil,or_false]at h;rcases h with rfl|rfl|rfl|rfl
    ·exact .inr ⟨.inr ht,by show(0:Int)<=((_:Nat):Int);omega,by show((_:Nat):Int)<=_;omega⟩
    ·exact .inl (.inl rfl)
    ·exact .inr ⟨.inl rfl,by show(0:Int)<=((_:Nat):Int);omega,by show((_:Nat):Int)<=_;omega⟩
    ·exact .inl (.inl rfl)
  ·rw [if_neg he]at hx⊢;have hlen:(Al a++(d5 ((Al a).length:Nat) (Al b)++[⟨5,op,0⟩]):List Ay).length=(Al a).length+(Al b).length+1:=by
    simp only [length_append,length_cons,length_nil,Ci];omega
   rw [hlen];rcases mem_append.1 hx with h|h
   ·exact(ha x h).mono (by omega)
   rcases mem_append.1 h with h|h
   ·exact UU _ _ (by omega) x h
   ·rw [mem_singleton]at h;subst h;exact .inl (.inr (.inr rfl))
def Nz (op:Int):Prop:=op=6\/op=7\/op=8\/op=20\/op=21\/op=22
instance (op:Int):Decidable (Nz op):=by unfold Nz;infer_instance
theorem UW (x:Ay) (K:Int->Bool->Prop) (h:K (if Nz x.op then x.a else if x.op=19 then x.b else 0) (decide (Nz x.op\/x.op=19))):Gx x K:=by
 refine Tb _ _ ⟨fun b=>b=decide (Nz x.op),?_,?_⟩
 ·unfold Nz;refine Aa (fun hc=> ?_) fun h6=>Aa (fun hc=> ?_) fun h7=>Aa (fun hc=> ?_) fun h8=>Aa (fun hc=> ?_) fun HB=>Aa (fun hc=> ?_) fun h21=> ?_
  all_goals simp at*
  all_goals simp [*]
  all_goals exact Bool.eq_iff_iff.2 (by simp)
 rintro _ rfl;refine Aa (fun hc=> ?_) fun hc=>Aa (fun nz=> ?_) fun nz=> ?_
 ·have hc:=of_decide_eq_true hc;rw [if_pos hc,decide_eq_true (.inl hc)]at h;exact h
 ·have hc:=of_decide_eq_false hc;have nz:x.op=19:=by simpa using nz
  rw [if_neg hc,if_pos nz,decide_eq_true (.inr nz)]at h;exact h
 ·have hc:=of_decide_eq_false hc;have nz:¬x.op=19:=by simpa using nz
  rw [if_neg hc,if_neg nz,decide_eq_false (by rintro(h|h)<;>contradiction)]at h;exact h
theorem UX (x:Ay) (t:Int) (hx:Nz x.op) (K:Ay->Prop) (h:K ⟨x.op,t,x.b⟩):Oo x t K:=by
 refine Zz _ _ _ (UW _ _ (Ba (by simp [hx]) ⟨fun o a b=>o=x.op/\a=t/\b=x.b,Aa (fun hc=> ?_) fun _=>⟨rfl,rfl,rfl⟩,?_⟩))
 ·have:x.op=19:=by simpa using hc
  unfold Nz at hx;omega
 ·rintro _ _ _ ⟨rfl,rfl,rfl⟩;exact h
theorem Avf (l:List Ay) (hl:l.length<4294967296) (K:List Ay->Prop) (h:K l):Cp l K:=by
 refine F3 _ _ fun z hz=>Aa (fun hc=> ?_) fun _=>⟨by omega,h⟩
 rw [hz hc]at h;exact h
theorem Ib (l:List Ay) (k:Nat) (hl:l.length<1073741824) (hk:k<1073741824) (hc:Jc l) (K:List Ay->Prop) (h:K (d5 k l)):My l k K:=by
 refine Xs _ _ _ (Avf l (by omega) _ ⟨fun x m n=>Lv.At l.length (fun t=>m=d5 k (l.take t)++l.drop t) x n,⟨_,Lv.At.start (by simp [d5])⟩,?_⟩);rintro _ _ _ ⟨t,rfl,ht,rfl,rfl⟩;refine Lv.At.cond ht (fun ht=> ?_) fun ht=> ?_
 ·have hx:(d5 k (l.take t)++l.drop t)[t]? =some l[t]:=by
   rw [List.getElem?_append_right (by rw [Ci,length_take];omega),Ci,length_take,Nat.min_eq_left (by omega),Nat.sub_self,List.getElem?_drop,Nat.add_zero];exact getElem?_eq_getElem ht
  have m5:∀y,(d5 k (l.take t)++l.drop t).set t y=d5 k (l.take t)++y::l.drop (t+1):=fun y=>by
   rw [List.set_append_right _ _ (by rw [Ci,length_take];omega),Ci,length_take,Nat.min_eq_left (by omega),Nat.sub_self,List.drop_eq_getElem_cons ht,List.set_cons_zero]
  have o6:d5 k (l.take (t+1))=d5 k (l.take t)++[H7 k l[t]]:=by rw [L3 ht,Py];rfl
  have eB:=hc l[t] (List.getElem_mem ht);have l5:d5 k (l.take t)++H7 k l[t]::l.drop (t+1)=d5 k (l.take (t+1))++l.drop (t+1):=by rw [o6,append_assoc];rfl
  refine⟨fun m=>m=d5 k (l.take (t+1))++l.drop (t+1),⟨⟨by omega,by omega⟩,fun y hy=> ?_⟩,fun m hm=>Lv.At.next (by omega) ht hm⟩;rw [toNat_natCast,hx]at hy;cases hy
  refine UW _ _ (Aa (fun hb=> ?_) fun hb=> ?_)
  ·have hb:=of_decide_eq_true hb;have ha:Nz l[t].op:=by
    rcases hb with h|h
    ·exact h
    ·unfold Tu at eB;omega
   rw [if_pos ha];have Ic:0<=l[t].a/\l[t].a<=l.length:=by
    unfold Nz at ha;rcases eB with h|h
    ·omega
    ·exact h.2
   rw [Au (by omega) (by omega)];refine UX _ _ ha _ ⟨⟨by omega,by omega⟩,fun _ _=> ?_⟩;rw [toNat_natCast,m5,←l5];congr 2;unfold H7;have nz:¬l[t].op=19:=by unfold Nz at ha;omega
   have UY:=ha;unfold Nz at UY;rw [if_neg nz,if_pos UY]
  ·have hb:=of_decide_eq_false hb;rw [←l5,←m5];have:H7 k l[t]=l[t]:=by
    unfold H7;rw [if_neg (fun h=>hb (.inr h)),if_neg (fun h=>hb (.inl (by unfold Nz;exact h)))]
   rw [this];apply List.ext_getElem?;intro j;by_cases e:j=t
   ·subst e;rw [List.getElem?_set_self (by simp [d5];omega),hx]
   ·rw [List.getElem?_set_ne (Ne.symm e)]
 ·subst ht;rw [List.take_length,List.drop_length,List.append_nil];exact h
theorem UZ (a b:List Ay) (ha:a.length<1073741824) (hb:b.length<1073741824) (ha2:Jc a) (dY:Jc b) (K:List Ay->Prop) (h:K (a++d5 a.length b)):Hm [a,b] K:=by
 refine U9 _ _ ⟨fun out x n=>Lv.At 2 (fun t=>(t=0/\out=[])\/(t=1/\out=a)\/(t=2/\out=a++d5 a.length b)) x n,⟨_,Lv.At.start (.inl ⟨rfl,rfl⟩)⟩,?_⟩;rintro out _ _ ⟨t,rfl,ht,rfl,hh⟩;refine Lv.At.cond (len:=2) ht (fun ht=> ?_) fun ht=> ?_
 ·rcases hh with⟨rfl,rfl⟩|⟨rfl,rfl⟩|⟨rfl,_⟩
  ·refine Bt (x:=a) rfl (Ib a 0 ha (by omega) ha2 _ ⟨by rw [Ci];simp;omega,Lv.At.next (by omega) (by omega) (.inr (.inl ⟨rfl,by simp [Ox]⟩))⟩)
  ·refine Bt (x:=b) rfl (Ib b out.length hb ha dY _ ⟨by rw [Ci];omega,Lv.At.next (by omega) (by omega) (.inr (.inr ⟨rfl,rfl⟩))⟩)
  ·omega
 ·rcases hh with⟨rfl,_⟩|⟨rfl,_⟩|⟨_,rfl⟩
  ·omega
  ·omega
  ·exact h
def Vp (x0:Addr) (x1:Option Addr) (x2:Nat) (_x3:Nat) (K:Value->World->Prop) (w:World):Prop:=∃x4 x5 x6,w.cell? x0=some (.slice x4 x5 x6)/\∃(I:Int->World->Prop) (x7:Int->World->Nat),I 0 w/\∀(_x8:Nat->Value) (x9:Int) (w1:World),I x9 w1->cond (decide (x9<(x2:Int))) (∃(J:World->Prop),(((0:Int)<=x9/\x9<(x2:Int))/\Ak x1 (fun ad=>∃aa af ae,Ac w1 (ad.add (x9.toNat*3)) [.int .i64 aa,.int .i64 af,.int .i64 ae]/\∀(ag:Nat) (w2:World),ag=w1.heap.size->w2=w1.alloc (.cells #[.int .i64 0,.int .i64 0,.int .i64 0] 52)->Af w2 (Zb ag) 3/\∀w3:World,w3=setCells w2 (Zb ag) [.int .i64 aa,.int .i64 af,.int .i64 ae]->∀w4:World,w4=w3.drew->∃(S:World->Prop),S w4/\∃ah aj ax,(∀u:World,S u->u.cell? x0=some (.slice ah aj ax))/\∃aH ao ar,(∀u:World,S u->Ac u (Zb ag) [.int .i64 aH,.int .i64 ao,.int .i64 ar])/\∀(aK:Nat) (w5:World),aK=w4.heap.size->w5=w4.alloc (.cells #[.int .i64 aH,.int .i64 ao,.int .i64 ar,.int .i64 0,.bool false] 146)->S w5/\Bh Tryz.prog (Builtin.append_ #[111,111] 111 #[.slice ah aj ax,.slice (some (Zb aK)) 1 1]) (fun aG w6=>∃aV aZ bf,aG= .slice aV aZ bf/\Af w6 x0 1/\∀w7:World,w7=w6.setCell x0 (.slice aV aZ bf)->J w7) w5))/\∀(_x26:Nat->Value) w8,J w8->I (IntKind.i64.wrap (x9+1)) w8/\x7 (IntKind.i64.wrap (x9+1)) w8<x7 x9 w1) (K (.int .i64 (x5:Int)) w1)
theorem Vq (x0:Addr) (x1:Option Addr) (x2:Nat) (x3:Nat) (K:Value->World->Prop) (w:World) (h:Vp x0 x1 x2 x3 K w):Calls Tryz.prog 60 #[.pointer (some x0),.slice x1 x2 x3] w (aD K):=
 Aj { loops:=[(122,[(17,.int .i64)])],dN:=[(979,[])] } Tryz.func60 (by kernel_rfl) h
def Ru (x0:Addr) (K:Value->World->Prop) (w:World):Prop:=∃x1 x2 x3,w.cell? (x0.add 1)=some (.slice x1 x2 x3)/\∀(x4:Nat) (w1:World),x4=w.heap.size->w1=w.alloc (.cells #[.int .i64 (-1)] 3)->Bh Tryz.prog (Builtin.append_ #[23,23] 23 #[.slice x1 x2 x3,.slice (some (Zb x4)) 1 1]) (fun x5 w2=>∃x6 x7 x8,x5= .slice x6 x7 x8/\Af w2 (x0.add 1) 1/\∀w3:World,w3=w2.setCell (x0.add 1) (.slice x6 x7 x8)->∃x9 ad aa,w3.cell? (x0.add 1)=some (.slice x9 ad aa)/\K (.int .i64 (ad:Int)) w3) w1
theorem Rv (x0:Addr) (K:Value->World->Prop) (w:World) (h:Ru x0 K w):Calls Tryz.prog 59 #[.pointer (some x0)] w (aD K):=
 Aj {} Tryz.func59 (by kernel_rfl) h
def Xv (x0:Addr) (x1:Int) (x2:Int) (x3:Int) (x4:Int) (K:Value->World->Prop) (w:World):Prop:=∃x5 x6 x7,w.cell? x0=some (.slice x5 x6 x7)/\∀(x8:Nat) (w1:World),x8=w.heap.size->w1=w.alloc (.cells #[.int .i64 x1,.int .i64 x2,.int .i64 x3,.int .i64 x4,.bool true] 146)->Bh Tryz.prog (Builtin.append_ #[111,111] 111 #[.slice x5 x6 x7,.slice (some (Zb x8)) 1 1]) (fun x9 w2=>∃ad aa af,x9= .slice ad aa af/\Af w2 x0 1/\∀w3:World,w3=w2.setCell x0 (.slice ad aa af)->∃ae ag ah,w3.cell? x0=some (.slice ae ag ah)/\K (.int .i64 (IntKind.i64.wrap ((ag:Int)-1))) w3) w1
theorem Xw (x0:Addr) (x1:Int) (x2:Int) (x3:Int) (x4:Int) (K:Value->World->Prop) (w:World) (h:Xv x0 x1 x2 x3 x4 K w):Calls Tryz.prog 63 #[.pointer (some x0),.int .i64 x1,.int .i64 x2,.int .i64 x3,.int .i64 x4] w (aD K):=
 Aj {} Tryz.func63 (by kernel_rfl) h
abbrev E4 (f:FuncId) (a:Array Value) (w:World) (K:Value->World->Prop):Prop:=Calls Tryz.prog f a w (aD K)
def Tv (x0:Addr) (x1:Int) (K:Value->World->Prop) (w:World):Prop:=E4 93 #[.pointer (some x0),.int .i64 x1] w (fun x2 w1=>∃x3,x2= .bool x3/\cond (!x3) (K (.int .i64 1) w1) (∃x4 x5 x6,w1.cell? (x0.add 1)=some (.slice x4 x5 x6)/\((0:Int)<=(IntKind.i64.wrap (x1-1))/\(IntKind.i64.wrap (x1-1))<(x5:Int))/\Ak x4 (fun x7=>∃x8,w1.cell? (x7.add ((IntKind.i64.wrap (x1-1)).toNat*1))=some (.int .i64 x8)/\cond (decide (x8>=0)) (K (.int .i64 8) w1) (∀w2:World,w2=w1.drew->∃x9 ad aa,w2.cell? (x0.add 1)=some (.slice x9 ad aa)/\∃af ae ag,w2.cell? x0=some (.slice af ae ag)/\((0:Int)<=(IntKind.i64.wrap (x1-1))/\(IntKind.i64.wrap (x1-1))<(ad:Int))/\Ak x9 (fun ah=>Af w2 (ah.add ((IntKind.i64.wrap (x1-1)).toNat*1)) 1/\∀w3:World,w3=w2.setCell (ah.add ((IntKind.i64.wrap (x1-1)).toNat*1)) (.int .i64 (ae:Int))->K (.int .i64 0) w3)))))
theorem Tw (x0:Addr) (x1:Int) (K:Value->World->Prop) (w:World) (h:Tv x0 x1 K w):Calls Tryz.prog 64 #[.pointer (some x0),.int .i64 x1] w (aD K):=
 Aj {} Tryz.func64 (by kernel_rfl) h
def Vr (x0:Addr) (x1:Int) (K:Value->World->Prop) (w:World):Prop:=cond (decide (x1>=1)) (∃x2 x3 x4,w.cell? (x0.add 1)=some (.slice x2 x3 x4)/\K (.bool (decide (x1<=(x3:Int)))) w) (K (.bool false) w)
theorem Vs (x0:Addr) (x1:Int) (K:Value->World->Prop) (w:World) (h:Vr x0 x1 K w):Calls Tryz.prog 93 #[.pointer (some x0),.int .i64 x1] w (aD K):=
 Aj {} Tryz.func93 (by kernel_rfl) h
def Vt (x0:Addr) (K:Value->World->Prop) (w:World):Prop:=∃x1 x2 x3,w.cell? x0=some (.slice x1 x2 x3)/\K (.int .i64 (x2:Int)) w
theorem Vu (x0:Addr) (K:Value->World->Prop) (w:World) (h:Vt x0 K w):Calls Tryz.prog 62 #[.pointer (some x0)] w (aD K):=
 Aj {} Tryz.func62 (by kernel_rfl) h
def Tx (x0:Addr) (K:Value->World->Prop) (w:World):Prop:=∃x1 x2 x3,w.cell? x0=some (.slice x1 x2 x3)/\∃(I:Option Addr->Nat->Nat->Int->World->Prop) (x4:Option Addr->Nat->Nat->Int->World->Nat),I none 0 0 0 w/\∀(_x5:Nat->Value) (x6:Option Addr) (x7:Nat) (x8:Nat) (x9:Int) (w1:World),I x6 x7 x8 x9 w1->cond (decide (x9<(x2:Int))) (∃(J:Option Addr->Nat->Nat->World->Prop),(((0:Int)<=x9/\x9<(x2:Int))/\Ak x1 (fun ad=>∃aa af ae ag ah,Ac w1 (ad.add (x9.toNat*5)) [.int .i64 aa,.int .i64 af,.int .i64 ae,.int .i64 ag,.bool ah]/\∀(aj:Nat) (w2:World),aj=w1.heap.size->w2=w1.alloc (.cells #[.int .i64 0,.int .i64 0,.int .i64 0,.int .i64 0,.bool false] 146)->Af w2 (Zb aj) 5/\∀w3:World,w3=setCells w2 (Zb aj) [.int .i64 aa,.int .i64 af,.int .i64 ae,.int .i64 ag,.bool ah]->∃ax,w3.cell? ⟨aj,4,none⟩=some (.bool ax)/\cond (!ax) (∃aH,w3.cell? (Zb aj)=some (.int .i64 aH)/\∃ao,w3.cell? ⟨aj,1,none⟩=some (.int .i64 ao)/\∃ar,w3.cell? ⟨aj,2,none⟩=some (.int .i64 ar)/\∀(aK:Nat) (w4:World),aK=w3.heap.size->w4=w3.alloc (.cells #[.int .i64 aH,.int .i64 ao,.int .i64 ar] 52)->Bh Tryz.prog (Builtin.append_ #[39,39] 39 #[.slice x6 x7 x8,.slice (some (Zb aK)) 1 1]) (fun aG w5=>∃aV aZ bf,aG= .slice aV aZ bf/\J aV aZ bf w5) w4) (∃aR,w3.cell? ⟨aj,3,none⟩=some (.int .i64 aR)/\E4 93 #[.pointer (some x0),.int .i64 aR] w3 (fun br w6=>∃bn,br= .bool bn/\cond (!bn) (K (.tuple #[.slice none 0 0,.int .i64 1]) w6) (∀w7:World,w7=w6.drew->∃bt bz bD,w7.cell? (x0.add 1)=some (.slice bt bz bD)/\∃bo,w7.cell? ⟨aj,3,none⟩=some (.int .i64 bo)/\((0:Int)<=(IntKind.i64.wrap (bo-1))/\(IntKind.i64.wrap (bo-1))<(bz:Int))/\Ak bt (fun bK=>∃bC,w7.cell? (bK.add ((IntKind.i64.wrap (bo-1)).toNat*1))=some (.int .i64 bC)/\cond (decide (bC<0)) (K (.tuple #[.slice none 0 0,.int .i64 7]) w7) (∀w8:World,w8=w7.drew->∃(S:World->Prop),S w8/\∃bL bX bG,(∀u:World,S u->Ac u (Zb aj) [.int .i64 bL,.int .i64 bX,.int .i64 bG])/\∃bN bM bP,(∀u:World,S u->u.cell? (x0.add 1)=some (.slice bN bM bP))/\∃bp,(∀u:World,S u->u.cell? ⟨aj,3,none⟩=some (.int .i64 bp))/\((0:Int)<=(IntKind.i64.wrap (bp-1))/\(IntKind.i64.wrap (bp-1))<(bM:Int))/\Ak bN (fun b_=>∃ct,(∀u:World,S u->u.cell? (b_.add ((IntKind.i64.wrap (bp-1)).toNat*1))=some (.int .i64 ct))/\E4 92 #[.agg #[.int .i64 bL,.int .i64 bX,.int .i64 bG],.int .i64 ct] w8 (fun cy w9=>∃cf cg cJ,cy= .agg #[.int .i64 cf,.int .i64 cg,.int .i64 cJ]/\∀(cu:Nat) (ak:World),cu=w9.heap.size->ak=w9.alloc (.cells #[.int .i64 cf,.int .i64 cg,.int .i64 cJ] 52)->Bh Tryz.prog (Builtin.append_ #[39,39] 39 #[.slice x6 x7 x8,.slice (some (Zb cu)) 1 1]) (fun cG aw=>∃cj cK bS,cG= .slice cj cK bS/\J cj cK bS aw) ak)))))))))/\∀(_x53:Nat->Value) cp dp dj aJ,J cp dp dj aJ->I cp dp dj (IntKind.i64.wrap (x9+1)) aJ/\x4 cp dp dj (IntKind.i64.wrap (x9+1)) aJ<x4 x6 x7 x8 x9 w1) (K (.tuple #[.slice x6 x7 x8,.int .i64 0]) w1)
theorem Tz (x0:Addr) (K:Value->World->Prop) (w:World) (h:Tx x0 K w):Calls Tryz.prog 65 #[.pointer (some x0)] w (aD K):=
 Aj { loops:=[(122,[(4,.slice),(14,.int .i64)])],dN:=[(979,[(4,.slice)])] } Tryz.func65 (by kernel_rfl) h
def Rx (x0:Addr) (x1:Int) (K:Value->World->Prop) (w:World):Prop:=∀(x2:Nat) (w1:World),x2=w.heap.size->w1=w.alloc (.cells #[.pointer (some x0)] 35)->∀(x3:Nat) (w2:World),x3=w1.heap.size->w2=w1.alloc (.cells #[.int .i64 0] 3)->Af w2 (Zb x3) 1/\∀w3:World,w3=w2.setCell (Zb x3) (.int .i64 7)->∃(J:Int->World->Prop),(∃x4,w3.cell? (Zb x2)=some (.pointer x4)/\Ak x4 (fun x5=>∃x6 x7 x8,w3.cell? x5=some (.slice x6 x7 x8)/\((0:Int)<=x1/\x1<(x7:Int))/\Ak x6 (fun x9=>∃ad,w3.cell? (x9.add (x1.toNat*5))=some (.int .i64 ad)/\cond (ad==17) (Af w3 (Zb x3) 1/\∀w4:World,w4=w3.setCell (Zb x3) (.int .i64 8)->J 1 w4) (J 0 w3))))/\∀(_x11:Nat->Value) af w5,J af w5->∀(ae:Nat) (w6:World),ae=w5.heap.size->w6=w5.alloc (.cells #[.slice none 0 0,.slice none 0 0] 113)->∀(ag:Nat) (w7:World),ag=w6.heap.size->w7=w6.alloc (.cells #[.pointer none] 110)->Af w7 (Zb ag) 1/\∀w8:World,w8=w7.setCell (Zb ag) (.pointer (some (Zb ae)))->∃(J1:Option Addr->Int->World->Prop),(∀w9:World,w9=w8.drew->∃(S:World->Prop),S w9/\∃ah,(∀u:World,S u->u.cell? (Zb ag)=some (.pointer ah))/\∃aj,(∀u:World,S u->u.cell? (Zb ag)=some (.pointer aj))/\(E4 59 #[.pointer ah] w9 (fun ax ak=>∃aH,ax= .int .i64 aH/\S ak/\(E4 59 #[.pointer aj] ak (fun ao aw=>∃ar,ao= .int .i64 ar/\∀(aK:Nat) (aJ:World),aK=aw.heap.size->aJ=aw.alloc (.cells #[.int .i64 0] 3)->S aJ/\Af aJ (Zb aK) 1/\∀aQ:World,aQ=aJ.setCell (Zb aK) (.int .i64 aH)->J1 (some (Zb aK)) ar aQ))/\(∀(aG:Nat) (aX:World),aG=ak.heap.size->aX=ak.alloc (.cells #[.int .i64 0] 3)->S aX/\E4 59 #[.pointer aj] aX (fun aV a_=>∃aZ,aV= .int .i64 aZ/\Af a_ (Zb aG) 1/\∀aN:World,aN=a_.setCell (Zb aG) (.int .i64 aH)->J1 (some (Zb aG)) aZ aN))))/\(∀(bf:Nat) (bE:World),bf=w9.heap.size->bE=w9.alloc (.cells #[.int .i64 0] 3)->S bE/\E4 59 #[.pointer ah] bE (fun aR bB=>∃br,aR= .int .i64 br/\S bB/\E4 59 #[.pointer aj] bB (fun bn bT=>∃bt,bn= .int .i64 bt/\Af bT (Zb bf) 1/\∀dc:World,dc=bT.setCell (Zb bf) (.int .i64 br)->J1 (some (Zb bf)) bt dc))))/\∀(_x30:Nat->Value) bD bo cS,J1 bD bo cS->∃bK,cS.cell? (Zb x2)=some (.pointer bK)/\Ak bK (fun bC=>∃bL bX bG,cS.cell? bC=some (.slice bL bX bG)/\E4 23 #[.slice bL bX bG,.int .i64 x1] cS (fun bN dq=>∃bM bP,bN= .func (.func 43) #[] #[.pointer (some (Zb bM)),.pointer (some (Zb bP))]/\∃(bp:List Nat) (b_:List (Int)),Kr Tryz.prog 43 #[.pointer (some (Zb bM)),.pointer (some (Zb bP))] [.int .i64] bp b_ dq/\∃(I:List Nat->List (Int)->World->Prop) (cg:List (Int)->World->Prop) (_x47:Nat->List (Int)->World->Prop),I bp [] dq/\(∀(ct:List Nat) (cu:List (Int)) (cG:Int) (eF dJ:World),I ct cu eF->Grown dq.heap.size eF dJ->(cu++[cG])<+:b_->∃(J2:World->Prop),(∀cL:World,cL=dJ.drew->∃(S1:World->Prop),S1 cL/\∃cj,(∀u:World,S1 u->u.cell? (Zb ag)=some (.pointer cj))/\∃cK,(∀u:World,S1 u->u.cell? (Zb x2)=some (.pointer cK))/\∃bS,(∀u:World,S1 u->u.cell? (Zb ag)=some (.pointer bS))/\E4 18 #[.pointer cK,.int .i64 cG] cL (fun di eb=>∃cp dp dj,di= .slice cp dp dj/\S1 eb/\E4 62 #[.pointer bS] eb (fun cv cY=>∃d9,cv= .int .i64 d9/\S1 cY/\E4 61 #[.slice cp dp dj,.int .i64 d9] cY (fun dk dx=>∃dG dH dI,dk= .slice dG dH dI/\S1 dx/\E4 60 #[.pointer cj,.slice dG dH dI] dx (fun dM dd=>∃cO,dM= .int .i64 cO/\J2 dd)))))/\∀(_x65:Nat->Value) dQ,J2 dQ->∃d_,dQ.cell? (Zb ag)=some (.pointer d_)/\∃ey,dQ.cell? (Zb x3)=some (.int .i64 ey)/\Ak bD (fun d7=>∃dZ,dQ.cell? d7=some (.int .i64 dZ)/\E4 63 #[.pointer d_,.int .i64 ey,.int .i64 0,.int .i64 0,.int .i64 dZ] dQ (fun fE ei=>∃eg,fE= .int .i64 eg/\∃cy,G8 ct cy dJ ei/\I cy (cu++[cG]) ei)))/\(∀(eC:List (Int)) (dm eI:World) (eh:Nat),eC<+:b_->cg eC dm->Grown dq.heap.size dm eI->dq.heap.size<=eh->eI.heap[eh]? =some (.deferred (some []))->Bi (eh::[]) eI/\K (.slice none 0 0) (shut (eh::[]) eI))/\∀(cf:List Nat) (eR eM:World) (ej:Nat),I cf b_ eR->Grown dq.heap.size eR eM->dq.heap.size<=ej->eM.heap[ej]? =some (.deferred (some []))->∃eD,eM.cell? (Zb ag)=some (.pointer eD)/\∀(eE:Nat) (gA:World),eE=eM.heap.size->gA=eM.alloc (.cells #[.int .i64 2,.int .i64 (IntKind.i64.wrap ((1:Int)-af)),.int .i64 0] 52)->E4 60 #[.pointer eD,.slice (some (Zb eE)) 1 1] gA (fun gb fP=>∃fF,gb= .int .i64 fF/\∃fx,fP.cell? (Zb ag)=some (.pointer fx)/\E4 63 #[.pointer fx,.int .i64 6,.int .i64 0,.int .i64 0,.int .i64 bo] fP (fun fc g_=>∃ep,fc= .int .i64 ep/\∃eP,g_.cell? (Zb ag)=some (.pointer eP)/\Ak bD (fun fi=>∃gd,g_.cell? fi=some (.int .i64 gd)/\E4 64 #[.pointer eP,.int .i64 gd] g_ (fun eQ iW=>∃fj,eQ= .int .i64 fj/\∃e7,iW.cell? (Zb ag)=some (.pointer e7)/\∀(fJ:Nat) (lM:World),fJ=iW.heap.size->lM=iW.alloc (.cells #[.int .i64 2,.int .i64 af,.int .i64 0] 52)->E4 60 #[.pointer e7,.slice (some (Zb fJ)) 1 1] lM (fun fK nK=>∃gH,fK= .int .i64 gH/\∃fG,nK.cell? (Zb ag)=some (.pointer fG)/\E4 64 #[.pointer fG,.int .i64 bo] nK (fun gN nk=>∃fH,gN= .int .i64 fH/\∃hH,nk.cell? (Zb ag)=some (.pointer hH)/\E4 65 #[.pointer hH] nk (fun gI pI=>∃gh fM gz gO,gI= .tuple #[.slice gh fM gz,.int .i64 gO]/\Bi (ej::[]) pI/\K (.slice gh fM gz) (shut (ej::[]) pI))))))))))
theorem Ry (x0:Addr) (x1:Int) (K:Value->World->Prop) (w:World) (h:Rx x0 x1 K w):Calls Tryz.prog 37 #[.pointer (some x0),.int .i64 x1] w (aD K):=
 Fi { dN:=[(7,[(6,.int .i64)]),(31,[(8,.pointer),(9,.int .i64)]),(2026,[])],ranges:=[(506,[.int .i64])],qw:=[(23,43,2)] } Tryz.func37 (by kernel_rfl) h
def T0 (x0:Addr) (x1:Int) (K:Value->World->Prop) (w:World):Prop:=∃x2 x3 x4,w.cell? x0=some (.slice x2 x3 x4)/\((0:Int)<=x1/\x1<(x3:Int))/\Ak x2 (fun x5=>∃x6,w.cell? (x5.add (x1.toNat*5))=some (.int .i64 x6)/\cond (x6==1) (cond (x6==1) (E4 36 #[.pointer (some x0),.int .i64 x1] w (fun x7 w1=>∃x8 x9 ad,x7= .slice x8 x9 ad/\K (.slice x8 x9 ad) w1)) (cond (x6==16) (cond (x6==16) (E4 37 #[.pointer (some x0),.int .i64 x1] w (fun aa w2=>∃af ae ag,aa= .slice af ae ag/\K (.slice af ae ag) w2)) (cond (x6==33) (E4 38 #[.pointer (some x0),.int .i64 x1] w (fun ah w3=>∃aj ax aH,ah= .slice aj ax aH/\K (.slice aj ax aH) w3)) (E4 35 #[.pointer (some x0),.int .i64 x1] w (fun ao w4=>∃ar aK aG,ao= .slice ar aK aG/\K (.slice ar aK aG) w4)))) (cond (x6==17) (E4 37 #[.pointer (some x0),.int .i64 x1] w (fun aV w5=>∃aZ bf aR,aV= .slice aZ bf aR/\K (.slice aZ bf aR) w5)) (cond (x6==33) (E4 38 #[.pointer (some x0),.int .i64 x1] w (fun br w6=>∃bn bt bz,br= .slice bn bt bz/\K (.slice bn bt bz) w6)) (E4 35 #[.pointer (some x0),.int .i64 x1] w (fun bD w7=>∃bo bK bC,bD= .slice bo bK bC/\K (.slice bo bK bC) w7)))))) (cond (x6==2) (E4 36 #[.pointer (some x0),.int .i64 x1] w (fun bL w8=>∃bX bG bN,bL= .slice bX bG bN/\K (.slice bX bG bN) w8)) (cond (x6==16) (cond (x6==16) (E4 37 #[.pointer (some x0),.int .i64 x1] w (fun bM w9=>∃bP bp b_,bM= .slice bP bp b_/\K (.slice bP bp b_) w9)) (cond (x6==33) (E4 38 #[.pointer (some x0),.int .i64 x1] w (fun ct ak=>∃cy cf cg,ct= .slice cy cf cg/\K (.slice cy cf cg) ak)) (E4 35 #[.pointer (some x0),.int .i64 x1] w (fun cJ aw=>∃cu cG cj,cJ= .slice cu cG cj/\K (.slice cu cG cj) aw)))) (cond (x6==17) (E4 37 #[.pointer (some x0),.int .i64 x1] w (fun cK aJ=>∃bS di cp,cK= .slice bS di cp/\K (.slice bS di cp) aJ)) (cond (x6==33) (E4 38 #[.pointer (some x0),.int .i64 x1] w (fun dp aQ=>∃dj cv d9,dp= .slice dj cv d9/\K (.slice dj cv d9) aQ)) (E4 35 #[.pointer (some x0),.int .i64 x1] w (fun dk aX=>∃dG dH dI,dk= .slice dG dH dI/\K (.slice dG dH dI) aX)))))))
theorem T1 (x0:Addr) (x1:Int) (K:Value->World->Prop) (w:World) (h:T0 x0 x1 K w):Calls Tryz.prog 18 #[.pointer (some x0),.int .i64 x1] w (aD K):=
 Aj {} Tryz.func18 (by kernel_rfl) h
def Agw (x0:Option Addr) (x1:Nat) (x2:Nat) (K:Value->World->Prop) (w:World):Prop:=E4 15 #[.slice x0 x1 x2] w (fun x3 w1=>∃x4 x5 x6 x7 x8 x9 ad aa af ae ag ah,x3= .tuple #[.agg #[.slice x4 x5 x6,.slice x7 x8 x9,.int .i64 ad,.slice aa af ae],.int .i64 ag,.int .i64 ah]/\∀(aj:Nat) (w2:World),aj=w1.heap.size->w2=w1.alloc (.cells #[.slice none 0 0,.slice none 0 0,.int .i64 0,.slice none 0 0] 31)->Af w2 (Zb aj) 4/\∀w3:World,w3=setCells w2 (Zb aj) [.slice x4 x5 x6,.slice x7 x8 x9,.int .i64 ad,.slice aa af ae]->cond (ah !=0) (K (.tuple #[.pointer none,.int .i64 ag,.int .i64 ah]) w3) (∀w4:World,w4=w3.drew->∃(S:World->Prop),S w4/\∃ax aH ao ar aK aG aV aZ bf aR,(∀u:World,S u->Ac u (Zb aj) [.slice ax aH ao,.slice ar aK aG,.int .i64 aV,.slice aZ bf aR])/\E4 16 #[.slice x0 x1 x2] w4 (fun br w5=>∃bn bt bz,br= .slice bn bt bz/\S w5/\∀(bD:Nat) (w6:World),bD=w5.heap.size->w6=w5.alloc (.cells #[.slice bn bt bz,.slice ax aH ao,.slice ar aK aG,.int .i64 aV,.slice aZ bf aR] 59)->K (.tuple #[.pointer (some (Zb bD)),.int .i64 0,.int .i64 0]) w6)))
theorem Agx (x0:Option Addr) (x1:Nat) (x2:Nat) (K:Value->World->Prop) (w:World) (h:Agw x0 x1 x2 K w):Calls Tryz.prog 7 #[.slice x0 x1 x2] w (aD K):=
 Aj {} Tryz.func7 (by kernel_rfl) h
theorem U_:Y9 Tryz.prog 111 146 5 40:=⟨Tryz.t146,.agg #[.int .i64 0,.int .i64 0,.int .i64 0,.int .i64 0,.bool false],by kernel_rfl,by kernel_rfl,by kernel_rfl,by kernel_rfl,by kernel_rfl,by kernel_rfl,by decide⟩
abbrev oh:=Ay×Int×Bool
structure iT where
 b:Nat
 cs:List oh
 cA:Option Addr
 cC:Nat
 ls:List Int
 lA:Option Addr
 lC:Nat
def pj (x:oh):List Value:=[.int .i64 x.1.op,.int .i64 x.1.a,.int .i64 x.1.b,.int .i64 x.2.1,.bool x.2.2]
def dF (A:iT):List Pc:=[.box A.b [.slice A.cA A.cs.length A.cC,.slice A.lA A.ls.length A.lC],.row 146 5 A.cA A.cs.length A.cC (Vc.flat pj A.cs),.row 3 1 A.lA A.ls.length A.lC (A.ls.map Jb)]
def vj (f:Nat) (av:List Value) (A:iT) (R:iT->Value->Prop):Prop:=∀(m:List Nat) (w:World),bm m w->sf w (dF A)->(∀b∈cD (dF A),b∈m)->Calls Tryz.prog f ⟨.pointer (some ⟨A.b,0,none⟩)::av⟩ w (aD fun v w'=>∃A',R A' v/\A'.b=A.b/\sg w (dF A) w' (dF A'))
theorem VA (A:iT) (x:oh) (a:Option Addr) (c:Nat):dF { A with cs:=A.cs++[x],cA:=a,cC:=c } =[.box A.b [.slice a (A.cs.length+1) c,.slice A.lA A.ls.length A.lC],.row 146 5 a (A.cs.length+1) c (Vc.flat pj A.cs++pj x),.row 3 1 A.lA A.ls.length A.lC (A.ls.map Jb)]:=by
 simp only [dF,length_append,length_singleton,Vc.Pu]
theorem Ax2 (A:iT) (n:Int) (a:Option Addr) (c:Nat):dF { A with ls:=A.ls++[n],lA:=a,lC:=c } =[.box A.b [.slice A.cA A.cs.length A.cC,.slice a (A.ls.length+1) c],.row 146 5 A.cA A.cs.length A.cC (Vc.flat pj A.cs),.row 3 1 a (A.ls.length+1) c (A.ls.map Jb++[.int .i64 n])]:=by
 simp only [dF,length_append,length_singleton,map_append,map_cons,List.map_nil]
theorem X8 (A:iT) (hl:A.ls.length<1000):vj 59 [] A (fun A' v=>v= .int .i64 ((A.ls.length+1:Nat):Int)/\A'.cs=A.cs/\A'.ls=A.ls++[-1]):=by
 intro m w hm hp dK;have o:=Mem.o9 hm.lt hp;refine Rv ⟨A.b,0,none⟩ _ _ ⟨_,_,_,oc (o.at 0 rfl) rfl,?_⟩;intro b w1 hb aP;have o:=o.box hb aP;refine Er (P:=Tryz.prog) Xc (o.rowAt 3 rfl) (src:=⟨b,0,none⟩) (m:=1) (news:=[.int .i64 (-1)]) (o.at 0 rfl).whole rfl (by simp [Value.oneCell']) (by omega) (by decide) (zero_le _) ?_;intro a' c' w2 du mi dR;have o:=o.app 3 rfl du mi dR;simp only [Bo];refine⟨_,_,_,rfl,o.wr 1 rfl rfl,fun w3 cV=> ?_⟩;have o:=o.set 1 cV rfl;refine⟨_,_,_,(o.at 1 rfl).cell rfl,{ A with ls:=A.ls++[-1],lA:=a',lC:=c' },⟨rfl,rfl,rfl⟩,rfl,Mem.back (L:=[.box b [.int .i64 (-1)]]) (ds:=[]) (m0:=m) ?_⟩;rw [Ax2];exact o
theorem VB (A:iT) (op x y rr:Int) (hl:A.cs.length<1073741824):vj 63 [.int .i64 op,.int .i64 x,.int .i64 y,.int .i64 rr] A (fun A' v=>(∃n,v= .int .i64 n)/\A'.cs=A.cs++[(⟨op,x,y⟩,rr,true)]/\A'.ls=A.ls):=by
 intro m w hm hp dK;have o:=Mem.o9 hm.lt hp;refine Xw ⟨A.b,0,none⟩ _ _ _ _ _ _ ⟨_,_,_,oc (i:=0) (o.at 0 rfl) rfl,?_⟩;intro b w1 hb aP;have o:=o.box hb aP;refine Er (P:=Tryz.prog) U_ (o.rowAt 2 rfl) (src:=⟨b,0,none⟩) (m:=1) (news:=pj (⟨op,x,y⟩,rr,true)) (o.at 0 rfl).whole rfl (by simp [pj,Value.oneCell']) (by omega) (by decide) (zero_le _) ?_;intro a' c' w2 du mi dR;have o:=o.app 2 rfl du mi dR;refine⟨_,_,_,rfl,o.wr 1 rfl rfl,fun w3 cV=> ?_⟩;have o:=o.set 1 cV rfl;refine⟨_,_,_,(o.at 1 rfl).cell rfl,{ A with cs:=A.cs++[(⟨op,x,y⟩,rr,true)],cA:=a',cC:=c' },⟨⟨_,rfl⟩,rfl,rfl⟩,rfl,Mem.back (L:=[.box b (pj (⟨op,x,y⟩,rr,true))]) (ds:=[]) (m0:=m) ?_⟩;rw [VA];exact o
theorem Azo (A:iT):vj 62 [] A (fun A' v=>v= .int .i64 (A.cs.length:Int)/\A'=A):=by
 intro m w hm hp dK;have o:=Mem.o9 hm.lt hp;exact Vu ⟨A.b,0,none⟩ _ _ ⟨_,_,_,oc (i:=0) (o.at 0 rfl) rfl,A,⟨rfl,rfl⟩,rfl,Mem.back (L:=[]) (ds:=[]) (m0:=m) o⟩
theorem VC (A:iT) (rr:Int) (h1:1<=rr) (h2:rr<=(A.ls.length:Int)) {w:World} (hb:cB w A.b [.slice A.cA A.cs.length A.cC,.slice A.lA A.ls.length A.lC]):Calls Tryz.prog 93 #[.pointer (some ⟨A.b,0,none⟩),.int .i64 rr] w (aD fun v w'=>v= .bool true/\w'=w):=by
 refine Vs ⟨A.b,0,none⟩ _ _ _ (B3 (decide_eq_true h1) ⟨_,_,_,oc hb rfl,?_,rfl⟩);rw [decide_eq_true h2]
theorem VD (A:iT) (k:Nat) (hk:k<A.ls.length) (AY:A.ls.length<1000) {n0:Int} (tI:A.ls[k]? =some n0) (Br2:n0<0):vj 64 [.int .i64 ((k+1:Nat):Int)] A (fun A' v=>(∃n,v= .int .i64 n)/\A'.cs=A.cs/\A'.ls=A.ls.set k (A.cs.length:Int)):=by
 intro m w hm hp dK;have hn:A.ls[k]<0:=by rw [(List.getElem?_eq_some_iff.1 tI).2];exact Br2
 have o:=Mem.o9 hm.lt hp;refine Tw ⟨A.b,0,none⟩ _ _ _ (Ad (VC A _ (by omega) (by omega) (o.at 0 rfl)) ?_);rintro _ _ ⟨rfl,rfl⟩;have hw:IntKind.i64.wrap (((k+1:Nat):Int)-1)=(k:Int):=by rw [Au (by omega) (by omega)];omega
 obtain⟨g,hg⟩:=(o.rowAt 2 rfl).addr (by omega);have gQ:=(o.rowAt 2 rfl).sl;rw [hg]at gQ;have lg:=Ac.nth gQ k (v:= .int .i64 A.ls[k]) (by rw [List.getElem?_map,getElem?_eq_getElem hk];rfl);rw [hw];refine⟨_,rfl,Ba rfl ⟨_,_,_,oc (o.at 0 rfl) rfl,⟨by omega,by omega⟩,Ae hg ⟨A.ls[k],by rw [toNat_natCast,Nat.mul_one];exact lg,Ba (decide_eq_false (by omega)) ?_⟩⟩⟩;intro w2 bR;have o:=o.ext (Aq bR);refine⟨_,_,_,oc (o.at 0 rfl) rfl,_,_,_,oc (i:=0) (o.at 0 rfl) rfl,⟨by omega,by omega⟩,Ae hg ?_⟩;rw [toNat_natCast,Nat.mul_one];have jC:(dF A)[2]? =some (.row 3 1 (some ⟨g,0,none⟩) A.ls.length A.lC (A.ls.map Jb)):=by rw [←hg];rfl
 obtain⟨qI,m5⟩:=o.TG (k:=2) jC (j:=k) (.int .i64 (A.cs.length:Int)) (by simpa using hk);refine⟨qI,fun w3 cV=> ?_⟩;obtain⟨o,_⟩:=m5 w3 cV;refine⟨{ A with ls:=A.ls.set k (A.cs.length:Int) },⟨⟨_,rfl⟩,rfl,rfl⟩,rfl,Mem.back (L:=[]) (ds:=[]) (m0:=m) ?_⟩;have e:(A.ls.map Jb).set k (.int .i64 (A.cs.length:Int))=(A.ls.set k (A.cs.length:Int)).map Jb:=by rw [List.map_set]
 rw [e,←hg]at o;have e2:dF { A with ls:=A.ls.set k (A.cs.length:Int) } =(dF A).set 2 (.row 3 1 A.lA A.ls.length A.lC ((A.ls.set k (A.cs.length:Int)).map Jb)):=by
  simp only [dF,List.length_set];rfl
 rw [List.nil_append,e2];exact o
theorem Azp (A:iT) (l:List Ay) (hl:A.cs.length+l.length<1073741824) {m:List Nat} {w:World} (hm:bm m w) (hp:sf w (dF A)) (dK:∀b∈cD (dF A),b∈m) {lA:Option Addr} {lC:Nat} (Ie:aF Cc m w lA l): Calls Tryz.prog 60 #[.pointer (some ⟨A.b,0,none⟩),.slice lA l.length lC] w (aD fun v w'=>(∃n,v= .int .i64 n)/\∃A',(A'.cs=A.cs++l.map (fun x=>(x,0,false))/\A'.ls=A.ls)/\A'.b=A.b/\sg w (dF A) w' (dF A')):=by
 have o:=Mem.o9 hm.lt hp;have st:=Mem.tN (w:=w) dK;refine Vq ⟨A.b,0,none⟩ _ _ _ _ _ ⟨_,_,_,oc (i:=0) (o.at 0 rfl) rfl,fun x w'=>∃(t:Nat) (A':iT),x=t/\t<=l.length/\A'.cs=A.cs++(l.take t).map (fun x=>(x,0,false))/\A'.ls=A.ls/\A'.b=A.b/\Mem w.heap.size (cD (dF A)) m [(cD (dF A),w.heap.size,w)] [] w' (dF A')/\Step m w (ms (dF A') m) w',fun x _=>l.length-x.toNat,⟨0,A,rfl,zero_le _,by simp,rfl,rfl,o,st⟩,?_⟩;rintro _ _ w1 ⟨t,A',rfl,ht,ir,AY,qg,o,st⟩;refine Aa (fun hc=> ?_) fun hc=> ?_
 ·have jF:t<l.length:=by have:=of_decide_eq_true hc;omega
  have hlen:A'.cs.length=A.cs.length+t:=by rw [ir];simp;omega
  have hw:IntKind.i64.wrap ((t:Int)+1)=((t+1:Nat):Int):=by rw [Au (by omega) (by omega)];omega
  refine⟨fun w'=>∃(A':iT),A'.cs=A.cs++(l.take (t+1)).map (fun x=>(x,0,false))/\A'.ls=A.ls/\A'.b=A.b/\Mem w.heap.size (cD (dF A)) m [(cD (dF A),w.heap.size,w)] [] w' (dF A')/\Step m w (ms (dF A') m) w',?_,?_⟩
  ·obtain⟨q,y,cs,hq,hy,dR,dT⟩:=(Ie.st st).elem (i:=(t:Int)) ⟨by omega,by omega⟩;rw [toNat_natCast,getElem?_eq_getElem jF]at hy;cases hy
   obtain rfl:=Ht dT;refine⟨⟨by omega,by omega⟩,Ae hq ⟨_,_,_,dR.2,?_⟩⟩;intro b w2 hb bR;have st:=st.trans (o.xB hb bR);have o:=o.box hb bR;refine⟨o.wr 0 rfl rfl,fun w3 cV=> ?_⟩;have st:=st.trans (o.pO 0 cV rfl);have o:=o.l9 0 cV rfl;intro w4 dt;have st:=st.trans (o.xE (Aq dt));have o:=o.ext (Aq dt);refine⟨fun u=>Ext w4 u,Ext.refl _,_,_,_,fun u hu=>hu.cell (by rw [←qg];exact oc (i:=0) (o.at 1 rfl) rfl),l[t].op,l[t].a,l[t].b,fun u hu=>hu.cells (o.at 0 rfl).whole,?_⟩;intro b1 w5 bI fe;refine⟨Ext.alloc fe,?_⟩;have st:=st.trans (o.xB bI fe);have o:=o.box bI fe;refine Er (P:=Tryz.prog) U_ (o.rowAt 3 rfl) (src:=⟨b1,0,none⟩) (m:=1) (news:=pj (l[t],0,false)) (o.at 0 rfl).whole rfl (by simp [pj,Value.oneCell']) (by omega) (by decide) (zero_le _) ?_;intro a' c' w6 jW VE VF;have st:=st.trans (o.xA 3 rfl jW VE VF);have o:=o.app 3 rfl jW VE VF;rw [←qg];refine⟨_,_,_,rfl,o.wr 2 rfl rfl,fun w7 gu=> ?_⟩;have st:=st.trans (o.xS 2 gu rfl);have o:=o.set 2 gu rfl;have st:=st.trans (o.xX 0);have o:=o.erase 0;have st:=st.trans (o.xX 0);have o:=o.erase 0;refine⟨{ A' with cs:=A'.cs++[(l[t],0,false)],cA:=a',cC:=c' },?_,AY,rfl,?_⟩
   ·show A'.cs++_=_
    rw [ir,L3 jF,map_append,append_assoc];rfl
   ·rw [VA];exact⟨o,st⟩
  ·rintro _ w8 ⟨A2,h1,h2,h3,o,st⟩;refine⟨⟨t+1,A2,hw,by omega,h1,h2,h3,o,st⟩,?_⟩;show l.length-(IntKind.i64.wrap ((t:Int)+1)).toNat<l.length-(t:Int).toNat
   rw [hw];omega
 ·have:t=l.length:=by have:=of_decide_eq_false hc;omega
  subst this;rw [List.take_length]at ir;exact⟨⟨_,rfl⟩,A',⟨ir,AY⟩,qg,Mem.back (L:=[]) (ds:=[]) (m0:=m) o⟩
def N0 (ls:List Int) (c:oh):Ay:=if c.2.2 then⟨c.1.op,ls.getD (c.2.1-1).toNat 0,c.1.b⟩else c.1
def Xx (x:Ay):List Value:=[.int .i64 x.op,.int .i64 x.a,.int .i64 x.b]
structure Ig (ls:List Int) (c:oh):Prop where
 aim:Nz c.1.op
 lo:1<=c.2.1
 hi:c.2.1<=(ls.length:Int)
 ge:0<=ls.getD (c.2.1-1).toNat 0
theorem Ap6 (A:iT) (hl:A.cs.length<1073741824) (AY:A.ls.length<1000) (hc:∀c∈A.cs,c.2.2=true->Ig A.ls c) {m:List Nat} {w:World} (hm:bm m w) (hp:sf w (dF A)): Calls Tryz.prog 65 #[.pointer (some ⟨A.b,0,none⟩)] w (aD fun v w'=>∃oA oC,v= .tuple #[.slice oA (A.cs.map (N0 A.ls)).length oC,.int .i64 0]/\(A.cs.map (N0 A.ls)).length<=oC/\aF Cc m w' oA (A.cs.map (N0 A.ls))/\Ao [] w w'):=by
 have qf:cB w A.b [.slice A.cA A.cs.length A.cC,.slice A.lA A.ls.length A.lC]:=hp.1 _ (.head _);have qu:Rw w 0 146 5 A.cA A.cs.length A.cC (Vc.flat pj A.cs):=hp.1 _ (.tail _ (.head _));have sr:Rw w 0 3 1 A.lA A.ls.length A.lC (A.ls.map Jb):=hp.1 _ (.tail _ (.tail _ (.head _)));have o:=Mem.start hm.lt;have o:=o.mM 52 3;have hf:(([]:List Nat),w.heap.size,w)∈[(([]:List Nat),w.heap.size,w)]:= .head _;refine Tz ⟨A.b,0,none⟩ _ _ ⟨_,_,_,oc (i:=0) qf rfl,fun oA oN oC x w'=>∃t:Nat,x=t/\t<=A.cs.length/\oN=t/\Mem w.heap.size [] m [([],w.heap.size,w)] [] w' [.row 52 3 oA t oC (Vc.flat Xx ((A.cs.take t).map (N0 A.ls)))],fun _ _ _ x _=>A.cs.length-x.toNat,⟨0,rfl,zero_le _,rfl,o⟩,?_⟩;rintro _ oA oN oC _ w1 ⟨t,rfl,ht,hN,o⟩;obtain rfl:=hN.symm;refine Aa (fun yr=> ?_) fun yr=> ?_
 ·have jF:oC=oC/\t<A.cs.length:=⟨rfl,by have:=of_decide_eq_true yr;omega⟩
  have jF:=jF.2;have hw:IntKind.i64.wrap ((t:Int)+1)=((t+1:Nat):Int):=by rw [Au (by omega) (by omega)];omega
  have o6:Vc.flat Xx ((A.cs.take (t+1)).map (N0 A.ls))=Vc.flat Xx ((A.cs.take t).map (N0 A.ls))++Xx (N0 A.ls A.cs[t]):=by
   rw [L3 jF,map_append,List.map_singleton,Vc.Pu]
  refine⟨fun VG oN' VH w'=>oN'=t+1/\Mem w.heap.size [] m [([],w.heap.size,w)] [] w' [.row 52 3 VG (t+1) VH (Vc.flat Xx ((A.cs.take (t+1)).map (N0 A.ls)))],?_,?_⟩
  ·have gQ:=qu.sl.ext o.done.ext;obtain⟨pc,qh,dV⟩:=Ss.elem (f:=pj) (k:=5) (fun _=>rfl) (by decide) gQ jF;refine⟨⟨by omega,by omega⟩,Ae qh ⟨_,_,_,_,_,by rw [toNat_natCast];exact dV,?_⟩⟩;intro b w2 hb bR;have o:=o.box hb bR;refine⟨o.wr 0 rfl rfl,fun w3 cV=> ?_⟩;have o:=o.l9 0 cV rfl;refine⟨_,(o.at 0 rfl).cell rfl,Aa (fun ha=> ?_) fun ha=> ?_⟩
   ·have ha:A.cs[t].2.2=false:=by simpa using ha
    refine⟨_,(o.at 0 rfl).cell rfl,_,(o.at 0 rfl).cell rfl,_,(o.at 0 rfl).cell rfl,?_⟩;intro b1 w4 bI dt;have o:=o.box bI dt;have kZ:N0 A.ls A.cs[t]=A.cs[t].1:=by unfold N0;rw [ha];rfl
    refine Er (P:=Tryz.prog) zD (o.rowAt 2 rfl) (src:=⟨b1,0,none⟩) (m:=1) (news:=Xx A.cs[t].1) (o.at 0 rfl).whole rfl (by simp [Xx,Value.oneCell']) (by omega) (by decide) (zero_le _) ?_;intro a' c' w5 nQ hg5 Br3;have o:=o.app 2 rfl nQ hg5 Br3;have o:=o.erase 0;have o:=o.erase 0;refine⟨_,_,_,rfl,rfl,?_⟩;rw [o6,kZ];exact o
   ·have ha:A.cs[t].2.2=true:=by simpa using ha
    obtain⟨Br4,m6,z4,jf⟩:=hc _ (List.getElem_mem jF) ha;have Br5:=qf.ext o.done.ext;refine⟨_,(o.at 0 rfl).cell rfl,?_⟩;refine Ad (VC A _ m6 z4 Br5) ?_;rintro _ w6 ⟨rfl,rfl⟩;refine⟨_,rfl,Ba rfl ?_⟩;intro w7 gu;have o:=o.ext (Aq gu);have Br6:=qf.ext o.done.ext;obtain⟨k,hk⟩:∃k:Nat,A.cs[t].2.1=((k+1:Nat):Int):=⟨(A.cs[t].2.1-1).toNat,by omega⟩
    have gw:k<A.ls.length:=by omega
    have z6:IntKind.i64.wrap (A.cs[t].2.1-1)=(k:Int):=by rw [hk,Au (by omega) (by omega)];omega
    have sj:A.ls.getD (A.cs[t].2.1-1).toNat 0=A.ls[k]:=by
     rw [hk,show(((k+1:Nat):Int)-1).toNat=k by omega,List.getD_eq_getElem?_getD,getElem?_eq_getElem gw];rfl
    rw [sj]at jf;obtain⟨g,hg⟩:=sr.addr (by omega);have lg:∀ {w':World},Ao [] w w'->w'.cell? ((⟨g,0,none⟩:Addr).add ((k:Int).toNat*1))=some (.int .i64 A.ls[k]):=fun hkp=>by
     have gQ:=sr.sl.ext hkp.ext;rw [hg]at gQ;rw [toNat_natCast,Nat.mul_one];exact Ac.nth gQ k (by rw [List.getElem?_map,getElem?_eq_getElem gw];rfl)
    refine⟨_,_,_,oc Br6 rfl,_,(o.at 0 rfl).cell rfl,?_⟩;rw [z6];refine⟨⟨by omega,by omega⟩,Ae hg ⟨_,lg o.done,Ba (decide_eq_false (by omega)) ?_⟩⟩;intro w8 fg;have o:=o.ext (Aq fg);have Br7:=qf.ext o.done.ext;refine⟨fun u=>u=w8,rfl,A.cs[t].1.op,A.cs[t].1.a,A.cs[t].1.b,Cg (P:=fun u=>Ac u _ _) ?_,_,_,_,Cg (P:=fun u=>u.cell? _=_) (oc Br7 rfl),A.cs[t].2.1,Cg (P:=fun u=>u.cell? _=_) ((o.at 0 rfl).cell rfl),?_⟩
    ·exact(o.at 0 rfl).cells 0 (m:=[.int .i64 A.cs[t].1.op,.int .i64 A.cs[t].1.a,.int .i64 A.cs[t].1.b]) fun j hj=>by
      match j,hj with
      |0,_=>rfl
      |1,_=>rfl
      |2,_=>rfl
    rw [z6];refine⟨⟨by omega,by omega⟩,Ae hg ⟨A.ls[k],Cg (P:=fun u=>u.cell? _=_) (lg o.done),?_⟩⟩;refine Ad (UX A.cs[t].1 A.ls[k] Br4 (fun r=>r=⟨A.cs[t].1.op,A.ls[k],A.cs[t].1.b⟩) rfl _ w8 (o.mo hm (by simp) hf) _ (F7 _)) ?_;rintro _ w9 ⟨_,rfl,⟨QA,rfl,Bpo⟩,aW⟩;have o:=o.ext aW;obtain rfl:=Ht Bpo;refine⟨_,_,_,rfl,?_⟩;intro b2 ak dY mb;have o:=o.box dY mb;have kZ:N0 A.ls A.cs[t]=⟨A.cs[t].1.op,A.ls[k],A.cs[t].1.b⟩:=by unfold N0;rw [ha,sj];rfl
    refine Er (P:=Tryz.prog) zD (o.rowAt 2 rfl) (src:=⟨b2,0,none⟩) (m:=1) (news:=Xx ⟨A.cs[t].1.op,A.ls[k],A.cs[t].1.b⟩) (o.at 0 rfl).whole rfl (by simp [Xx,Value.oneCell']) (by omega) (by decide) (zero_le _) ?_;intro a' c' aw oZ Br8 Bpp;have o:=o.app 2 rfl oZ Br8 Bpp;have o:=o.erase 0;have o:=o.erase 0;refine⟨_,_,_,rfl,rfl,?_⟩;rw [o6,kZ];exact o
  ·rintro _ VG _ VH aJ ⟨rfl,o⟩;refine⟨⟨t+1,hw,by omega,rfl,o⟩,?_⟩;show A.cs.length-(IntKind.i64.wrap ((t:Int)+1)).toNat<A.cs.length-(t:Int).toNat
   rw [hw];omega
 ·have:t=A.cs.length:=by have:=of_decide_eq_false yr;omega
  subst this;rw [List.take_length]at o;have Ih:=AU (c:=Cc) (M:=m) (l:=A.cs.map (N0 A.ls)) (o.rowAt 0 rfl) (by
   have:=AR (c:=Cc) (M:=m) (w:=w1) (g:=fun x:Ay=>x) (f:=Xx) (A.cs.map (N0 A.ls)) fun x _=>F7 x
   rwa [List.map_id']at this) (by simp) fun k hk qy=>by
    rcases o.iw _ (.head _) k hk with h|h
    ·cases h
    ·have:=hm.lt k qy;omega
  exact⟨oA,oC,by rw [List.length_map],Ih.1,Ih.2,o.done⟩
theorem Qp {w0 w:World} {f:Nat} {av:List Value} {A:iT} {R:iT->Value->Prop} {rs m:List Nat} {fr:List (List Nat×Nat×World)} {ds:List Nat} {L:List Pc} (ab:Nat) (z7:A.b=ab) (h:vj f av A R) (hm:bm m w0) (o:Mem w0.heap.size rs m fr ds w (L++dF A)) (hr:∀b∈rs,b∈m) (hf:(rs,w0.heap.size,w0)∈fr) {K:Value->World->Prop} (hK:∀v w' A',R A' v->A'.b=ab->Mem w0.heap.size rs m fr ds w' (L++dF A')->Step (ms (L++dF A) m) w (ms (L++dF A') m) w'->K v w'):Calls Tryz.prog f ⟨.pointer (some ⟨ab,0,none⟩)::av⟩ w (aD K):=by
 subst z7;refine Ad (h _ w (o.mo hm hr hf) o.iy Mem.HO) ?_;rintro v w' ⟨A',hR,h1,hB⟩;exact hK v w' A' hR h1 (o.swap hB) (Mem.HN hB)
theorem Ii {w0 w:World} {A:iT} {l:List Ay} {lA:Option Addr} {lC:Nat} {rs m:List Nat} {fr:List (List Nat×Nat×World)} {ds:List Nat} {L:List Pc} (ab:Nat) (z7:A.b=ab) (hl:A.cs.length+l.length<1073741824) (hm:bm m w0) (o:Mem w0.heap.size rs m fr ds w (L++dF A)) (hr:∀b∈rs,b∈m) (hf:(rs,w0.heap.size,w0)∈fr) (Ie:aF Cc (ms (L++dF A) m) w lA l) {K:Value->World->Prop} (hK:∀n w' A',A'.cs=A.cs++l.map (fun x=>(x,0,false))->A'.ls=A.ls->A'.b=ab->Mem w0.heap.size rs m fr ds w' (L++dF A')->Step (ms (L++dF A) m) w (ms (L++dF A') m) w'->K (.int .i64 n) w'):Calls Tryz.prog 60 #[.pointer (some ⟨ab,0,none⟩),.slice lA l.length lC] w (aD K):=by
 subst z7;refine Ad (Azp A l hl (o.mo hm hr hf) o.iy Mem.HO Ie) ?_;rintro _ w' ⟨⟨n,rfl⟩,A',⟨h1,h2⟩,h3,hB⟩;exact hK n w' A' h1 h2 h3 (o.swap hB) (Mem.HN hB)
def He (c:List Ay):List oh:=c.map fun x=>(x,0,false)
def Hy (go:oh) (ca cb:List Ay):Nat->List oh
 |0=>[]|1=>He ca++[go]|_=>He ca++[go]++(He (d5 ((ca.length+1:Nat):Int) cb)++[go])
theorem Km (c:List Ay):(He c).length=c.length:=List.length_map _
theorem Amw (go:oh) (ca cb:List Ay):∀t,t<2->Hy go ca cb (t+1)=Hy go ca cb t++(He (d5 (((Hy go ca cb t).length:Nat):Int) (if t=0 then ca else cb))++[go])
 |0,_=>by simp [Hy,Ox]
 |1,_=>by simp [Hy,Km]
 |t+2,h=>by omega
theorem Ap7 (go:oh) (ca cb:List Ay) (t:Nat):(Hy go ca cb t).length<=ca.length+cb.length+2:=by
 match t with
 |0=>simp [Hy]
 |1=>simp [Hy,Km];omega
 |t+2=>simp [Hy,Km,Ci];omega
def lD (fb b3 b1 b ub ab:Nat) (opv:Int) (e8:List Value):List Pc:=[.box fb [.int .i64 1],.box b3 [.pointer (some (Zb ab))],.box b1 [.int .i64 opv],.box b [.pointer (some (Zb ub))],.box ub e8]
theorem Amx (op:Int) (he:Cq op) (ta tb:RT): (Hy (⟨Bv op,0,0⟩,1,true) (Al ta) (Al tb) 2++He [⟨2,1-Dm op,0⟩]++[(((⟨6,0,0⟩:Ay),(2:Int),true):oh)]++He [⟨2,Dm op,0⟩]).map (N0 [(((Al ta).length+(Al tb).length+4:Nat):Int),(((Al ta).length+(Al tb).length+5:Nat):Int)])=Al (.bin op ta tb):=by
 have hp:∀(ls:List Int) (c:List Ay),(He c).map (N0 ls)=c:=fun ls c=>by
  unfold He;rw [List.map_map]
  conv=>rhs;rw [←List.map_id c]
  rfl
 rw [Al,if_pos he];simp only [Hy,map_append,hp,map_cons,List.map_nil];simp [N0]
theorem Avg {u:Ap} (U:Unit u.l) {i j:Nat} {x:Ag} (hx:u.l[i]? =some x) (he:Cq x.op) (sy:Ar u.l i=[((i+1:Nat):Int),(j:Int)]) (ta tb:RT) (Ic:(Al ta).length<100000000) (sA:(Al tb).length<100000000) (ha:∀K:List Ay->Ap->Prop,K (Al ta) u->Ck u ((i+1:Nat):Int) K) (hb:∀K:List Ay->Ap->Prop,K (Al tb) u->Ck u (j:Int) K) (K:List Ay->Ap->Prop) (h:K (Al (.bin x.op ta tb)) u):K3 u i K:=by
 intro m w hm ub e8 iB jX jY;have o4:=(List.getElem?_eq_some_iff.1 hx).1;have Ij:∀t,t<2->∀K:List Ay->Ap->Prop,K (if t=0 then Al ta else Al tb) u->Ck u ([((i+1:Nat):Int),(j:Int)].getD t 0) K:=fun t ht=>by
  rcases(by omega:t=0\/t=1)with rfl|rfl
  ·exact ha
  ·exact hb
 have Br9:∀t,t<2->Jc (if t=0 then Al ta else Al tb)/\(if t=0 then Al ta else Al tb).length<100000000:=fun t ht=>by
  rcases(by omega:t=0\/t=1)with rfl|rfl
  ·exact⟨F8 ta,Ic⟩
  ·exact⟨F8 tb,sA⟩
 have tG:∀t,(Hy (⟨Bv x.op,0,0⟩,1,true) (Al ta) (Al tb) t).length<=(Al ta).length+(Al tb).length+2:=Ap7 _ _ _;have o:=Mem.recv hm.lt iB jX;have st:=Mem.wW (w:=w) iB jX;have hr:∀q∈[ub],q∈m:=fun q hq=>(mem_singleton.1 hq)▸iB
 have hf:([ub],w.heap.size,w)∈[([ub],w.heap.size,w)]:= .head _;obtain⟨a0,c0,a1,c1,a2,c2,a4,c4,rfl,⟨vk,pk⟩,sX⟩:=Cy jY;clear sX;refine Ry ⟨ub,0,none⟩ i _ _ ?_;intro b w1 qg aP;have st:=st.trans (o.xB qg aP);have o:=o.box qg aP;intro b1 w2 bI bR;have st:=st.trans (o.xB bI bR);have o:=o.box bI bR;refine⟨o.wr 0 rfl rfl,fun w3 cV=> ?_⟩;have st:=st.trans (o.xS 0 cV rfl);have o:=o.set 0 cV rfl;obtain⟨p,hA,cF⟩:=vh (pk.st st) o4;rw [Bb hx]at cF;obtain⟨uc,AZ⟩:∃uc:List Value,uc=[.slice a0 u.l.length c0,.slice a1 u.p.cH.length c1,.slice a2 u.p.ck.length c2,.int .i64 u.p.main,.slice a4 u.p.A7.length c4]:=⟨_,rfl⟩
 rw [←AZ]at jY o st;have vl:uc[0]? =some (.slice a0 u.l.length c0):=by rw [AZ];rfl
 refine⟨fun Bsa w'=>Bsa=Dm x.op/\Mem w.heap.size [ub] m [([ub],w.heap.size,w)] [] w' [.box b1 [.int .i64 (Bv x.op)],.box b [.pointer (some ⟨ub,0,none⟩)],.box ub uc]/\Step m w (ms [.box b1 [.int .i64 (Bv x.op)],.box b [.pointer (some ⟨ub,0,none⟩)],.box ub uc] m) w',⟨_,(o.at 1 rfl).cell rfl,Ae rfl ⟨_,_,_,(o.at 2 rfl).cell vl,⟨by omega,by omega⟩,Ae hA ⟨_,cF,Aa (fun hc=>⟨o.wr 0 rfl rfl,fun w4 dt=> ?_⟩) fun hc=> ?_⟩⟩⟩,?_⟩
 ·have mv:x.op=17:=by simpa using hc
  have st:=st.trans (o.xS 0 dt rfl);have o:=o.set 0 dt rfl;rw [show Bv x.op=8 by unfold Bv;rw [if_pos mv],show Dm x.op=1 by unfold Dm;rw [if_pos mv]];exact⟨rfl,o,st⟩
 ·have mv:¬x.op=17:=by simpa using hc
  rw [show Bv x.op=7 by unfold Bv;rw [if_neg mv],show Dm x.op=0 by unfold Dm;rw [if_neg mv]];exact⟨rfl,o,st⟩
 rintro _ _ w5 ⟨rfl,o,st⟩;intro b2 w6 dY eK;have st:=st.trans (o.xB dY eK);have o:=o.box dY eK;intro b3 w7 fp gu;have st:=st.trans (o.xB fp gu);have o:=o.box fp gu;refine⟨o.wr 0 rfl rfl,fun w8 fg=> ?_⟩;have st:=st.trans (o.xS 0 fg rfl);have o:=o.set 0 fg rfl;have st:=st.trans (o.xN 3 1);have o:=o.mM 3 1;have st:=st.trans (o.xN 146 5);have o:=o.mM 146 5;have st:=st.trans (o.xF 3 rfl);have o:=o.front 3 rfl;have st:=st.trans (o.xF 6 rfl);have o:=o.front 6 rfl;have st:=st.trans (o.xF 6 rfl);have o:=o.front 6 rfl;have st:=st.trans (o.xF 6 rfl);have o:=o.front 6 rfl;have st:=st.trans (o.xF 6 rfl);have o:=o.front 6 rfl;obtain⟨A0,kY⟩:∃A0:iT,A0=⟨b2,[],none,0,[],none,0⟩:=⟨_,rfl⟩
 have VI:A0.b=b2:=by rw [kY]
 obtain⟨L0,jl⟩:∃L0:List Pc,L0=[.box b3 [.pointer (some ⟨b2,0,none⟩)],.box b1 [.int .i64 (Bv x.op)],.box b [.pointer (some ⟨ub,0,none⟩)],.box ub uc]:=⟨_,rfl⟩
 have o:Mem w.heap.size [ub] m [([ub],w.heap.size,w)] [] w8 (L0++dF A0):=by rw [jl,kY];exact o
 have st:Step m w (ms (L0++dF A0) m) w8:=by rw [jl,kY];exact st
 have Ik:∀ {w':World} {A':iT},Mem w.heap.size [ub] m [([ub],w.heap.size,w)] [] w' (L0++dF A')->w'.cell? ⟨b3,0,none⟩=some (.pointer (some ⟨b2,0,none⟩)):=fun o=>by
  rw [jl]at o;exact(o.at 0 rfl).cell rfl
 have yu:∀ {w':World} {A':iT} {q:Pc},Mem w.heap.size [ub] m [([ub],w.heap.size,w)] [] w' (q::(L0++dF A'))->w'.cell? ⟨b3,0,none⟩=some (.pointer (some ⟨b2,0,none⟩)):=fun o=>by
  rw [jl]at o;exact(o.at 1 rfl).cell rfl
 refine⟨fun found Bsb w'=>∃(fb:Nat) (A:iT),found=some ⟨fb,0,none⟩/\Bsb=2/\A.b=b2/\A.cs=[]/\A.ls=[-1,-1]/\Mem w.heap.size [ub] m [([ub],w.heap.size,w)] [] w' (lD fb b3 b1 b ub b2 (Bv x.op) uc++dF A)/\Step m w (ms (lD fb b3 b1 b ub b2 (Bv x.op) uc++dF A) m) w',?_,?_⟩
 ·intro w9 ff;have st:=st.trans (o.xE (Aq ff));have o:=o.ext (Aq ff);have l1:vj 59 [] A0 _:=X8 A0 (by rw [kY];show 0<1000;decide);refine⟨fun u=>u.cell? ⟨b3,0,none⟩=some (.pointer (some ⟨b2,0,none⟩)),Ik o,_,fun u hu=>hu,_,fun u hu=>hu,⟨?_,?_⟩⟩
  ·refine Qp b2 VI l1 hm o hr hf fun v ak A1 hR nF o au=> ?_
   obtain⟨rfl,cE,fU⟩:=hR;have st:=st.trans au;have fU:A1.ls=[-1]:=by rw [fU,kY];rfl
   have cE:A1.cs=[]:=by rw [cE,kY]
   refine⟨_,rfl,Ik o,⟨?_,?_⟩⟩
   ·refine Qp b2 nF (X8 A1 (by rw [fU];decide)) hm o hr hf fun v aw A2 hR j6 o ay=> ?_
    obtain⟨rfl,cr,i3⟩:=hR;have st:=st.trans ay;refine⟨_,rfl,?_⟩;intro b4 aJ jB kq;have st:=st.trans (o.xB jB kq);have o:=o.box jB kq;refine⟨yu o,o.wr 0 rfl rfl,fun aQ jR=> ?_⟩;have st:=st.trans (o.xS 0 jR rfl);have o:=o.set 0 jR rfl;refine⟨b4,A2,rfl,by rw [fU];rfl,j6,by rw [cr,cE],by rw [i3,fU];rfl,?_⟩;rw [jl]at o st;rw [kY]at o st;exact⟨o,st⟩
   ·intro b5 aX jA lQ;have st:=st.trans (o.xB jA lQ);have o:=o.box jA lQ;refine⟨yu o,?_⟩;refine Qp (L:= .box b5 [.int .i64 0]::L0) b2 nF (X8 A1 (by rw [fU];decide)) hm o hr hf fun v a_ A2 hR j6 o ay=> ?_
    obtain⟨rfl,cr,i3⟩:=hR;have st:=st.trans ay;refine⟨_,rfl,o.wr 0 rfl rfl,fun aN jy=> ?_⟩;have st:=st.trans (o.xS 0 jy rfl);have o:=o.set 0 jy rfl;refine⟨b5,A2,rfl,by rw [fU];rfl,j6,by rw [cr,cE],by rw [i3,fU];rfl,?_⟩;rw [jl]at o st;rw [kY]at o st;exact⟨o,st⟩
  ·intro b6 bE lP iA;have st:=st.trans (o.xB lP iA);have o:=o.box lP iA;refine⟨yu o,?_⟩;refine Qp (L:= .box b6 [.int .i64 0]::L0) b2 VI l1 hm o hr hf fun v bB A1 hR nF o au=> ?_
   obtain⟨rfl,cE,fU⟩:=hR;have st:=st.trans au;have fU:A1.ls=[-1]:=by rw [fU,kY];rfl
   have cE:A1.cs=[]:=by rw [cE,kY]
   refine⟨_,rfl,yu o,?_⟩;refine Qp (L:= .box b6 [.int .i64 0]::L0) b2 nF (X8 A1 (by rw [fU];decide)) hm o hr hf fun v bT A2 hR j6 o ay=> ?_
   obtain⟨rfl,cr,i3⟩:=hR;have st:=st.trans ay;refine⟨_,rfl,o.wr 0 rfl rfl,fun dc oO=> ?_⟩;have st:=st.trans (o.xS 0 oO rfl);have o:=o.set 0 oO rfl;refine⟨b6,A2,rfl,by rw [fU];rfl,j6,by rw [cr,cE],by rw [i3,fU];rfl,?_⟩;rw [jl]at o st;rw [kY]at o st;exact⟨o,st⟩
 clear st o Ik yu;rintro _ _ _ cS ⟨fb,A,rfl,rfl,sC,nG,tU,o,st⟩;have fu:Av.rep (ms (lD fb b3 b1 b ub b2 (Bv x.op) uc++dF A) m) cS u uc:=Av.st jY st;refine⟨_,(o.at 3 rfl).cell rfl,Ae rfl ⟨_,_,_,(o.at 4 rfl).cell vl,?_⟩⟩;refine Ad (M7 u.l i (fun a b=>(i:Int)=a/\u.l=b) ⟨rfl,rfl⟩ _ cS (o.mo hm hr hf) _ _ vk (pk.st st)) ?_;rintro _ dq ⟨_,_,⟨rfl,rfl⟩,⟨b7,cs,b8,fl,rfl,⟨el,f⟩,⟨c_,f1⟩⟩,aW⟩;have VJ:=o.xE aW;have st:=st.trans VJ;have fu:=Av.st fu VJ;have o:=o.ext aW;obtain rfl:=f;obtain⟨a,c,rfl,le,f2⟩:=f1;have jQ:=Js u.l i U.len _ _ (o.mo hm hr hf) _ _ el rfl _ _ c_ ⟨_,_,rfl,le,f2⟩;refine⟨_,_,rfl,?_⟩;have hle:=o.le;have cz:=o.qH;rw [sy]at jQ;refine⟨ms (lD fb b3 b1 b ub b2 (Bv x.op) uc++dF A) m,[((i+1:Nat):Int),(j:Int)],Kr.of (o.mo hm hr hf).lt jQ,fun F pre w'=>∃(A:iT) (uc:List Value),F=ms (lD fb b3 b1 b ub b2 (Bv x.op) uc++dF A) m/\A.b=b2/\A.ls=[-1,-1]/\A.cs=Hy (⟨Bv x.op,0,0⟩,1,true) (Al ta) (Al tb) pre.length/\Av.rep (ms (lD fb b3 b1 b ub b2 (Bv x.op) uc++dF A) m) w' u uc/\Mem w.heap.size [ub] m [([ub],w.heap.size,w)] [] w' (lD fb b3 b1 b ub b2 (Bv x.op) uc++dF A),
  fun _ _=>False,fun _ _ _=>False,⟨A,uc,rfl,sC,tU,nG,fu,o⟩,?_,fun _ _ _ _ _ h=>h.elim,?_⟩
 ·clear fu o st sC nG tU AZ vl jY;rintro _ pre x7 eF dJ ⟨A,uc,rfl,sC,tU,nG,fu,o⟩ hG db;obtain⟨ht,mr⟩:=Kj db;have r_:pre.length<2:=ht;have hx7:x7=[((i+1:Nat):Int),(j:Int)].getD pre.length 0:=by
   rw [List.getD_eq_getElem?_getD,getElem?_eq_getElem ht,mr];rfl
  obtain⟨lZ,n_⟩:=Br9 pre.length r_;have hlen:=tG pre.length;have fu:=Av.st fu (Step.grow _ hG);have o:=o.grow hG (fun f hf=>by rw [mem_singleton.1 hf];exact hle) cz;have o:=o.round (M:=ms (lD fb b3 b1 b ub b2 (Bv x.op) uc++dF A) m) (B:=dJ.heap.size) (le_refl _) (fun k hk=> .inl hk);generalize hM:ms (lD fb b3 b1 b ub b2 (Bv x.op) uc++dF A) m=M at o fu⊢;have hmM:∀q∈m,q∈M:=fun q hq=>hM▸Bj.2 (.inr hq)
  rw [←hM]at fu;refine⟨fun w'=>∃(A':iT) (uc:List Value),A'.b=b2/\A'.ls=[-1,-1]/\A'.cs=A.cs++He (d5 ((A.cs.length:Nat):Int) (if pre.length=0 then Al ta else Al tb))/\Av.rep (ms (lD fb b3 b1 b ub b2 (Bv x.op) uc++dF A') m) w' u uc/\Mem w.heap.size [ub] m [(M,dJ.heap.size,dJ),([ub],w.heap.size,w)] [] w' (lD fb b3 b1 b ub b2 (Bv x.op) uc++dF A'),?_,?_⟩
  ·intro cL tn;have fu:=Av.st fu (o.xE (Aq tn));have o:=o.ext (Aq tn);refine⟨fun u=>u.cell? ⟨b3,0,none⟩=some (.pointer (some ⟨b2,0,none⟩))/\u.cell? ⟨b,0,none⟩=some (.pointer (some ⟨ub,0,none⟩)),⟨(o.at 1 rfl).cell rfl,(o.at 3 rfl).cell rfl⟩,_,fun u hu=>hu.1,_,fun u hu=>hu.2,_,fun u hu=>hu.1,?_⟩;rw [hx7];refine Ad (Ij pre.length r_ (fun c u'=>(if pre.length=0 then Al ta else Al tb)=c/\u=u') ⟨rfl,rfl⟩ _ cL (o.mo hm hr (.tail _ hf)) ub uc (Mem.wV 4 rfl) (o.at 4 rfl) fu) ?_;rintro _ eb ⟨_,_,⟨rfl,rfl⟩,⟨oA,oC,rfl,Il,gQ⟩,⟨tV,Im,tW⟩,Bng⟩;have o:=o.call 4 Bng Im rfl;have o:Mem w.heap.size [ub] m [(M,dJ.heap.size,dJ),([ub],w.heap.size,w)] [] eb (lD fb b3 b1 b ub b2 (Bv x.op) tV++dF A):=o;have gQ:aF Cc (ms (lD fb b3 b1 b ub b2 (Bv x.op) tV++dF A) m) eb oA (if pre.length=0 then Al ta else Al tb):=gQ;have tW:Av.rep (ms (lD fb b3 b1 b ub b2 (Bv x.op) tV++dF A) m) eb u tV:=tW;refine⟨_,_,_,rfl,⟨(o.at 1 rfl).cell rfl,(o.at 3 rfl).cell rfl⟩,?_⟩;refine Qp b2 sC (Azo A) hm o hr (.tail _ hf) fun v cY A1 hR nF o nr=> ?_
   obtain⟨rfl,Bsc⟩:=hR;rw [Bsc]at o nr;have gQ:=gQ.st nr;have tW:=Av.st tW nr;refine⟨_,rfl,⟨(o.at 1 rfl).cell rfl,(o.at 3 rfl).cell rfl⟩,?_⟩;refine Ad (Ib _ A.cs.length (by omega) (by rw [nG];omega) lZ (fun r=>r=d5 ((A.cs.length:Nat):Int) (if pre.length=0 then Al ta else Al tb)) rfl _ cY (o.mo hm hr (.tail _ hf)) _ _ Il gQ) ?_;rintro _ dx ⟨_,rfl,⟨mA,mC,rfl,hmC,tF⟩,VK⟩;have nS:=o.xE VK;have tW:=Av.st tW nS;have o:=o.ext VK;refine⟨_,_,_,rfl,⟨(o.at 1 rfl).cell rfl,(o.at 3 rfl).cell rfl⟩,?_⟩;refine Ii b2 sC (by rw [Ci,nG];omega) hm o hr (.tail _ hf) tF fun n dd A2 h1 h2 h3 o pS=> ?_
   exact⟨_,rfl,A2,tV,h3,h2.trans tU,h1,Av.st tW pS,o⟩
  ·rintro _ dQ ⟨A2,tV,Bsd,Bpr,VL,fu,o⟩;refine⟨_,(o.at 1 rfl).cell rfl,_,(o.at 2 rfl).cell rfl,Ae rfl ⟨_,(o.at 0 rfl).cell rfl,?_⟩⟩;refine Qp b2 Bsd (VB A2 (Bv x.op) 0 0 1 (by rw [VL,length_append,Km,Ci,nG];omega)) hm o hr (.tail _ hf) fun v ei A3 hR vi o gT=> ?_
   obtain⟨⟨n,rfl⟩,fX,js⟩:=hR;have fu:=Av.st fu gT;obtain⟨mB,o⟩:=o.sn hmM;refine⟨_,rfl,_,mB,A3,tV,rfl,vi,by rw [js,Bpr],?_,fu,o⟩;rw [fX,VL,nG,length_append,length_singleton,Amw _ _ _ _ r_,append_assoc]
 ·clear fu o st sC nG tU AZ vl jY;rintro _ eR eM D1 ⟨A,uc,rfl,sC,tU,nG,fu,o⟩ hG hD iG;have hlen:=tG 2;have nG:A.cs=Hy (⟨Bv x.op,0,0⟩,1,true) (Al ta) (Al tb) 2:=nG;have hAl:A.cs.length=(Al ta).length+(Al tb).length+2:=by
   rw [nG];simp only [Hy,length_append,Km,Ci,length_singleton];omega
  have fu:=Av.st fu (Step.grow _ hG);have o:=o.grow hG (fun f hf=>by rw [mem_singleton.1 hf];exact hle) cz;have o:=o.mark iG hD hle cz;have Bse:IntKind.i64.wrap ((1:Int)-Dm x.op)=1-Dm x.op:=by
   unfold Dm;split<;>exact Au (by omega) (by omega)
  have lit:∀ {w' iV:World} {uc:List Value} {A:iT} {bb:Nat} {v:Int},Mem w.heap.size [ub] m [([ub],w.heap.size,w)] [D1] w' (lD fb b3 b1 b ub b2 (Bv x.op) uc++dF A)->bb=w'.heap.size->iV=w'.alloc (.cells #[.int .i64 2,.int .i64 v,.int .i64 0] 52)->
   aF Cc (ms (lD fb b3 b1 b ub b2 (Bv x.op) uc++dF A) m) iV (some ⟨bb,0,none⟩) [⟨2,v,0⟩]:=fun {w' iV uc A bb v} o nI hw=> .inr ⟨_,Xx ⟨2,v,0⟩++[],rfl,fun rf=>by have:=o.mlt _ rf;simp only at this;omega,by
    have:=(cB.new nI hw).whole;simpa [Xx] using this,El.cons (F7 _) (El.nil _ _ _)⟩
  refine⟨_,(o.at 1 rfl).cell rfl,?_⟩;rw [Bse];intro b9 gA hb9 qP;have Io:=lit o hb9 qP;have fu:=Av.st fu (o.xE (Bd qP));have o:=o.ext (Bd qP);refine Ii (l:=[⟨2,1-Dm x.op,0⟩]) b2 sC (by simp;omega) hm o hr hf Io fun n fP A1 h1 h2 h3 o jh=> ?_
  have fu:=Av.st fu jh;refine⟨_,rfl,_,(o.at 1 rfl).cell rfl,?_⟩;refine Qp b2 h3 (VB A1 6 0 0 2 (by rw [h1];simp;omega)) hm o hr hf fun v g_ A2 hR j6 o jT=> ?_
  obtain⟨⟨n2,rfl⟩,cr,i3⟩:=hR;have fu:=Av.st fu jT;have A_:A2.ls=[-1,-1]:=by rw [i3,h2,tU]
  have Ip:A2.cs.length=(Al ta).length+(Al tb).length+4:=by rw [cr,h1];simp;omega
  refine⟨_,rfl,_,(o.at 1 rfl).cell rfl,Ae rfl ⟨_,(o.at 0 rfl).cell rfl,?_⟩⟩;refine Qp b2 j6 (VD A2 0 (by rw [A_];decide) (by rw [A_];decide) (n0:= -1) (by rw [A_];rfl) (by decide)) hm o hr hf fun v iW A3 hR vi o pT=> ?_
  obtain⟨⟨n3,rfl⟩,fX,js⟩:=hR;have fu:=Av.st fu pT;have Bsf:A3.ls=[(((Al ta).length+(Al tb).length+4:Nat):Int),-1]:=by rw [js,A_,Ip];rfl
  refine⟨_,rfl,_,(o.at 1 rfl).cell rfl,?_⟩;intro tT lM AQ xn;have Io:=lit o AQ xn;have fu:=Av.st fu (o.xE (Bd xn));have o:=o.ext (Bd xn);refine Ii (l:=[⟨2,Dm x.op,0⟩]) b2 vi (by rw [fX,Ip];simp;omega) hm o hr hf Io fun n4 nK A4 z_ h42 h43 o tj=> ?_
  have fu:=Av.st fu tj;have BA:A4.ls=[(((Al ta).length+(Al tb).length+4:Nat):Int),-1]:=by rw [h42,Bsf]
  have VM:A4.cs.length=(Al ta).length+(Al tb).length+5:=by rw [z_,fX,length_append,Ip];rfl
  refine⟨_,rfl,_,(o.at 1 rfl).cell rfl,?_⟩;refine Qp b2 h43 (VD A4 1 (by rw [BA];show 1<2;decide) (by rw [BA];show 2<1000;decide) (n0:= -1) (by rw [BA];rfl) (by decide)) hm o hr hf fun v nk A5 hR hA5 o uG=> ?_
  obtain⟨⟨n5,rfl⟩,lu,hl5⟩:=hR;have fu:=Av.st fu uG;have vm:A5.ls=[(((Al ta).length+(Al tb).length+4:Nat):Int),(((Al ta).length+(Al tb).length+5:Nat):Int)]:=by rw [hl5,BA,VM];rfl
  have VN:A5.cs=Hy (⟨Bv x.op,0,0⟩,1,true) (Al ta) (Al tb) 2++He [⟨2,1-Dm x.op,0⟩]++[(((⟨6,0,0⟩:Ay),(2:Int),true):oh)]++He [⟨2,Dm x.op,0⟩]:=by rw [lu,z_,fX,cr,h1,nG];rfl
  have Bnj:∀c∈A5.cs,c.2.2=true->Ig A5.ls c:=by
   intro c hc ht;have l0:∀q:List Ay,c∈He q->False:=fun q hq=>by
    obtain⟨y,_,rfl⟩:=mem_map.1 hq;cases ht
   have VO:c=((⟨Bv x.op,0,0⟩:Ay),(1:Int),true)->Ig A5.ls c:=fun e=>by
    subst e;refine⟨?_,Int.le_refl _,by rw [vm];show(1:Int)<=((2:Nat):Int);decide,by rw [vm];show(0:Int)<=((_:Nat):Int);omega⟩;show Nz (Bv x.op)
    unfold Nz Bv;split<;>simp
   rw [VN]at hc;simp only [Hy,mem_append,mem_singleton]at hc;rcases hc with(((((hc|hc)|(hc|hc))|hc)|hc)|hc)
   ·exact(l0 _ hc).elim
   ·exact VO hc
   ·exact(l0 _ hc).elim
   ·exact VO hc
   ·exact(l0 _ hc).elim
   ·subst hc;exact⟨by show Nz 6;unfold Nz;simp,by show(1:Int)<=2;decide,by rw [vm];show(2:Int)<=((2:Nat):Int);decide,by rw [vm];show(0:Int)<=((_:Nat):Int);omega⟩
   ·exact(l0 _ hc).elim
  refine⟨_,rfl,_,(o.at 1 rfl).cell rfl,?_⟩;have l5:=Ap6 A5 (by rw [lu,VM];omega) (by rw [vm];show 2<1000;decide) Bnj (o.mo hm hr hf) o.iy;rw [hA5]at l5;have yr:A5.cs.map (N0 A5.ls)=Al (.bin x.op ta tb):=by rw [vm,VN];exact Amx x.op he ta tb
  rw [yr]at l5;refine Ad l5 ?_;rintro _ pI ⟨oA,oC,rfl,Il,gQ,VP⟩;have fu:=Av.st fu (o.xE VP);have o:=o.ext VP;have vn:Step (ms (lD fb b3 b1 b ub b2 (Bv x.op) uc++dF A5) m) pI m (shut [D1] pI):=o.uD.trans Mem.d4;exact⟨_,_,_,_,rfl,o.marks.1,_,u,h,⟨oA,oC,rfl,Il,gQ.st vn⟩,⟨uc,o.qG 4 rfl,Av.st fu vn⟩,o.qF⟩
theorem Ap8 {a b:List Ay} (ha:Jc a) (hb:Jc b):Jc (a++d5 (a.length:Nat) b):=by
 intro x hx;rw [length_append,Ci];rcases mem_append.1 hx with h|h
 ·exact(ha x h).mono (by omega)
 ·obtain⟨y,hy,rfl⟩:=mem_map.1 h;exact((hb y hy).d5 (by omega)).mono (by omega)
theorem VQ {u:Ap} (U:Unit u.l) {i:Nat} {x:Ag} (hx:u.l[i]? =some x) (xs:List Int) (sy:Ar u.l i=xs) (outs:Nat->List Ay) (h0:outs 0=[]) (Ij:∀t (ht:t<xs.length),∃c,(∀K:List Ay->Ap->Prop,K c u->Ck u xs[t] K)/\Jc c/\c.length<1073741824/\outs (t+1)=outs t++d5 ((outs t).length:Nat) c) (eB:∀t,t<=xs.length->Jc (outs t)/\(outs t).length<1073741824) (K:List Ay->Ap->Prop) (h:K (outs xs.length++[⟨5,x.op,0⟩]) u):Gw u i K:=by
 subst sy;have o4:=(List.getElem?_eq_some_iff.1 hx).1;refine Ow _ _ _ (M7 u.l i _ ⟨_,Js u.l i U.len,fun pre v2 l a b c d=>v2=outs pre.length/\l=u.l/\a=u.p.cH/\b=u.p.ck/\c=u.p.main/\d=u.p.A7,⟨h0.symm,rfl,rfl,rfl,rfl,rfl⟩,?_,?_⟩)
 ·rintro pre y _ _ _ _ _ _ db ⟨rfl,rfl,rfl,rfl,rfl,rfl⟩;obtain⟨ht,rfl⟩:=Kj db;obtain⟨c,h1,h2,h3,h4⟩:=Ij _ ht;refine h1 _ (UZ _ _ (eB _ (Nat.le_of_lt ht)).2 h3 (eB _ (Nat.le_of_lt ht)).1 h2 _ ⟨?_,rfl,rfl,rfl,rfl,rfl⟩);rw [length_append,length_singleton,h4]
 ·rintro _ _ _ _ _ _ ⟨rfl,rfl,rfl,rfl,rfl,rfl⟩;refine Bt hx (UZ _ _ (eB _ (le_refl _)).2 (by show 1<1073741824;decide) (eB _ (le_refl _)).1 (fun y hy=>by rw [mem_singleton]at hy;subst hy;exact .inl (.inr (.inr rfl))) _ ?_);have e:d5 ((outs (Ar u.l i).length).length:Nat) [(⟨5,x.op,0⟩:Ay)]=[⟨5,x.op,0⟩]:=by
   simp [d5,H7]
  rw [e];exact h
theorem P2 {u:Ap} {i:Nat} {x:Ag} (hx:u.l[i]? =some x) (hn:x.op≠33) (K:List Ay->Ap->Prop) (h1:x.op=1\/x.op=2->Lx u i (fun r=>K r u)) (h2:Cq x.op->K3 u i K) (h3:¬(x.op=1\/x.op=2)->¬Cq x.op->Gw u i K):Ck u i K:=by
 intro m w hm ub e8 iB jX jY;have o4:=(List.getElem?_eq_some_iff.1 hx).1;obtain⟨a0,c0,a1,c1,a2,c2,a4,c4,Bsg,⟨vk,pk⟩,_⟩:=Cy jY;have vl:e8[0]? =some (.slice a0 u.l.length c0):=by rw [Bsg];rfl
 obtain⟨p,hA,cF⟩:=vh pk o4;rw [Bb hx]at cF;have leaf:(x.op=1\/x.op=2)->∀ {K':Value->World->Prop},(∀(v:Value) (w':World),(∃(r0:List Ay) (u':Ap),K r0 u'/\(∃(a0:Option Addr) (c0:Nat),v= .slice a0 r0.length c0/\r0.length<=c0/\aF Cc m w' a0 r0)/\(∃dr,cB w' ub dr/\Av.rep m w' u' dr)/\Ao [ub] w w')->K' v w')->Calls Tryz.prog 36 #[.pointer (some ⟨ub,0,none⟩),.int .i64 i] w (aD K'):=fun ho K' hK=>by
  refine Ad (h1 ho m w hm ub e8 iB jX jY) ?_;rintro v w' ⟨r0,q1,q2,q3,aW⟩;have s:Step m w m w':=⟨(aW.mono (by simpa using iB)).d,fun _ h=> .inl h⟩
  exact hK v w' ⟨r0,u,q1,q2,⟨e8,q3,Av.st jY s⟩,aW⟩
 refine T1 ⟨ub,0,none⟩ i _ _ ⟨_,_,_,jX.cell vl,⟨by omega,by omega⟩,Ae hA ⟨_,cF,?_⟩⟩;have fin:∀(v:Value) (w':World),(∃(r0:List Ay) (u':Ap),K r0 u'/\(∃(a0:Option Addr) (c0:Nat),v= .slice a0 r0.length c0/\r0.length<=c0/\aF Cc m w' a0 r0)/\(∃dr,cB w' ub dr/\Av.rep m w' u' dr)/\Ao [ub] w w')->
  ∃(VR:Option Addr) (VS:Nat) (VT:Nat),v= .slice VR VS VT/\(∃(r0:List Ay) (u':Ap),K r0 u'/\(∃(a0:Option Addr) (c0:Nat),Value.slice VR VS VT= .slice a0 r0.length c0/\r0.length<=c0/\aF Cc m w' a0 r0)/\(∃dr,cB w' ub dr/\Av.rep m w' u' dr)/\Ao [ub] w w'):=by
  rintro v w' ⟨r0,u',q1,⟨a,c,rfl,q2⟩,q3,q4⟩;exact⟨_,_,_,rfl,r0,u',q1,⟨a,c,rfl,q2⟩,q3,q4⟩
 refine Aa (fun e1=> ?_) fun e1=> ?_
 ·exact B3 e1 (leaf (.inl (by simpa using e1)) fin)
 have e1:¬x.op=1:=by simpa using e1
 refine Aa (fun e2=>leaf (.inr (by simpa using e2)) fin) fun e2=> ?_
 have e2:¬x.op=2:=by simpa using e2
 have hl:¬(x.op=1\/x.op=2):=by omega
 refine Aa (fun e3=> ?_) fun e3=> ?_
 ·exact B3 e3 (Ad (h2 (.inl (by simpa using e3)) m w hm ub e8 iB jX jY) fin)
 have e3:¬x.op=16:=by simpa using e3
 refine Aa (fun e4=>Ad (h2 (.inr (by simpa using e4)) m w hm ub e8 iB jX jY) fin) fun e4=> ?_
 have e4:¬x.op=17:=by simpa using e4
 exact Ba (by simpa using hn) (Ad (h3 hl (by unfold Cq;omega) m w hm ub e8 iB jX jY) fin)
theorem Azq {c:UInt8} {x:Ag} {ds:List UInt8} (h:dg c x ds) (ho:x.op<=17):(x.op=1/\0<=x.n/\x.n<=999999999999999999/\ds=[])\/(x.op=2/\ds=[])\/((x.op=3\/x.op=4)/\x.kids=1/\ds=[69])\/(5<=x.op/\x.kids=2/\ds=[69,69]):=by
 cases h with
 |num n a h1 h2=>exact .inl ⟨rfl,h1,h2,rfl⟩
 |name=>exact .inr (.inl ⟨rfl,rfl⟩)
 |un op a h=>exact .inr (.inr (.inl ⟨h,rfl,rfl⟩))
 |bin op a h1 h2=>exact .inr (.inr (.inr ⟨h1,rfl,rfl⟩))
 |set op s a h=>rcases h with rfl|rfl|rfl<;>(simp at ho)
 |one op a h=>rcases h with rfl|rfl|rfl<;>(simp at ho)
 |none op a h=>rcases h with rfl|rfl<;>(simp at ho)
 |clause op s a w ds h=>rcases h with⟨rfl,_⟩|⟨rfl,_⟩|⟨rfl,_⟩<;>(simp at ho)
 |_=>simp at ho
theorem Azr {L:List Ag} (U:Unit L) {A7:List Int} (hn:A7.length=L.length):∀n i,L.length-i<=n->i<L.length->Az L i<=17->∃t,Nw L A7 i t/\(Al t).length<=5*(Cf (ks L) i-i):=by
 intro n
 induction n with
 |zero=>intro i h1 h2;omega
 |succ n ih=>
  intro i hni hi ho;obtain⟨x,ds,hx⟩:=U.node i hi;rw [Bb hx.at_]at ho;have hgt:=Fl (ks L) i (by rw [A9];exact hi);have VU:((ks L).getD i 0).toNat=ds.length:=by rw [H8 hx.at_,hx.kids,toNat_natCast]
  have Iq:∀ {j i':Nat} {y:Ag},bh (ks L) i j i'->L[i']? =some y->Ki y.op=69->∃t,Nw L A7 i' t/\(Al t).length<=5*(Cf (ks L) i'-i'):=fun hk hy hc=>by
   have h1:=hk.ahead;exact ih _ (by omega) (List.getElem?_eq_some_iff.1 hy).1 (by rw [Bb hy];exact SE hc)
  rcases Azq hx.ok ho with⟨h1,h2,h3,rfl⟩|⟨h1,rfl⟩|⟨h1,h2,rfl⟩|⟨h1,h2,rfl⟩
  ·exact⟨_,.num hx.at_ h1 ⟨by omega,by omega⟩,by rw [Al];show 1<=_;omega⟩
  ·exact⟨_,.name hx.at_ h1 (getElem?_eq_getElem (by rw [hn];exact hi)),by rw [Al];show 1<=_;omega⟩
  ·obtain⟨i',y,hk,hy,hc⟩:=hx.lz 0 69 rfl;obtain⟨t,ht,hl⟩:=Iq hk hy hc;have he:=hk.last (by rw [VU];rfl);have:=hk.first;subst this;refine⟨_,.un hx.at_ h1 h2 ht,?_⟩;have fh:=Fl (ks L) (i+1) (by rw [A9];exact(List.getElem?_eq_some_iff.1 hy).1);rw [Al,length_append,length_singleton];omega
  ·obtain⟨i',y,hk,hy,hc⟩:=hx.lz 0 69 rfl;obtain⟨j,z,jC,hz,cr⟩:=hx.lz 1 69 rfl;obtain⟨ta,hta,Ic⟩:=Iq hk hy hc;obtain⟨tb,htb,sA⟩:=Iq jC hz cr;have he:=jC.last (by rw [VU];rfl);have hj:=hk.next jC;have:=hk.first;subst this;have cT:=Fl (ks L) (i+1) (by rw [A9];exact(List.getElem?_eq_some_iff.1 hy).1);have zB:=Fl (ks L) j (by rw [A9];exact(List.getElem?_eq_some_iff.1 hz).1);have AO:Rl L i 1=(j:Int):=by
    obtain⟨aE,Ir⟩:=Ec U jC;have aE:1<(Ar L i).length:=aE;have Ir:(Ar L i)[1]=((j:Nat):Int):=Ir;unfold Rl;rw [if_pos (by decide),List.getD_eq_getElem?_getD];show((Ar L i)[1]?).getD (-1)=_
    rw [getElem?_eq_getElem aE,Ir];rfl
   refine⟨_,.bin hx.at_ h1 ho h2 hta AO htb,?_⟩;rw [Al];split
   ·simp only [length_append,length_cons,length_nil,Ci];omega
   ·simp only [length_append,length_cons,length_nil,Ci];omega
theorem VV {L:List Ag} (U:Unit L) {i:Nat} {x:Ag} (hx:L[i]? =some x):(x.kids=1->Ar L i=[((i+1:Nat):Int)])/\(x.kids=2->∀j:Nat,Rl L i 1=(j:Int)->Ar L i=[((i+1:Nat):Int),(j:Int)]):=by
 have hi:=(List.getElem?_eq_some_iff.1 hx).1;obtain⟨y,ds,hn⟩:=U.node i hi;obtain rfl:x=y:=Option.some.inj (hx.symm.trans hn.at_);obtain⟨h1,h2⟩:=xW U hn;have hk:=hn.kids;refine⟨fun kh=> ?_,fun jC j hj=> ?_⟩
 ·obtain⟨k,g1,g2⟩:=h2 0 (by omega);obtain rfl:=g2.first;have hl:(Ar L i).length=1:=by omega
  match hm:Ar L i,hl with
  |[a],_=>
   rw [hm]at g1;simp at g1;rw [g1];rfl
 ·obtain⟨k,g1,g2⟩:=h2 0 (by omega);obtain rfl:=g2.first;have hl:(Ar L i).length=2:=by omega
  match hm:Ar L i,hl with
  |[a,b],_=>
   rw [hm]at g1;simp at g1;unfold Rl at hj;rw [hm]at hj;have hj:b=(j:Int):=hj;rw [g1,hj];rfl
theorem Ax3 {u:Ap} (U:Unit u.l) {i:Nat} {t:RT} (h:Nw u.l u.p.A7 i t):(Al t).length<100000000->∀K:List Ay->Ap->Prop,K (Al t) u->Ck u i K:=by
 induction h with
 |@num i x hx ho hj=>
  intro _ K h;refine P2 hx (by omega) K (fun _=>Jf _ _ _ (Bt hx (B3 (by simp [ho]) (Bt hx h)))) (fun he=>by unfold Cq at he;omega) fun hl=>by omega
 |@name i x k hx ho hk=>
  intro _ K h;refine P2 hx (by omega) K (fun _=>Jf _ _ _ (Bt hx (Ba (by simp [ho]) (Bt hk h)))) (fun he=>by unfold Cq at he;omega) fun hl=>by omega
 |@un i x a hx ho hk ha nx=>
  intro hl K h;rw [Al,length_append,length_singleton]at hl;refine P2 hx (by omega) K (fun hl=>by omega) (fun he=>by unfold Cq at he;omega) fun _ _=> ?_
  refine VQ U hx _ ((VV U hx).1 hk) (fun t=>if t=0 then []else Al a) rfl (fun t ht=> ?_) (fun t ht=> ?_) K (by rw [Al]at h;exact h)
  ·have:t=0:=by simp at ht;omega
   subst this;exact⟨Al a,fun K hK=>nx (by omega) K hK,F8 a,by omega,by simp [Ox]⟩
  ·show Jc (if t=0 then []else Al a)/\(if t=0 then []else Al a).length<_
   split
   ·exact⟨fun x hx=>(by cases hx),by decide⟩
   ·exact⟨F8 a,by omega⟩
 |@bin i j x a b hx h5 mv hk ha hj hb nx m8=>
  intro hl K h;have Bsy:(Al a).length+(Al b).length+1<=(Al (.bin x.op a b)).length:=by
   rw [Al];split
   ·simp only [length_append,length_cons,length_nil,Ci];omega
   ·simp only [length_append,length_cons,length_nil,Ci];omega
  have sy:=(VV U hx).2 hk j hj;refine P2 hx (by omega) K (fun hl=>by omega) (fun he=> ?_) fun _ he=> ?_
  ·exact Avg U hx he sy a b (by omega) (by omega) (nx (by omega)) (m8 (by omega)) K h
  ·have hc:Al (.bin x.op a b)=(Al a++d5 ((Al a).length:Nat) (Al b))++[⟨5,x.op,0⟩]:=by
    rw [Al,if_neg he,append_assoc]
   refine VQ U hx _ sy (fun t=>if t=0 then []else if t=1 then Al a else Al a++d5 ((Al a).length:Nat) (Al b)) rfl (fun t ht=> ?_) (fun t ht=> ?_) K (by rw [hc]at h;exact h)
   ·rcases(by simp at ht;omega:t=0\/t=1)with rfl|rfl
    ·exact⟨Al a,fun K hK=>nx (by omega) K hK,F8 a,by omega,by simp [Ox]⟩
    ·exact⟨Al b,fun K hK=>m8 (by omega) K hK,F8 b,by omega,by simp⟩
   ·show Jc (if t=0 then []else if t=1 then Al a else Al a++d5 ((Al a).length:Nat) (Al b))/\(if t=0 then []else if t=1 then Al a else Al a++d5 ((Al a).length:Nat) (Al b)).length<_
    split
    ·exact⟨fun x hx=>(by cases hx),by decide⟩
    ·split
     ·exact⟨F8 a,by omega⟩
     ·exact⟨Ap8 (F8 a) (F8 b),by rw [length_append,Ci];omega⟩
theorem Ax4 {u:Ap} (U:Unit u.l) {i:Nat} {t:RT} {x:Ag} (hx:u.l[i]? =some x) (h1:1<=x.op) (mv:x.op<=17) (h:Nw u.l u.p.A7 i t) (hl:(Al t).length<100000000) (K:List Ay->Bool->Ap->Prop) (hK:K (Al t) true u):Lw u i K:=by
 have o4:=(List.getElem?_eq_some_iff.1 hx).1;refine Qc _ _ _ (Rj _ _ _ (B3 (by simp) (B3 (decide_eq_true (by omega)) (Bt hx (B3 (decide_eq_true (by omega)) (Bt hx (B3 (decide_eq_true mv) (Ba rfl ?_))))))));exact Ax3 U h hl _ hK
end Go.Proofs.YtpdccfgpbkagcaaGreat
namespace Go.Am
open Go.Vc
open Go.RowKit (Below)
structure Bx (α:Type) where
 get:α
def jH {α R:Type} (b:Bx α) (f:α->Option R):Option R:=Bx.casesOn (motive:=fun _=>Option R) b f
theorem Ax5 {α R:Type} (b:Bx α) (f:α->Option R):jH b f=f b.get:=rfl
structure N8 (α:Type) where
 a0:α
 a1:α
 a2:α
 a3:α
 a4:α
 a5:α
 a6:α
 a7:α
def N8.pr {α:Type} :Nat->Bx (N8 α->α)
 |0=>⟨N8.a0⟩|1=>⟨N8.a1⟩|2=>⟨N8.a2⟩|3=>⟨N8.a3⟩|4=>⟨N8.a4⟩|5=>⟨N8.a5⟩|6=>⟨N8.a6⟩|_=>⟨N8.a7⟩
def N8.put {α:Type} (t:N8 α) (x:α):Nat->N8 α
 |0=>⟨x,t.a1,t.a2,t.a3,t.a4,t.a5,t.a6,t.a7⟩|1=>⟨t.a0,x,t.a2,t.a3,t.a4,t.a5,t.a6,t.a7⟩|2=>⟨t.a0,t.a1,x,t.a3,t.a4,t.a5,t.a6,t.a7⟩|3=>⟨t.a0,t.a1,t.a2,x,t.a4,t.a5,t.a6,t.a7⟩|4=>⟨t.a0,t.a1,t.a2,t.a3,x,t.a5,t.a6,t.a7⟩|5=>⟨t.a0,t.a1,t.a2,t.a3,t.a4,x,t.a6,t.a7⟩|6=>⟨t.a0,t.a1,t.a2,t.a3,t.a4,t.a5,x,t.a7⟩|_=>⟨t.a0,t.a1,t.a2,t.a3,t.a4,t.a5,t.a6,x⟩
def N8.up {α R:Type} :Nat->Bx (N8 α->(α->(α->Option R)->Option R)->(N8 α->Option R)->Option R)
 |0=>⟨fun t f K=>N8.casesOn (motive:=fun _=>Option R) t fun a0 a1 a2 a3 a4 a5 a6 a7=>f a0 fun x=>K ⟨x,a1,a2,a3,a4,a5,a6,a7⟩⟩
 |1=>⟨fun t f K=>N8.casesOn (motive:=fun _=>Option R) t fun a0 a1 a2 a3 a4 a5 a6 a7=>f a1 fun x=>K ⟨a0,x,a2,a3,a4,a5,a6,a7⟩⟩
 |2=>⟨fun t f K=>N8.casesOn (motive:=fun _=>Option R) t fun a0 a1 a2 a3 a4 a5 a6 a7=>f a2 fun x=>K ⟨a0,a1,x,a3,a4,a5,a6,a7⟩⟩
 |3=>⟨fun t f K=>N8.casesOn (motive:=fun _=>Option R) t fun a0 a1 a2 a3 a4 a5 a6 a7=>f a3 fun x=>K ⟨a0,a1,a2,x,a4,a5,a6,a7⟩⟩
 |4=>⟨fun t f K=>N8.casesOn (motive:=fun _=>Option R) t fun a0 a1 a2 a3 a4 a5 a6 a7=>f a4 fun x=>K ⟨a0,a1,a2,a3,x,a5,a6,a7⟩⟩
 |5=>⟨fun t f K=>N8.casesOn (motive:=fun _=>Option R) t fun a0 a1 a2 a3 a4 a5 a6 a7=>f a5 fun x=>K ⟨a0,a1,a2,a3,a4,x,a6,a7⟩⟩
 |6=>⟨fun t f K=>N8.casesOn (motive:=fun _=>Option R) t fun a0 a1 a2 a3 a4 a5 a6 a7=>f a6 fun x=>K ⟨a0,a1,a2,a3,a4,a5,x,a7⟩⟩
 |_=>⟨fun t f K=>N8.casesOn (motive:=fun _=>Option R) t fun a0 a1 a2 a3 a4 a5 a6 a7=>f a7 fun x=>K ⟨a0,a1,a2,a3,a4,a5,a6,x⟩⟩
theorem N8.VW {α R:Type} (i:Nat) (t:N8 α) (f:α->(α->Option R)->Option R) (K:N8 α->Option R):(N8.up i).get t f K=f ((N8.pr i).get t) fun x=>K (t.put x i):=by
 match i with
 |0|1|2|3|4|5|6|_+7=>rfl
theorem N8.k8 {α:Type} (t:N8 α) (x:α):∀(i j:Nat),i<8->j<8->(N8.pr j).get (t.put x i)=if j=i then x else(N8.pr j).get t
 |0,0,_,_=>rfl
 |0,1,_,_=>rfl
 |0,2,_,_=>rfl
 |0,3,_,_=>rfl
 |0,4,_,_=>rfl
 |0,5,_,_=>rfl
 |0,6,_,_=>rfl
 |0,7,_,_=>rfl
 |1,0,_,_=>rfl
 |1,1,_,_=>rfl
 |1,2,_,_=>rfl
 |1,3,_,_=>rfl
 |1,4,_,_=>rfl
 |1,5,_,_=>rfl
 |1,6,_,_=>rfl
 |1,7,_,_=>rfl
 |2,0,_,_=>rfl
 |2,1,_,_=>rfl
 |2,2,_,_=>rfl
 |2,3,_,_=>rfl
 |2,4,_,_=>rfl
 |2,5,_,_=>rfl
 |2,6,_,_=>rfl
 |2,7,_,_=>rfl
 |3,0,_,_=>rfl
 |3,1,_,_=>rfl
 |3,2,_,_=>rfl
 |3,3,_,_=>rfl
 |3,4,_,_=>rfl
 |3,5,_,_=>rfl
 |3,6,_,_=>rfl
 |3,7,_,_=>rfl
 |4,0,_,_=>rfl
 |4,1,_,_=>rfl
 |4,2,_,_=>rfl
 |4,3,_,_=>rfl
 |4,4,_,_=>rfl
 |4,5,_,_=>rfl
 |4,6,_,_=>rfl
 |4,7,_,_=>rfl
 |5,0,_,_=>rfl
 |5,1,_,_=>rfl
 |5,2,_,_=>rfl
 |5,3,_,_=>rfl
 |5,4,_,_=>rfl
 |5,5,_,_=>rfl
 |5,6,_,_=>rfl
 |5,7,_,_=>rfl
 |6,0,_,_=>rfl
 |6,1,_,_=>rfl
 |6,2,_,_=>rfl
 |6,3,_,_=>rfl
 |6,4,_,_=>rfl
 |6,5,_,_=>rfl
 |6,6,_,_=>rfl
 |6,7,_,_=>rfl
 |7,0,_,_=>rfl
 |7,1,_,_=>rfl
 |7,2,_,_=>rfl
 |7,3,_,_=>rfl
 |7,4,_,_=>rfl
 |7,5,_,_=>rfl
 |7,6,_,_=>rfl
 |7,7,_,_=>rfl
 |i+8,j,hi,_=>by omega
 |i,j+8,_,hj=>by omega
theorem VX (a b:Nat):Nat.div a b=a/b:=rfl
theorem VY (a b:Nat):mod a b=a%b:=rfl
abbrev Tr (α:Type):Type:=N8 (N8 (N8 (N8 (N8 (N8 (Option α))))))
def Tr.gB {α:Type} (k:Nat):Bx (Tr α->Option α):=cond (ble k 262143) (match N8.pr (Nat.div k 32768),N8.pr (mod (Nat.div k 4096) 8),N8.pr (mod (Nat.div k 512) 8),N8.pr (mod (Nat.div k 64) 8),N8.pr (mod (Nat.div k 8) 8),N8.pr (mod k 8)with|⟨p1⟩,⟨p2⟩,⟨p3⟩,⟨p4⟩,⟨p5⟩,⟨p6⟩=>⟨fun t=>p6 (p5 (p4 (p3 (p2 (p1 t)))))⟩) ⟨fun _=>none⟩
def Tr.get {α:Type} (t:Tr α) (k:Nat):Option α:=(Tr.gB k).get t
def Tr.sB {α R:Type} (k:Nat):Bx (Tr α->Option α->(Tr α->Option R)->Option R):=cond (ble k 262143) (match N8.up (R:=R) (Nat.div k 32768),N8.up (R:=R) (mod (Nat.div k 4096) 8),N8.up (R:=R) (mod (Nat.div k 512) 8),N8.up (R:=R) (mod (Nat.div k 64) 8),N8.up (R:=R) (mod (Nat.div k 8) 8),N8.up (R:=R) (mod k 8)with|⟨u1⟩,⟨u2⟩,⟨u3⟩,⟨u4⟩,⟨u5⟩,⟨u6⟩=>⟨fun t x K=>u1 t (fun t K=>u2 t (fun t K=>u3 t (fun t K=>u4 t (fun t K=>u5 t (fun t K=>u6 t (fun _ K=>K x) K) K) K) K) K) K⟩) ⟨fun _ _ _=>none⟩
theorem Tr.get_eq {α:Type} (t:Tr α) (k:Nat):Tr.get t k=cond (ble k 262143) ((N8.pr (mod k 8)).get ((N8.pr (mod (Nat.div k 8) 8)).get ((N8.pr (mod (Nat.div k 64) 8)).get ((N8.pr (mod (Nat.div k 512) 8)).get ((N8.pr (mod (Nat.div k 4096) 8)).get ((N8.pr (Nat.div k 32768)).get t)))))) none:=by unfold Tr.get Tr.gB;cases ble k 262143<;>rfl
theorem Tr.Iu {α R:Type} (k:Nat) (hk:ble k 262143=true) (t:Tr α) (x:Option α) (K:Tr α->Option R):(Tr.sB k).get t x K=K (N8.put t (N8.put ((N8.pr (Nat.div k 32768)).get t) (N8.put ((N8.pr (mod (Nat.div k 4096) 8)).get ((N8.pr (Nat.div k 32768)).get t)) (N8.put ((N8.pr (mod (Nat.div k 512) 8)).get ((N8.pr (mod (Nat.div k 4096) 8)).get ((N8.pr (Nat.div k 32768)).get t))) (N8.put ((N8.pr (mod (Nat.div k 64) 8)).get ((N8.pr (mod (Nat.div k 512) 8)).get ((N8.pr (mod (Nat.div k 4096) 8)).get ((N8.pr (Nat.div k 32768)).get t)))) (N8.put ((N8.pr (mod (Nat.div k 8) 8)).get ((N8.pr (mod (Nat.div k 64) 8)).get ((N8.pr (mod (Nat.div k 512) 8)).get ((N8.pr (mod (Nat.div k 4096) 8)).get ((N8.pr (Nat.div k 32768)).get t))))) x (mod k 8)) (mod (Nat.div k 8) 8)) (mod (Nat.div k 64) 8)) (mod (Nat.div k 512) 8)) (mod (Nat.div k 4096) 8)) (Nat.div k 32768)):=by unfold Tr.sB;rw [hk];simp only [cond_true,N8.VW]
theorem Tr.Iv {α:Type} (k j:Nat) (hk:ble k 262143=true) (t:Tr α) (x:Option α):Tr.get (N8.put t (N8.put ((N8.pr (Nat.div k 32768)).get t) (N8.put ((N8.pr (mod (Nat.div k 4096) 8)).get ((N8.pr (Nat.div k 32768)).get t)) (N8.put ((N8.pr (mod (Nat.div k 512) 8)).get ((N8.pr (mod (Nat.div k 4096) 8)).get ((N8.pr (Nat.div k 32768)).get t))) (N8.put ((N8.pr (mod (Nat.div k 64) 8)).get ((N8.pr (mod (Nat.div k 512) 8)).get ((N8.pr (mod (Nat.div k 4096) 8)).get ((N8.pr (Nat.div k 32768)).get t)))) (N8.put ((N8.pr (mod (Nat.div k 8) 8)).get ((N8.pr (mod (Nat.div k 64) 8)).get ((N8.pr (mod (Nat.div k 512) 8)).get ((N8.pr (mod (Nat.div k 4096) 8)).get ((N8.pr (Nat.div k 32768)).get t))))) x (mod k 8)) (mod (Nat.div k 8) 8)) (mod (Nat.div k 64) 8)) (mod (Nat.div k 512) 8)) (mod (Nat.div k 4096) 8)) (Nat.div k 32768)) j=if j=k then x else Tr.get t j:=by
 rw [Tr.get_eq,Tr.get_eq];have bZ:=Nat.le_of_ble_eq_true hk;cases hj:ble j 262143 with
 |false=>
  have:j≠k:=fun e=>by subst e;rw [hk]at hj;cases hj
  simp [this]
 |true=>
  have iX:=Nat.le_of_ble_eq_true hj;simp only [cond_true,VX,VY];by_cases e0:(j/32768)=(k/32768)
  case neg=>
   have:j≠k:=fun e=>by subst e;exact e0 rfl
   rw [N8.k8 _ _ _ _ (by omega) (by omega),if_neg e0,if_neg this]
  rw [N8.k8 _ _ _ _ (by omega) (by omega),if_pos e0];by_cases e1:(j/4096%8)=(k/4096%8)
  case neg=>
   have:j≠k:=fun e=>by subst e;exact e1 rfl
   rw [N8.k8 _ _ _ _ (by omega) (by omega),if_neg e1,if_neg this];simp only [e0]
  rw [N8.k8 _ _ _ _ (by omega) (by omega),if_pos e1];by_cases e2:(j/512%8)=(k/512%8)
  case neg=>
   have:j≠k:=fun e=>by subst e;exact e2 rfl
   rw [N8.k8 _ _ _ _ (by omega) (by omega),if_neg e2,if_neg this];simp only [e0,e1]
  rw [N8.k8 _ _ _ _ (by omega) (by omega),if_pos e2];by_cases e3:(j/64%8)=(k/64%8)
  case neg=>
   have:j≠k:=fun e=>by subst e;exact e3 rfl
   rw [N8.k8 _ _ _ _ (by omega) (by omega),if_neg e3,if_neg this];simp only [e0,e1,e2]
  rw [N8.k8 _ _ _ _ (by omega) (by omega),if_pos e3];by_cases e4:(j/8%8)=(k/8%8)
  case neg=>
   have:j≠k:=fun e=>by subst e;exact e4 rfl
   rw [N8.k8 _ _ _ _ (by omega) (by omega),if_neg e4,if_neg this];simp only [e0,e1,e2,e3]
  rw [N8.k8 _ _ _ _ (by omega) (by omega),if_pos e4];by_cases e5:(j%8)=(k%8)
  case neg=>
   have:j≠k:=fun e=>by subst e;exact e5 rfl
   rw [N8.k8 _ _ _ _ (by omega) (by omega),if_neg e5,if_neg this];simp only [e0,e1,e2,e3,e4]
  rw [N8.k8 _ _ _ _ (by omega) (by omega),if_pos e5];rw [if_pos (by omega)]
def Tr.n1 {α:Type} :N8 (Option α):=⟨none,none,none,none,none,none,none,none⟩
def Tr.n2 {α:Type} :N8 (N8 (Option α)):=⟨Tr.n1,Tr.n1,Tr.n1,Tr.n1,Tr.n1,Tr.n1,Tr.n1,Tr.n1⟩
def Tr.n3 {α:Type} :N8 (N8 (N8 (Option α))):=⟨Tr.n2,Tr.n2,Tr.n2,Tr.n2,Tr.n2,Tr.n2,Tr.n2,Tr.n2⟩
def Tr.n4 {α:Type} :N8 (N8 (N8 (N8 (Option α)))):=⟨Tr.n3,Tr.n3,Tr.n3,Tr.n3,Tr.n3,Tr.n3,Tr.n3,Tr.n3⟩
def Tr.n5 {α:Type} :N8 (N8 (N8 (N8 (N8 (Option α))))):=⟨Tr.n4,Tr.n4,Tr.n4,Tr.n4,Tr.n4,Tr.n4,Tr.n4,Tr.n4⟩
def Tr.nil {α:Type} :Tr α:=(⟨Tr.n5,Tr.n5,Tr.n5,Tr.n5,Tr.n5,Tr.n5,Tr.n5,Tr.n5⟩:N8 _)
theorem N8.VZ {α:Type} (x:α) (i:Nat):(N8.pr i).get ⟨x,x,x,x,x,x,x,x⟩=x:=by
 match i with
 |0|1|2|3|4|5|6|_+7=>rfl
theorem Tr.get_nil {α:Type} (k:Nat):(Tr.nil:Tr α).get k=none:=by
 rw [Tr.get_eq];simp only [Tr.nil,Tr.n5,Tr.n4,Tr.n3,Tr.n2,Tr.n1,N8.VZ];cases ble k 262143<;>rfl
def Tr.jI {α R:Type} (_f:Nat) (t:Tr α) (k:Nat) (x:Option α) (K:Tr α->Option R):Option R:=jH (Tr.sB k) fun s=>s t x K
theorem Tr.kG {α R:Type} {r:R} {f:Nat} {t:Tr α} {k:Nat} {x:Option α} {K:Tr α->Option R} (h:Tr.jI f t k x K=some r): ∃t',K t'=some r/\∀j,t'.get j=if j=k then x else t.get j:=by
 unfold Tr.jI at h;rw [Ax5]at h;cases hk:ble k 262143 with
 |false=>simp only [Tr.sB,hk,cond_false]at h;cases h
 |true=>
  rw [Tr.Iu k hk]at h;exact⟨_,h,fun j=>Tr.Iv k j hk t x⟩
inductive AV where
 |lit (v:Value)
 |ptr (b o:Nat)
 |slice (b o n sz c:Nat) (x:Bool)
 |agg (l:List AV)
 |tuple (l:List AV)
 |func (f:FuncId) (first captured:List AV)
 |map (b:Nat)
 |iface (t:TypeId) (x:AV)
 |yield (b:Nat)
 |qi (k:IntKind) (lo hi:Int)
 |pn
 |same (i:Nat) (k:IntKind) (lo hi:Int)
instance:Inhabited AV:=⟨.lit default⟩
abbrev Tm:Type:=N8 (N8 (N8 (Option AV)))
def Tm.gB (k:Nat):Bx (Tm->Option AV):=cond (ble k 511) (match N8.pr (Nat.div k 64),N8.pr (mod (Nat.div k 8) 8),N8.pr (mod k 8)with|⟨p1⟩,⟨p2⟩,⟨p3⟩=>⟨fun t=>p3 (p2 (p1 t))⟩) ⟨fun _=>none⟩
def Tm.get (t:Tm) (k:Nat):Option AV:=(Tm.gB k).get t
def Tm.sB {R:Type} (k:Nat):Bx (Tm->Option AV->(Tm->Option R)->Option R):=cond (ble k 511) (match N8.up (R:=R) (Nat.div k 64),N8.up (R:=R) (mod (Nat.div k 8) 8),N8.up (R:=R) (mod k 8)with|⟨u1⟩,⟨u2⟩,⟨u3⟩=>⟨fun t x K=>u1 t (fun t K=>u2 t (fun t K=>u3 t (fun _ K=>K x) K) K) K⟩) ⟨fun _ _ _=>none⟩
theorem Tm.get_eq (t:Tm) (k:Nat):Tm.get t k=cond (ble k 511) ((N8.pr (mod k 8)).get ((N8.pr (mod (Nat.div k 8) 8)).get ((N8.pr (Nat.div k 64)).get t))) none:=by unfold Tm.get Tm.gB;cases ble k 511<;>rfl
theorem Tm.Iu {R:Type} (k:Nat) (hk:ble k 511=true) (t:Tm) (x:Option AV) (K:Tm->Option R):(Tm.sB k).get t x K=K (N8.put t (N8.put ((N8.pr (Nat.div k 64)).get t) (N8.put ((N8.pr (mod (Nat.div k 8) 8)).get ((N8.pr (Nat.div k 64)).get t)) x (mod k 8)) (mod (Nat.div k 8) 8)) (Nat.div k 64)):=by unfold Tm.sB;rw [hk];simp only [cond_true,N8.VW]
theorem Tm.Iv (k j:Nat) (hk:ble k 511=true) (t:Tm) (x:Option AV):Tm.get (N8.put t (N8.put ((N8.pr (Nat.div k 64)).get t) (N8.put ((N8.pr (mod (Nat.div k 8) 8)).get ((N8.pr (Nat.div k 64)).get t)) x (mod k 8)) (mod (Nat.div k 8) 8)) (Nat.div k 64)) j=if j=k then x else Tm.get t j:=by
 rw [Tm.get_eq,Tm.get_eq];have bZ:=Nat.le_of_ble_eq_true hk;cases hj:ble j 511 with
 |false=>
  have:j≠k:=fun e=>by subst e;rw [hk]at hj;cases hj
  simp [this]
 |true=>
  have iX:=Nat.le_of_ble_eq_true hj;simp only [cond_true,VX,VY];by_cases e0:(j/64)=(k/64)
  case neg=>
   have:j≠k:=fun e=>by subst e;exact e0 rfl
   rw [N8.k8 _ _ _ _ (by omega) (by omega),if_neg e0,if_neg this]
  rw [N8.k8 _ _ _ _ (by omega) (by omega),if_pos e0];by_cases e1:(j/8%8)=(k/8%8)
  case neg=>
   have:j≠k:=fun e=>by subst e;exact e1 rfl
   rw [N8.k8 _ _ _ _ (by omega) (by omega),if_neg e1,if_neg this];simp only [e0]
  rw [N8.k8 _ _ _ _ (by omega) (by omega),if_pos e1];by_cases e2:(j%8)=(k%8)
  case neg=>
   have:j≠k:=fun e=>by subst e;exact e2 rfl
   rw [N8.k8 _ _ _ _ (by omega) (by omega),if_neg e2,if_neg this];simp only [e0,e1]
  rw [N8.k8 _ _ _ _ (by omega) (by omega),if_pos e2];rw [if_pos (by omega)]
def Tm.nil:Tm:=(⟨Tr.n2,Tr.n2,Tr.n2,Tr.n2,Tr.n2,Tr.n2,Tr.n2,Tr.n2⟩:N8 _)
theorem Tm.get_nil (k:Nat):Tm.nil.get k=none:=by
 rw [Tm.get_eq];simp only [Tm.nil,Tr.n2,Tr.n1,N8.VZ];cases ble k 511<;>rfl
theorem Tm.Iw {R:Type} {r:R} {t:Tm} {k:Nat} {x:Option AV} {K:Tm->Option R} (h:(Tm.sB k).get t x K=some r): ∃t',K t'=some r/\∀j,t'.get j=if j=k then x else t.get j:=by
 cases hk:ble k 511 with
 |false=>simp only [Tm.sB,hk,cond_false]at h;cases h
 |true=>
  rw [Tm.Iu k hk]at h;exact⟨_,h,fun j=>Tm.Iv k j hk t x⟩
abbrev Env:Type:=Nat->Option (Nat×Nat)
def vp (B t:Nat):Int:=match t with
 |0=>Int.ofNat B|_=>Int.negSucc B
mutual
def AV.rep (e:Env):AV->Value->Prop
 | .lit u,v=>v=u| .ptr b o,v=>∃B t,e b=some (B,t)/\v= .pointer (some ⟨B,o,none⟩)| .slice b o n sz c x,v=>∃B t k A,e b=some (B,t)/\v= .slice (some A) n k/\(A=⟨B,o,none⟩\/k=0)/\n<=k/\c<=k/\(x=true->k=c)/\o+k*sz<=t| .agg l,v=>∃vs,v= .agg ⟨vs⟩/\AV.bl e l vs| .tuple l,v=>∃vs,v= .tuple ⟨vs⟩/\AV.bl e l vs| .func f l m,v=>∃vs us,v= .func (.func f) ⟨vs⟩ ⟨us⟩/\AV.bl e l vs/\AV.bl e m us
 | .map b,v=>∃B t,e b=some (B,t)/\v= .map (some B)| .iface t x,v=>∃u,v= .iface t u/\AV.rep e x u| .yield b,v=>∃B t,e b=some (B,t)/\v= .func (.yield B) #[] #[]
 | .qi k lo hi,v=>∃n,v= .int k n/\lo<=n/\n<=hi| .pn,v=>v.oneCell'=true| .same i k lo hi,v=>∃B t,e i=some (B,t)/\v= .int k (vp B t)/\lo<=vp B t/\vp B t<=hi
def AV.bl (e:Env):List AV->List Value->Prop
 |[],vs=>vs=[]|a::l,vs=>∃x xs,vs=x::xs/\AV.rep e a x/\AV.bl e l xs
end
def Bg (e e':Env):Prop:=∀(b:Nat) (x:Nat×Nat),e b=some x->e' b=some x
theorem Bg.refl (e:Env):Bg e e:=fun _ _ h=>h
theorem Bg.trans {e e' vq:Env} (h:Bg e e') (k:Bg e' vq):Bg e vq:=fun b x hb=>k b x (h b x hb)
def Env.put (e:Env) (n:Nat) (x:Nat×Nat):Env:=fun b=>if b=n then some x else e b
theorem Fv (e:Env) (n:Nat) (x:Nat×Nat):e.put n x n=some x:=if_pos rfl
theorem O6 {e:Env} {n b:Nat} (h:b≠n) (x:Nat×Nat):e.put n x b=e b:=if_neg h
theorem Bg.put {e:Env} {n:Nat} (h:e n=none) (x:Nat×Nat):Bg e (e.put n x):=fun b y hb=>by
 by_cases V_:b=n
 ·subst V_;rw [h]at hb;cases hb
 ·rw [O6 V_];exact hb
mutual
theorem Et {e e':Env} (h:Bg e e'):∀ {a:AV} {v:Value},a.rep e v->a.rep e' v
 | .lit _,_,hr=>by simp only [AV.rep]at hr⊢;exact hr
 | .ptr _ _,_,hr=>by simp only [AV.rep]at hr⊢;obtain⟨B,t,h1,h2⟩:=hr;exact⟨B,t,h _ _ h1,h2⟩
 | .slice ..,_,hr=>by simp only [AV.rep]at hr⊢;obtain⟨B,t,k,A,h1,h2⟩:=hr;exact⟨B,t,k,A,h _ _ h1,h2⟩
 | .agg _,_,hr=>by simp only [AV.rep]at hr⊢;obtain⟨vs,h1,h2⟩:=hr;exact⟨vs,h1,Dv h h2⟩
 | .tuple _,_,hr=>by simp only [AV.rep]at hr⊢;obtain⟨vs,h1,h2⟩:=hr;exact⟨vs,h1,Dv h h2⟩
 | .func ..,_,hr=>by simp only [AV.rep]at hr⊢;obtain⟨vs,us,h1,h2,h3⟩:=hr;exact⟨vs,us,h1,Dv h h2,Dv h h3⟩
 | .map _,_,hr=>by simp only [AV.rep]at hr⊢;obtain⟨B,t,h1,h2⟩:=hr;exact⟨B,t,h _ _ h1,h2⟩
 | .iface _ _,_,hr=>by simp only [AV.rep]at hr⊢;obtain⟨u,h1,h2⟩:=hr;exact⟨u,h1,Et h h2⟩
 | .yield _,_,hr=>by simp only [AV.rep]at hr⊢;obtain⟨B,t,h1,h2⟩:=hr;exact⟨B,t,h _ _ h1,h2⟩
 | .qi ..,_,hr=>by simp only [AV.rep]at hr⊢;exact hr
 | .pn,_,hr=>by simp only [AV.rep]at hr⊢;exact hr
 | .same ..,_,hr=>by simp only [AV.rep]at hr⊢;obtain⟨B,t,h1,h2⟩:=hr;exact⟨B,t,h _ _ h1,h2⟩
theorem Dv {e e':Env} (h:Bg e e'):∀ {l:List AV} {vs:List Value},AV.bl e l vs->AV.bl e' l vs
 |[],_,hr=>by simp only [AV.bl]at hr⊢;exact hr
 |_::_,_,hr=>by simp only [AV.bl]at hr⊢;obtain⟨x,xs,h1,h2,h3⟩:=hr;exact⟨x,xs,h1,Et h h2,Dv h h3⟩
end
theorem Bk {e:Env} :∀ {l:List AV} {vs:List Value},AV.bl e l vs->vs.length=l.length
 |[],_,h=>by simp only [AV.bl]at h;subst h;rfl
 |_::l,_,h=>by simp only [AV.bl]at h;obtain⟨x,xs,rfl,_,h⟩:=h;simp [Bk h]
theorem Hz {e:Env} :∀ {l:List AV} {vs:List Value} {i:Nat} {a:AV},AV.bl e l vs->l[i]? =some a->∃v,vs[i]? =some v/\a.rep e v
 |[],_,_,_,_,hi=>by simp at hi
 |_::l,_,i,a,h,hi=>by
  simp only [AV.bl]at h;obtain⟨x,xs,rfl,h1,h2⟩:=h;cases i with
  |zero=>simp at hi;subst hi;exact⟨x,by simp,h1⟩
  |succ i=>simp at hi;obtain⟨v,hv,hr⟩:=Hz h2 hi;exact⟨v,by simpa using hv,hr⟩
theorem Ix {e:Env} :∀ {l:List AV} {vs:List Value},vs.length=l.length->(∀(i:Nat) (a:AV),l[i]? =some a->∃v,vs[i]? =some v/\AV.rep e a v)->AV.bl e l vs
 |[],vs,hl,_=>by simp only [AV.bl];exact List.eq_nil_of_length_eq_zero (by simpa using hl)
 |a::l,vs,hl,h=>by
  cases vs with
  |nil=>simp at hl
  |cons v vs=>
   simp only [AV.bl];obtain⟨v',hv,hr⟩:=h 0 a (by simp);simp at hv;subst hv;exact⟨v,vs,rfl,hr,Ix (by simpa using hl) fun i b hb=>by have:=h (i+1) b (by simpa using hb);simpa using this⟩
theorem C6 {e:Env} :∀ {l m:List AV} {vs us:List Value},AV.bl e l vs->AV.bl e m us->AV.bl e (l++m) (vs++us)
 |[],_,_,_,h,k=>by simp only [AV.bl]at h;subst h;exact k
 |_::l,_,_,_,h,k=>by
  simp only [AV.bl]at h;obtain⟨x,xs,rfl,h1,h2⟩:=h;simp only [List.cons_append,AV.bl];exact⟨x,_,rfl,h1,C6 h2 k⟩
theorem Ee {e:Env} :∀ {n:Nat} {l:List AV} {vs:List Value},AV.bl e l vs->AV.bl e (l.take n) (vs.take n)
 |0,_,_,_=>by simp [AV.bl]
 |n+1,[],_,h=>by simp only [AV.bl]at h;subst h;simp [AV.bl]
 |n+1,_::l,_,h=>by
  simp only [AV.bl]at h;obtain⟨x,xs,rfl,h1,h2⟩:=h;simp only [List.take_succ_cons,AV.bl];exact⟨x,_,rfl,h1,Ee h2⟩
theorem Fp {e:Env} :∀ {n:Nat} {l:List AV} {vs:List Value},AV.bl e l vs->AV.bl e (l.drop n) (vs.drop n)
 |0,_,_,h=>by simpa using h
 |n+1,[],_,h=>by simp only [AV.bl]at h;subst h;simp [AV.bl]
 |n+1,_::l,_,h=>by
  simp only [AV.bl]at h;obtain⟨x,xs,rfl,h1,h2⟩:=h;simpa using Fp h2
theorem Ast {e:Env} {l:List AV} {vs:List Value} (h:AV.bl e l vs) (i:Nat) {a:AV} {v:Value} (hr:a.rep e v):AV.bl e (l.set i a) (vs.set i v):=by
 refine Ix (by simp [Bk h]) fun j b hb=> ?_
 rw [List.getElem?_set]at hb;split at hb
 ·rename_i mN;subst mN;split at hb
  ·rename_i aE;cases hb
   exact⟨v,by rw [List.getElem?_set];simp [Bk h,aE],hr⟩
  ·cases hb
 ·rename_i mN;obtain⟨u,hu,GV⟩:=Hz h hb;exact⟨u,by rw [List.getElem?_set,if_neg mN];exact hu,GV⟩
mutual
def AV.val? :AV->Option Value
 | .lit v=>some v| .agg l=>match AV.vals? l with|some vs=>some (.agg ⟨vs⟩)|none=>none
 | .tuple l=>match AV.vals? l with|some vs=>some (.tuple ⟨vs⟩)|none=>none
 | .iface t x=>match AV.val? x with|some v=>some (.iface t v)|none=>none
 |_=>none
def AV.vals? :List AV->Option (List Value)
 |[]=>some []|a::l=>match AV.val? a,AV.vals? l with|some v,some vs=>some (v::vs)|_,_=>none
end
mutual
theorem Iy {e:Env} :∀ {a:AV} {u v:Value},a.val? =some u->a.rep e v->v=u
 | .lit _,_,_,h,hr=>by simp only [AV.val?]at h;cases h;simpa only [AV.rep] using hr
 | .agg l,_,_,h,hr=>by
  simp only [AV.val?]at h;split at h
  ·rename_i vs kF;cases h
   simp only [AV.rep]at hr;obtain⟨us,rfl,jJ⟩:=hr;rw [T2 kF jJ]
  ·cases h
 | .tuple l,_,_,h,hr=>by
  simp only [AV.val?]at h;split at h
  ·rename_i vs kF;cases h
   simp only [AV.rep]at hr;obtain⟨us,rfl,jJ⟩:=hr;rw [T2 kF jJ]
  ·cases h
 | .iface t x,_,_,h,hr=>by
  simp only [AV.val?]at h;split at h
  ·rename_i v hv;cases h
   simp only [AV.rep]at hr;obtain⟨u,rfl,hu⟩:=hr;rw [Iy hv hu]
  ·cases h
 | .ptr ..,_,_,h,_=>by simp [AV.val?]at h
 | .slice ..,_,_,h,_=>by simp [AV.val?]at h
 | .func ..,_,_,h,_=>by simp [AV.val?]at h
 | .map ..,_,_,h,_=>by simp [AV.val?]at h
 | .yield ..,_,_,h,_=>by simp [AV.val?]at h
 | .qi ..,_,_,h,_=>by simp [AV.val?]at h
 | .pn,_,_,h,_=>by simp [AV.val?]at h
 | .same ..,_,_,h,_=>by simp [AV.val?]at h
theorem T2 {e:Env} :∀ {l:List AV} {us vs:List Value},AV.vals? l=some us->AV.bl e l vs->vs=us
 |[],_,_,h,hr=>by simp only [AV.vals?]at h;cases h;simpa only [AV.bl] using hr
 |_::_,_,_,h,hr=>by
  simp only [AV.vals?]at h;split at h
  ·rename_i v vs hv kF;cases h
   simp only [AV.bl]at hr;obtain⟨x,xs,rfl,h1,h2⟩:=hr;rw [Iy hv h1,T2 kF h2]
  ·cases h
end
def AV.cells:AV->List AV
 | .agg l=>l| .lit (.agg cs)=>cs.toList.map .lit|a=>[a]
theorem Kn {e:Env} :∀(vs:List Value),AV.bl e (vs.map .lit) vs
 |[]=>by simp [AV.bl]
 |v::vs=>by simp only [map_cons,AV.bl];exact⟨v,vs,rfl,by simp [AV.rep],Kn vs⟩
theorem L7 {e:Env} {a:AV} {v:Value} (h:a.rep e v):AV.bl e a.cells v.cells.toList:=by
 have one:∀ {b:AV} {x:Value},b.rep e x->AV.bl e [b] [x]:=fun hb=>by simp only [AV.bl];exact⟨_,[],rfl,hb,rfl⟩
 cases a with
 |lit u=>
  have hu:v=u:=by simpa only [AV.rep] using h
  subst hu;cases v with
  |agg cs=>exact Kn cs.toList
  |_=>exact one h
 |agg l=>simp only [AV.rep]at h;obtain⟨vs,rfl,h⟩:=h;exact h
 |ptr b o=>have h':=h;simp only [AV.rep]at h;obtain⟨_,_,_,rfl⟩:=h;exact one h'
 |slice b o n sz c x=>have h':=h;simp only [AV.rep]at h;obtain⟨_,_,_,_,_,rfl,_⟩:=h;exact one h'
 |tuple l=>have h':=h;simp only [AV.rep]at h;obtain⟨_,rfl,_⟩:=h;exact one h'
 |func f l m=>have h':=h;simp only [AV.rep]at h;obtain⟨_,_,rfl,_⟩:=h;exact one h'
 |map b=>have h':=h;simp only [AV.rep]at h;obtain⟨_,_,_,rfl⟩:=h;exact one h'
 |iface t x=>have h':=h;simp only [AV.rep]at h;obtain⟨_,rfl,_⟩:=h;exact one h'
 |yield b=>have h':=h;simp only [AV.rep]at h;obtain⟨_,_,_,rfl⟩:=h;exact one h'
 |qi k lo hi=>have h':=h;simp only [AV.rep]at h;obtain⟨_,rfl,_⟩:=h;exact one h'
 |pn=>have h':=h;simp only [AV.rep]at h;cases v<;>first|exact one h'|cases h
 |same i k lo hi=>have h':=h;simp only [AV.rep]at h;obtain⟨_,_,_,rfl,_⟩:=h;exact one h'
def AV.one:AV->Bool
 | .lit v=>v.oneCell'| .agg _| .tuple _=>false|_=>true
theorem Avh {e:Env} {a:AV} {v:Value} (h:a.one=true) (hr:a.rep e v):v.oneCell'=true:=by
 cases a with
 |lit u=>have hu:v=u:=by simpa only [AV.rep] using hr
         subst hu;exact h
 |agg l=>cases h
 |tuple l=>cases h
 |ptr b o=>simp only [AV.rep]at hr;obtain⟨_,_,_,rfl⟩:=hr;rfl
 |slice b o n sz c x=>simp only [AV.rep]at hr;obtain⟨_,_,_,_,_,rfl,_⟩:=hr;rfl
 |func f l m=>simp only [AV.rep]at hr;obtain⟨_,_,rfl,_⟩:=hr;rfl
 |map b=>simp only [AV.rep]at hr;obtain⟨_,_,_,rfl⟩:=hr;rfl
 |iface t x=>simp only [AV.rep]at hr;obtain⟨_,rfl,_⟩:=hr;rfl
 |yield b=>simp only [AV.rep]at hr;obtain⟨_,_,_,rfl⟩:=hr;rfl
 |qi k lo hi=>simp only [AV.rep]at hr;obtain⟨_,rfl,_⟩:=hr;rfl
 |pn=>simpa only [AV.rep] using hr
 |same i k lo hi=>simp only [AV.rep]at hr;obtain⟨_,_,_,rfl,_⟩:=hr;rfl
inductive i4 where
 |normal|ret|exit (id:Nat)
def i4.qj:i4->Exit
 | .normal=> .normal| .ret=> .ret| .exit id=> .exit id
def i4.jump:i4->Option Code
 | .normal=>none| .ret=>some .ret| .exit id=>some (.exit id)
structure tX where
 tm:Tm
 sz:Nat
 ps:List Nat
 assign:Code
 body:Code
 st:Nat
 ru:i4
def ph:Nat->LoopState
 |0=> .ready|1=> .busy|2=> .done|_=> .exhausted
inductive aA where
 |cells (l:List AV) (rw:Bool)
 |map (es:List (Value×AV)) (clock:Nat)
 |loop (r:tX)
def B7 (e:Env):List (Value×AV)->List MapEntry->Prop
 |[],ms=>ms=[]|(k,a)::es,ms=>∃m jo,ms=m::jo/\m.key=k/\a.rep e m.val/\B7 e es jo
structure Base where
 w:World
 X:Nat->Prop
 lt:∀k,X k->k<w.heap.size
 R:Nat->Prop
structure Kept (b:Base) (w:World):Prop where
 os:w.os=b.w.os
 tape:w.tape=b.w.tape
 output:w.output=b.w.output
 size:b.w.heap.size<=w.heap.size
 block:∀k,b.X k->w.heap[k]? =b.w.heap[k]?
def Ku (w:World) (b:Nat) (rw:Bool) (l:List Value):Prop:=∃T fr,w.heap[b]? =some (.cells ⟨l⟩ T fr)/\(fr=(0,0)\/(rw=false/\l.length<=fr.1))
theorem Ku.lt {w:World} {b:Nat} {rw:Bool} {l:List Value} (h:Ku w b rw l):b<w.heap.size:=by
 obtain⟨T,fr,h,_⟩:=h;exact(Array.getElem?_eq_some_iff.1 h).1
theorem WA {w:World} {b:Nat} {rw:Bool} {l:List Value} (h:cB w b l):Ku w b rw l:=by
 obtain⟨T,h,_⟩:=h;exact⟨T,_,h,.inl rfl⟩
theorem Ku.frozen {w:World} {b:Nat} {rw:Bool} {l:List Value} (h:Ku w b rw l) {i:Nat} (hi:i<l.length):w.frozen? ⟨b,i,none⟩=false:=by
 obtain⟨T,fr,h,hf⟩:=h;rcases hf with rfl|⟨_,hf⟩
 ·simp [World.frozen?,h]
 ·simp [World.frozen?,h];omega
theorem Ku.set {w w':World} {b i:Nat} {rw:Bool} {l:List Value} {v:Value} (h:Ku w b rw l) (e:w'=w.setCell ⟨b,i,none⟩ v):Ku w' b rw (l.set i v):=by
 subst e;obtain⟨T,fr,h,hf⟩:=h;exact⟨T,fr,by rw [heap_setCell,if_pos rfl,h];simp,by simpa using hf⟩
theorem Ku.cell {w:World} {b:Nat} {rw:Bool} {l:List Value} (h:Ku w b rw l) {i:Nat} {v:Value} (hv:l[i]? =some v):w.cell? ⟨b,i,none⟩=some v:=by
 obtain⟨T,fr,h,_⟩:=h;simp [World.cell?,h,hv]
theorem Ku.cells {w:World} {b:Nat} {rw:Bool} {l:List Value} (h:Ku w b rw l) (i:Nat) {m:List Value} (hm:∀j (hj:j<m.length),l[i+j]? =some m[j]):Ac w ⟨b,i,none⟩ m:=by
 intro j hj;rw [Bo];exact h.cell (hm j hj)
structure vt (e:Env) (r:tX) (R:Loop):Prop where
 state:R.state=ph r.st
 pending:R.pending=r.ru.jump
 size:R.tmps.size=r.sz
 tmps:∀t av,r.tm.get t=some av->t<R.tmps.size/\av.rep e (R.tmps.getD t undef)
 params:R.params=⟨r.ps⟩
 assign:R.assign=r.assign
 body:R.body=r.body
theorem vt.later {e e':Env} {r:tX} {R:Loop} (h:vt e r R) (k:Bg e e'):vt e' r R:=
 ⟨h.state,h.pending,h.size,fun t av ht=>⟨(h.tmps t av ht).1,Et k (h.tmps t av ht).2⟩,h.params,h.assign,h.body⟩
def qk (e:Env) (b0:Base) (w:World) (b:Nat):aA->Prop
 | .cells l rw=>∃B t vs rest,e b=some (B,t)/\Ku w B rw (vs++rest)/\(vs++rest).length=t/\AV.bl e l vs/\¬b0.X B| .map es clock=>∃B t ms,e b=some (B,t)/\w.heap[B]? =some (.map ⟨ms⟩ clock)/\B7 e es ms/\¬b0.X B| .loop r=>∃B t R,e b=some (B,t)/\w.heap[B]? =some (.loop R)/\vt e r R/\¬b0.X B
theorem O7 {e e':Env} (h:Bg e e'):∀ {es:List (Value×AV)} {ms:List MapEntry},B7 e es ms->B7 e' es ms
 |[],_,hr=>hr
 |(_,_)::_,_,hr=>by
  obtain⟨m,jo,h1,h2,h3,h4⟩:=hr;exact⟨m,jo,h1,h2,Et h h3,O7 h h4⟩
theorem qk.at {e:Env} {b0:Base} {w:World} {b:Nat} {x:aA} (h:qk e b0 w b x):∃B t,e b=some (B,t)/\B<w.heap.size/\¬b0.X B:=by
 cases x with
 |cells l rw=>obtain⟨B,t,vs,rest,h1,h2,_,_,h5⟩:=h;exact⟨B,t,h1,h2.lt,h5⟩
 |map es c=>obtain⟨B,t,ms,h1,h2,_,h4⟩:=h;exact⟨B,t,h1,(Array.getElem?_eq_some_iff.1 h2).1,h4⟩
 |loop r=>obtain⟨B,t,R,h1,h2,_,h4⟩:=h;exact⟨B,t,h1,(Array.getElem?_eq_some_iff.1 h2).1,h4⟩
theorem qk.aW {e e':Env} {b0 b1:Base} {w w':World} {b:Nat} {x:aA} (h:qk e b0 w b x) (he:Bg e e') (hX:∀B t,e b=some (B,t)->¬b0.X B->¬b1.X B) (hw:∀B t,e b=some (B,t)->w'.heap[B]? =w.heap[B]?):qk e' b1 w' b x:=by
 cases x with
 |cells l rw=>
  obtain⟨B,t,vs,rest,h1,⟨T,fr,h2,hf⟩,h3,h4,h5⟩:=h;exact⟨B,t,vs,rest,he _ _ h1,⟨T,fr,(hw B t h1).trans h2,hf⟩,h3,Dv he h4,hX B t h1 h5⟩
 |map es c=>
  obtain⟨B,t,ms,h1,h2,h3,h4⟩:=h;exact⟨B,t,ms,he _ _ h1,(hw B t h1).trans h2,O7 he h3,hX B t h1 h4⟩
 |loop r=>
  obtain⟨B,t,R,h1,h2,h3,h4⟩:=h;exact⟨B,t,R,he _ _ h1,(hw B t h1).trans h2,h3.later he,hX B t h1 h4⟩
abbrev Mm:Type:=Nat->Option aA
structure Br (b0:Base) (e:Env) (M:Mm) (n:Nat) (w:World):Prop where
 new:∀b,n<=b\/b0.R b->e b=none
 res:∀b,b0.R b->b<n
 aY:∀b x,M b=some x->qk e b0 w b x
 ew:∀b b' x x',b≠b'->M b=some x->M b'=some x'->∀B B' t t',e b=some (B,t)->e b'=some (B',t')->B≠B'
 kept:Kept b0 w
def base (w:World):Base:=⟨w,fun k=>k<w.heap.size,fun _ h=>h,fun _=>False⟩
theorem Br.start (w:World):Br (base w) (fun _=>none) (Tr.nil:Tr aA).get 0 w:=⟨fun _ _=>rfl,fun _ h=>h.elim,fun _ _ h=>(by rw [Tr.get_nil]at h;cases h),fun _ _ _ _ _ h=>(by rw [Tr.get_nil]at h;cases h),⟨rfl,rfl,rfl,le_refl _,fun _ _=>rfl⟩⟩
theorem Br.below {w w':World} {e:Env} {M:Mm} {n:Nat} (h:Br (base w) e M n w'):Below w.heap.size w w':=⟨h.kept.os,h.kept.tape,h.kept.output,h.kept.size,h.kept.block⟩
theorem Br.drew {b0:Base} {w:World} {e:Env} {M:Mm} {n:Nat} (h:Br b0 e M n w) (k:Nat):Br b0 e M n { w with drawn:=k } :=
 ⟨h.new,h.res,fun b x hx=>(h.aY b x hx).aW (Bg.refl e) (fun _ _ _ h=>h) fun _ _ _=>rfl,h.ew,⟨h.kept.os,h.kept.tape,h.kept.output,h.kept.size,h.kept.block⟩⟩
theorem Br.sub {b0:Base} {w:World} {e:Env} {M M':Mm} {n:Nat} (h:Br b0 e M n w) (hs:∀j x,M' j=some x->M j=some x):Br b0 e M' n w:=
 ⟨h.new,h.res,fun b x hx=>h.aY b x (hs b x hx),fun b b' x x' hb hx mO=>h.ew b b' x x' hb (hs b x hx) (hs b' x' mO),h.kept⟩
theorem Br.more {b0:Base} {w:World} {e:Env} {M:Mm} {n n':Nat} (h:Br b0 e M n w) (hn:n<=n'):Br b0 e M n' w:=
 ⟨fun b hb=>h.new b (hb.imp (fun hb=>le_trans hn hb) id),fun b hb=>Nat.lt_of_lt_of_le (h.res b hb) hn,h.aY,h.ew,h.kept⟩
theorem Br.same {b0:Base} {w:World} {e:Env} {M M':Mm} {n:Nat} (h:Br b0 e M n w) (hs:∀j,M' j=M j):Br b0 e M' n w:=h.sub fun j x hx=>by rw [←hs];exact hx
theorem Br.WB {b0:Base} {w w':World} {e:Env} {M M':Mm} {n n' i t:Nat} {x:aA} (h:Br b0 e M n w) (hE:w.grownBy w' none) (hi:e i=none) (hR:¬b0.R i) (hn:n<=n') (dK:i<n') (hM:∀j,M' j=if j=i then some x else M j) (hx:qk (e.put i (w.heap.size,t)) b0 w' i x):Br b0 (e.put i (w.heap.size,t)) M' n' w':=by
 have old:∀ {c z C s},c≠i->M' c=some z->(e.put i (w.heap.size,t)) c=some (C,s)->M c=some z/\e c=some (C,s)/\C<w.heap.size:=by
  intro c z C s hc hz Iz;rw [hM,if_neg hc]at hz;rw [O6 hc]at Iz;obtain⟨C',s',h1,h2,_⟩:=(h.aY c z hz).at;rw [Iz]at h1;cases h1;exact⟨hz,Iz,h2⟩
 have new:∀ {C s},(e.put i (w.heap.size,t)) i=some (C,s)->C=w.heap.size:=by
  intro C s hc;rw [Fv]at hc;cases hc;rfl
 refine⟨fun b hb=> ?_,fun b hb=>Nat.lt_of_lt_of_le (h.res b hb) hn,fun b y hy=> ?_,fun b b' y y' hb hy j3 B B' s s' he eY=> ?_,⟨hE.os.trans h.kept.os,hE.tape.trans h.kept.tape,hE.output.trans h.kept.output,le_trans h.kept.size hE.size,fun k hk=> ?_⟩⟩
 ·have mI:b≠i:=by
   rintro rfl;rcases hb with hb|hb
   ·omega
   ·exact hR hb
  rw [O6 mI];exact h.new b (hb.imp (fun hb=>by omega) id)
 ·rw [hM]at hy;split at hy
  ·rename_i hb;subst hb;cases hy;exact hx
  ·have hb:=h.aY b y hy;refine hb.aW (Bg.put hi _) (fun _ _ _ h=>h) fun B s he=> ?_
   obtain⟨B',s',h1,h2,_⟩:=hb.at;rw [he]at h1;cases h1;exact hE.block B h2 (by simp)
 ·by_cases hn:b=i
  ·subst hn;obtain⟨_,_,h3⟩:=old (Ne.symm hb) j3 eY;have:=new he;omega
  ·obtain⟨g1,g2,g3⟩:=old hn hy he;by_cases jD:b'=i
   ·subst jD;have:=new eY;omega
   ·obtain⟨k1,k2,_⟩:=old jD j3 eY;exact h.ew b b' y y' hb g1 k1 B B' s s' g2 k2
 ·rw [hE.block k (Nat.lt_of_lt_of_le (b0.lt k hk) h.kept.size) (by simp)];exact h.kept.block k hk
theorem Br.push {b0:Base} {w w':World} {e:Env} {M M':Mm} {n n' i t:Nat} {x:aA} {ob:Obj} (h:Br b0 e M n w) (hw:w'=w.alloc ob) (hi:e i=none) (hR:¬b0.R i) (hn:n<=n') (dK:i<n') (hM:∀j,M' j=if j=i then some x else M j) (hx:qk (e.put i (w.heap.size,t)) b0 w' i x):Br b0 (e.put i (w.heap.size,t)) M' n' w':=
 h.WB (hw▸World.grownBy_alloc w ob none) hi hR hn dK hM hx
theorem WC {b0:Base} {w w':World} {B:Nat} (h:Kept b0 w) (hB:¬b0.X B) (hw:w.grownBy w' (some B)):Kept b0 w':=
 ⟨hw.os.trans h.os,hw.tape.trans h.tape,hw.output.trans h.output,le_trans h.size hw.size,fun j hj=>by
  rw [hw.block j (Nat.lt_of_lt_of_le (b0.lt j hj) h.size) (fun hh=>by have:=Option.some.inj hh;subst this;exact hB hj)];exact h.block j hj⟩
theorem Br.kL {b0:Base} {w w':World} {e:Env} {M M':Mm} {n b B t:Nat} {x y:aA} (h:Br b0 e M n w) (hx:M b=some x) (he:e b=some (B,t)) (hB:¬b0.X B) (hw:w.grownBy w' (some B)) (hM:∀j,M' j=if j=b then some y else M j) (hy:qk e b0 w' b y):Br b0 e M' n w':=by
 refine⟨h.new,h.res,fun c z hz=> ?_,fun c c' z z' hc hz ql C C' s s' k k'=> ?_,WC h.kept hB hw⟩
 ·rw [hM]at hz;split at hz
  ·rename_i hc;subst hc;cases hz;exact hy
  ·rename_i hc;refine(h.aY c z hz).aW (Bg.refl e) (fun _ _ _ h=>h) fun C s hC=> ?_
   obtain⟨C',s',h1,h2,_⟩:=(h.aY c z hz).at;rw [hC]at h1;cases h1;exact hw.block C h2 fun hh=>h.ew c b z x hc hz hx C B s t hC he (Option.some.inj hh)
 ·have:∀ {d u},M' d=some u->∃u',M d=some u':=by
   intro d u hd;rw [hM]at hd;split at hd
   ·rename_i RU;subst RU;exact⟨x,hx⟩
   ·exact⟨u,hd⟩
  obtain⟨_,g⟩:=this hz;obtain⟨_,g'⟩:=this ql;exact h.ew c c' _ _ hc g g' C C' s s' k k'
theorem Br.drop {b0:Base} {w:World} {e:Env} {M M':Mm} {n b:Nat} (h:Br b0 e M n w) (hM:∀j,M' j=if j=b then none else M j):Br b0 e M' n w:=h.sub fun d u hd=>by
 rw [hM]at hd;split at hd
 ·cases hd
 ·exact hd
theorem Br.move {b0:Base} {w w':World} {e:Env} {M M':Mm} {n b B t:Nat} {x y:aA} (h:Br b0 e M n w) (hx:M b=some x) (he:e b=some (B,t)) (hB:¬b0.X B) (hw:w.grownBy w' (some B)) (hM:∀j,M' j=if j=n then some y else if j=b then none else M j) (hy:qk (e.put n (B,t)) b0 w' n y):Br b0 (e.put n (B,t)) M' (n+1) w':=by
 have kH:e n=none:=h.new n (.inl (le_refl _));have old:∀ {c z},c≠n->M' c=some z->c≠b/\M c=some z:=by
  intro c z hc hz;rw [hM,if_neg hc]at hz;split at hz
  ·cases hz
  ·rename_i tY;exact⟨tY,hz⟩
 refine⟨fun c hc=> ?_,fun b hb=>Nat.lt_succ_of_lt (h.res b hb),fun c z hz=> ?_,fun c c' z z' hc hz ql C C' s s' k k'=> ?_,WC h.kept hB hw⟩
 ·have tL:c≠n:=by
   rintro rfl;rcases hc with hc|hc
   ·omega
   ·exact Nat.lt_irrefl _ (h.res c hc)
  rw [O6 tL];exact h.new c (hc.imp (fun hc=>by omega) id)
 ·by_cases tL:c=n
  ·subst tL;rw [hM,if_pos rfl]at hz;cases hz;exact hy
  ·obtain⟨tY,hz⟩:=old tL hz;refine(h.aY c z hz).aW (Bg.put kH _) (fun _ _ _ h=>h) fun C s hC=> ?_
   obtain⟨C',s',h1,h2,_⟩:=(h.aY c z hz).at;rw [hC]at h1;cases h1;exact hw.block C h2 fun hh=>h.ew c b z x tY hz hx C B s t hC he (Option.some.inj hh)
 ·have new:∀ {C s},(e.put n (B,t)) n=some (C,s)->C=B:=by
   intro C s hc;rw [Fv]at hc;cases hc;rfl
  by_cases hn:c=n
  ·subst hn;obtain⟨tY,g⟩:=old (Ne.symm hc) ql;have h1:=new k;subst h1;rw [O6 (Ne.symm hc)]at k';exact fun hh=>h.ew c' b z' x tY g hx C' C s' t k' he hh.symm
  ·obtain⟨tY,g⟩:=old hn hz;rw [O6 hn]at k;by_cases jD:c'=n
   ·subst jD;have h1:=new k';subst h1;exact h.ew c b z x tY g hx C C' s t k he
   ·obtain⟨_,g'⟩:=old jD ql;rw [O6 jD]at k';exact h.ew c c' z z' hc g g' C C' s s' k k'
theorem Br.frame {b0:Base} {w:World} {e:Env} {F f:Mm} {n:Nat} (h:Br b0 e F n w) (P:Nat->Prop) (R:Nat->Prop) (WD:∀b,b0.R b->R b) (hR:∀b,R b->b<n/\e b=none) (m7:∀j x,f j=some x->F j=some x/\¬P j): ∃b1:Base,b1.R=R/\Br b1 e f n w/\∀e' f' n' w',Bg e e'->Br b1 e' f' n' w'->∀G:Mm,(∀j x,G j=some x->(P j/\F j=some x)\/(¬P j/\f' j=some x))->Br b0 e' G n' w':=by
 let b1:Base:=⟨w,fun k=>b0.X k\/∃j t x,P j/\F j=some x/\e j=some (k,t),fun k hk=>by
  rcases hk with hk|⟨j,t,x,_,h2,h3⟩
  ·exact Nat.lt_of_lt_of_le (b0.lt k hk) h.kept.size
  ·obtain⟨B,t',g1,g2,_⟩:=(h.aY j x h2).at;rw [h3]at g1;cases g1;exact g2,R⟩
 refine⟨b1,rfl,⟨fun b hb=>hb.elim (fun hb=>h.new b (.inl hb)) (fun hb=>(hR b hb).2),fun b hb=>(hR b hb).1,fun b x hx=> ?_,fun b b' x x' hb hx mO=>h.ew b b' x x' hb (m7 b x hx).1 (m7 b' x' mO).1,⟨rfl,rfl,rfl,le_refl _,fun _ _=>rfl⟩⟩,fun e' f' n' w' hl dw G hG=> ?_⟩
 ·obtain⟨g1,g2⟩:=m7 b x hx;refine(h.aY b x g1).aW (Bg.refl e) (fun B t hB hX hc=> ?_) fun _ _ _=>rfl
  rcases hc with hc|⟨j,t',x',k1,k2,k3⟩
  ·exact hX hc
  ·exact h.ew b j x x' (fun e=>g2 (e▸k1)) g1 k2 B B t t' hB k3 rfl
 ·have WE:∀ {j x B t},P j->F j=some x->e j=some (B,t)->b1.X B:=fun {j x B t} h1 h2 h3=> .inr ⟨j,t,x,h1,h2,h3⟩
  refine⟨fun b hb=>dw.new b (hb.imp id (WD b)),fun b hb=>dw.res b (WD b hb),fun b x hx=> ?_,fun b b' x x' hb hx mO B B' t t' he eY=> ?_,⟨dw.kept.os.trans h.kept.os,dw.kept.tape.trans h.kept.tape,dw.kept.output.trans h.kept.output,le_trans h.kept.size dw.kept.size,fun k hk=> ?_⟩⟩
  ·rcases hG b x hx with⟨g1,g2⟩|⟨g1,g2⟩
   ·exact(h.aY b x g2).aW hl (fun _ _ _ h=>h) fun B t hB=>dw.kept.block B (WE g1 g2 hB)
   ·exact(dw.aY b x g2).aW (Bg.refl e') (fun B t _ hX hc=>hX (.inl hc)) fun _ _ _=>rfl
  ·have va:∀ {c z C s},P c->F c=some z->e' c=some (C,s)->b1.X C/\e c=some (C,s):=by
    intro c z C s h1 h2 h3;obtain⟨D,u,k1,_,_⟩:=(h.aY c z h2).at;have:=hl _ _ k1;rw [h3]at this;cases this;exact⟨WE h1 h2 k1,k1⟩
   have off:∀ {c z C s},f' c=some z->e' c=some (C,s)->¬b1.X C:=by
    intro c z C s h2 h3;obtain⟨D,u,k1,_,k3⟩:=(dw.aY c z h2).at;rw [h3]at k1;cases k1;exact k3
   rcases hG b x hx with⟨g1,g2⟩|⟨g1,g2⟩<;>rcases hG b' x' mO with⟨k1,k2⟩|⟨k1,k2⟩
   ·exact h.ew b b' x x' hb g2 k2 B B' t t' (va g1 g2 he).2 (va k1 k2 eY).2
   ·exact fun hh=>off k2 eY (hh▸(va g1 g2 he).1)
   ·exact fun hh=>off g2 he (hh▸(va k1 k2 eY).1)
   ·exact dw.ew b b' x x' hb g2 k2 B B' t t' he eY
  ·rw [dw.kept.block k (.inl hk)];exact h.kept.block k hk
variable {R:Type}
def fN (n:Nat) (K:Nat->Option R):Option R:=Nat.casesOn (motive:=fun _=>Option R) (Nat.succ n) none K
theorem Ei (n:Nat) (K:Nat->Option R):fN n K=K n:=rfl
def fZ (n:Int) (K:Int->Option R):Option R:=match n with
 | .ofNat m=>fN m fun m=>K (.ofNat m)
 | .negSucc m=>fN m fun m=>K (.negSucc m)
theorem Azt (n:Int) (K:Int->Option R):fZ n K=K n:=by cases n<;>simp [fZ,Ei]
def fB (b:UInt8) (K:UInt8->Option R):Option R:=fN b.toNat fun n=>K (UInt8.ofNat n)
theorem Azu (b:UInt8) (K:UInt8->Option R):fB b K=K b:=by simp [fB,Ei]
def fS:List UInt8->(List UInt8->Option R)->Option R
 |[],K=>K []|b::l,K=>fB b fun b=>fS l fun l=>K (b::l)
theorem WG:∀(l:List UInt8) (K:List UInt8->Option R),fS l K=K l
 |[],_=>rfl
 |b::l,K=>by simp only [fS,Azu,WG l]
def fC (v:Value) (K:Value->Option R):Option R:=match v with
 | .int k n=>fZ n fun n=>K (.int k n)
 | .bool b=>cond b (K (.bool true)) (K (.bool false))| .string ⟨⟨l⟩⟩=>fS l fun l=>K (.string ⟨⟨l⟩⟩)
 |v=>K v
theorem WH (v:Value) (K:Value->Option R):fC v K=K v:=by
 unfold fC;split
 ·exact Azt _ _
 ·rename_i b;cases b<;>rfl
 ·exact WG _ _
 ·rfl
def yv:List Value->(List Value->Option R)->Option R
 |[],K=>K []|v::l,K=>fC v fun v=>yv l fun l=>K (v::l)
theorem IA:∀(l:List Value) (K:List Value->Option R),yv l K=K l
 |[],_=>rfl
 |b::l,K=>by simp only [yv,WH,IA l]
def fV (v:Value) (K:Value->Option R):Option R:=match v with
 | .agg ⟨l⟩=>yv l fun l=>K (.agg ⟨l⟩)
 | .tuple ⟨l⟩=>yv l fun l=>K (.tuple ⟨l⟩)
 |v=>fC v K
theorem WI (v:Value) (K:Value->Option R):fV v K=K v:=by
 unfold fV;split
 ·exact IA _ _
 ·exact IA _ _
 ·exact WH _ _
def yw (a:AV) (K:AV->Option R):Option R:=match a with
 | .lit v=>fV v fun v=>K (.lit v)
 | .ptr b o=>fN b fun b=>fN o fun o=>K (.ptr b o)
 | .slice b o n sz c x=>fN b fun b=>fN o fun o=>fN n fun n=>fN sz fun sz=>fN c fun c=>cond x (K (.slice b o n sz c true)) (K (.slice b o n sz c false))
 | .map b=>fN b fun b=>K (.map b)
 |a=>K a
theorem WJ (a:AV) (K:AV->Option R):yw a K=K a:=by
 unfold yw;split
 ·exact WI _ _
 ·simp only [Ei]
 ·rename_i x;simp only [Ei];cases x<;>rfl
 ·simp only [Ei]
 ·rfl
def vu:List AV->(List AV->Option R)->Option R
 |[],K=>K []|a::l,K=>yw a fun a=>vu l fun l=>K (a::l)
theorem WK:∀(l:List AV) (K:List AV->Option R),vu l K=K l
 |[],_=>rfl
 |a::l,K=>by simp only [vu,WJ,WK l]
def BB (a:AV) (K:AV->Option R):Option R:=match a with
 | .agg l=>vu l fun l=>K (.agg l)
 | .func f l m=>vu l fun l=>vu m fun m=>K (.func f l m)
 | .iface t x=>yw x fun x=>K (.iface t x)
 |a=>yw a K
theorem WL (a:AV) (K:AV->Option R):BB a K=K a:=by
 unfold BB;split<;>simp only [WK,WJ]
def qm:List AV->(List AV->Option R)->Option R
 |[],K=>K []|a::l,K=>BB a fun a=>qm l fun l=>K (a::l)
theorem yx:∀(l:List AV) (K:List AV->Option R),qm l K=K l
 |[],_=>rfl
 |a::l,K=>by simp only [qm,WL,yx l]
def fA (a:AV) (K:AV->Option R):Option R:=match a with
 | .agg l=>qm l fun l=>K (.agg l)
 | .tuple l=>qm l fun l=>K (.tuple l)
 | .func f l m=>qm l fun l=>qm m fun m=>K (.func f l m)
 |a=>BB a K
theorem O8 (a:AV) (K:AV->Option R):fA a K=K a:=by
 unfold fA;split<;>simp only [yx,WL]
def cW (tm:Tm):Operand->Option AV
 | .tmp t=>tm.get t| .const v=>some (.lit v)| .func f=>some (.lit (.func (.func f) #[] #[]))
 | .global _=>none
def po (tm:Tm):List Operand->Option (List AV)
 |[]=>some []|x::l=>match cW tm x with
  |some a=>match po tm l with
   |some az=>some (a::az)|none=>none
  |none=>none
structure pv (e:Env) (tm:Tm) (a:Act):Prop where
 at_:∀t av,tm.get t=some av->t<a.tmps.size/\av.rep e (a.tmps.getD t undef)
theorem pv.later {e e':Env} {tm:Tm} {a:Act} (h:pv e tm a) (k:Bg e e'):pv e' tm a:=⟨fun t av ht=>⟨(h.at_ t av ht).1,Et k (h.at_ t av ht).2⟩⟩
theorem X9 {e:Env} {tm:Tm} {a:Act} (h:pv e tm a) {x:Operand} {av:AV} (hx:cW tm x=some av):av.rep e (a.eval x):=by
 cases x with
 |tmp t=>exact(h.at_ t av hx).2
 |const v=>simp only [cW]at hx;cases hx;simp [AV.rep,Act.eval]
 |func f=>simp only [cW]at hx;cases hx;simp [AV.rep,Act.eval]
 |global g=>simp [cW]at hx
def O9 (e:Env) (tm:Tm) (a:Act) (l:List Operand):Prop:=∀x∈l,∀av,cW tm x=some av->av.rep e (a.eval x)
theorem pv.dv {e:Env} {tm:Tm} {a:Act} (h:pv e tm a) (l:List Operand):O9 e tm a l:=fun _ _ _ hx=>X9 h hx
theorem O9.sub {e:Env} {tm:Tm} {a:Act} {l m:List Operand} (h:O9 e tm a l) (hs:∀x∈m,x∈l):O9 e tm a m:=fun x hx=>h x (hs x hx)
theorem Nb {e:Env} {tm:Tm} {a:Act} :∀ {l:List Operand} {az:List AV},O9 e tm a l->po tm l=some az->AV.bl e az (l.map a.eval)
 |[],_,_,hx=>by simp only [po]at hx;cases hx;simp [AV.bl]
 |x::l,_,h,hx=>by
  simp only [po]at hx;split at hx
  ·rename_i av fw;split at hx
   ·rename_i az has;cases hx
    simp only [AV.bl,map_cons];exact⟨_,_,rfl,h x (by simp) _ fw,Nb (h.sub fun y hy=>by simp [hy]) has⟩
   ·cases hx
  ·cases hx
def rv {α:Type} (P:Program):Sem α->Option α
 | .pure a=>some a| .program k=>rv P (k P)| .mark _ k=>rv P k|_=>none
theorem WM {α:Type} {P:Program} :∀ {s:Sem α} {a:α},rv P s=some a->∀w,s.run P w= .ok a w:=by
 intro s
 induction s with
 |pure a=>intro b h w;simp only [rv]at h;cases h;rfl
 |program k ih=>intro b h w;simp only [rv]at h;simp only [Sem.run];exact ih P h w
 |mark m k ih=>intro b h w;simp only [rv]at h;simp only [Sem.run];exact ih h w
 |_=>intro b h w;simp [rv]at h
def BC (tm:Tm) (x:Operand):Value:=match cW tm x with
 |some a=>match a.val? with
  |some v=>v|none=>undef
 |none=>undef
def plain (tm:Tm):List Operand->Bool
 |[]=>true|x::l=>match cW tm x with
  |some a=>a.val?.isSome&&plain tm l|none=>false
theorem WN {e:Env} {tm:Tm} {a:Act} :∀ {l:List Operand},O9 e tm a l->plain tm l=true->∀x∈l,a.eval x=BC tm x
 |[],_,_,_,hx=>by cases hx
 |y::l,h,hp,x,hx=>by
  simp only [plain]at hp;split at hp
  ·rename_i av fw;simp only [Bool.and_eq_true]at hp;rcases mem_cons.1 hx with rfl|hx
   ·obtain⟨v,hv⟩:=Option.isSome_iff_exists.1 hp.1;unfold BC;rw [fw];simp only [hv];exact Iy hv (h _ (by simp) _ fw)
   ·exact WN (h.sub fun z hz=>by simp [hz]) hp.2 x hx
  ·cases hp
def IB (o:Oper):Bool:=match o.op with
 | .select .. =>false|_=>true
def Pb (P:Program) (tm:Tm) (o:Oper):Option AV:=
 cond (IB o&&plain tm o.op.operands.toList) (match rv P (execOp (BC tm) o)with
  |some (.value v)=>some (.lit v)|_=>none) none
def L8 (P:Program) (tm:Tm) (o:Oper) (av:AV):Prop:=∀e a,O9 e tm a o.op.operands.toList->∃v,av.rep e v/\∀w,(execOp a.eval o).run P w= .ok (.value v) w
theorem En {P:Program} {tm:Tm} {o:Oper} {av:AV} (h:Pb P tm o=some av):L8 P tm o av:=by
 intro e a ht;unfold Pb at h;cases hc:(IB o&&plain tm o.op.operands.toList)with
 |false=>rw [hc]at h;cases h
 |true=>
  rw [hc]at h;simp only [Bool.and_eq_true]at hc;simp only [cond_true]at h;split at h
  ·rename_i v hv;cases h
   refine⟨v,by simp [AV.rep],fun w=> ?_⟩;rw [execOp_congr (ρ':=BC tm) o (fun cs b hs=>by have h1:=hc.1;unfold IB at h1;rw [hs]at h1;cases h1) (fun x hx=>WN ht hc.2 x (by simpa using hx))];exact WM hv w
  ·cases h
def rz (P:Program) (t:TypeId):Option Bool:=match P.underlying t with
 |some (.struct _)=>some true|some (.array _ _)=>some true|some _=>some false|none=>none
theorem L9 {P:Program} {t:TypeId} {b:Bool} (h:rz P t=some b) (w:World):(isAgg t).run P w= .ok b w:=by
 unfold rz at h;split at h
 ·rename_i hd;cases h;rw [Ha hd]
 ·rename_i hd;cases h;rw [Ha hd]
 ·rename_i d h1 h2 hd;cases h
  rw [Ha hd];cases d<;>first|rfl|exact absurd rfl (h1 _)|exact absurd rfl (h2 _ _)
 ·cases h
def BD (P:Program) (t:TypeId) (l:List AV) (off:Nat):Option AV:=match rz P t,P.info? t with
 |some true,some i=>cond (ble (off+i.size) l.length) (some (.agg ((l.drop off).take i.size))) none|some false,_=>l[off]?|_,_=>none
theorem WO {P:Program} {t:TypeId} {l:List AV} {off:Nat} {av:AV} (h:BD P t l off=some av) {e:Env} {vs:List Value} (hr:AV.bl e l vs):∃v,av.rep e v/\∀w,(part t ⟨vs⟩ off).run P w= .ok v w:=by
 unfold BD at h;split at h
 ·rename_i i ha hi;cases hc:ble (off+i.size) l.length with
  |false=>rw [hc]at h;cases h
  |true=>
   rw [hc]at h;cases h;refine⟨_,by simp only [AV.rep];exact⟨_,rfl,Ee (Fp hr)⟩,fun w=> ?_⟩;simp only [part,Sem.run_bind,L9 ha,Result.andThen_ok,if_true,sizeOf,typeInfo,run_program,hi,Sem.run_pure];congr 2;apply Array.ext';simp [List.drop_take]
 ·rename_i ha;obtain⟨v,hv,iR⟩:=Hz hr h;refine⟨v,iR,fun w=> ?_⟩;simp only [part,Sem.run_bind,L9 ha,Result.andThen_ok,Bool.false_eq_true,if_false];have:(⟨vs⟩:Array Value)[off]? =some v:=by simpa using hv
  rw [this];rfl
 ·cases h
def T3:List AV->Nat->List AV->List AV
 |l,_,[]=>l|l,i,a::az=>T3 (l.set i a) (i+1) az
theorem WQ:∀(az l:List AV) (i:Nat),(T3 l i az).length=l.length
 |[],_,_=>rfl
 |_::az,l,i=>by simp only [T3];rw [WQ az];simp
theorem T4 {e:Env} :∀ {az:List AV} {us:List Value} {l:List AV} {vs:List Value} (i:Nat),AV.bl e az us->AV.bl e l vs->AV.bl e (T3 l i az) (over vs i us)
 |[],_,_,_,_,h,k=>by simp only [AV.bl]at h;subst h;exact k
 |_::_,_,_,_,i,h,k=>by
  simp only [AV.bl]at h;obtain⟨x,xs,rfl,h1,h2⟩:=h;exact T4 (i+1) h2 (Ast k i h1)
theorem Vv:∀(us vs:List Value) (i:Nat),(over vs i us).length=vs.length
 |[],_,_=>rfl
 |u::us,vs,i=>by simp only [over];rw [Vv us];simp
def Np (place:Nat->Option (Nat×Nat)):List AV->List (Nat×AV)->Option (List AV)
 |l,[]=>some l|l,(i,a)::r=>match place i with
  |some (off,size)=>cond (Nat.beq a.cells.length size&&ble (off+size) l.length) (Np place (T3 l off a.cells) r) none|none=>none
theorem WR:∀(us:List Value) (cs:Array Value) (off j:Nat),((us.zipIdx j).foldl (fun(cs:Array Value) (x:Value×Nat)=>cs.setIfInBounds (off+x.2) x.1) cs).toList=over cs.toList (off+j) us
 |[],_,_,_=>rfl
 |u::us,cs,off,j=>by
  simp only [List.zipIdx_cons,List.foldl_cons,over];rw [WR us];simp [Nat.add_assoc]
theorem Amz (v:Array Value) (cs:Array Value) (off:Nat):(v.zipIdx.foldl (fun(cs:Array Value) (x:Value×Nat)=>cs.setIfInBounds (off+x.2) x.1) cs).toList=over cs.toList off v.toList:=by
 have:=WR v.toList cs off 0;rw [Nat.add_zero]at this;rw [←this];congr 1;rw [←Array.foldl_toList];simp
theorem T5 {place:Nat->Option (Nat×Nat)} {e:Env} :∀ {r:List (Nat×AV)} {l l':List AV} {cs:Array Value} {vs:List (Nat×Value)},Np place l r=some l'->AV.bl e l cs.toList->
 vs.map (·.1)=r.map (·.1)->AV.bl e (r.map (·.2)) (vs.map (·.2))->∃dr,Instr.fill place cs vs=some dr/\AV.bl e l' dr.toList
 |[],l,l',cs,vs,h,hl,h1,_=>by
  simp only [Np]at h;cases h;cases vs with
  |nil=>exact⟨cs,rfl,hl⟩
  |cons=>simp at h1
 |(i,a)::r,l,l',cs,vs,h,hl,h1,h2=>by
  cases vs with
  |nil=>simp at h1
  |cons p vs=>
   obtain⟨i',v⟩:=p;simp only [map_cons,List.cons.injEq]at h1;obtain⟨rfl,h1⟩:=h1;simp only [map_cons,AV.bl]at h2;obtain⟨x,xs,hx,hv,h2⟩:=h2;simp only [List.cons.injEq]at hx;obtain⟨rfl,rfl⟩:=hx;simp only [Np]at h;split at h
   ·rename_i off size hp;cases hc:(Nat.beq a.cells.length size&&ble (off+size) l.length)with
    |false=>rw [hc]at h;cases h
    |true=>
     rw [hc]at h;simp only [Bool.and_eq_true]at hc;have c1:=Nat.eq_of_beq_eq_true hc.1;have c2:=Nat.le_of_ble_eq_true hc.2;have vv:=L7 hv;have hlen:=Bk vv;have WS:=Bk hl;have dL:v.cells.size=size:=by rw [←c1,←hlen];simp
     have rB:off+v.cells.size<=cs.size:=by rw [dL];have:cs.size=l.length:=by simpa using WS
                                           omega
     simp only [Instr.fill,hp];have hn:¬(v.cells.size≠size\/off+v.cells.size>cs.size):=by omega
     have qa:((decide (v.cells.size≠size))||decide (off+v.cells.size>cs.size))=false:=by
      simp [dL];rw [←dL];exact rB
     have:=T5 (cs:=v.cells.zipIdx.foldl (fun(cs:Array Value) (x:Value×Nat)=>cs.setIfInBounds (off+x.2) x.1) cs) (vs:=vs) h (by rw [Amz];exact T4 off vv hl) h1 h2;obtain⟨dr,g1,g2⟩:=this;refine⟨dr,?_,g2⟩;rw [←g1];rw [if_neg (by simpa using qa)]
   ·cases h
end Go.Am
