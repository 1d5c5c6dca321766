/- A part of the proof: conditions of the code, contracts, the plain law. -/
import Derived.Test.YthkbhlmijkegiaaGreatM8
import Derived.Test.YthkbhlmijkegiaaGreatM1
import Derived.Test.YthkbhlmijkegiaaGreatRows
import Derived.Test.YthkbhlmijkegiaaGreatVcI
import Derived.Test.YthkbhlmijkegiaaGreatMapL
import Derived.KernelRfl
open List (getElem?_eq_getElem getElem_mem getElem?_set mem_singleton drop_length any_eq_true)
open Bool (and_eq_true or_eq_false_iff not_eq_true')
open Int (toNat_natCast)
open Nat (le_refl not_lt_zero sub_self)
namespace Go.Proofs.YthkbhlmijkegiaaGreat
open Go.Vc Go.Lv Go.Ty
abbrev Th:=Int×Bool
def D2 (op:Int):Bool:=decide (19<=op)&&decide (op<=22)
def Gc (op:Int):Bool:=(op==4)||((op==10)||((op==11)||((decide (op>=12))&&(decide (op<=17)))))
def rI (op:Int):Bool:=(op==6)||((op==7)||((op==8)||((op==20)||((op==21)||(op==22)))))
def Ec (x:Ax):Int×Bool:=cond (rI x.op) (x.a,true) (cond (x.op==19) (x.b,true) (0,false))
def Xw (op:Int):Int:=cond ((op==3)||(op==4)) 1 (cond ((decide (op>=5))&&(decide (op<=17))) 2 0)
def B3 (x:Ax):Int:=cond (B7 x) (cond (x.op==5) (Xw x.a) (cond (x.op==9&&decide (x.b>0)) 1 (cond (x.op==14) x.b (rowOf x.op).takes))) 0
def Lf (x:Ax):Int:=cond (B7 x) (rowOf x.op).gives 0
theorem Bbj {α:Type} {K:α->Prop} {a b:α} (h:K a) (e:b=a):K b:=e▸h
theorem Rj (op:Int) (K:Bool->Prop) (h:K (D2 op)):Fx op K:=by
 refine Ux _ _ (Bbj (K:=K) h ?_);unfold D2;rw [Bool.eq_iff_iff];simp;omega
theorem Tj (op:Int) (K:Bool->Prop) (h:K (D2 op)):Ek op K:=
 Wg _ _ h
theorem SL (op:Int) (K:Bool->Prop) (h:K (Gc op)):Oj op K:=Adt _ _ h
theorem B9 {α:Type} {A:(α->Prop)->Prop} {B:α->Prop} (v:α) (h1:A (fun x=>x=v)) (h2:B v):∃J,A J/\∀x,J x->B x:=⟨_,h1,fun _ e=>e▸h2⟩
theorem SM (op:Int) (K:Bool->Prop) (h:K (Gc op)):L9 op K:=by
 refine Ab5 _ _ (B9 (Gc op) ?_ ?_)
 ·have e:Gc op=((op==4)||((op==10)||((op==11)||((op==12)||((op==13)||((op==14)||((op==15)||((op==16)||(op==17))))))))):=by
   unfold Gc;rw [Bool.eq_iff_iff];simp;omega
  rw [e];cases op==4<;>cases op==10<;>cases op==11<;>cases op==12<;>cases op==13<;>cases op==14<;>cases op==15<;>cases op==16<;>cases op==17<;>rfl
 ·cases hb:Gc op<;>rw [hb]at h<;>exact h
theorem SN (x:Ax) (K:Int->Bool->Prop) (h:K (Ec x).1 (Ec x).2):K5 x K:=by
 refine Uy _ _ (B9 (rI x.op) ?_ ?_)
 ·unfold rI;cases x.op==6<;>cases x.op==7<;>cases x.op==8<;>cases x.op==20<;>cases x.op==21<;>cases x.op==22<;>rfl
 ·unfold Ec at h;refine Ab (fun e=>by rw [e]at h;exact h) fun e=>Ab (fun e2=>by rw [e,e2]at h;exact h) fun e2=>by rw [e,e2]at h;exact h
theorem SO (x:Ax) (K:Int->Bool->Prop) (h:K (Ec x).1 (Ec x).2):Ki x K:=by
 refine Ye _ _ (Abw _ _ ?_);unfold Ec at h;refine Ab (fun e=> ?_) fun e=>Ab (fun e2=> ?_) fun e2=> ?_
 ·have h6:rI x.op=false:=by have:x.op=19:=by simpa using e
                            rw [this];rfl
  rw [h6,e]at h;exact h
 ·have h6:rI x.op=true:=e2;rw [h6]at h;exact h
 ·have h6:rI x.op=false:=e2;rw [h6,e]at h;exact h
theorem Aw1 (op:Int) (K:Int->Prop) (h:K (Xw op)):E1 op K:=by
 unfold Xw at h;refine O8 _ _ (Ab (fun e=>by rw [e]at h;exact h) fun e=>Ab (fun e2=>by rw [e,e2]at h;exact h) fun e2=>by rw [e,e2]at h;exact h)
theorem Aw2 (op:Int) (K:Int->Prop) (h:K (Xw op)):S9 op K:=by
 unfold Xw at h;refine Ad1 _ _ (Ab (fun e=>by rw [e]at h;exact h) fun e=>Ab (fun e2=>by rw [e,e2]at h;exact h) fun e2=>by rw [e,e2]at h;exact h)
theorem Q1 {x:Ax} (h:B7 x=true):1<=x.op/\x.op<=25:=by
 unfold B7 pe Wu at h;simp only [and_eq_true,not_eq_true',or_eq_false_iff]at h;have:=h.1.1;simpa using this
theorem Aw3 (x:Ax) (K:Int->Prop) (h:K (B3 x)):Qo x K:=by
 refine Ab8 _ _ (FD _ _ (FE _ _ ?_));unfold B3 at h;cases hr:B7 x
 ·rw [hr]at h;exact h
 ·rw [hr]at h;simp only [cond_true]at h;refine Eb rfl (Ab (fun e=> ?_) fun e=> ?_)
  ·rw [e]at h;exact Aw1 _ _ h
  ·rw [e]at h;refine B9 (x.op==9&&decide (x.b>0)) ?_ ?_
   ·cases x.op==9<;>rfl
   ·cases h9:x.op==9&&decide (x.b>0)
    ·rw [h9]at h;cases kP:x.op==14
     ·rw [kP]at h;exact h
     ·rw [kP]at h;exact h
    ·rw [h9]at h;exact h
def rJ (op:Int):Bool:=(op==10)||(op==20)
def rK (op:Int):Bool:=(op==4)||((op==7)||((op==8)||((op==11)||((op==12)||((op==13)||((op==15)||((op==16)||((op==19)||(op==21)))))))))
theorem Wv {op:Int} (ho:1<=op/\op<=25):(rowOf op).takes=cond (rJ op) 2 (cond (rK op) 1 0):=
 eq_of_beq (y8 (p:=fun op r=>r.takes==cond (rJ op) 2 (cond (rK op) 1 0)) (by decide) ho)
theorem SP {op:Int} (ho:1<=op/\op<=25):(rowOf op).gives=cond ((op==2)||((op==3)||((op==5)||(op==9)))) 1 0:=
 eq_of_beq (y8 (p:=fun op r=>r.gives==cond ((op==2)||((op==3)||((op==5)||(op==9)))) 1 0) (by decide) ho)
theorem SQ (x:Ax) (K:Int->Prop) (h:K (B3 x)):L5 x K:=by
 refine Abu _ _ (FG _ _ ?_);unfold B3 at h;cases hr:B7 x
 ·rw [hr]at h;exact h
 ·rw [hr]at h;have ho:=Q1 hr;rw [Wv ho]at h;simp only [cond_true]at h;refine Eb rfl (Ab (fun e=> ?_) fun e=> ?_)
  ·rw [e]at h;exact Aw2 _ _ h
  ·rw [e]at h;refine Ab (fun wi=> ?_) fun wi=>Ab (fun e9=> ?_) fun e9=> ?_
   ·have h9:(x.op==9&&decide (x.b>0))=false:=by
     have:x.op=14:=by simpa using wi
     rw [this];rfl
    rw [h9,wi]at h;exact h
   ·have e2:rJ x.op=false/\rK x.op=false:=by
     have:x.op=9:=by simpa using e9
     rw [this];exact⟨rfl,rfl⟩
    rw [wi,e9,e2.1,e2.2]at h;cases hb:decide (x.b>0)
    ·rw [hb]at h;exact h
    ·rw [hb]at h;exact h
   ·rw [wi,e9]at h;refine B9 (rJ x.op) ?_ ?_
    ·unfold rJ;cases x.op==10<;>rfl
    ·cases h2:rJ x.op
     ·rw [h2]at h;refine B9 (rK x.op) ?_ ?_
      ·unfold rK;cases x.op==4<;>cases x.op==7<;>cases x.op==8<;>cases x.op==11<;>cases x.op==12<;>cases x.op==13<;>cases x.op==15<;>cases x.op==16<;>cases x.op==19<;>cases x.op==21<;>rfl
      ·cases h1:rK x.op
       ·rw [h1]at h;exact h
       ·rw [h1]at h;exact h
     ·rw [h2]at h;exact h
theorem Aw4 (x:Ax) (K:Int->Prop) (h:K (Lf x)):Qp x K:=by
 refine Ab9 _ _ (FD _ _ (B9 (B7 x) ?_ ?_))
 ·cases hr:Wu x.op
  ·show false=B7 x
   unfold B7 pe;rw [hr];rfl
  ·exact FE _ _ rfl
 ·unfold Lf at h;cases hr:B7 x<;>rw [hr]at h<;>exact h
theorem Aus (x:Ax) (K:Int->Prop) (h:K (Lf x)):Qk x K:=by
 refine Abv _ _ (B9 (B7 x&&((x.op==2)||((x.op==3)||((x.op==5)||(x.op==9))))) (FG _ _ ?_) ?_)
 ·cases B7 x
  ·rfl
  ·cases x.op==2<;>cases x.op==3<;>cases x.op==5<;>cases x.op==9<;>rfl
 ·unfold Lf at h;cases hr:B7 x
  ·rw [hr]at h;exact h
  ·rw [hr,cond_true,SP (Q1 hr)]at h;cases hb:((x.op==2)||((x.op==3)||((x.op==5)||(x.op==9))))
   ·rw [hb]at h;exact h
   ·rw [hb]at h;exact h
def Km (l:List Ax) (SR:Int):Nat->Int->Int
 |0,_=>SR|k+1,now=>if 0<=now/\now<l.length then(match l[now.toNat]? with
  |some x=>if x.op=6 then Km l SR k x.a else now
  |none=>now)else now
def Fk (l:List Ax) (at_:Int):Int:=Km l at_ (l.length+1) at_
theorem U8 {l:List Ax} {a now:Int} {q:Nat} {K N:Int->Prop} (hK:Fk l a=Km l a (q+1) now) (h:K (Fk l a)) (hN:∀x:Ax,Fk l a=Km l a q x.a->N x.a): ∃(J:Bool->Prop),(cond (decide (now<0)) (J true) (cond (decide (now>=(l.length:Int))) (J true) (((0:Int)<=now/\now<(l.length:Int))/\∀x2,l[now.toNat]? =some x2->J (x2.op !=6))))/\∀x1,J x1->cond x1 (K now) (((0:Int)<=now/\now<(l.length:Int))/\∀x3,l[now.toNat]? =some x3->N x3.a):=by
 rw [Km]at hK;by_cases hr:0<=now/\now<l.length
 ·obtain⟨h0,h1⟩:=hr;have aO:now.toNat<l.length:=by omega
  rw [if_pos ⟨h0,h1⟩,getElem?_eq_getElem aO]at hK;refine B9 (l[now.toNat].op !=6) (Eb (by simp;omega) (Eb (by simp;omega) (DP h0 aO rfl))) (Ab (fun e=> ?_) fun e=>DP h0 aO ?_)
  ·have:¬l[now.toNat].op=6:=by simpa using e
   simp only [this,if_false]at hK;rw [←hK];exact h
  ·have:l[now.toNat].op=6:=by simpa using e
   simp only [this,if_true]at hK;exact hN _ hK
 ·rw [if_neg hr]at hK;refine B9 true (Ab (fun _=>rfl) fun h0=>Ab (fun _=>rfl) fun h1=> ?_) (by show K now;rw [←hK];exact h);simp at h0 h1;omega
theorem Aut (c:Ah) (hl:c.ins.length<=100000) (a:Int) (K:Int->Prop) (h:K (Fk c.ins a)):Mr c a K:=by
 have hw:IntKind.i64.wrap ((c.ins.length:Int)+1)=(c.ins.length+1:Nat):=by rw [A0 (by omega) (by omega)];omega
 refine Wl _ _ _ ⟨fun now k n=>∃j:Nat,k=j/\j<=c.ins.length+1/\n=c.ins.length+1-j/\Fk c.ins a=Km c.ins a (c.ins.length+1-j) now,⟨_,0,rfl,by omega,rfl,rfl⟩,?_⟩;rintro now _ _ ⟨j,rfl,hj,rfl,he⟩;rw [hw];refine Ab (fun hc=> ?_) fun hc=> ?_
 ·have hj:j<c.ins.length+1:=by have:=of_decide_eq_true hc;omega
  obtain⟨q,hq⟩:∃q,c.ins.length+1-j=q+1:=⟨c.ins.length-j,by omega⟩
  rw [hq]at he⊢;exact U8 (N:=fun b=>∃n1,n1<q+1/\∃i:Nat,IntKind.i64.wrap ((j:Int)+1)=i/\i<=c.ins.length+1/\n1=c.ins.length+1-i/\Fk c.ins a=Km c.ins a (c.ins.length+1-i) b) he h fun x hx=>⟨q,by omega,j+1,by rw [A0 (by omega) (by omega)];omega,by omega,by omega,by rw [show c.ins.length+1-(j+1)=q by omega];exact hx⟩
 ·have hj:j=c.ins.length+1:=by have:=of_decide_eq_false hc;omega
  subst hj;rw [sub_self]at he;rw [he]at h;exact h
theorem Ary (c:Ah) (hl:c.ins.length<=100000) (a:Int) (K:Int->Prop) (h:K (Fk c.ins a)):Ol c a K:=by
 refine Yh _ _ _ ⟨fun now k n=>∃j:Nat,k=j/\j<=c.ins.length+1/\n=c.ins.length+1-j/\Fk c.ins a=Km c.ins a (c.ins.length+1-j) now,⟨_,0,rfl,by omega,rfl,rfl⟩,?_⟩;rintro now _ _ ⟨j,rfl,hj,rfl,he⟩;refine Ab (fun hc=> ?_) fun hc=> ?_
 ·have hj:j<c.ins.length+1:=by have:=of_decide_eq_true hc;omega
  obtain⟨q,hq⟩:∃q,c.ins.length+1-j=q+1:=⟨c.ins.length-j,by omega⟩
  rw [hq]at he⊢;exact U8 (N:=fun b=>∃n1,n1<q+1/\∃i:Nat,IntKind.i64.wrap ((j:Int)+1)=i/\i<=c.ins.length+1/\n1=c.ins.length+1-i/\Fk c.ins a=Km c.ins a (c.ins.length+1-i) b) he h fun x hx=>⟨q,by omega,j+1,by rw [A0 (by omega) (by omega)];omega,by omega,by omega,by rw [show c.ins.length+1-(j+1)=q by omega];exact hx⟩
 ·have hj:j=c.ins.length+1:=by have:=of_decide_eq_false hc;omega
  subst hj;rw [sub_self]at he;rw [he]at h;exact h
def U9 (ds:List Db) (at_:Int):Nat->Int
 |0=> -1|k+1=>match ds[k]? with
  |some d=>if d.entry<=at_ then k else U9 ds at_ k
  |none=>U9 ds at_ k
def Hh (c:Ah) (at_:Int):Int:=if 0<=at_/\at_<c.ins.length then U9 c.defs at_ c.defs.length else-1
theorem Aw5 (c:Ah) (hl:c.defs.length<=100000) (a:Int) (K:Int->Prop) (h:K (Hh c a)):Mn c a K:=by
 refine Wh _ _ _ ⟨fun fo i n=>At c.defs.length (fun k=>fo=if 0<=a/\a<c.ins.length then U9 c.defs a k else-1) i n,⟨_,At.start (by split<;>rfl)⟩,?_⟩;rintro fo _ _ ⟨k,rfl,hk,rfl,he⟩;refine B9 (decide (k<c.defs.length)&&(decide (0<=a)&&decide (a<c.ins.length))) ?_ (Ab (fun hb=> ?_) fun hb=> ?_)
 ·have e:decide ((k:Int)<(c.defs.length:Int))=decide (k<c.defs.length):=by rw [Bool.eq_iff_iff];simp
  rw [e];cases decide (k<c.defs.length)
  ·rfl
  ·show cond (decide (a>=0)) _ _
   have e:decide (a>=0)=decide (0<=a):=rfl;rw [e];cases decide (0<=a)<;>rfl
 ·simp only [and_eq_true,decide_eq_true_eq]at hb;obtain⟨hk,h0,h1⟩:=hb;rw [if_pos ⟨h0,h1⟩]at he;refine B9 (U9 c.defs a (k+1)) (Av hk ?_) ?_
  ·rw [U9,getElem?_eq_getElem hk];refine Ab (fun hc=> ?_) fun hc=> ?_
   ·simp only [of_decide_eq_true hc,if_true]
   ·simp only [of_decide_eq_false hc,if_false];exact he
  ·exact At.next (by omega) hk (by rw [if_pos ⟨h0,h1⟩])
 ·have:fo=Hh c a:=by
   unfold Hh;rw [he];split
   ·rename_i hr;have:¬k<c.defs.length:=fun hk=>by simp [hk,hr.1,hr.2]at hb
    rw [show k=c.defs.length by omega]
   ·rfl
  rw [this];exact h
def Dj (v0:List Db) (xs:List ((Int)×((List UInt8)×(Int)×(Int)×(Int)))):Prop:=∀(m:List Nat) (w:World),bA m w->∀(b0:Nat) (fk:List Value),G0 m w (Zb b0) fk->(oI Gb).rep m w v0 fk->IK Tryz.prog 250 #[.pointer (some (Zb b0))] [.int .i64,.row [.string,.int .i64,.int .i64,.int .i64]] m xs w
def Fz (x0:Nat) (x1:Nat) (K:Value->World->Prop) (w:World):Prop:=∃x2 x3 x4,w.cell? (Zb x1)=some (.slice x2 x3 x4)/\∃(I:Int->World->Prop) (x5:Int->World->Nat),I (IntKind.i64.wrap ((x3:Int)-1)) w/\∀(_x6:Nat->Value) (x7:Int) (w1:World),I x7 w1->cond (decide (x7>=0)) (∃x8 x9 ae,w1.cell? (Zb x1)=some (.slice x8 x9 ae)/\((0:Int)<=x7/\x7<(x9:Int))/\Aj x8 (fun aa=>∃ad ai ah ag,Ad w1 (aa.add (x7.toNat*4)) [.string (bI ad),.int .i64 ai,.int .i64 ah,.int .i64 ag]/\K0 Tryz.prog x0 #[.int .i64 x7,.agg #[.string (bI ad),.int .i64 ai,.int .i64 ah,.int .i64 ag]] (fun aw w2=>cond (!aw) (Ca [] w2/\K (.tuple #[]) (shut [] w2)) (I (IntKind.i64.wrap (x7-1)) w2/\x5 (IntKind.i64.wrap (x7-1)) w2<x5 x7 w1)) w1)) (Ca [] w1/\K (.tuple #[]) (shut [] w1))
theorem F0 (x0:Nat) (x1:Nat) (K:Value->World->Prop) (w:World) (h:Fz x0 x1 K w):Calls Tryz.prog 250 #[.func (.yield x0) #[] #[],.pointer (some ⟨x1,0,none⟩)] w (aN K):=
 Rd { loops:=[(6,[(3,.int .i64)])] } Tryz.func250 (by kernel_rfl) h
def Ff (v0:List Db) (xs:List ((Int)×((List UInt8)×(Int)×(Int)×(Int)))):Prop:=∃(I:Int->(List ((Int)×((List UInt8)×(Int)×(Int)×(Int))))->Bool->Nat->Prop),(∃n,I (IntKind.i64.wrap ((v0.length:Int)-1)) [] false n)/\∀(i:Int) (pre:List ((Int)×((List UInt8)×(Int)×(Int)×(Int)))) (st:Bool) (n:Nat),I i pre st n->cond (decide (i>=0)) (st=false/\((0:Int)<=i/\i<(v0.length:Int))/\∀x,v0[i.toNat]? =some x->xs[pre.length]? =some (i,(x.name,x.entry,x.params,x.vars))/\(∃n1,n1<n/\I (IntKind.i64.wrap (i-1)) (pre++[(i,(x.name,x.entry,x.params,x.vars))]) false n1)/\((true=false->(pre++[(i,(x.name,x.entry,x.params,x.vars))])=xs))) ((st=false->pre=xs))
theorem F1 (v0:List Db) (xs:List ((Int)×((List UInt8)×(Int)×(Int)×(Int)))) (h:Ff v0 xs):Dj v0 xs:=by
 intro m w hm b0 fk SS f0;obtain⟨a,c,rfl,le,f⟩:=f0;intro l J Jx W hW hAJ hAX hY hG;have kw:=hW.Boj m;have oJ:=kw.oJ;have fg:([]:List ((Int)×((List UInt8)×(Int)×(Int)×(Int))))<+:xs:=List.nil_prefix;change Gh J Jx [] false W at hG;refine F0 l b0 _ _ ?_;refine⟨_,_,_,(Ad.head (SS.st oJ).2),?_⟩;obtain⟨I,⟨n2,h⟩,h2⟩:=h;obtain⟨Z,hZ⟩:∃Z:Int->World->Nat->Prop,Z=fun i w1 n=>∃(pre:List ((Int)×((List UInt8)×(Int)×(Int)×(Int)))) (st:Bool),I i pre st n/\pre<+:xs/\Gh J Jx pre st w1/\(st=false->Ai m w w1):=⟨_,rfl⟩
 refine⟨fun i w1=>∃n,Z i w1 n,fun i w1=>bX (Z i w1),⟨n2,?_⟩,?_⟩
 ·rw [hZ];exact⟨[],false,h,fg,hG,(fun _=>kw)⟩
 ·intro _ i w1 aJ;obtain⟨n,bU⟩:∃n,n=bX (Z i w1):=⟨_,rfl⟩
  have aJ:=Au aJ;rw [←bU,hZ]at aJ;obtain⟨pre,st,h,fg,hG,hkw⟩:=aJ;have h:=h2 i pre st n h;refine Aa (fun h=> ?_) (fun h=> ?_) h
  ·obtain⟨hs,h⟩:=h;rw [hs]at hG;have kw:=hkw hs;have oJ:=kw.oJ;refine⟨_,_,_,(Ad.head (SS.st oJ).2),?_⟩;obtain⟨hi,h⟩:=h;obtain⟨p,x,cs,hp,he,hc,hr⟩:=(f.st oJ).elem hi;obtain rfl:=Bs hr;have h:=h x he;refine⟨hi,Ae hp ?_⟩;refine⟨_,_,_,_,hc.2,?_⟩;obtain⟨hx,h⟩:=h;have fg:=Ali fg hx;refine K0.mono (hY _ _ _ hG fg) (fun go w2 hb=> ?_);cases go
   ·have hG:Gh J Jx _ true w2:=hb;have h:=And.right h;exact⟨OB _,OA hG fg h⟩
   ·have hG:Gh J Jx _ false w2:=hb.1;have kw:=kw.kpm hb.2;have oJ:=kw.oJ;have h:=h.1;obtain⟨n1,hl,h⟩:=h;exact Aq bU (show Z _ w2 n1 from(by rw [hZ];exact⟨(pre++[(i,(x.name,x.entry,x.params,x.vars))]),false,h,fg,hG,(fun _=>kw)⟩)) hl
  ·exact⟨OB _,OA hG fg h⟩
def dT (d:Db):List UInt8×Int×Int×Int:=(d.name,d.entry,d.params,d.vars)
def mD (ds:List Db):Nat->List (Int×(List UInt8×Int×Int×Int))
 |0=>[]|k+1=>(match ds[k]? with
  |some d=>((k:Int),dT d)::mD ds k|none=>mD ds k)
theorem FJ {ds:List Db} {k:Nat} (h:k<ds.length):mD ds (k+1)=((k:Int),dT ds[k])::mD ds k:=by
 rw [mD,getElem?_eq_getElem h]
theorem SU {ds:List Db} :∀(k j:Nat) (hk:k<=ds.length) (hj:j<k),(mD ds k)[j]? =some (((k-1-j:Nat):Int),dT (ds[k-1-j]'(by omega)))
 |0,_,_,hj=>absurd hj (not_lt_zero _)
 |k+1,j,hk,hj=>by
  rw [FJ (by omega)];cases j with
  |zero=>rfl
  |succ j=>
   rw [List.getElem?_cons_succ,SU k j (by omega) (by omega)];have e:k+1-1-(j+1)=k-1-j:=by omega
   simp only [e]
theorem FK {ds:List Db} :∀(k:Nat),k<=ds.length->(mD ds k).length=k
 |0,_=>rfl
 |k+1,hk=>by rw [FJ (by omega),List.length_cons,FK k (by omega)]
theorem Aw6 (ds:List Db) (hl:ds.length<=100000):Dj ds (mD ds ds.length):=by
 refine F1 _ _ ⟨fun i pre stop n=>stop=false/\∃k:Nat,i=(k:Int)-1/\k<=ds.length/\n=k/\pre++mD ds k=mD ds ds.length,⟨_,rfl,ds.length,by rw [A0 (by omega) (by omega)],le_refl _,rfl,rfl⟩,?_⟩;rintro _ pre _ n ⟨rfl,k,rfl,hk,hn,he⟩;refine Ab (fun hc=> ?_) fun hc=> ?_
 ·obtain⟨q,rfl⟩:∃q,k=q+1:=⟨k-1,by simp at hc;omega⟩
  have hq:((q+1:Nat):Int)-1=(q:Int):=by omega
  rw [hq];rw [FJ (by omega)]at he;refine⟨rfl,Av (by omega) ⟨?_,⟨q,by omega,rfl,q,by rw [A0 (by omega) (by omega)],by omega,rfl,?_⟩,fun h=>by cases h⟩⟩
  ·rw [←he,List.getElem?_append_right (le_refl _),sub_self];rfl
  ·rw [List.append_assoc];exact he
 ·have:k=0:=by simp at hc;omega
  subst this;intro _;rw [←he];simp [mD]
theorem Auu {α:Type} {xs pre:List α} {x:α} (h:pre++[x]<+:xs):xs[pre.length]? =some x:=by
 obtain⟨l,hl⟩:=h;rw [←hl];simp
theorem Mem.Bmi {n0:Nat} {rs m0 M:List Nat} {fr:List (List Nat×Nat×World)} {ds:List Nat} {w W:World} {ps:List Pc} (o:Mem n0 rs m0 ((M,W.heap.size,W)::fr) ds w ps) (hM:∀k∈m0,k∈M):wX M (ms ps m0) W w/\Mem n0 rs m0 fr ds w ps:=by
 have hf:=o.ik _ (List.mem_cons_self);obtain⟨hk,o'⟩:=o.NY;refine⟨⟨hk.kp.all,fun k hk=> ?_⟩,o'⟩;rcases Cw.1 hk with⟨p,hp,hb⟩|h
 ·exact hf.2 p hp k hb
 ·exact .inl (hM k h)
def PR (b b1 b2:Nat) (r a:Int) (cs:List Value):List Pc:=[.box b2 [.int .i64 r],.box b1 [.int .i64 a],.box b cs]
set_option maxHeartbeats 1000000 in
theorem Aza (c:Ah) (hl:c.defs.length<=100000) (a:Int) (K:Int->Prop) (h:K (Hh c a)):Qq c a K:=by
 intro m w hm cs hc;obtain⟨a0,c0,a1,c1,a2,c2,rfl,⟨le,f⟩,⟨bo,f1⟩,⟨bw,f2⟩⟩:=A7 hc;have o:=Mem.start hm.lt;refine X2 _ _ _ _ _ _ _ _ _ _ _ _ _ _ ?_;intro b w1 hb aX;obtain⟨au,o⟩:=o.dB hb aX;intro b1 w2 cg cM;obtain⟨aY,o⟩:=o.dB cg cM;intro b2 w3 ec ez;obtain⟨bg,o⟩:=o.dB ec ez;have st:=(au.trans aY).trans bg;refine⟨fun x w'=>x= !(decide (0<=a)&&decide (a<(c.ins.length:Int)))/\w'=w3,⟨_,(o.at 1 rfl).cell rfl,Ab (fun hc=>⟨?_,rfl⟩) fun hc=>⟨_,(o.at 1 rfl).cell rfl,_,_,_,(o.at 2 rfl).cell rfl,?_,rfl⟩⟩,?_⟩
 ·have:¬(0<=a):=by simp at hc;omega
  simp [this]
 ·have:0<=a:=by simp at hc;omega
  rw [Bool.eq_iff_iff];simp [this]
 rintro _ x w4 ⟨rfl,rfl⟩;refine Ab (fun hx=> ?_) fun hx=> ?_
 ·refine⟨o.wr 0 rfl rfl,fun w5 dI=> ?_⟩;obtain⟨bu,o⟩:=o.dS 0 dI rfl;refine⟨o.marks.1,_,(o.at 0 rfl).cell rfl,_,?_,rfl,o.done⟩;have:¬(0<=a/\a<c.ins.length):=fun hh=>by simp [hh.1,hh.2]at hx
  unfold Hh at h
  rwa [if_neg this]at h
 ·have hr:0<=a/\a<c.ins.length:=by simpa using hx
  unfold Hh at h;rw [if_pos hr]at h;refine⟨_,_,_,(o.at 2 rfl).cell rfl,?_⟩;refine Gf _ _ _ _ _ ?_;intro b3 w6 qf gm;obtain⟨bu,o⟩:=o.dB qf gm;have el:=o.NU 0 rfl (by simp);obtain⟨bP,o⟩:=o.dX 0;have st:=(st.trans bu).trans bP;refine⟨_,rfl,?_⟩;have hle:=o.le;have nR:=o.dsl;have o:Mem w.heap.size [] m [([],w.heap.size,w)] [] w6 (PR b b1 b2 0 a [.slice a0 c.ins.length c0,.slice a1 c.defs.length c1,.slice a2 c.af.length c2,.int .i64 c.main,.int .i64 c.stmts]):=o;have st:Step m w (ms (PR b b1 b2 0 a [.slice a0 c.ins.length c0,.slice a1 c.defs.length c1,.slice a2 c.af.length c2,.int .i64 c.main,.int .i64 c.stmts]) m) w6:=st;have SV:=Aw6 c.defs hl _ _ (o.mn hm) b3 _ el ⟨_,_,rfl,bo,f1.st st⟩;clear el;generalize hV:U9 c.defs a c.defs.length=V at h;generalize hQ:([.slice a0 c.ins.length c0,.slice a1 c.defs.length c1,.slice a2 c.af.length c2,.int .i64 c.main,.int .i64 c.stmts]:List Value)=Q at o st SV;refine⟨ms (PR b b1 b2 0 a Q) m,mD c.defs c.defs.length,qI.of (o.mn hm).lt SV,fun F pre w'=>F=ms (PR b b1 b2 0 a Q) m/\Mem w.heap.size [] m [([],w.heap.size,w)] [] w' (PR b b1 b2 0 a Q)/\pre.length<=c.defs.length/\U9 c.defs a (c.defs.length-pre.length)=V,
   fun _ w'=>Mem w.heap.size [] m [([],w.heap.size,w)] [] w' (PR b b1 b2 V a Q),fun _ _ _=>False,⟨rfl,o,Nat.zero_le _,hV⟩,?_,?_,?_⟩
  ·rintro _ pre i nm e ps vs w7 w8 ⟨rfl,o,hp,he⟩ hG fg;intro b4 w9 ly fT;have hx:=Auu fg;have aO:pre.length<c.defs.length:=by
    have:=(List.getElem?_eq_some_iff.1 hx).1
    rwa [FK _ (le_refl _)]at this
   rw [SU _ _ (le_refl _) aO]at hx;obtain⟨k,hk⟩:∃k,c.defs.length-1-pre.length=k:=⟨_,rfl⟩
   have gR:k<c.defs.length:=by omega
   simp only [hk,dT]at hx;simp only [Option.some.injEq,Prod.mk.injEq]at hx;obtain⟨rfl,rfl,rfl,rfl,rfl⟩:=hx;rw [show c.defs.length-pre.length=k+1 by omega,U9,getElem?_eq_getElem gR]at he;simp only at he;have o:=o.grow hG (fun f hf=>by rw [mem_singleton.1 hf];exact hle) nR;obtain⟨_,o⟩:=o.dB ly fT;refine⟨o.wr 0 rfl rfl,fun aK fR=> ?_⟩;obtain⟨_,o⟩:=o.dz 0 fR rfl;refine⟨Sw (Ba fT) (Kq fR) (V9 ly (Ai.refl _ _)),rfl,fun aF uc=> ?_⟩;have o:=o.grow uc (fun f hf=>by rw [mem_singleton.1 hf];exact hle) nR;have o3:=(o.at 0 rfl).cell (i:=1) rfl;have o:Mem w.heap.size [] m [([],w.heap.size,w)] [] aF (PR b b1 b2 0 a Q):=o.erase 0;have o:=o.round (M:=ms (PR b b1 b2 0 a Q) m) (B:=aF.heap.size) (le_refl _) (fun k hk=> .inl hk);refine⟨_,o3,_,(o.at 1 rfl).cell rfl,Ab (fun hd=> ?_) fun hd=> ?_⟩
   ·refine⟨o.wr 0 rfl rfl,fun aZ lr=> ?_⟩;obtain⟨_,o⟩:=o.dS 0 lr rfl;obtain⟨hk,o⟩:=o.NY;have:(k:Int)=V:=by rw [←he,if_pos (of_decide_eq_true hd)]
    rw [this]at o;exact⟨hk.kp.all,o⟩
   ·obtain⟨hKF,o⟩:=Mem.Bmi o fun q hq=>Cw.2 (.inr hq)
    refine⟨_,hKF,rfl,o,?_,?_⟩
    ·rw [List.length_append];simp;omega
    ·rw [if_neg (of_decide_eq_false hd)]at he;rw [List.length_append,List.length_singleton,show c.defs.length-(pre.length+1)=k by omega];exact he
  ·rintro pre bB aU D fg o hG hD ql;have o:=o.grow hG (fun f hf=>by rw [mem_singleton.1 hf];exact hle) nR;have o:=o.mark ql hD hle nR;exact⟨o.marks.1,_,(o.N_ 0 rfl).cell rfl,_,h,rfl,o.NZ⟩
  ·rintro _ bV ck D ⟨rfl,o,hp,he⟩ hG hD ql;have o:=o.grow hG (fun f hf=>by rw [mem_singleton.1 hf];exact hle) nR;have o:=o.mark ql hD hle nR;refine⟨o.wr 0 rfl rfl,fun dh nZ=> ?_⟩;obtain⟨_,o⟩:=o.dS 0 nZ rfl;rw [FK _ (le_refl _),sub_self]at he;have he:V= -1:=he.symm;subst he;exact⟨o.marks.1,_,(o.N_ 0 rfl).cell rfl,_,h,rfl,o.NZ⟩
def wj:List UInt8:=[109,97,105,110]
def Lg (d:Db):Bool:=(d.name==wj)||Nv.U7 d.name
def Lh (n:Nat) (last:Int) (d:Db):Bool:= !((!Lg d)||((decide (last<0)&&(d.entry !=0))||(decide (d.entry<=last)||(decide (d.entry>=(n:Int))||(decide (d.params<0)||(decide (d.params>d.vars)||decide (d.vars>16)))))))
def Jv (n:Nat):List Db->Int->Bool
 |[],_=>true|d::l,last=>Lh n last d&&Jv n l d.entry
def F2 (base:Int) (x:Br):Bool:= !((!Nv.U7 x.name)||(decide (x.size<0)||(decide (x.size>16)||(x.base !=base))))
def Gj (x:Br):Int:=if 1>x.size then 1 else x.size
def E4:List Br->Int->Bool
 |[],_=>true|x::l,base=>F2 base x&&(!decide (base+Gj x>64)&&E4 l (base+Gj x))
def tw (c:Ah):Bool:= !(decide ((c.defs.length:Int)<1)||(decide ((c.defs.length:Int)>32)||(decide ((c.ins.length:Int)>65536)||(decide (c.main<0)||(decide (c.main>=(c.defs.length:Int))||(((c.defs.getD c.main.toNat default).params !=0)))))))
def E5 (c:Ah):Bool:=tw c&&(Jv c.ins.length c.defs (-1)&&E4 c.af 0)
theorem Vb {α:Type} {l:List α} {k:Nat} (h:k<l.length):l.drop k=l[k]::l.drop (k+1):=List.drop_eq_getElem_cons h
theorem SW {c:Ah} {K:Bool->Prop} {R:Prop} (hf:tw c=false->K false) (hr:tw c=true->R): ∃(J:Bool->Prop),(cond (decide ((c.defs.length:Int)<1)) (J true) (cond (decide ((c.defs.length:Int)>32)) (J true) (cond (decide ((c.ins.length:Int)>65536)) (J true) (cond (decide (c.main<0)) (J true) (cond (decide (c.main>=(c.defs.length:Int))) (J true) (((0:Int)<=c.main/\c.main<(c.defs.length:Int))/\∀x1,c.defs[c.main.toNat]? =some x1->J (x1.params !=0)))))))/\∀x,J x->cond x (K false) R:=by
 refine B9 (!tw c) ?_ (Ab (fun e=>hf (by simpa using e)) fun e=>hr (by simpa using e));unfold tw;cases decide ((c.defs.length:Int)<1)
 ·cases decide ((c.defs.length:Int)>32)
  ·cases decide ((c.ins.length:Int)>65536)
   ·cases h4:decide (c.main<0)
    ·cases h5:decide (c.main>=(c.defs.length:Int))
     ·have h4:=of_decide_eq_false h4;have h5:=of_decide_eq_false h5;refine DP (by omega) (by omega) ?_;have:c.defs.getD c.main.toNat default=c.defs[c.main.toNat]'(by omega):=by simp [List.getD,getElem?_eq_getElem (show c.main.toNat<c.defs.length by omega)]
      rw [this];simp
     ·rfl
    ·rfl
   ·rfl
  ·rfl
 ·rfl
theorem Auv (c:Ah) (hd:c.defs.length<=100000) (fY:c.af.length<=100000) (K:Bool->Prop) (h:K (E5 c)):Mq c K:=by
 unfold E5 at h;refine Wj _ _ (SW (fun e=>by rw [e]at h;exact h) fun e=> ?_);rw [e,Bool.true_and]at h;refine⟨fun last i n=>At c.defs.length (fun k=>Jv c.ins.length (c.defs.drop k) last=Jv c.ins.length c.defs (-1)) i n,⟨_,At.start rfl⟩,?_⟩;rintro last _ _ ⟨k,rfl,hk,rfl,he⟩;refine At.cond hk (fun hk=> ?_) fun hk=> ?_
 ·rw [Vb hk,Jv]at he;refine Av hk (B9 (Lg c.defs[k]) ?_ (B9 (!Lh c.ins.length last c.defs[k]) ?_ (Ab (fun hb=> ?_) fun hb=> ?_)))
  ·unfold Lg wj;cases c.defs[k].name==[109,97,105,110]
   ·exact Nv.SK _ _ rfl
   ·rfl
  ·unfold Lh;generalize decide (c.defs[k].entry<=last)=a1;generalize decide (c.defs[k].entry>=(c.ins.length:Int))=a2;generalize decide (c.defs[k].params<0)=a3;generalize decide (c.defs[k].params>c.defs[k].vars)=a4;generalize decide (c.defs[k].vars>16)=a5;cases Lg c.defs[k]<;>cases decide (last<0)<;>cases (c.defs[k].entry !=0)<;>cases a1<;>cases a2<;>cases a3<;>cases a4<;>first|rfl|(cases a5<;>rfl)
  ·rw [show Lh c.ins.length last c.defs[k]=false by simpa using hb,Bool.false_and]at he;rw [←he,Bool.false_and]at h;exact h
  ·rw [show Lh c.ins.length last c.defs[k]=true by simpa using hb,Bool.true_and]at he;exact At.next (by omega) hk he
 ·rw [hk,drop_length,Jv]at he;rw [←he,Bool.true_and]at h;refine⟨fun base i n=>At c.af.length (fun k=>0<=base/\base<=64/\E4 (c.af.drop k) base=E4 c.af 0) i n,⟨_,At.start ⟨by omega,by omega,rfl⟩⟩,?_⟩;rintro base _ _ ⟨k,rfl,hk,rfl,h0,h64,he⟩;refine At.cond hk (fun hk=> ?_) fun hk=> ?_
  ·rw [Vb hk,E4]at he;refine Av hk (B9 (!F2 base c.af[k]) (Nv.SK _ _ ?_) (Ab (fun hb=> ?_) fun hb=> ?_))
   ·unfold F2;cases Nv.U7 c.af[k].name<;>cases decide (c.af[k].size<0)<;>cases decide (c.af[k].size>16)<;>first|rfl|(cases (c.af[k].base !=base)<;>rfl)
   ·rw [show F2 base c.af[k]=false by simpa using hb,Bool.false_and]at he;rw [←he]at h;exact h
   ·have hb:F2 base c.af[k]=true:=by simpa using hb
    rw [hb,Bool.true_and]at he;have hs:0<=c.af[k].size/\c.af[k].size<=16:=by
     unfold F2 at hb;simp at hb;omega
    have y9:1<=Gj c.af[k]/\Gj c.af[k]<=16:=by unfold Gj;split<;>omega
    have hw:IntKind.i64.wrap (base+(if 1>c.af[k].size then 1 else c.af[k].size))=base+Gj c.af[k]:=A0 (by show _<=base+Gj _;omega) (by show base+Gj _<=_;omega);rw [hw];refine Ab (fun hc=> ?_) fun hc=> ?_
    ·rw [hc]at he;rw [←he]at h;exact h
    ·rw [hc]at he;exact At.next (by omega) hk ⟨by omega,by have:=of_decide_eq_false hc;omega,he⟩
  ·rw [hk,drop_length,E4]at he;rw [←he]at h;exact h
theorem Arz (c:Ah) (hd:c.defs.length<=100000) (fY:c.af.length<=100000) (hn:∀d∈c.defs,d.name.length<2^63) (wk:∀d∈c.af,d.name.length<2^63) (K:Bool->Prop) (h:K (E5 c)):Oh c K:=by
 unfold E5 at h;refine Yc _ _ (SW (fun e=>by rw [e]at h;exact h) fun e=> ?_);rw [e,Bool.true_and]at h;refine⟨fun i n=>At c.defs.length (fun k=>∃last:Int,((k=0/\last= -1)\/(0<k/\0<=last/\∃d,c.defs[k-1]? =some d/\d.entry=last))/\Jv c.ins.length (c.defs.drop k) last=Jv c.ins.length c.defs (-1)) i n,⟨_,At.start ⟨-1,.inl ⟨rfl,rfl⟩,rfl⟩⟩,?_⟩;rintro _ _ ⟨k,rfl,hk,rfl,last,pd,he⟩;refine At.cond hk (fun hk=> ?_) fun hk=> ?_
 ·rw [Vb hk,Jv]at he;have Brj:(decide (c.defs[k].entry<0)||(decide (c.defs[k].entry>=(c.ins.length:Int))||((k==0&&(c.defs[k].entry !=0))||(decide (0<k)&&decide (c.defs[k].entry<=last)))))=((decide (last<0)&&(c.defs[k].entry !=0))||(decide (c.defs[k].entry<=last)||decide (c.defs[k].entry>=(c.ins.length:Int)))):=by
   rw [Bool.eq_iff_iff];rcases pd with⟨rfl,rfl⟩|⟨h0,h1,_⟩
   ·simp;omega
   ·simp;omega
  have Bpg:∀ {J:Bool->Prop},0<k->(J (decide (c.defs[k].entry<=last)))->(((0:Int)<=(IntKind.i64.wrap ((k:Int)-1))/\(IntKind.i64.wrap ((k:Int)-1))<(c.defs.length:Int))/\∀x5,c.defs[(IntKind.i64.wrap ((k:Int)-1)).toNat]? =some x5->J (decide (c.defs[k].entry<=x5.entry))):=by
   intro J h0 hJ;rw [A0 (by omega) (by omega)];refine⟨⟨by omega,by omega⟩,fun x hx=> ?_⟩;rcases pd with⟨h1,_⟩|⟨_,_,d,hd,xe⟩
   ·omega
   ·rw [show((k:Int)-1).toNat=k-1 by omega,hd]at hx;cases hx
    rw [xe];exact hJ
  have Bph:∀ {J:Bool->Prop},J (decide (c.defs[k].entry<0)||(decide (c.defs[k].entry>=(c.ins.length:Int))||((k==0&&(c.defs[k].entry !=0))||(decide (0<k)&&decide (c.defs[k].entry<=last)))))->
   cond (decide (c.defs[k].entry<0)) (J true) (cond (decide (c.defs[k].entry>=(c.ins.length:Int))) (J true) (cond ((k:Int)==0) (cond (c.defs[k].entry !=0) (J true) (cond (decide ((k:Int)>0)) (((0:Int)<=(IntKind.i64.wrap ((k:Int)-1))/\(IntKind.i64.wrap ((k:Int)-1))<(c.defs.length:Int))/\∀x5,c.defs[(IntKind.i64.wrap ((k:Int)-1)).toNat]? =some x5->J (decide (c.defs[k].entry<=x5.entry))) (J false)))
    (cond (decide ((k:Int)>0)) (((0:Int)<=(IntKind.i64.wrap ((k:Int)-1))/\(IntKind.i64.wrap ((k:Int)-1))<(c.defs.length:Int))/\∀x6,c.defs[(IntKind.i64.wrap ((k:Int)-1)).toNat]? =some x6->J (decide (c.defs[k].entry<=x6.entry))) (J false)))):=by
   intro J;cases decide (c.defs[k].entry<0)
   ·cases decide (c.defs[k].entry>=(c.ins.length:Int))
    ·by_cases h0:k=0
     ·have e1:(k==0)=true:=by simp [h0]
      have e2:((k:Int)==0)=true:=by simp [h0]
      have e3:decide (0<k)=false:=by simp [h0]
      have e4:decide ((k:Int)>0)=false:=by simp [h0]
      rw [e1,e2,e3,e4];cases (c.defs[k].entry !=0)
      ·exact fun hJ=>hJ
      ·exact fun hJ=>hJ
     ·have e1:(k==0)=false:=by simp [h0]
      have e2:((k:Int)==0)=false:=by simp [h0]
      have e3:decide (0<k)=true:=by simp;omega
      have e4:decide ((k:Int)>0)=true:=by simp;omega
      rw [e1,e2,e3,e4];exact fun hJ=>Bpg (by omega) hJ
    ·exact fun hJ=>hJ
   ·exact fun hJ=>hJ
  obtain⟨J,hJ⟩:∃J:Bool->Prop,J=fun x=>x=(!Lg c.defs[k]||((decide (last<0)&&(c.defs[k].entry !=0))||(decide (c.defs[k].entry<=last)||decide (c.defs[k].entry>=(c.ins.length:Int))))):=⟨_,rfl⟩
  refine Av hk ⟨J,?_,fun x hx=> ?_⟩
  ·cases lJ:Lg c.defs[k]
   ·have h1:(c.defs[k].name==[109,97,105,110])=false:=by unfold Lg wj at lJ;simp only [or_eq_false_iff]at lJ;exact lJ.1
    have h2:Nv.U7 c.defs[k].name=false:=by unfold Lg wj at lJ;simp only [or_eq_false_iff]at lJ;exact lJ.2
    rw [h1];refine Nv.FI _ (hn _ (getElem_mem hk)) _ ?_;rw [h2,hJ,lJ];rfl
   ·have hT:=Bph (J:=J) (by rw [hJ,lJ,Brj];rfl);have h1:=lJ;unfold Lg wj at h1;cases h2:(c.defs[k].name==[109,97,105,110])
    ·rw [h2,Bool.false_or]at h1;refine Nv.FI _ (hn _ (getElem_mem hk)) _ ?_;rw [h1];exact hT
    ·exact hT
  ·rw [hJ]at hx;refine Ab (fun hb=> ?_) fun hb=> ?_
   ·have hf:Lh c.ins.length last c.defs[k]=false:=by
     rw [hb]at hx;unfold Lh
     revert hx
     cases Lg c.defs[k]<;>cases decide (last<0)&&(c.defs[k].entry !=0)<;>cases decide (c.defs[k].entry<=last)<;>cases decide (c.defs[k].entry>=(c.ins.length:Int))<;>intro hx<;>first|rfl|cases hx
    rw [hf,Bool.false_and]at he;rw [←he,Bool.false_and]at h;exact h
   ·rw [hb]at hx;have hd:Lh c.ins.length last c.defs[k]= !(decide (c.defs[k].params<0)||(decide (c.defs[k].params>c.defs[k].vars)||decide (c.defs[k].vars>16))):=by
     unfold Lh
     revert hx
     cases Lg c.defs[k]<;>cases decide (last<0)&&(c.defs[k].entry !=0)<;>cases decide (c.defs[k].entry<=last)<;>cases decide (c.defs[k].entry>=(c.ins.length:Int))<;>intro hx<;>first|rfl|cases hx
    refine B9 (!Lh c.ins.length last c.defs[k]) ?_ (Ab (fun hb=> ?_) fun hb=> ?_)
    ·rw [hd];cases decide (c.defs[k].params<0)<;>cases decide (c.defs[k].params>c.defs[k].vars)<;>cases decide (c.defs[k].vars>16)<;>rfl
    ·rw [show Lh c.ins.length last c.defs[k]=false by simpa using hb,Bool.false_and]at he;rw [←he,Bool.false_and]at h;exact h
    ·have eu:Lh c.ins.length last c.defs[k]=true:=by simpa using hb
     rw [eu,Bool.true_and]at he;refine At.next (by omega) hk ⟨_,.inr ⟨by omega,?_,c.defs[k],?_,rfl⟩,he⟩
     ·unfold Lh at eu;simp only [not_eq_true',or_eq_false_iff,decide_eq_false_iff_not]at eu;rcases pd with⟨_,hl⟩|⟨_,hl,_⟩
      ·subst hl;have:=eu.2.2.1;omega
      ·have:=eu.2.2.1;omega
     ·rw [Nat.add_sub_cancel];exact getElem?_eq_getElem hk
 ·rw [hk,drop_length,Jv]at he;rw [←he,Bool.true_and]at h;refine⟨fun base i n=>At c.af.length (fun k=>0<=base/\((base<=64/\E4 (c.af.drop k) base=E4 c.af 0)\/(64<base/\base<=90/\E4 c.af 0=false))) i n,⟨_,At.start ⟨by omega,.inl ⟨by omega,rfl⟩⟩⟩,?_⟩;rintro base _ _ ⟨k,rfl,hk,rfl,h0,hc⟩;refine At.cond hk (fun hk=> ?_) fun hk=> ?_
  ·have aX:∀x:Br,0<=x.size->x.size<=16->base<=64->∀ {J:Int->Prop},J (base+Gj x)->cond (x.size==0) (J (IntKind.i64.wrap ((IntKind.i64.wrap (base+x.size))+1))) (J (IntKind.i64.wrap (base+x.size))):=by
    intro x h1 h2 h3 J hJ;rw [A0 (n:=base+x.size) (by omega) (by omega),A0 (by omega) (by omega)];refine Ab (fun e=> ?_) fun e=> ?_
    ·have:x.size=0:=by simpa using e
     have:Gj x=1:=by unfold Gj;rw [if_pos (by omega)]
     rw [this]at hJ
     rwa [show base+x.size+1=base+1 by omega]
    ·have:¬x.size=0:=by simpa using e
     have:Gj x=x.size:=by unfold Gj;rw [if_neg (by omega)]
     rwa [this]at hJ
   have Bmj:E4 c.af 0=false->K false:=fun e=>by rw [e]at h;exact h
   refine⟨fun b=>b=base+Gj c.af[k]/\base<64/\F2 base c.af[k]=true,Av hk (B9 (!F2 base c.af[k]||decide (base>=64)) (Nv.FI _ (wk _ (getElem_mem hk)) _ ?_) (Ab (fun hb=> ?_) fun hb=> ?_)),?_⟩
   ·unfold F2;cases Nv.U7 c.af[k].name<;>cases decide (c.af[k].size<0)<;>cases decide (c.af[k].size>16)<;>cases (c.af[k].base !=base)<;>first|rfl|(cases decide (base>=64)<;>rfl)
   ·refine Bmj ?_;rcases hc with⟨h1,hc⟩|⟨_,_,hc⟩
    ·rw [Vb hk,E4]at hc;cases gu:F2 base c.af[k]
     ·rw [gu,Bool.false_and]at hc;exact hc.symm
     ·rw [gu]at hb hc;have hb:base>=64:=by simpa using hb
      have hs:0<=c.af[k].size/\c.af[k].size<=16:=by
       unfold F2 at gu;simp at gu;omega
      have y9:1<=Gj c.af[k]:=by unfold Gj;split<;>omega
      rw [decide_eq_true (by omega:base+Gj c.af[k]>64)]at hc;exact hc.symm
    ·exact hc
   ·have gu:F2 base c.af[k]=true:=by
     cases gu:F2 base c.af[k]
     ·rw [gu]at hb;cases hb
     ·rfl
    have hb:base<64:=by rw [gu]at hb;simpa using hb
    have hs:0<=c.af[k].size/\c.af[k].size<=16:=by
     unfold F2 at gu;simp at gu;omega
    exact aX _ hs.1 hs.2 (by omega) (J:=fun b=>b=base+Gj c.af[k]/\base<64/\F2 base c.af[k]=true) ⟨rfl,hb,gu⟩
   ·rintro _ ⟨rfl,hb,gu⟩;have hs:0<=c.af[k].size/\c.af[k].size<=16:=by
     unfold F2 at gu;simp at gu;omega
    have y9:1<=Gj c.af[k]/\Gj c.af[k]<=16:=by unfold Gj;split<;>omega
    refine At.next (by omega) hk ⟨by omega,?_⟩;rcases hc with⟨h1,hc⟩|⟨h1,_⟩
    ·rw [Vb hk,E4,gu,Bool.true_and]at hc;by_cases hg:base+Gj c.af[k]>64
     ·rw [decide_eq_true hg]at hc;exact .inr ⟨hg,by omega,hc.symm⟩
     ·rw [decide_eq_false hg]at hc;exact .inl ⟨by omega,hc⟩
    ·omega
  ·rcases hc with⟨h1,hc⟩|⟨h1,_,hc⟩
   ·rw [hk,drop_length,E4]at hc;rw [←hc]at h;rw [decide_eq_true h1];exact h
   ·rw [hc]at h;rw [decide_eq_false (by omega)];exact h
def cm (c:Ah) (r:Nat):Int:=((c.defs[r]?).map (·.entry)).getD 0
def cu (c:Ah) (r:Nat):Int:=match c.defs[r+1]? with
 |some d=>d.entry|none=>c.ins.length
def i2 (c:Ah) (r:Nat):Int:=((c.defs[r]?).map (·.vars)).getD 0
structure ir (c:Ah):Prop where
 n1:1<=c.defs.length
 n2:c.defs.length<=32
 ni:c.ins.length<=65536
 m0:0<=c.main
 m1:c.main<c.defs.length
 mp:∀(d:Db),c.defs[c.main.toNat]? =some d->d.params=0
 FL:∀(i:Nat) (d:Db),c.defs[i]? =some d->0<=d.entry/\d.entry<c.ins.length
 par:∀(i:Nat) (d:Db),c.defs[i]? =some d->0<=d.params/\d.params<=d.vars/\d.vars<=16
 mono:∀(i:Nat) (d e:Db),c.defs[i]? =some d->c.defs[i+1]? =some e->d.entry<e.entry
 zero:∀(d:Db),c.defs[0]? =some d->d.entry=0
 ch:∀x∈c.af,0<=x.size/\x.size<=16
theorem Aoo {n:Nat} {last:Int} {d:Db} (h:Lh n last d=true):last<d.entry/\d.entry<n/\0<=d.params/\d.params<=d.vars/\d.vars<=16/\(last<0->d.entry=0):=by
 unfold Lh at h;simp only [not_eq_true',or_eq_false_iff,decide_eq_false_iff_not,Bool.and_eq_false_iff,bne_eq_false_iff_eq]at h;obtain⟨_,h1,h2,h3,h4,h5,h6⟩:=h;refine⟨by omega,by omega,by omega,by omega,by omega,fun hl=> ?_⟩;rcases h1 with h1|h1
 ·exact absurd hl h1
 ·exact h1
theorem Xx {n:Nat} :∀ {l:List Db} {last:Int},-1<=last->Jv n l last=true->(∀(i:Nat) (d:Db),l[i]? =some d->last<d.entry/\d.entry<n/\0<=d.params/\d.params<=d.vars/\d.vars<=16)/\
 (∀(i:Nat) (d e:Db),l[i]? =some d->l[i+1]? =some e->d.entry<e.entry)/\(last<0->∀d,l[0]? =some d->d.entry=0)
 |[],_,_,_=>⟨fun _ _ h=>by simp at h,fun _ _ _ h=>by simp at h,fun _ _ h=>by simp at h⟩
 |a::l,last,hl,h=>by
  rw [Jv,and_eq_true]at h;obtain⟨h1,h2,h3,h4,h5,h6⟩:=Aoo h.1;obtain⟨g1,g2,_⟩:=Xx (last:=a.entry) (by omega) h.2;refine⟨fun i d hd=> ?_,fun i d e hd he=> ?_,fun hl d hd=> ?_⟩
  ·cases i with
   |zero=>cases hd;exact⟨h1,h2,h3,h4,h5⟩
   |succ i=>have:=g1 i d hd;omega
  ·cases i with
   |zero=>cases hd;exact(g1 0 e he).1
   |succ i=>exact g2 i d e hd he
  ·cases hd;exact h6 hl
theorem Vd:∀ {l:List Br} {base:Int},E4 l base=true->∀x∈l,0<=x.size/\x.size<=16
 |[],_,_,_,hx=>(by first | (cases hx; done) | simp at hx)
 |a::l,base,h,x,hx=>by
  rw [E4,and_eq_true,and_eq_true]at h;cases hx with
  |head=>
   have h:=h.1;unfold F2 at h;simp at h;omega
  |tail _ hx=>exact Vd h.2.2 x hx
theorem FM {c:Ah} (h:E5 c=true):ir c:=by
 unfold E5 at h;simp only [and_eq_true]at h;obtain⟨h1,h2,h3⟩:=h;obtain⟨g1,g2,g3⟩:=Xx (by omega) h2;unfold tw at h1;simp only [not_eq_true',or_eq_false_iff,decide_eq_false_iff_not,bne_eq_false_iff_eq]at h1;obtain⟨k1,k2,k3,k4,k5,k6⟩:=h1;refine⟨by omega,by omega,by omega,by omega,by omega,fun d hd=> ?_,fun i d hd=>by have:=g1 i d hd;omega,fun i d hd=>by have:=g1 i d hd;omega,g2,g3 (by omega),Vd h3⟩;rw [List.getD,hd]at k6;exact k6
variable {c:Ah}
theorem ir.qo (T:ir c) {r:Nat} (hr:r<c.defs.length):0<=cm c r:=by
 unfold cm;rw [getElem?_eq_getElem hr];exact(T.FL _ _ (getElem?_eq_getElem hr)).1
theorem ir.tz (T:ir c) (r:Nat):cu c r<=c.ins.length:=by
 unfold cu;split
 ·rename_i d hd;have:=(T.FL _ _ hd).2;omega
 ·exact Int.le_refl _
theorem ir.wm (T:ir c) {r:Nat} (hr:r<c.defs.length):cm c r<cu c r:=by
 unfold cm cu;rw [getElem?_eq_getElem hr];split
 ·rename_i d hd;exact T.mono _ _ _ (getElem?_eq_getElem hr) hd
 ·exact(T.FL _ _ (getElem?_eq_getElem hr)).2
theorem ir.Blc {r:Nat} (hr:r+1<c.defs.length):cm c (r+1)=cu c r:=by
 unfold cm cu;rw [getElem?_eq_getElem hr];rfl
theorem ir.Bld {r:Nat} (hr:r+1=c.defs.length):cu c r=c.ins.length:=by
 unfold cu;rw [List.getElem?_eq_none (by omega)]
theorem y_ (c:Ah) (hd:c.defs.length<=100000) {r:Nat} (hr:r<c.defs.length) (K:Int->Prop) (h:K (cu c r)):Nl c r K:=by
 have hw:IntKind.i64.wrap ((r:Int)+1)=(r+1:Nat):=by rw [A0 (by omega) (by omega)];omega
 refine Alp _ _ _ ?_;unfold OX;rw [hw];unfold cu at h;refine Ab (fun hc=> ?_) fun hc=> ?_
 ·have aO:r+1<c.defs.length:=by have:=of_decide_eq_true hc;omega
  rw [getElem?_eq_getElem aO]at h;exact Av aO h
 ·have:¬r+1<c.defs.length:=by have:=of_decide_eq_false hc;omega
  rw [List.getElem?_eq_none (by omega)]at h;exact h
def oc (l:List Ax) (i:Int):Int:=((l[i.toNat]?).map (·.op)).getD 0
theorem Nw {l:List Ax} {i:Int} {x:Ax} (h:l[i.toNat]? =some x):oc l i=x.op:=by unfold oc;rw [h];rfl
def Gu (l:List Ax) (fr to at_:Int):Bool:=decide (Fk l at_>=fr)&&(decide (Fk l at_<to)&&((oc l (Fk l at_)==1)||(oc l (Fk l at_)==24)))
theorem SX {l:List Ax} {fr to s:Int} {K:Bool->Prop} (h0:0<=fr) (h1:to<=l.length) (h:K (decide (s>=fr)&&(decide (s<to)&&((oc l s==1)||(oc l s==24))))): cond (decide (s>=fr)) (cond (decide (s<to)) (((0:Int)<=s/\s<(l.length:Int))/\∀x,l[s.toNat]? =some x->cond (x.op==1) (K true) (((0:Int)<=s/\s<(l.length:Int))/\∀x1,l[s.toNat]? =some x1->K (x1.op==24))) (K false)) (K false):=by
 refine Ab (fun ha=> ?_) fun ha=>by rw [ha]at h;exact h
 refine Ab (fun hb=> ?_) fun hb=>by rw [ha,hb]at h;exact h
 rw [ha,hb]at h;have ha:=of_decide_eq_true ha;have hb:=of_decide_eq_true hb;refine⟨⟨by omega,by omega⟩,fun x hx=> ?_⟩;rw [Nw hx]at h;refine Ab (fun hc=>by rw [hc]at h;exact h) fun hc=>⟨⟨by omega,by omega⟩,fun y hy=> ?_⟩
 rw [hx]at hy;cases hy
 rw [hc]at h;exact h
theorem FN (k:Ak) (hl:k.code.ins.length<=100000) (h0:0<=k.from_) (h1:k.to<=k.code.ins.length) (a:Int) (K:Bool->Prop) (h:K (Gu k.code.ins k.from_ k.to a)):Dh k a K:=
 Nq _ _ _ (Aut _ hl _ _ (SX h0 h1 h))
theorem SY (T:ir c) {r:Nat} (hr:r<c.defs.length) (a:Int) (K:Bool->Prop) (h:K (Gu c.ins (cm c r) (cu c r) a)):Hb c r a K:=by
 have:=T.ni;have:=T.n2;refine Abq _ _ _ _ (Ary _ (by omega) _ _ (Av hr ?_));have jL:cm c r=c.defs[r].entry:=by unfold cm;rw [getElem?_eq_getElem hr];rfl
 have ht:=SX (K:=K) (s:=Fk c.ins a) (T.qo hr) (T.tz r) h;rw [jL]at ht;refine Ab (fun e=> ?_) fun e=> ?_
 ·rw [e]at ht;exact y_ c (by omega) hr _ ht
 ·rw [e]at ht;exact ht
def Tl (l:List Ax) (fr to at_ t:Int):Bool:=decide (t>=fr)&&(decide (t<to)&&(decide (t>at_)||(oc l t==1)))
theorem Aw7 (k:Ak) (h0:0<=k.from_) (h1:k.to<=k.code.ins.length) (a t:Int) (K:Bool->Prop) (h:K (Tl k.code.ins k.from_ k.to a t)):Fw k a t K:=by
 unfold Tl at h;refine Nr _ _ _ _ (Ab (fun ha=> ?_) fun ha=>by rw [ha]at h;exact h);refine Ab (fun hb=> ?_) fun hb=>by rw [ha,hb]at h;exact h
 refine Ab (fun hc=>by rw [ha,hb,hc]at h;exact h) fun hc=> ?_
 rw [ha,hb,hc]at h;have ha:=of_decide_eq_true ha;have hb:=of_decide_eq_true hb;refine⟨⟨by omega,by omega⟩,fun x hx=> ?_⟩;rw [Nw hx]at h;exact h
theorem Ar0 {α:Type} (l:List α) (hl:l.length<=100000) (p:α->Bool) (V:α->(Bool->Prop)->Prop) (hV:∀x K,K (p x)->V x K) (K:Int->Prop) (h1:∀(i:Nat) (hi:i<l.length),p l[i]=true->(∀(j:Nat) (hj:j<i),p (l[j]'(by omega))=false)->K i) (h2:(∀x∈l,p x=false)->K (-1)): ∃(I:Int->Nat->Prop),(∃n,I 0 n)/\∀(x:Int) (n:Nat),I x n->cond (decide (x<(l.length:Int))) (((0:Int)<=x/\x<(l.length:Int))/\∀x1,l[x.toNat]? =some x1->V x1 (fun x2=>cond x2 (K x) (∃n1,n1<n/\I (IntKind.i64.wrap (x+1)) n1))) (K (-1)):=by
 refine⟨fun i n=>At l.length (fun k=>∀(j:Nat) (hj:j<l.length),j<k->p l[j]=false) i n,⟨_,At.start (fun j _ h=>absurd h (not_lt_zero _))⟩,?_⟩;rintro _ _ ⟨k,rfl,hk,rfl,he⟩;refine At.cond hk (fun hk=>Av hk (hV _ _ (Ab (fun hp=> ?_) fun hp=> ?_))) fun hk=> ?_
 ·exact h1 k hk hp fun j hj=>he j (by omega) hj
 ·refine At.next (by omega) hk fun j hj aO=> ?_
  by_cases e:j=k
  ·subst e;exact hp
  ·exact he j hj (by omega)
 ·refine h2 fun x hx=> ?_
  obtain⟨j,hj,rfl⟩:=List.mem_iff_getElem.1 hx;exact he j hj (by omega)
theorem FO {α:Type} {l:List α} {p:α->Bool} {K:Bool->Prop} (h:K (l.any p)):(∀(i:Nat) (hi:i<l.length),p l[i]=true->K (decide ((i:Int)>=0)))/\((∀x∈l,p x=false)->K (decide ((-1:Int)>=0))):=by
 refine⟨fun i hi hp=> ?_,fun hn=> ?_⟩
 ·have:l.any p=true:=any_eq_true.2 ⟨_,getElem_mem hi,hp⟩;rw [this]at h;rw [decide_eq_true (by omega)];exact h
 ·have:l.any p=false:=by
   cases e:l.any p
   ·rfl
   ·obtain⟨x,hx,hp⟩:=any_eq_true.1 e;rw [hn x hx]at hp;cases hp
  rw [this]at h;exact h
def j5 (a b:Int) (d:Br):Bool:=(d.base==a)&&(d.size==b)
theorem Azb (l:List Br) (hl:l.length<=100000) (x:Ax) (K:Bool->Prop) (h:K (l.any (j5 x.a x.b))):A1 l x K:=by
 refine Cb _ _ _ (Cr _ _ _ ?_);obtain⟨g1,g2⟩:=FO h;exact Ar0 l hl (j5 x.a x.b) (fun d K=>Fy d x K) (fun d K hK=>Nt _ _ _ (by
  unfold j5 at hK;refine Ab (fun e=>by rw [e]at hK;exact hK) fun e=>by rw [e]at hK;exact hK)) _ (fun i hi hp _=>g1 i hi hp) g2
theorem Aoq (c:Ah) (hl:c.af.length<=100000) (a b:Int) (K:Bool->Prop) (h:K (c.af.any (j5 a b))):Gq c a b K:=by
 refine Wf _ _ _ _ ⟨fun i n=>At c.af.length (fun k=>∀(j:Nat) (hj:j<c.af.length),j<k->j5 a b c.af[j]=false) i n,⟨_,At.start (fun j _ h=>absurd h (not_lt_zero _))⟩,?_⟩;rintro _ _ ⟨k,rfl,hk,rfl,he⟩;refine At.cond hk (fun hk=>B9 (j5 a b c.af[k]) (Av hk ?_) (Ab (fun hp=> ?_) fun hp=> ?_)) fun hk=> ?_
 ·unfold j5;refine Ab (fun e=>Av hk (by rw [e];simp)) fun e=>by rw [e];rfl
 ·have:c.af.any (j5 a b)=true:=any_eq_true.2 ⟨_,getElem_mem hk,hp⟩;rw [this]at h;exact h
 ·refine At.next (by omega) hk fun j hj aO=> ?_
  by_cases e:j=k
  ·subst e;exact hp
  ·exact he j hj (by omega)
 ·have:c.af.any (j5 a b)=false:=by
   cases e:c.af.any (j5 a b)
   ·rfl
   ·obtain⟨x,hx,hp⟩:=any_eq_true.1 e;obtain⟨j,hj,rfl⟩:=List.mem_iff_getElem.1 hx;rw [he j hj (by omega)]at hp;cases hp
  rw [this]at h;exact h
def Nx (op:Int):Bool:=(op==3)||((op==4)||((op==11)||((op==12)||(op==19))))
def tB (c:Ah) (i:Int):Int:=((c.defs[i.toNat]?).map (·.params)).getD 0
def Mc (c:Ah) (vars marks:Int) (x:Ax):Bool:=cond (x.op==1) (x.a==marks) (cond (Nx x.op) (decide (x.a>=0)&&decide (x.a<vars)) (cond (x.op==9) (c.af.any (j5 x.a x.b)) (cond (x.op==14) (decide (x.a>=0)&&(decide (x.a<(c.defs.length:Int))&&(x.b==tB c x.a))) true)))
def wo (fr to at_:Int) (x:Ax):Bool:=(!B7 x)||((!((x.op==24)==(at_==to-1)))||((at_==fr)&&((x.op !=1)&&(x.op !=24))))
def Ve (c:Ah) (fr to vars marks at_:Int) (x:Ax):Bool:=(!wo fr to at_ x)&&(Mc c vars marks x&&(((!(Ec x).2)||Tl c.ins fr to at_ (Ec x).1)&&(((!Gc x.op)||Gu c.ins fr to (at_+1))&&((!D2 x.op)||Gu c.ins fr to (Ec x).1))))
theorem FP {c:Ah} {i:Int} {d:Db} (h:c.defs[i.toNat]? =some d):tB c i=d.params:=by unfold tB;rw [h];rfl
theorem Bap (k:Ak) (hl:k.code.ins.length<=100000) (fY:k.code.af.length<=100000) (h0:0<=k.from_) (h1:k.to<=k.code.ins.length) (hto:0<k.to) (a:Nat) (ha:a<k.code.ins.length) (K:Bool->Prop) (h:K (Ve k.code k.from_ k.to k.vars k.marks a k.code.ins[a])):G2 k a K:=by
 have aX:IntKind.i64.wrap (k.to-1)=k.to-1:=A0 (by omega) (by omega);have cM:IntKind.i64.wrap ((a:Int)+1)=(a:Int)+1:=A0 (by omega) (by omega);generalize hx:k.code.ins[a]=x at h;refine Po _ _ _ (Av ha ?_);rw [hx,aX,cM];unfold Ve at h;refine B9 (wo k.from_ k.to a x) (FE _ _ ?_) (Ab (fun e=>by rw [e]at h;exact h) fun e=> ?_)
 ·unfold wo;cases B7 x
  ·rfl
  ·cases ((x.op==24)==((a:Int)==k.to-1))
   ·rfl
   ·cases ((a:Int)==k.from_)
    ·rfl
    ·cases (x.op !=1)<;>rfl
 rw [e,Bool.not_false,Bool.true_and]at h;refine B9 (Mc k.code k.vars k.marks x) ?_ ?_
 ·unfold Mc;cases h1:(x.op==1)
  ·refine B9 (Nx x.op) ?_ ?_
   ·unfold Nx;cases x.op==3<;>cases x.op==4<;>cases x.op==11<;>cases x.op==12<;>rfl
   ·cases Nx x.op
    ·cases h9:(x.op==9)
     ·cases kP:(x.op==14)
      ·rfl
      ·show cond (decide (x.a>=0)) _ _
       cases hg:decide (x.a>=0)
       ·rfl
       ·show cond (decide (x.a<(k.code.defs.length:Int))) _ _
        cases pg:decide (x.a<(k.code.defs.length:Int))
        ·rfl
        ·have hg:=of_decide_eq_true hg;have pg:=of_decide_eq_true pg;refine⟨⟨by omega,pg⟩,fun d hd=> ?_⟩;rw [FP hd];rfl
     ·exact Azb _ fY _ _ rfl
    ·cases decide (x.a>=0)<;>rfl
  ·rfl
 ·refine SN _ _ (B9 ((!Mc k.code k.vars k.marks x)||((Ec x).2&& !Tl k.code.ins k.from_ k.to a (Ec x).1)) ?_ ?_)
  ·cases Mc k.code k.vars k.marks x
   ·rfl
   ·cases (Ec x).2
    ·rfl
    ·exact Aw7 _ h0 h1 _ _ _ rfl
  ·refine Ab (fun e2=> ?_) fun e2=> ?_
   ·have:(Mc k.code k.vars k.marks x&&(((!(Ec x).2)||Tl k.code.ins k.from_ k.to a (Ec x).1)&&(((!Gc x.op)||Gu k.code.ins k.from_ k.to ((a:Int)+1))&&((!D2 x.op)||Gu k.code.ins k.from_ k.to (Ec x).1))))=false:=by
     revert e2
     cases Mc k.code k.vars k.marks x<;>cases (Ec x).2<;>cases Tl k.code.ins k.from_ k.to a (Ec x).1<;>intro e2<;>first|rfl|cases e2
    rw [this]at h;exact h
   ·have:(Mc k.code k.vars k.marks x&&(((!(Ec x).2)||Tl k.code.ins k.from_ k.to a (Ec x).1)&&(((!Gc x.op)||Gu k.code.ins k.from_ k.to ((a:Int)+1))&&((!D2 x.op)||Gu k.code.ins k.from_ k.to (Ec x).1))))=(((!Gc x.op)||Gu k.code.ins k.from_ k.to ((a:Int)+1))&&((!D2 x.op)||Gu k.code.ins k.from_ k.to (Ec x).1)):=by
     revert e2
     cases Mc k.code k.vars k.marks x<;>cases (Ec x).2<;>cases Tl k.code.ins k.from_ k.to a (Ec x).1<;>intro e2<;>first|rfl|cases e2
    rw [this]at h;refine SM _ _ ?_;cases og:Gc x.op
    ·rw [og]at h;refine Rj _ _ ?_;cases j6:D2 x.op
     ·rw [j6]at h;exact h
     ·rw [j6]at h;exact FN _ hl h0 h1 _ _ h
    ·rw [og]at h;refine FN _ hl h0 h1 _ _ ?_;cases SZ:Gu k.code.ins k.from_ k.to ((a:Int)+1)
     ·rw [SZ]at h;exact h
     ·rw [SZ]at h;refine Rj _ _ ?_;cases j6:D2 x.op
      ·rw [j6]at h;exact h
      ·rw [j6]at h;exact FN _ hl h0 h1 _ _ h
def FQ (c:Ah) (vars marks:Int) (x:Ax):Bool:=((x.op==1)&&(x.a !=marks))||((Nx x.op&&(decide (x.a<0)||decide (x.a>=vars)))||(((x.op==9)&& !c.af.any (j5 x.a x.b))||((x.op==14)&&(decide (x.a<0)||(decide (x.a>=(c.defs.length:Int))||(x.b !=tB c x.a))))))
theorem Aw8 (c:Ah) (vars marks:Int) (x:Ax):FQ c vars marks x= !Mc c vars marks x:=by
 have e1:decide (x.a<0)= !decide (x.a>=0):=by rw [Bool.eq_iff_iff];simp
 have e2:decide (x.a>=vars)= !decide (x.a<vars):=by rw [Bool.eq_iff_iff];simp
 have e3:decide (x.a>=(c.defs.length:Int))= !decide (x.a<(c.defs.length:Int)):=by rw [Bool.eq_iff_iff];simp
 unfold FQ Mc;rw [e1,e2,e3];cases h1:(x.op==1)
 ·cases hs:Nx x.op
  ·cases h9:(x.op==9)
   ·cases kP:(x.op==14)
    ·rfl
    ·show(decide (x.a>=0)).not.or _=_
     cases decide (x.a>=0)<;>cases decide (x.a<(c.defs.length:Int))<;>rfl
   ·have:x.op=9:=by simpa using h9
    rw [this];cases c.af.any (j5 x.a x.b)<;>rfl
  ·have h9:(x.op==9)=false:=by unfold Nx at hs;simp at hs⊢;omega
   have kP:(x.op==14)=false:=by unfold Nx at hs;simp at hs⊢;omega
   rw [h9,kP];cases decide (x.a>=0)<;>cases decide (x.a<vars)<;>rfl
 ·have h:x.op=1:=by simpa using h1
  rw [h];cases hb:(x.a==marks)<;>simp [bne,hb,Nx]
theorem Aux {x:Ax} (h:D2 x.op=true):(Ec x).2=true:=by
 unfold D2 at h;simp only [and_eq_true,decide_eq_true_eq]at h;have:x.op=19\/x.op=20\/x.op=21\/x.op=22:=by omega
 unfold Ec rI;rcases this with e|e|e|e<;>rw [e]<;>rfl
set_option maxHeartbeats 1000000 in
theorem Azd {c:Ah} (T:ir c) (fY:c.af.length<=100000) {r:Nat} (hr:r<c.defs.length) (marks:Int) (a:Nat) (ha:a<c.ins.length) (K:Bool->Prop) (h:K (Ve c (cm c r) (cu c r) (i2 c r) marks a c.ins[a])):Wd c r a marks K:=by
 have S_:=T.ni;have hto:=T.tz r;have Bry:0<cu c r:=by have:=T.qo hr;have:=T.wm hr;omega
 have aX:IntKind.i64.wrap (cu c r-1)=cu c r-1:=A0 (by omega) (by omega);have cM:IntKind.i64.wrap ((a:Int)+1)=(a:Int)+1:=A0 (by omega) (by omega);have za:i2 c r=c.defs[r].vars:=by unfold i2;rw [getElem?_eq_getElem hr];rfl
 have jL:cm c r=c.defs[r].entry:=by unfold cm;rw [getElem?_eq_getElem hr];rfl
 generalize hx:c.ins[a]=x at h;refine Air _ _ _ _ _ ⟨fun fr to op x1 x2=>fr=cm c r/\to=cu c r/\op=x.op/\x1=x.a/\x2=x.b,Av ha (Av hr (y_ c (by have:=T.n2;omega) hr _ ⟨jL.symm,rfl,by rw [hx],by rw [hx],by rw [hx]⟩)),?_⟩;rintro _ _ _ _ _ ⟨rfl,rfl,rfl,rfl,rfl⟩;rw [aX,cM];unfold Ve wo at h;generalize hv1:((x.op==24)==((a:Int)==cu c r-1))=v1 at h;refine B9 ((!B7 x)|| !v1) (FG _ _ ?_) (Ab (fun e=> ?_) fun e=> ?_)
 ·show cond (!B7 x) _ _
  cases B7 x
  ·rfl
  ·rw [←hv1];show cond (x.op==24) (cond ((a:Int) !=cu c r-1) _ (cond (x.op !=24) _ _)) (cond (x.op !=24) _ _)
   cases TA:(x.op==24)
   ·rw [show(x.op !=24)=true by rw [bne,TA];rfl];cases ((a:Int)==cu c r-1)<;>rfl
   ·rw [show(x.op !=24)=false by rw [bne,TA];rfl,bne];cases ((a:Int)==cu c r-1)<;>rfl
 ·have:((!B7 x)||((!v1)||(((a:Int)==cm c r)&&((x.op !=1)&&(x.op !=24)))))=true:=by
   revert e;cases B7 x<;>cases v1<;>intro e<;>first|rfl|cases e
  rw [this]at h;exact h
 have he:((!B7 x)||((!v1)||(((a:Int)==cm c r)&&((x.op !=1)&&(x.op !=24)))))=(((a:Int)==cm c r)&&((x.op !=1)&&(x.op !=24))):=by
  revert e;cases B7 x<;>cases v1<;>intro e<;>first|rfl|cases e
 rw [he]at h;clear he e;have hk:=Aw8 c (i2 c r) marks x;generalize lI:Mc c (i2 c r) marks x=v2 at h hk;unfold FQ at hk;have eU:∀ {A:Prop},(v2=false->K false):=fun e=>by
  rw [e]at h;rw [Bool.false_and,Bool.and_false]at h;exact h
 refine B9 ((((a:Int)==cm c r)&&((x.op !=1)&&(x.op !=24)))||((x.op==1)&&(x.a !=marks))) ?_ (Ab (fun e=> ?_) fun e=> ?_)
 ·cases ((a:Int)==cm c r)
  ·cases (x.op==1)<;>rfl
  ·cases h1:(x.op==1)
   ·rw [show(x.op !=1)=true by rw [bne,h1];rfl];cases (x.op !=24)<;>rfl
   ·rw [show(x.op !=1)=false by rw [bne,h1];rfl];rfl
 ·cases hf:(((a:Int)==cm c r)&&((x.op !=1)&&(x.op !=24)))
  ·rw [hf,Bool.false_or]at e;rw [e,Bool.true_or]at hk;exact eU (A:=True) (by simpa using hk.symm)
  ·rw [hf]at h;exact h
 have e1:=e;rw [or_eq_false_iff]at e1;rw [e1.1]at h;rw [e1.2,Bool.false_or]at hk;clear e e1;refine B9 (Nx x.op) ?_ ?_
 ·unfold Nx;cases x.op==3<;>cases x.op==4<;>cases x.op==11<;>cases x.op==12<;>rfl
 refine B9 ((Nx x.op&&(decide (x.a<0)||decide (x.a>=i2 c r)))||((x.op==9)&& !c.af.any (j5 x.a x.b))) ?_ (Ab (fun e=> ?_) fun e=> ?_)
 ·have j6:∀ {J:Bool->Prop},J ((x.op==9)&& !c.af.any (j5 x.a x.b))->cond (x.op==9) (Gq c x.a x.b (fun x8=>J (!x8))) (J false):=by
   intro J;cases (x.op==9)
   ·exact fun h=>h
   ·exact fun h=>Aoq _ fY _ _ _ h
  cases Nx x.op
  ·exact j6 (J:=fun y=>y=(false||((x.op==9)&& !c.af.any (j5 x.a x.b)))) rfl
  ·show cond (decide (x.a<0)) _ _
   cases decide (x.a<0)
   ·refine Av hr ?_;rw [←za];cases decide (x.a>=i2 c r)
    ·exact j6 (J:=fun y=>y=((true&&(false||false))||((x.op==9)&& !c.af.any (j5 x.a x.b)))) rfl
    ·rfl
   ·rfl
 ·refine eU (A:=True) ?_;rw [Bool.or_eq_true]at e;rcases e with e|e<;>rw [e]at hk
  ·simpa using hk.symm
  ·simp at hk;exact hk
 rw [or_eq_false_iff]at e;rw [e.1,e.2,Bool.false_or,Bool.false_or]at hk;clear e;refine B9 ((x.op==14)&&(decide (x.a<0)||(decide (x.a>=(c.defs.length:Int))||(x.b !=tB c x.a)))) ?_ (Ab (fun e=> ?_) fun e=> ?_)
 ·cases (x.op==14)
  ·rfl
  ·show cond (decide (x.a<0)) _ _
   cases h1:decide (x.a<0)
   ·show cond (decide (x.a>=(c.defs.length:Int))) _ _
    cases h2:decide (x.a>=(c.defs.length:Int))
    ·have h1:=of_decide_eq_false h1;have h2:=of_decide_eq_false h2;refine⟨⟨by omega,by omega⟩,fun d hd=> ?_⟩;rw [FP hd];rfl
    ·rfl
   ·rfl
 ·rw [e]at hk;exact eU (A:=True) (by simpa using hk.symm)
 rw [e]at hk;have lI:v2=true:=by simpa using hk.symm
 rw [lI,Bool.not_false,Bool.true_and,Bool.true_and]at h;clear e hk eU lI;refine⟨((!(Ec x).2)||Tl c.ins (cm c r) (cu c r) a (Ec x).1)=true/\((!D2 x.op)||Gu c.ins (cm c r) (cu c r) (Ec x).1)=true,SO _ _ ?_,?_⟩
 ·show cond (Ec x).2 _ _
  cases rL:(Ec x).2
  ·refine⟨rfl,?_⟩;cases j6:D2 x.op
   ·rfl
   ·rw [Aux j6]at rL;cases rL
  ·rw [rL]at h;generalize (Ec x).1=t at h;have TB:∀ {J:Bool->Prop},J (D2 x.op&& !Gu c.ins (cm c r) (cu c r) t)->Ek x.op (fun ah=>cond ah (Hb c r t (fun ag=>J (!ag))) (J false)):=by
    intro J hJ;refine Tj _ _ ?_;cases j6:D2 x.op
    ·rw [j6]at hJ;exact hJ
    ·rw [j6]at hJ;exact SY T hr _ _ hJ
   refine B9 (!Tl c.ins (cm c r) (cu c r) a t||(D2 x.op&& !Gu c.ins (cm c r) (cu c r) t)) ?_ (Ab (fun e=> ?_) fun e=> ?_)
   ·unfold Tl;have e1:decide (t<cm c r)= !decide (t>=cm c r):=by rw [Bool.eq_iff_iff];simp
    have e2:decide (t>=cu c r)= !decide (t<cu c r):=by rw [Bool.eq_iff_iff];simp
    have e3:decide (t<=(a:Int))= !decide (t>(a:Int)):=by rw [Bool.eq_iff_iff];simp
    rw [e1,e2,e3];cases h1:decide (t>=cm c r)
    ·rfl
    ·cases h2:decide (t<cu c r)
     ·rfl
     ·cases h3:decide (t>(a:Int))
      ·have h1:=of_decide_eq_true h1;have h2:=of_decide_eq_true h2;have:=T.qo hr;refine⟨⟨by omega,by omega⟩,fun y hy=> ?_⟩;rw [Nw hy,bne];cases (y.op==1)
       ·rfl
       ·exact TB (J:=fun z=>z=(!(true&&(true&&(false||true)))||(D2 x.op&& !Gu c.ins (cm c r) (cu c r) t))) rfl
      ·exact TB (J:=fun z=>z=(!(true&&(true&&(true||(oc c.ins t==1))))||(D2 x.op&& !Gu c.ins (cm c r) (cu c r) t))) rfl
   ·have:(((!true)||Tl c.ins (cm c r) (cu c r) a t)&&(((!Gc x.op)||Gu c.ins (cm c r) (cu c r) ((a:Int)+1))&&((!D2 x.op)||Gu c.ins (cm c r) (cu c r) t)))=false:=by
     revert e
     cases Tl c.ins (cm c r) (cu c r) a t<;>cases D2 x.op<;>cases Gu c.ins (cm c r) (cu c r) t<;>cases Gc x.op<;>cases Gu c.ins (cm c r) (cu c r) ((a:Int)+1)<;>intro e<;>first|rfl|cases e
    rw [this]at h;exact h
   ·revert e
    cases Tl c.ins (cm c r) (cu c r) a t<;>cases D2 x.op<;>cases Gu c.ins (cm c r) (cu c r) t<;>intro e<;>first|exact⟨rfl,rfl⟩|cases e
 ·rintro⟨h1,h2⟩;rw [h1,h2,Bool.true_and,Bool.and_true]at h;refine SL _ _ ?_;cases og:Gc x.op
  ·rw [og]at h;exact h
  ·rw [og]at h;exact SY T hr _ _ h
def m3 (op:Int):Bool:=(op==1)||((op==24)||(op==25))
def Gw (x:Ax) (t:Th):Bool:=cond (m3 x.op) ((t.1==0)&& !t.2) (cond (x.op==23) ((t.1==0)&&t.2) (cond (D2 x.op) ((t.1-B3 x==0)&&t.2) (cond (Gc x.op||(x.op==18)) ((t.1-B3 x==0)&& !t.2) (decide (t.1-B3 x>=0)))))
def D6 (x:Ax) (t:Th):Th:=(t.1-B3 x+Lf x,cond (m3 x.op) (x.op==25) t.2)
theorem Vf {x:Ax} (h:m3 x.op=true\/(x.op==23)=true):B3 x=0:=by
 unfold B3;cases hr:B7 x
 ·rfl
 ·rw [cond_true,Wv (Q1 hr)];have:x.op=1\/x.op=24\/x.op=25\/x.op=23:=by
   rcases h with h|h
   ·unfold m3 at h;simp at h;omega
   ·simp at h;omega
  rcases this with e|e|e|e<;>rw [e]<;>rfl
theorem FR (x:Ax):0<=Lf x/\Lf x<=1:=by
 unfold Lf;cases hr:B7 x
 ·exact⟨Int.le_refl 0,(by decide:(0:Int)<=1)⟩
 ·rw [cond_true,SP (Q1 hr)];cases ((x.op==2)||((x.op==3)||((x.op==5)||(x.op==9))))<;>decide
theorem Aze (x:Ax) (t:Bv) (ht:0<=t.n/\t.n<=1000000) (hk:0<=B3 x/\B3 x<=1000) (K:Bv->Bool->Prop) (h:K ⟨(D6 x (t.n,t.choose)).1,(D6 x (t.n,t.choose)).2⟩ (Gw x (t.n,t.choose))):Xn x t K:=by
 have hg:=FR x;have hw:IntKind.i64.wrap (t.n-B3 x)=t.n-B3 x:=A0 (by omega) (by omega);refine Ab6 _ _ _ (B9 (t.n-B3 x) (Aw3 _ _ hw) ⟨fun ok _ ch=>ok=Gw x (t.n,t.choose)/\ch=(D6 x (t.n,t.choose)).2,B9 (m3 x.op) ?_ (Ab (fun e=> ?_) fun e=> ?_),?_⟩)
 ·unfold m3;cases x.op==1<;>cases x.op==24<;>rfl
 ·unfold Gw D6;rw [e];exact⟨by rw [cond_true];cases t.n==0<;>cases t.choose<;>rfl,rfl⟩
 ·unfold Gw D6;rw [e];refine Ab (fun e2=> ?_) fun e2=>Rj _ _ (Ab (fun e3=> ?_) fun e3=>B9 (Gc x.op||(x.op==18)) (SM _ _ ?_) (Ab (fun e4=> ?_) fun e4=> ?_))
  ·rw [e2];exact⟨by rw [cond_false,cond_true];cases t.n==0<;>cases t.choose<;>rfl,rfl⟩
  ·rw [e2,e3];refine Ab (fun e5=> ?_) fun e5=> ?_
   ·exact⟨by rw [cond_false,cond_false,cond_true,e5];rfl,rfl⟩
   ·exact⟨by rw [cond_false,cond_false,cond_true,e5];rfl,rfl⟩
  ·cases Gc x.op<;>rfl
  ·rw [e2,e3,e4];refine Ab (fun e5=> ?_) fun e5=> ?_
   ·exact⟨by rw [cond_false,cond_false,cond_false,cond_true,e5];rfl,rfl⟩
   ·exact⟨by rw [cond_false,cond_false,cond_false,cond_true,e5];rfl,rfl⟩
  ·rw [e2,e3,e4];exact⟨rfl,rfl⟩
 ·rintro _ _ _ ⟨rfl,rfl⟩;refine Aw4 _ _ ?_;rw [A0 (by omega) (by omega)];exact h
theorem Aw9 (x:Ax) (t:Ao) (ht:0<=t.n/\t.n<=1000000) (hk:0<=B3 x/\B3 x<=1000) (K:Bool->Prop) (h:K (Gw x (t.n,t.choose))):S7 x t K:=by
 have hw:IntKind.i64.wrap (t.n-B3 x)=t.n-B3 x:=A0 (by omega) (by omega);refine Adu _ _ _ (B9 (t.n-B3 x) (SQ _ _ hw) ?_);unfold Gw at h;cases hm:m3 x.op
 ·rw [hm]at h;cases tC:(x.op==23)
  ·rw [tC]at h;refine Ab (fun hl=> ?_) fun hl=>B9 false ?_ (Eb rfl (Eb rfl (Tj _ _ ?_)))
   ·have hl:=of_decide_eq_true hl;have e1:(t.n-B3 x==0)=false:=by simp;omega
    have e2:decide (t.n-B3 x>=0)=false:=by simp;omega
    rw [e1,e2]at h;cases hc:D2 x.op<;>rw [hc]at h
    ·cases ha:Gc x.op||(x.op==18)<;>rw [ha]at h<;>exact h
    ·exact h
   ·rw [←hm];unfold m3;cases x.op==1<;>cases x.op==24<;>rfl
   ·have hl:decide (t.n-B3 x>=0)=true:=by have:=of_decide_eq_false hl;simp;omega
    rw [hl]at h;cases hc:D2 x.op
    ·rw [hc]at h;refine B9 (Gc x.op||(x.op==18)) (SL _ _ ?_) ?_
     ·cases Gc x.op<;>rfl
     ·cases ha:Gc x.op||(x.op==18)
      ·rw [ha]at h;exact h
      ·rw [ha]at h;refine Ei rfl (Ab (fun e=>by rw [e]at h;exact h) fun e=>by rw [e]at h;exact h)
    ·rw [hc]at h;refine Ei rfl (Ab (fun e=>by rw [e]at h;exact h) fun e=>by rw [e]at h;exact h)
  ·rw [tC]at h;have tD:=Vf (x:=x) (.inr tC);refine Eb (by simp [tD];omega) (B9 false ?_ (Eb rfl (Ei rfl ?_)))
   ·rw [←hm];unfold m3;cases x.op==1<;>cases x.op==24<;>rfl
   ·refine Ab (fun e=>by rw [e]at h;exact h) fun e=>by rw [e]at h;exact h
 ·rw [hm]at h;have tD:=Vf (x:=x) (.inl hm);refine Eb (by simp [tD];omega) (B9 true ?_ (Ei rfl ?_))
  ·rw [←hm];unfold m3;cases x.op==1<;>cases x.op==24<;>rfl
  ·refine Ab (fun e=>by rw [e]at h;exact h) fun e=>by rw [e]at h;exact h
abbrev Kn:=Nat->Option Th
def Pb (kn:Kn) (at_ to:Nat) (now:Th):Option Kn:=
 if to<=at_ then(if now=(0,false)then some kn else none)else match kn to with
  |some mE=>if now=mE then some kn else none
  |none=>some fun j=>if j=to then some now else kn j
def Tn (op:Int):Bool:=(op !=6)&&((op !=18)&&((op !=23)&&(op !=24)))
def go1 (x:Ax) (at_:Nat) (t:Th) (kn:Kn):Option Kn:=cond (Ec x).2 (Pb kn at_ (Ec x).1.toNat (cond (D2 x.op) (0,false) (D6 x t))) (some kn)
def go2 (x:Ax) (at_:Nat) (t:Th) (kn:Kn):Option Kn:=cond (Tn x.op) (Pb kn at_ (at_+1) (D6 x t)) (some kn)
def Yt (x:Ax) (o:Option Th):Option Th:=match o with
 |some t=>some t|none=>if x.op=1 then some (0,false)else none
def Jp (l:List Ax):Kn->Nat->Nat->Bool
 |_,_,0=>true|kn,at_,k+1=>match l[at_]? with
  |none=>true|some x=>match Yt x (kn at_)with
   |none=>Jp l kn (at_+1) k|some t=>cond (Gw x t) (match go1 x at_ t kn with
    |none=>false|some k1=>match go2 x at_ t k1 with
     |none=>false|some k2=>Jp l k2 (at_+1) k) false
def tE (c:Ah) (r:Nat):Bool:=Jp c.ins (fun j=>if j=(cm c r).toNat then some (0,false)else none) (cm c r).toNat ((cu c r).toNat-(cm c r).toNat)
def j7 (kn:Kn) (b:Nat):Prop:=∀j t,kn j=some t->0<=t.1/\t.1<=b
theorem Zo {kn k1:Kn} {at_ to:Nat} {now:Th} {b:Nat} (hk:j7 kn b) (hn:0<=now.1/\now.1<=b) (h:Pb kn at_ to now=some k1):j7 k1 b:=by
 unfold Pb at h;split at h
 ·split at h
  ·cases h;exact hk
  ·cases h
 ·split at h
  ·split at h
   ·cases h;exact hk
   ·cases h
  ·cases h
   intro j t hj;dsimp only at hj;split at hj
   ·cases hj;exact hn
   ·exact hk j t hj
def jS (l:List Ax) (fr to:Nat):Prop:=∀(a:Nat) (x:Ax),fr<=a->a<to->l[a]? =some x->(0<=B3 x/\B3 x<=1000)/\((Ec x).2=true->0<=(Ec x).1/\(Ec x).1<to)/\(a+1=to->x.op=24)
theorem FT {x:Ax} {t:Th} {b:Nat} (ht:0<=t.1/\t.1<=b) (hk:0<=B3 x) (hf:Gw x t=true):0<=(D6 x t).1/\(D6 x t).1<=(b+1:Nat):=by
 have hg:=FR x;have:0<=t.1-B3 x:=by
  unfold Gw at hf;cases hm:m3 x.op
  ·rw [hm]at hf;cases tC:(x.op==23)
   ·rw [tC]at hf;cases hc:D2 x.op
    ·rw [hc]at hf;cases ha:Gc x.op||(x.op==18)
     ·rw [ha]at hf;exact of_decide_eq_true hf
     ·rw [ha]at hf;simp at hf;omega
    ·rw [hc]at hf;simp at hf;omega
   ·rw [Vf (.inr tC)];omega
  ·rw [Vf (.inl hm)];omega
 unfold D6;simp only;omega
def Ny:Option Th->Ao
 |none=>⟨false,0,false⟩|some t=>⟨true,t.1,t.2⟩
def Rel (all:List Ao) (kn:Kn) (at_ n:Nat):Prop:=all.length=n+1/\∀j,at_<=j->j<=n->all[j]? =some (Ny (kn j))
theorem TC {a b:Th} :(((Ny (some a)).jc==(Ny (some b)).jc)&&(((Ny (some a)).n==(Ny (some b)).n)&&(((Ny (some a)).choose==(Ny (some b)).choose)&&true)))=decide (a=b):=by
 obtain⟨a1,a2⟩:=a;obtain⟨b1,b2⟩:=b;simp only [Ny];rw [Bool.eq_iff_iff];simp
theorem TD {all:List Ao} {kn:Kn} {a n:Nat} (hn:n<=100000) (hR:Rel all kn (a+1) n) {to:Int} (h0:0<=to) (h1:to<=n) (now:Th) (K:List Ao->Bool->Prop) (eU:Pb kn a to.toNat now=none->∀l,K l false) (l9:∀k1,Pb kn a to.toNat now=some k1->∀l,Rel l k1 (a+1) n->K l true):L6 all a to (Ny (some now)) K:=by
 obtain⟨t,rfl⟩:∃t:Nat,to=t:=⟨to.toNat,by omega⟩
 rw [toNat_natCast]at eU l9;unfold Pb at eU l9;refine Abr _ _ _ _ _ (Ab (fun hc=> ?_) fun hc=> ?_)
 ·have hc:t<=a:=by have:=of_decide_eq_true hc;omega
  rw [if_pos hc]at eU l9;have e:(((Ny (some now)).jc==true)&&(((Ny (some now)).n==0)&&(((Ny (some now)).choose==false)&&true)))=decide (now=(0,false)):=TC (a:=now) (b:=(0,false));rw [e];by_cases hz:now=(0,false)
  ·rw [if_pos hz]at l9;rw [decide_eq_true hz];exact l9 _ rfl _ hR
  ·rw [if_neg hz]at eU;rw [decide_eq_false hz];exact eU rfl _
 ·have hc:¬t<=a:=by have:=of_decide_eq_false hc;omega
  rw [if_neg hc]at eU l9;have aO:t<all.length:=by rw [hR.1];omega
  have hg:=hR.2 t (by omega) (by omega);rw [getElem?_eq_getElem aO]at hg;have hg:=Option.some.inj hg;refine Av aO ?_;cases hk:kn t with
  |some mE=>
   rw [hk]at hg eU l9;rw [hg];refine Ei rfl (Av aO ?_);rw [hg];have e:=TC (a:=mE) (b:=now);rw [e];by_cases hz:now=mE
   ·simp only [hz,if_true]at l9;rw [decide_eq_true hz.symm];exact l9 _ rfl _ hR
   ·simp only [hz,if_false]at eU;rw [decide_eq_false (fun e=>hz e.symm)];exact eU trivial _
  |none=>
   rw [hk]at hg eU l9;rw [hg];refine Eb rfl ⟨by rw [hR.1];omega,Av aO (l9 _ rfl _ ⟨by simp [hR.1],fun j vp vq=> ?_⟩)⟩;rw [toNat_natCast,getElem?_set];by_cases e:t=j
   ·subst e;rw [if_pos rfl,if_pos aO];simp only [if_true]
   ·rw [if_neg e];simp only [if_neg (fun h:j=t=>e h.symm)];exact hR.2 j vp vq
theorem Rel.mono {all:List Ao} {kn:Kn} {a b n:Nat} (h:Rel all kn a n) (hab:a<=b):Rel all kn b n:=⟨h.1,fun j hj hn=>h.2 j (Nat.le_trans hab hj) hn⟩
theorem Amn {x:Ax} {t:Th} (hf:Gw x t=true):cond t.2 true (x.op==25)=(D6 x t).2:=by
 unfold D6;unfold Gw at hf;cases hm:m3 x.op
 ·have:(x.op==25)=false:=by unfold m3 at hm;simp at hm⊢;omega
  rw [this];cases t.2<;>rfl
 ·rw [hm]at hf;simp only [cond_true,and_eq_true,not_eq_true']at hf;rw [hf.2];rfl
theorem Auy {x:Ax} {o:Option Th} {t:Th} (h:Yt x o=some t):(⟨true,(Ny o).n,(Ny o).choose⟩:Ao)=Ny (some t):=by
 unfold Yt at h;cases o with
 |some u=>cases h;rfl
 |none=>
  simp only at h;split at h
  ·cases h;rfl
  ·cases h
theorem Vg {l:List Ao} {a:Nat} {x:Ao} (h:a<l.length):(l.set a x)[a]? =some x:=by rw [getElem?_set,if_pos rfl,if_pos h]
set_option maxHeartbeats 1000000 in
theorem Axa {c:Ah} (T:ir c) {r:Nat} (hr:r<c.defs.length) (hI:jS c.ins (cm c r).toNat (cu c r).toNat) (K:List Ao->Int->Prop) (h:∀l (i:Int),decide (i>=0)= !tE c r->K l i):S6 c r K:=by
 have S_:=T.ni;have zb:=T.qo hr;have FV:=T.wm hr;have zd:=T.tz r;have hw:IntKind.i64.wrap ((c.ins.length:Int)+1)=(c.ins.length+1:Nat):=by rw [A0 (by omega) (by omega)];omega
 have jL:cm c r=c.defs[r].entry:=by unfold cm;rw [getElem?_eq_getElem hr];rfl
 obtain⟨f,hf⟩:∃f:Nat,cm c r=f:=⟨(cm c r).toNat,by omega⟩
 obtain⟨e,he⟩:∃e:Nat,cu c r=e:=⟨(cu c r).toNat,by omega⟩
 have hfe:f<e:=by omega
 have o4:e<=c.ins.length:=by omega
 unfold tE at h;rw [hf,he,toNat_natCast,toNat_natCast]at h hI;generalize hR:Jp c.ins (fun j=>if j=f then some (0,false)else none) f (e-f)=R at h;refine Adr _ _ _ ?_;unfold Ut;rw [hw,toNat_natCast];refine⟨⟨by omega,by omega⟩,Av hr ?_⟩;rw [←jL,hf,toNat_natCast];refine⟨⟨by omega,by omega⟩,fun x1 ph=>Av hr ?_⟩;rw [←jL,hf];obtain rfl:x1=⟨false,0,false⟩:=by
  rw [List.getElem?_replicate]at ph;split at ph
  ·exact(Option.some.inj ph).symm
  ·cases ph
 refine⟨fun all at_ n=>∃(a:Nat) (kn:Kn),at_=a/\f<=a/\a<=e/\n=e-a/\Rel all kn a c.ins.length/\j7 kn a/\Jp c.ins kn a (e-a)=R,⟨_,f,_,rfl,le_refl _,by omega,rfl,⟨by simp,fun j vp vq=> ?_⟩,?_,hR⟩,?_⟩
 ·rw [toNat_natCast,getElem?_set];by_cases e:f=j
  ·subst e;rw [if_pos rfl,if_pos (by rw [List.length_replicate];omega)];simp only [if_true];rfl
  ·rw [if_neg e];simp only [if_neg (fun h:j=f=>e h.symm)];rw [List.getElem?_replicate,if_pos (by omega)];rfl
 ·intro j t hj;dsimp only at hj;split at hj
  ·cases hj;exact⟨Int.le_refl _,by omega⟩
  ·cases hj
 rintro all _ _ ⟨a,kn,rfl,nx,FW,rfl,wq,hB,cS⟩;refine y_ c (by have:=T.n2;omega) hr _ ?_;rw [he];refine At.cond FW (fun aO=> ?_) fun heq=> ?_
 ·have gV:a<c.ins.length:=by omega
  have ze:a<all.length:=by rw [wq.1];omega
  obtain⟨q,hq⟩:∃q,e-a=q+1:=⟨e-a-1,by omega⟩
  have pb:=wq.2 a (le_refl _) (by omega);rw [getElem?_eq_getElem ze]at pb;have pb:=Option.some.inj pb;obtain⟨x,hx⟩:∃x,c.ins[a]=x:=⟨_,rfl⟩
  obtain⟨⟨kU,iM⟩,rL,pd⟩:=hI a x nx aO (by rw [getElem?_eq_getElem gV,hx]);rw [hq,Jp,getElem?_eq_getElem gV,hx]at cS;simp only at cS;have tf:∀(l:List Ao) (k2:Kn),Rel l k2 (a+1) c.ins.length->j7 k2 (a+1)->Jp c.ins k2 (a+1) q=R->
   ∃n1,n1<e-a/\∃(b:Nat) (kn:Kn),IntKind.i64.wrap ((a:Int)+1)=b/\f<=b/\b<=e/\n1=e-b/\Rel l kn b c.ins.length/\j7 kn b/\Jp c.ins kn b (e-b)=R:=fun l k2 h1 h2 h3=>
   ⟨e-(a+1),by omega,a+1,k2,by rw [A0 (by omega) (by omega)];omega,by omega,by omega,rfl,h1,h2,by rw [show e-(a+1)=q by omega];exact h3⟩
  have rM:∀ {k:Kn},j7 k a->j7 k (a+1):=fun h j t hj=>by have:=h j t hj;omega
  refine⟨fun l=>∃k2,Rel l k2 (a+1) c.ins.length/\j7 k2 (a+1)/\Jp c.ins k2 (a+1) q=R,?_,fun l ⟨k2,h1,h2,h3⟩=>tf l k2 h1 h2 h3⟩;refine B9 (Yt x (kn a)).isNone (Av ze ?_) ?_
  ·rw [pb];unfold Yt;cases kn a with
   |some t=>rfl
   |none=>
    refine Ei rfl (Av gV ?_);rw [hx];by_cases e1:x.op=1
    ·simp [e1]
    ·simp [e1]
  ·cases hc:Yt x (kn a)with
   |none=>
    rw [hc]at cS;exact⟨kn,wq.mono (by omega),rM hB,cS⟩
   |some t=>
    rw [hc]at cS;simp only at cS;refine Eb rfl (Av ze (Av gV ?_));rw [pb,hx,Auy hc,toNat_natCast];have nQ:=Vg (x:=Ny (some t)) ze;have ht:0<=t.1/\t.1<=a:=by
     unfold Yt at hc;cases l_:kn a with
     |some u=>rw [l_]at hc;cases hc;exact hB _ _ l_
     |none=>
      rw [l_]at hc;simp only at hc;split at hc
      ·cases hc;exact⟨Int.le_refl _,by omega⟩
      ·cases hc
    refine B9 (!Gw x t) ⟨⟨by omega,by omega⟩,fun ae TE=> ?_⟩ ?_
    ·rw [nQ]at TE;cases TE
     exact Aw9 x _ ⟨ht.1,by show t.1<=_;omega⟩ ⟨kU,iM⟩ _ rfl
    ·cases gJ:Gw x t with
     |false=>
      rw [gJ]at cS;exact h _ _ (by rw [←cS];simp)
     |true=>
      rw [gJ,cond_true]at cS;have tF:=FT ht kU gJ;have hg:=FR x;have TF:Rel (all.set a (Ny (some t))) kn (a+1) c.ins.length:=⟨by simp [wq.1],fun j hj hn=>by rw [getElem?_set,if_neg (by omega)];exact wq.2 j (by omega) hn⟩
      refine Eb rfl ⟨fun co n ch=>co=true/\n=(D6 x t).1/\ch=(D6 x t).2,⟨⟨by omega,by omega⟩,fun ad TG=>⟨⟨by omega,by omega⟩,fun ai TH=>SQ _ _ (Aus _ _ ?_)⟩⟩,?_⟩
      ·rw [nQ]at TG TH;cases TG
       cases TH
       have e1:IntKind.i64.wrap (IntKind.i64.wrap ((Ny (some t)).n-B3 x)+Lf x)=(D6 x t).1:=by
        show IntKind.i64.wrap (IntKind.i64.wrap (t.1-B3 x)+Lf x)=t.1-B3 x+Lf x
        rw [A0 (n:=t.1-B3 x) (by omega) (by omega),A0 (by omega) (by omega)]
       rw [e1];have e2:=Amn gJ;show cond t.2 _ _
       cases h2:t.2
       ·rw [h2]at e2;exact⟨rfl,rfl,e2⟩
       ·rw [h2]at e2;exact⟨rfl,rfl,e2⟩
      ·rintro _ _ _ ⟨rfl,rfl,rfl⟩;have tG:∀(l:List Ao),R=false->K l a:=fun l e=>h _ _ (by rw [e];simp)
       refine⟨fun l ok=>(ok=false/\R=false)\/(ok=true/\∃k1,go1 x a t kn=some k1/\Rel l k1 (a+1) c.ins.length/\j7 k1 (a+1)),SO _ _ ?_,?_⟩
       ·unfold go1;cases wt:(Ec x).2 with
        |false=>exact .inr ⟨rfl,kn,by simp,TF,rM hB⟩
        |true=>
         obtain⟨g0,g1⟩:=rL wt;unfold go1 at cS;rw [wt,cond_true]at cS;refine Ei rfl ⟨fun co n ch=>(⟨co,n,ch⟩:Ao)=Ny (some (cond (D2 x.op) (0,false) (D6 x t))),Tj _ _ ?_,?_⟩
         ·cases D2 x.op<;>rfl
         ·intro co n ch hco;rw [hco];refine TD (by omega) TF g0 (by omega) _ _ (fun hn l=> .inl ⟨rfl,?_⟩) fun k1 hk l hl=> .inr ⟨rfl,k1,hk,hl,?_⟩
          ·rw [hn]at cS;exact cS.symm
          ·refine Zo (rM hB) ?_ hk;cases D2 x.op
           ·exact tF
           ·exact⟨Int.le_refl _,by show(0:Int)<=_;omega⟩
       ·rintro je ok (⟨rfl,nF⟩|⟨rfl,k1,Brk,TI,TJ⟩)
        ·exact tG _ nF
        ·rw [Brk]at cS;simp only at cS;refine Eb rfl ⟨fun l ok=>(ok=false/\R=false)\/(ok=true/\∃k2,go2 x a t k1=some k2/\Rel l k2 (a+1) c.ins.length/\j7 k2 (a+1)),B9 (Tn x.op) ?_ ?_,?_⟩
         ·unfold Tn;cases x.op !=6<;>cases x.op !=18<;>cases x.op !=23<;>rfl
         ·unfold go2;cases nx:Tn x.op with
          |false=>exact .inr ⟨rfl,k1,by simp,TI,TJ⟩
          |true=>
           have bZ:a+1≠e:=fun e1=>by
            have:=pd e1;rw [this]at nx;cases nx
           unfold go2 at cS;rw [nx,cond_true]at cS;rw [A0 (by omega) (by omega)];have e1:(⟨true,(D6 x t).1,(D6 x t).2⟩:Ao)=Ny (some (D6 x t)):=rfl;rw [e1];refine Ei rfl (TD (by omega) TI (by omega) (by omega) _ _ (fun hn l=> .inl ⟨rfl,?_⟩) fun k2 hk l hl=> .inr ⟨rfl,k2,?_,hl,?_⟩)
           ·rw [show((a:Int)+1).toNat=a+1 by omega]at hn;rw [hn]at cS;exact cS.symm
           ·rw [show((a:Int)+1).toNat=a+1 by omega]at hk;exact hk
           ·exact Zo TJ tF hk
         ·rintro kJ ok (⟨rfl,nF⟩|⟨rfl,k2,g_,Bpm,y2⟩)
          ·exact tG _ nF
          ·rw [g_]at cS;exact⟨k2,Bpm,y2,cS⟩
 ·subst heq;rw [sub_self,Jp]at cS;exact h _ _ (by rw [←cS];simp)
abbrev qp (f:FuncId) (a:Array Value) (w:World) (K:Value->World->Prop):Prop:=Calls Tryz.prog f a w (aN K)
def Q2 (x0:Addr) (K:Value->World->Prop) (w:World):Prop:=∀(x1:Nat) (w1:World),x1=w.heap.size->w1=w.alloc (.map #[] 0)->∃x2,w1.cell? (x0.add 6)=some (.int .i64 x2)/\Bl Tryz.prog (Instr.mapUpdate 187 (.map (some x1)) (.int .i64 x2) (.agg #[.int .i64 0,.bool false])) (fun _ w2=>∀(x4:Nat) (w3:World),x4=w2.heap.size->w3=w2.alloc (.cells #[.map none] 187)->Ag w3 (Zb x4) 1/\∀w4:World,w4=w3.setCell (Zb x4) (.map (some x1))->∃x5,w4.cell? (x0.add 6)=some (.int .i64 x5)/\∀(x6:Nat) (w5:World),x6=w4.heap.size->w5=w4.alloc (.cells #[.int .i64 0] 3)->Ag w5 (Zb x6) 1/\∀w6:World,w6=w5.setCell (Zb x6) (.int .i64 x5)->∃(I:Option Addr->World->Prop) (x7:Option Addr->World->Nat),I (some (Zb x6)) w6/\∀(_x8:Nat->Value) (x9:Option Addr) (w7:World),I x9 w7->∀w8:World,w8=w7.drew->Aj x9 (fun ae=>∃aa,w8.cell? ae=some (.int .i64 aa)/\∃ad,w8.cell? (x0.add 7)=some (.int .i64 ad)/\cond (decide (aa<ad)) (∃(J:World->Prop),(∃ai,w8.cell? (Zb x4)=some (.map ai)/\Aj x9 (fun ah=>∃ag,w8.cell? ah=some (.int .i64 ag)/\Bl Tryz.prog (Instr.lookup 187 (.map ai) (.int .i64 ag) true) (fun aj w9=>∃aw ak ay,aj= .tuple #[.agg #[.int .i64 aw,.bool ak],.bool ay]/\∀(aA:Nat) (aK:World),aA=w9.heap.size->aK=w9.alloc (.cells #[.int .i64 0,.bool false] 186)->Ag aK (Zb aA) 2/\∀aF:World,aF=setCells aK (Zb aA) [.int .i64 aw,.bool ak]->∃(J1:Option Addr->World->Prop),(∀aZ:World,aZ=aF.drew->∃(S:World->Prop),S aZ/\∃aB aE ax,(∀u:World,S u->u.cell? x0=some (.slice aB aE ax))/\Aj x9 (fun aD=>∃aM,(∀u:World,S u->u.cell? aD=some (.int .i64 aM))/\((0:Int)<=aM/\aM<(aE:Int))/\Aj aB (fun aH=>∃ar bf a_,(∀u:World,S u->Ad u (aH.add (aM.toNat*3)) [.int .i64 ar,.int .i64 bf,.int .i64 a_])/\∀(aG:Nat) (bB:World),aG=aZ.heap.size->bB=aZ.alloc (.cells #[.int .i64 0,.int .i64 0,.int .i64 0] 95)->S bB/\Ag bB (Zb aG) 3/\∀aU:World,aU=setCells bB (Zb aG) [.int .i64 ar,.int .i64 bf,.int .i64 a_]->J1 (some (Zb aG)) aU)))/\∀(_x31:Nat->Value) bh bV,J1 bh bV->∃(J2:Bool->World->Prop),(cond (!ay) (Aj bh (fun bc=>∃bk,bV.cell? bc=some (.int .i64 bk)/\J2 (bk !=1) bV)) (J2 false bV))/\∀(_x35:Nat->Value) aQ ck,J2 aQ ck->cond (aQ) (J ck) (Aj bh (fun bK=>∃bQ bE bj,Ad ck bK [.int .i64 bQ,.int .i64 bE,.int .i64 bj]/\∃bN bS,Ad ck (Zb aA) [.int .i64 bN,.bool bS]/\qp 116 #[.agg #[.int .i64 bQ,.int .i64 bE,.int .i64 bj],.agg #[.int .i64 bN,.bool bS]] ck (fun bD dh=>∃bW bn bO,bD= .tuple #[.agg #[.int .i64 bW,.bool bn],.bool bO]/\∀(bM:Nat) (cG:World),bM=dh.heap.size->cG=dh.alloc (.cells #[.int .i64 0,.bool false] 186)->∀(bR:Nat) (eR:World),bR=cG.heap.size->eR=cG.alloc (.cells #[.bool false] 4)->Ag eR (Zb bM) 2/\∀eE:World,eE=setCells eR (Zb bM) [.int .i64 bW,.bool bn]->Ag eE (Zb bR) 1/\∀gT:World,gT=eE.setCell (Zb bR) (.bool bO)->∃(J3:World->Prop),(Aj bh (fun b_=>∃ca b9 cr,Ad gT b_ [.int .i64 ca,.int .i64 b9,.int .i64 cr]/\qp 111 #[.agg #[.int .i64 ca,.int .i64 b9,.int .i64 cr]] gT (fun cA fF=>∃ct cv,cA= .tuple #[.int .i64 ct,.bool cv]/\∃(J4:Bool->World->Prop),(cond (cv) (∃cB,fF.cell? (Zb bR)=some (.bool cB)/\J4 cB fF) (J4 false fF))/\∀(_x57:Nat->Value) cN iU,J4 cN iU->cond (cN) (Aj bh (fun cJ=>∃cU,iU.cell? cJ=some (.int .i64 cU)/\qp 115 #[.int .i64 cU] iU (fun di iV=>∃cX,di= .bool cX/\cond (cX) (qp 117 #[.int .i64 ct,.agg #[.int .i64 0,.bool false],.pointer (some (Zb x4)),.pointer x9,.pointer (some (Zb bR))] iV (fun _x63 ja=>J3 ja)) (∃dG cK,Ad iV (Zb bM) [.int .i64 dG,.bool cK]/\qp 117 #[.int .i64 ct,.agg #[.int .i64 dG,.bool cK],.pointer (some (Zb x4)),.pointer x9,.pointer (some (Zb bR))] iV (fun _x66 lk=>J3 lk))))) (J3 iU))))/\∀(_x67:Nat->Value) iD,J3 iD->∃(J5:World->Prop),(∃(J6:Bool->World->Prop),(∃dy,iD.cell? (Zb bR)=some (.bool dy)/\cond (dy) (Aj bh (fun dL=>∃dV,iD.cell? dL=some (.int .i64 dV)/\cond (dV !=6) (Aj bh (fun ev=>∃dW,iD.cell? ev=some (.int .i64 dW)/\cond (dW !=18) (Aj bh (fun eB=>∃eg,iD.cell? eB=some (.int .i64 eg)/\cond (eg !=23) (Aj bh (fun dY=>∃eP,iD.cell? dY=some (.int .i64 eP)/\J6 (eP !=24) iD)) (J6 false iD))) (J6 false iD))) (J6 false iD))) (J6 false iD))/\∀(_x77:Nat->Value) eX iW,J6 eX iW->cond (eX) (Aj x9 (fun eH=>∃ei,iW.cell? eH=some (.int .i64 ei)/\∃dJ eC,Ad iW (Zb bM) [.int .i64 dJ,.bool eC]/\qp 117 #[.int .i64 (IntKind.i64.wrap (ei+1)),.agg #[.int .i64 dJ,.bool eC],.pointer (some (Zb x4)),.pointer x9,.pointer (some (Zb bR))] iW (fun _x83 pQ=>J5 pQ))) (J5 iW))/\∀(_x84:Nat->Value) ks,J5 ks->∃ew,ks.cell? (Zb bR)=some (.bool ew)/\cond (!ew) (Aj x9 (fun eY=>∃eZ,ks.cell? eY=some (.int .i64 eZ)/\K (.tuple #[.int .i64 eZ,.bool false]) ks)) (J ks))))) w8))/\∀(_x88:Nat->Value) lS,J lS->Aj x9 (fun eD=>∃dZ,lS.cell? eD=some (.int .i64 dZ)/\∀(dK:Nat) (oE:World),dK=lS.heap.size->oE=lS.alloc (.cells #[.int .i64 0] 3)->Ag oE (Zb dK) 1/\∀oG:World,oG=oE.setCell (Zb dK) (.int .i64 dZ)->∃eJ,oG.cell? (Zb dK)=some (.int .i64 eJ)/\Ag oG (Zb dK) 1/\∀nT:World,nT=oG.setCell (Zb dK) (.int .i64 (IntKind.i64.wrap (eJ+1)))->I (some (Zb dK)) nT/\x7 (some (Zb dK)) nT<x7 x9 w7)) (K (.tuple #[.int .i64 0,.bool true]) w8))) w1
theorem Q3 (x0:Addr) (K:Value->World->Prop) (w:World) (h:Q2 x0 K w):Calls Tryz.prog 58 #[.pointer (some x0)] w (aN K):=
 Af { loops:=[(58,[(5,.pointer)])],dx:=[(233,[]),(1865,[(8,.pointer)]),(7462,[(53,.bool)]),(29855,[]),(59711,[]),(119421,[(69,.bool)]),(119422,[(101,.bool)])] } Tryz.func58 (by kernel_rfl) h
def Oz (x0:Int) (x1:Int) (x2:Bool) (x3:Addr) (x4:Addr) (x5:Addr) (K:Value->World->Prop) (w:World):Prop:=∀(x6:Nat) (w1:World),x6=w.heap.size->w1=w.alloc (.cells #[.int .i64 x1,.bool x2] 186)->∃x7,w1.cell? x3=some (.map x7)/\Bl Tryz.prog (Instr.lookup 187 (.map x7) (.int .i64 x0) true) (fun x8 w2=>∃x9 ae aa,x8= .tuple #[.agg #[.int .i64 x9,.bool ae],.bool aa]/\∀(ad:Nat) (w3:World),ad=w2.heap.size->w3=w2.alloc (.cells #[.int .i64 0,.bool false] 186)->Ag w3 (Zb ad) 2/\∀w4:World,w4=setCells w3 (Zb ad) [.int .i64 x9,.bool ae]->∃ai,w4.cell? x4=some (.int .i64 ai)/\cond (decide (x0<=ai)) (∃ah,w4.cell? x5=some (.bool ah)/\cond (ah) (∃ag aj,Ad w4 (Zb x6) [.int .i64 ag,.bool aj]/\Ag w4 x5 1/\∀w5:World,w5=w4.setCell x5 (.bool ((ag==0)&&((aj==false)&&true)))->K (.tuple #[]) w5) (Ag w4 x5 1/\∀w6:World,w6=w4.setCell x5 (.bool false)->K (.tuple #[]) w6)) (cond (aa) (∃aw,w4.cell? x5=some (.bool aw)/\cond (aw) (∃ak ay,Ad w4 (Zb x6) [.int .i64 ak,.bool ay]/\∃aA aB,Ad w4 (Zb ad) [.int .i64 aA,.bool aB]/\Ag w4 x5 1/\∀w7:World,w7=w4.setCell x5 (.bool ((ak==aA)&&((ay==aB)&&true)))->K (.tuple #[]) w7) (Ag w4 x5 1/\∀w8:World,w8=w4.setCell x5 (.bool false)->K (.tuple #[]) w8)) (∃aE,w4.cell? x3=some (.map aE)/\∃ax aD,Ad w4 (Zb x6) [.int .i64 ax,.bool aD]/\Bl Tryz.prog (Instr.mapUpdate 187 (.map aE) (.int .i64 x0) (.agg #[.int .i64 ax,.bool aD])) (fun _ w9=>K (.tuple #[]) w9) w4))) w1
theorem O0 (x0:Int) (x1:Int) (x2:Bool) (x3:Addr) (x4:Addr) (x5:Addr) (K:Value->World->Prop) (w:World) (h:Oz x0 x1 x2 x3 x4 x5 K w):Calls Tryz.prog 117 #[.int .i64 x0,.agg #[.int .i64 x1,.bool x2],.pointer (some x3),.pointer (some x4),.pointer (some x5)] w (aN K):=
 Af {} Tryz.func117 (by kernel_rfl) h
def Acs (x0:Option Addr) (x1:Nat) (x2:Nat) (x3:Option Addr) (x4:Nat) (x5:Nat) (x6:Option Addr) (x7:Nat) (x8:Nat) (x9:Int) (ae:Int) (aa:Int) (K:Value->World->Prop) (w:World):Prop:=∀(ad:Nat) (w1:World),ad=w.heap.size->w1=w.alloc (.cells #[.slice x0 x1 x2,.slice x3 x4 x5,.slice x6 x7 x8,.int .i64 x9,.int .i64 ae] 26)->∃ai ah ag aj aw ak ay aA aB aE ax,Ad w1 (Zb ad) [.slice ai ah ag,.slice aj aw ak,.slice ay aA aB,.int .i64 aE,.int .i64 ax]/\qp 23 #[.agg #[.slice ai ah ag,.slice aj aw ak,.slice ay aA aB,.int .i64 aE,.int .i64 ax]] w1 (fun aD w2=>∃aM aH,aD= .tuple #[.int .i64 aM,.int .i64 aH]/\cond (aH !=0) (K (.tuple #[.pointer none,.int .i64 aH]) w2) (∀(_x27:Nat->Value),cond (((decide (aa<0))||(decide (aa>1048576)))) (K (.tuple #[.pointer none,.int .i64 1]) w2) (∃bf a_ aG aR bh bc bk bJ aQ bK bQ,Ad w2 (Zb ad) [.slice bf a_ aG,.slice aR bh bc,.slice bk bJ aQ,.int .i64 bK,.int .i64 bQ]/\qp 24 #[.agg #[.slice bf a_ aG,.slice aR bh bc,.slice bk bJ aQ,.int .i64 bK,.int .i64 bQ]] w2 (fun bE w3=>∃bj bN bS bD bW bn bO bM bR b_ ca,bE= .agg #[.slice bj bN bS,.slice bD bW bn,.slice bO bM bR,.int .i64 b_,.int .i64 ca]/\∀(b9:Nat) (w4:World),b9=w3.heap.size->w4=w3.alloc (.cells #[.slice bj bN bS,.slice bD bW bn,.slice bO bM bR,.int .i64 b_,.int .i64 ca,.int .i64 aa] 64)->K (.tuple #[.pointer (some (Zb b9)),.int .i64 0]) w4))))
theorem Acu (x0:Option Addr) (x1:Nat) (x2:Nat) (x3:Option Addr) (x4:Nat) (x5:Nat) (x6:Option Addr) (x7:Nat) (x8:Nat) (x9:Int) (ae:Int) (aa:Int) (K:Value->World->Prop) (w:World) (h:Acs x0 x1 x2 x3 x4 x5 x6 x7 x8 x9 ae aa K w):Calls Tryz.prog 8 #[.agg #[.slice x0 x1 x2,.slice x3 x4 x5,.slice x6 x7 x8,.int .i64 x9,.int .i64 ae],.int .i64 aa] w (aN K):=
 Af { jl:=[(28,[21])] } Tryz.func8 (by kernel_rfl) h
def kz (t:Th):Value:= .agg #[.int .i64 t.1,.bool t.2]
def fw (L:List (Int×Th)):Kn:=fun j=>G4 L (j:Int)
def tH (L:List (Int×Th)) (a to:Int) (now:Th) (ok:Bool):List (Int×Th)×Bool:=
 if to<=a then(L,ok&&decide (now=(0,false)))else match G4 L to with
  |some mE=>(L,ok&&decide (now=mE))|none=>(L++[(to,now)],ok)
section
variable {n0:Nat} {rs m0:List Nat} {fr:List (List Nat×Nat×World)} {ds:List Nat} {w:World} {ps:List Pc}
theorem TK (a b:Th):((a.1==b.1)&&((a.2==b.2)&&true))=decide (a=b):=by
 obtain⟨a1,a2⟩:=a;obtain⟨b1,b2⟩:=b;rw [Bool.eq_iff_iff];simp
theorem Vh {α:Type} {l:List α} {k:Nat} {x:α} (h:l[k]? =some x):l.set k x=l:=by
 apply List.ext_getElem?;intro i;rw [getElem?_set];split
 ·rename_i e;subst e;rw [if_pos (List.getElem?_eq_some_iff.1 h).1,h]
 ·rfl
theorem TL {w':World} (o:Mem n0 rs m0 fr ds w ps) (k:Nat) {b:Nat} {ob:Obj} {eS:List (Int×Value)} (hk:ps[k]? =some (.raw b ob)) (hK:Ai [b] w w') (hm:w'.heap[b]? =some (Lq (Nn .i64) eS)):Step (ms ps m0) w (ms (ps.set k (.raw b (Lq (Nn .i64) eS))) m0) w'/\Mem n0 rs m0 fr ds w' (ps.set k (.raw b (Lq (Nn .i64) eS))):=
 ⟨Mem.Bk7 (Nn .i64) k hk hK,o.Bl4 (Nn .i64) k hk hK hm⟩
set_option maxHeartbeats 1000000 in
theorem FX (o:Mem n0 rs m0 fr ds w ps) {b b1 ba b6:Nat} {L:List (Int×Th)} {a:Int} {ok:Bool} (k1 k2 k3 k4:Nat) (h1:ps[k1]? =some (.raw b (Lq (Nn .i64) (Rs kz L)))) (h2:ps[k2]? =some (.box b1 [.map (some b)])) (h3:ps[k3]? =some (.box ba [.int .i64 a])) (h4:ps[k4]? =some (.box b6 [.bool ok])) (to:Int) (now:Th) (K:World->Prop) (hK:∀w' L' iI,(L',iI)=tH L a to now ok->Mem n0 rs m0 fr ds w' ((ps.set k1 (.raw b (Lq (Nn .i64) (Rs kz L')))).set k4 (.box b6 [.bool iI]))->Step (ms ps m0) w (ms ((ps.set k1 (.raw b (Lq (Nn .i64) (Rs kz L')))).set k4 (.box b6 [.bool iI])) m0) w'->K w'): Calls Tryz.prog 117 #[.int .i64 to,.agg #[.int .i64 now.1,.bool now.2],.pointer (some ⟨b1,0,none⟩),.pointer (some ⟨ba,0,none⟩),.pointer (some ⟨b6,0,none⟩)] w (aN fun _ w'=>K w'):=by
 have hz:∀w:World,(zeroValue 186).run Tryz.prog w= .ok (kz (0,false)) w:=fun w=>by kernel_rfl
 refine O0 _ _ _ _ _ _ _ _ ?_;intro b' w1 BE aX;obtain⟨au,o⟩:=o.dB BE aX;refine⟨_,(o.at (k2+1) h2).cell rfl,?_⟩;refine OV (E:=Nn .i64) (f:=kz) (L:=L) (z:=(0,false)) (o.yx (k1+1) h1) Tryz.underlying187 Tryz.underlying3 (hz w1) to ?_;refine⟨_,_,_,rfl,?_⟩;intro b'' w3 Brl ez;obtain⟨aY,o⟩:=o.dB Brl ez;refine⟨o.wr 0 rfl rfl,fun w4 dg=> ?_⟩;obtain⟨bg,o⟩:=o.dz 0 dg rfl;have py:=(au.trans aY).trans bg;have fin:∀ {w5:World} {iI:Bool},w5=w4.setCell ⟨b6,0,none⟩ (.bool iI)->(L,iI)=tH L a to now ok->K w5:=by
  intro w5 iI dI he;obtain⟨bu,o⟩:=o.dS (k4+2) dI h4;obtain⟨bP,o⟩:=o.dX 0;obtain⟨bH,o⟩:=o.dX 0;have o:Mem n0 rs m0 fr ds w5 (ps.set k4 (.box b6 [.bool iI])):=o;have st:Step (ms ps m0) w (ms (ps.set k4 (.box b6 [.bool iI])) m0) w5:=((py.trans bu).trans bP).trans bH;rw [←Vh h1]at o;refine hK _ _ _ he o ?_;rw [Vh h1];exact st
 refine⟨_,(o.at (k3+2) h3).cell rfl,?_⟩;unfold tH at fin hK;refine Ab (fun hc=> ?_) fun hc=> ?_
 ·have hc:=of_decide_eq_true hc;rw [if_pos hc]at fin;refine⟨_,(o.at (k4+2) h4).cell rfl,Ab (fun eu=> ?_) fun eu=> ?_⟩
  ·refine⟨_,_,(o.at 1 rfl).whole,o.wr (k4+2) h4 rfl,fun w5 dI=>fin dI ?_⟩;rw [eu,Bool.true_and];exact congrArg _ (TK now (0,false))
  ·refine⟨o.wr (k4+2) h4 rfl,fun w5 dI=>fin dI ?_⟩;rw [eu];rfl
 ·have hc:=of_decide_eq_false hc;rw [if_neg hc]at fin hK;cases hg:G4 L to with
  |some mE=>
   rw [hg]at fin;refine Ei rfl ⟨_,(o.at (k4+2) h4).cell rfl,Ab (fun eu=> ?_) fun eu=> ?_⟩
   ·refine⟨_,_,(o.at 1 rfl).whole,_,_,(o.at 0 rfl).whole,o.wr (k4+2) h4 rfl,fun w5 dI=>fin dI ?_⟩;rw [eu];show(L,_)=(L,true&&decide (now=mE))
    rw [Bool.true_and,hg];exact congrArg _ (TK now mE)
   ·refine⟨o.wr (k4+2) h4 rfl,fun w5 dI=>fin dI ?_⟩;rw [eu];rfl
  |none=>
   refine Eb rfl ⟨_,(o.at (k2+2) h2).cell rfl,_,_,(o.at 1 rfl).whole,?_⟩;refine OT (E:=Nn .i64) (s:=to) (o.yx (k1+2) h1) Tryz.underlying187 Tryz.underlying3 (by rw [OU,hg];rfl) fun w9 hk hm=> ?_
   rw [show(Value.agg #[.int .i64 now.1,.bool now.2])=kz now from rfl,OS]at hm;obtain⟨bu,o⟩:=TL o (k1+2) h1 hk hm;obtain⟨bP,o⟩:=o.dX 0;obtain⟨bH,o⟩:=o.dX 0;have o:Mem n0 rs m0 fr ds w9 (ps.set k1 (.raw b (Lq (Nn .i64) (Rs kz (L++[(to,now)]))))):=o;have st:Step (ms ps m0) w (ms (ps.set k1 (.raw b (Lq (Nn .i64) (Rs kz (L++[(to,now)]))))) m0) w9:=((py.trans bu).trans bP).trans bH;have bZ:k1≠k4:=fun e=>by rw [e,h4]at h1;cases h1
   have TM:(ps.set k1 (.raw b (Lq (Nn .i64) (Rs kz (L++[(to,now)])))))[k4]? =some (.box b6 [.bool ok]):=by rw [getElem?_set,if_neg bZ];exact h4
   refine hK w9 (L++[(to,now)]) ok ?_ ?_ ?_
   ·rw [hg]
   ·rw [Vh TM];exact o
   ·rw [Vh TM];exact st
end
theorem Ar2 {L:List (Int×Th)} {s x:Int} {v:Th} (h:G4 L s=none):G4 (L++[(s,v)]) x=if x=s then some v else G4 L x:=by
 unfold G4 at h⊢;rw [List.find?_append];by_cases e:x=s
 ·subst e;rw [if_pos rfl];have:L.find? (·.1==x)=none:=by simpa using h
  rw [this];simp
 ·rw [if_neg e];have hn:([(s,v)]:List (Int×Th)).find? (·.1==x)=none:=by simp;exact fun h=>e h.symm
  rw [hn,Option.or_none]
theorem TN {L L1:List (Int×Th)} {a:Nat} {to:Int} {now:Th} {eM:Bool} (h0:0<=to) (h:(L1,eM)=tH L a to now true):
 (eM=true/\Pb (fw L) a to.toNat now=some (fw L1))\/(eM=false/\Pb (fw L) a to.toNat now=none):=by
 obtain⟨t,rfl⟩:∃t:Nat,to=t:=⟨to.toNat,by omega⟩
 rw [toNat_natCast];unfold tH at h;unfold Pb;by_cases hc:t<=a
 ·rw [if_pos (by omega)]at h;rw [if_pos hc];cases h
  by_cases hz:now=(0,false)
  ·rw [if_pos hz,decide_eq_true hz];exact .inl ⟨rfl,rfl⟩
  ·rw [if_neg hz,decide_eq_false hz];exact .inr ⟨rfl,rfl⟩
 ·rw [if_neg (by omega)]at h;rw [if_neg hc];cases hg:G4 L (t:Int)with
  |some mE=>
   rw [hg]at h;cases h
   rw [show fw L t=some mE from hg];by_cases hz:now=mE
   ·simp only [hz,if_true];exact .inl ⟨by simp,trivial⟩
   ·simp only [hz,if_false];exact .inr ⟨by simp,trivial⟩
  |none=>
   rw [hg]at h;cases h
   rw [show fw L t=none from hg];refine .inl ⟨rfl,congrArg some ?_⟩;funext j;show _=G4 _ _
   rw [Ar2 hg];by_cases e:j=t
   ·rw [if_pos e,if_pos (by omega)]
   ·rw [if_neg e,if_neg (by omega)];rfl
section
variable {n0:Nat} {rs m0:List Nat} {fr:List (List Nat×Nat×World)} {ds:List Nat} {w w':World} {ps:List Pc}
theorem Aos (o:Mem n0 rs m0 fr ds w ps) {b:Nat} (hb:b=w.heap.size) (e:w'=w.alloc (.map #[] 0)):Step (ms ps m0) w (ms (.raw b (Lq (Nn .i64) (Rs kz []))::ps) m0) w'/\Mem n0 rs m0 fr ds w' (.raw b (Lq (Nn .i64) (Rs kz []))::ps):=
 ⟨Mem.Bk6 (Nn .i64) kz hb e,o.Bl3 (Nn .i64) kz hb e⟩
end
def PL (b b1 bC:Nat) (Q:List Value) (ba:Nat) (a:Int) (L:List (Int×Th)):List Pc:=[.box ba [.int .i64 a],.box b1 [.map (some b)],.raw b (Lq (Nn .i64) (Rs kz L)),.box bC Q]
def ll (t:Th):List Value:=[.int .i64 t.1,.bool t.2]
def FY (x:Ax):List Value:=[.int .i64 x.op,.int .i64 x.a,.int .i64 x.b]
def PB (b b1 bC:Nat) (Q:List Value) (ba b3 b4 b5 b6:Nat) (a:Int) (x:Ax) (t u:Th) (L:List (Int×Th)) (ok:Bool):List Pc:= .box b6 [.bool ok]::.box b5 (ll u)::.box b4 (FY x)::.box b3 (ll t)::PL b b1 bC Q ba a L
def FZ (e:Nat) (p:Option Addr) (w:World):Nat:=match p with
 |some q=>(match w.cell? q with
  |some (.int _ v)=>((e:Int)-v).toNat|_=>0)
 |none=>0
theorem TP {e ba:Nat} {w:World} {a:Int} (h:w.cell? ⟨ba,0,none⟩=some (.int .i64 a)):FZ e (some ⟨ba,0,none⟩) w=((e:Int)-a).toNat:=by
 unfold FZ;simp only [h]
set_option maxHeartbeats 4000000 in
theorem Azf (k:Ak) (f e:Nat) (hf:k.from_=f) (he:k.to=e) (hfe:f<e) (o4:e<=k.code.ins.length) (hl:k.code.ins.length<=100000) (hI:jS k.code.ins f e) (K:Int->Bool->Prop) (h:∀i,K i (Jp k.code.ins (fun j=>if j=f then some (0,false)else none) f (e-f))):J8 k K:=by
 generalize hR:Jp k.code.ins (fun j=>if j=f then some (0,false)else none) f (e-f)=R at h;intro m w hm bC bp jE lz db;obtain⟨a0,c0,a1,c1,a2,c2,rfl,⟨le,fi⟩,⟨bo,f1⟩,⟨bw,f2⟩⟩:=Cf db;have o:=Mem.recv hm.lt jE lz;have st:=Mem.qW (w:=w) jE lz;have gE:∀b∈[bC],b∈m:=fun b hb=>(mem_singleton.1 hb)▸jE
 refine Q3 ⟨bC,0,none⟩ _ _ ?_;intro b w1 hb aX;obtain⟨au,o⟩:=Aos o hb aX;refine⟨_,(o.at 1 rfl).cell rfl,?_⟩;refine OT (E:=Nn .i64) (s:=k.from_) (o.yx 0 rfl) Tryz.underlying187 Tryz.underlying3 rfl fun w2 hk TQ=> ?_
 rw [show(Value.agg #[.int .i64 0,.bool false])=kz (0,false) from rfl,OS]at TQ;obtain⟨aY,o⟩:=TL o 0 rfl hk TQ;intro b1 w3 cg ez;obtain⟨bg,o⟩:=o.dB cg ez;refine⟨o.wr 0 rfl rfl,fun w4 dg=> ?_⟩;obtain⟨bu,o⟩:=o.dS 0 dg rfl;refine⟨_,(o.at 2 rfl).cell rfl,?_⟩;intro b2 w5 ec dI;obtain⟨bP,o⟩:=o.dB ec dI;refine⟨o.wr 0 rfl rfl,fun w6 gm=> ?_⟩;obtain⟨bH,o⟩:=o.dS 0 gm rfl;have st:=(((((st.trans au).trans aY).trans bg).trans bu).trans bP).trans bH;generalize hQ:([.slice a0 k.code.ins.length c0,.slice a1 k.code.defs.length c1,.slice a2 k.code.af.length c2,.int .i64 k.code.main,.int .i64 k.code.stmts,.int .i64 k.marks,.int .i64 k.from_,.int .i64 k.to,.int .i64 k.vars]:List Value)=Q at o st;rw [hf]at o st;have o:Mem w.heap.size [bC] m [([bC],w.heap.size,w)] [] w6 (PL b b1 bC Q b2 f [((f:Int),(0,false))]):=o;have st:Step m w (ms (PL b b1 bC Q b2 f [((f:Int),(0,false))]) m) w6:=st;have OD:∀ {P:Prop},P->P:=fun h=>h
 refine⟨fun p w'=>∃(ba a:Nat) (L:List (Int×Th)),p=some ⟨ba,0,none⟩/\f<=a/\a<=e/\Mem w.heap.size [bC] m [([bC],w.heap.size,w)] [] w' (PL b b1 bC Q ba a L)/\Step m w (ms (PL b b1 bC Q ba a L) m) w'/\j7 (fw L) a/\Jp k.code.ins (fw L) a (e-a)=R,
  FZ e,⟨b2,f,_,rfl,le_refl _,by omega,o,st,?_,?_⟩,?_⟩
 ·intro j t hj;unfold fw G4 at hj;rw [List.find?_cons]at hj;split at hj
  ·cases hj;exact⟨Int.le_refl _,by show(0:Int)<=_;omega⟩
  ·cases hj
 ·rw [←hR];congr 1;funext j;unfold fw G4;rw [List.find?_cons];by_cases ej:j=f
  ·simp [ej]
  ·have:((f:Int)==(j:Int))=false:=by simp;omega
   simp [this,ej]
 rintro _ _ w7 ⟨ba,a,L,rfl,nx,FW,o,st,hB,cS⟩;have hmu:=TP (e:=e) ((o.at 0 rfl).cell (i:=0) rfl);intro w8 kK;obtain⟨bL,o⟩:=o.dD kK;have st:=st.trans bL;subst hQ;refine Ae rfl ⟨_,(o.at 0 rfl).cell rfl,_,(o.at 3 rfl).cell rfl,?_⟩;rw [show decide ((a:Int)<k.to)=decide ((a:Int)<(e:Int)) by rw [he]];generalize hQ:([.slice a0 k.code.ins.length c0,.slice a1 k.code.defs.length c1,.slice a2 k.code.af.length c2,.int .i64 k.code.main,.int .i64 k.code.stmts,.int .i64 k.marks,.int .i64 k.from_,.int .i64 k.to,.int .i64 k.vars]:List Value)=Q at o st;refine At.cond FW (fun aO=> ?_) fun heq=> ?_
 ·have gV:a<k.code.ins.length:=by omega
  obtain⟨q,hq⟩:∃q,e-a=q+1:=⟨e-a-1,by omega⟩
  obtain⟨x,hx⟩:∃x,k.code.ins[a]=x:=⟨_,rfl⟩
  have kA:k.code.ins[a]? =some x:=by rw [getElem?_eq_getElem gV,hx]
  obtain⟨⟨kU,iM⟩,rL,pd⟩:=hI a x nx aO kA;rw [hq,Jp,kA]at cS;simp only at cS;refine⟨fun w'=>∃L',Mem w.heap.size [bC] m [([bC],w.heap.size,w)] [] w' (PL b b1 bC Q ba a L')/\Step m w (ms (PL b b1 bC Q ba a L') m) w'/\j7 (fw L') (a+1)/\Jp k.code.ins (fw L') (a+1) q=R,?_,?_⟩
  ·refine⟨_,(o.at 1 rfl).cell rfl,Ae rfl ⟨_,(o.at 0 rfl).cell rfl,?_⟩⟩;refine OV (E:=Nn .i64) (f:=kz) (L:=L) (z:=(0,false)) (o.yx 2 rfl) Tryz.underlying187 Tryz.underlying3 (by kernel_rfl) (a:Int) ?_;have Bpn:(G4 L (a:Int)).isSome=(fw L a).isSome:=rfl;obtain⟨t0,tD⟩:∃t0,(G4 L (a:Int)).getD (0,false)=t0:=⟨_,rfl⟩
   rw [Bpn,tD];refine⟨_,_,_,rfl,?_⟩;intro b3 aK qf fR;obtain⟨cj,o⟩:=o.dB qf fR;refine⟨o.wr 0 rfl rfl,fun aF jx=> ?_⟩;obtain⟨cf,o⟩:=o.dz 0 jx rfl;have st:=(st.trans cj).trans cf;have o:Mem w.heap.size [bC] m [([bC],w.heap.size,w)] [] aF (.box b3 (ll t0)::PL b b1 bC Q ba a L):=o;have st:Step m w (ms (.box b3 (ll t0)::PL b b1 bC Q ba a L) m) aF:=st;refine⟨fun p w'=>∃b4,p=some ⟨b4,0,none⟩/\Mem w.heap.size [bC] m [([bC],w.heap.size,w)] [] w' (.box b4 (FY x)::.box b3 (ll t0)::PL b b1 bC Q ba a L)/\Step m w (ms (.box b4 (FY x)::.box b3 (ll t0)::PL b b1 bC Q ba a L) m) w',?_,?_⟩
   ·intro aZ lr;obtain⟨cw,o⟩:=o.dD lr;have st:=st.trans cw;obtain⟨p,x',cs,hp,od,hc,hr⟩:=(fi.st st).elem (i:=(a:Int)) ⟨by omega,by omega⟩;rw [toNat_natCast,kA]at od;cases od
    obtain rfl:=A8 hr;subst hQ;refine⟨fun u=>Ai [] aZ u,Ai.refl _ _,_,_,_,fun u hu=>((o.at 4 rfl).aP hu (by simp)).cell rfl,Ae rfl ⟨_,fun u hu=>((o.at 1 rfl).aP hu (by simp)).cell rfl,⟨by omega,by omega⟩,Ae hp ⟨_,_,_,fun u hu=>G0.held hc hu (by simp),?_⟩⟩⟩;intro b4 bB ly lu;obtain⟨dt,o⟩:=o.dB ly lu;refine⟨Ba lu,o.wr 0 rfl rfl,fun aU mQ=> ?_⟩;obtain⟨dA,o⟩:=o.dz 0 mQ rfl;exact⟨b4,rfl,o,(st.trans dt).trans dA⟩
   ·rintro _ _ bV ⟨b4,rfl,o,st⟩;refine⟨fun v w'=>v=(Yt x (fw L a)).isNone/\w'=bV,?_,?_⟩
    ·unfold Yt;cases l_:fw L a with
     |some u=>exact⟨rfl,rfl⟩
     |none=>
      refine Ei rfl (Ae rfl ⟨_,(o.at 0 rfl).cell rfl,?_,rfl⟩);by_cases e1:x.op=1<;>simp [e1]
    rintro _ _ ck ⟨rfl,rfl⟩;have rM:∀ {k:Kn},j7 k a->j7 k (a+1):=fun h j t hj=>by have:=h j t hj;omega
    cases hc:Yt x (fw L a)with
    |none=>
     rw [hc]at cS;obtain⟨cw,o⟩:=o.dX 0;obtain⟨dt,o⟩:=o.dX 0;exact⟨L,o,(st.trans cw).trans dt,rM hB,cS⟩
    |some t=>
     rw [hc]at cS;simp only at cS;obtain rfl:t=t0:=by
      rw [←tD];unfold Yt at hc;cases l_:fw L a with
      |some u=>
       rw [l_]at hc;cases hc;rw [show G4 L (a:Int)=some t from l_];rfl
      |none=>
       rw [l_]at hc;simp only at hc;rw [show G4 L (a:Int)=none from l_];split at hc
       ·cases hc;rfl
       ·cases hc
     have ht:0<=t.1/\t.1<=a:=by
      unfold Yt at hc;cases l_:fw L a with
      |some u=>rw [l_]at hc;cases hc;exact hB _ _ l_
      |none=>
       rw [l_]at hc;simp only at hc;split at hc
       ·cases hc;exact⟨Int.le_refl _,by omega⟩
       ·cases hc
     refine Eb rfl (Ae rfl ⟨_,_,_,(o.at 0 rfl).whole,_,_,(o.at 1 rfl).whole,?_⟩);refine Ac (Aze x ⟨t.1,t.2⟩ ⟨ht.1,by show t.1<=_;omega⟩ ⟨kU,iM⟩ (fun r ok=>r=⟨(D6 x t).1,(D6 x t).2⟩/\ok=Gw x t) ⟨rfl,rfl⟩ _ ck (o.mp hm gE) _ (Cd x) _ (Qi _)) ?_;rintro _ dh ⟨_,_,⟨rfl,rfl⟩,⟨fk,rfl,pT⟩,ke⟩;obtain rfl:=O6 pT;obtain⟨cw,o⟩:=o.dE ke;refine⟨_,_,_,rfl,?_⟩;intro b5 cG o6 nY;obtain⟨dt,o⟩:=o.dB o6 nY;intro b6 eR F_ o5;obtain⟨dA,o⟩:=o.dB F_ o5;refine⟨o.wr 1 rfl rfl,fun eE kM=> ?_⟩;obtain⟨ey,o⟩:=o.dz 1 kM rfl;refine⟨o.wr 0 rfl rfl,fun gT rk=> ?_⟩;obtain⟨eL,o⟩:=o.dS 0 rk rfl;have st:=((((st.trans cw).trans dt).trans dA).trans ey).trans eL;have o:Mem w.heap.size [bC] m [([bC],w.heap.size,w)] [] gT (PB b b1 bC Q ba b3 b4 b5 b6 a x t (D6 x t) L (Gw x t)):=o;have st:Step m w (ms (PB b b1 bC Q ba b3 b4 b5 b6 a x t (D6 x t) L (Gw x t)) m) gT:=st;refine⟨fun w'=>∃L1 eM,((eM=true/\Gw x t=true/\go1 x a t (fw L)=some (fw L1)/\j7 (fw L1) (a+1))\/(eM=false/\R=false))/\Mem w.heap.size [bC] m [([bC],w.heap.size,w)] [] w' (PB b b1 bC Q ba b3 b4 b5 b6 a x t (D6 x t) L1 eM)/\Step m w (ms (PB b b1 bC Q ba b3 b4 b5 b6 a x t (D6 x t) L1 eM) m) w',?_,?_⟩
     ·refine Ae rfl ⟨_,_,_,(o.at 2 rfl).whole,?_⟩;refine Ac (SN x (fun r ok=>r=(Ec x).1/\ok=(Ec x).2) ⟨rfl,rfl⟩ _ gT (o.mp hm gE) _ (Cd x)) ?_;rintro _ fF ⟨_,_,⟨rfl,rfl⟩,rfl,ke⟩;obtain⟨eF,o⟩:=o.dE ke;have st:=st.trans eF;refine⟨_,_,rfl,fun v w'=>v=((Ec x).2&&Gw x t)/\w'=fF,?_,?_⟩
      ·cases (Ec x).2
       ·exact⟨rfl,rfl⟩
       ·exact⟨_,(o.at 0 rfl).cell rfl,rfl,rfl⟩
      rintro _ _ iU ⟨rfl,rfl⟩;refine Ab (fun hg=> ?_) fun hg=> ?_
      ·simp only [and_eq_true]at hg;obtain⟨wt,gJ⟩:=hg;rw [gJ]at o st cS;rw [cond_true]at cS;obtain⟨g0,g1⟩:=rL wt;refine Ae rfl ⟨_,(o.at 2 rfl).cell rfl,?_⟩;refine Ac (Rj x.op (fun r=>r=D2 x.op) rfl _ iU (o.mp hm gE)) ?_;rintro _ iV ⟨_,rfl,rfl,cH⟩;obtain⟨eG,o⟩:=o.dE cH;have st:=st.trans eG;have tF:=FT ht kU gJ;have fY:∀(now:Th),now=cond (D2 x.op) (0,false) (D6 x t)->∀(w':World) (L':List (Int×Th)) (iI:Bool),(L',iI)=tH L a (Ec x).1 now true->(iI=true/\Gw x t=true/\go1 x a t (fw L)=some (fw L')/\j7 (fw L') (a+1))\/(iI=false/\R=false):=by
        intro now hn w' L' iI hM;have iY:go1 x a t (fw L)=Pb (fw L) a (Ec x).1.toNat now:=by unfold go1;rw [wt,cond_true,hn]
        rcases TN g0 hM with⟨rfl,hk⟩|⟨rfl,hk⟩
        ·refine .inl ⟨rfl,gJ,iY.trans hk,Zo (rM hB) ?_ hk⟩;rw [hn];cases D2 x.op
         ·exact tF
         ·exact⟨Int.le_refl _,by show(0:Int)<=_;omega⟩
        ·refine .inr ⟨rfl,?_⟩;rw [iY,hk]at cS;exact cS.symm
       refine⟨_,rfl,Ab (fun j6=> ?_) fun j6=> ?_⟩
       ·exact FX o 6 5 4 0 rfl rfl rfl rfl (Ec x).1 (0,false) _ fun w' L' iI hM o rG=>⟨L',iI,fY _ (by rw [j6];rfl) w' L' iI hM,o,st.trans rG⟩
       ·exact⟨_,_,(o.at 1 rfl).whole,FX o 6 5 4 0 rfl rfl rfl rfl (Ec x).1 (D6 x t) _ fun w' L' iI hM o rG=>⟨L',iI,fY _ (by rw [j6];rfl) w' L' iI hM,o,st.trans rG⟩⟩
      ·refine⟨L,Gw x t,?_,o,st⟩;cases gJ:Gw x t with
       |false=>
        rw [gJ]at cS;exact .inr ⟨rfl,cS.symm⟩
       |true=>
        rw [gJ,Bool.and_true]at hg;exact .inl ⟨rfl,rfl,by unfold go1;rw [hg];rfl,rM hB⟩
     ·rintro _ iD ⟨L1,eM,hP,o,st⟩;refine⟨fun w'=>∃L2 wu,((wu=true/\Jp k.code.ins (fw L2) (a+1) q=R/\j7 (fw L2) (a+1))\/(wu=false/\R=false))/\Mem w.heap.size [bC] m [([bC],w.heap.size,w)] [] w' (PB b b1 bC Q ba b3 b4 b5 b6 a x t (D6 x t) L2 wu)/\Step m w (ms (PB b b1 bC Q ba b3 b4 b5 b6 a x t (D6 x t) L2 wu) m) w',?_,?_⟩
      ·refine⟨fun v w'=>v=(eM&&Tn x.op)/\w'=iD,⟨_,(o.at 0 rfl).cell rfl,?_⟩,?_⟩
       ·cases eM
        ·exact⟨rfl,rfl⟩
        ·refine Ei rfl (Ae rfl ⟨_,(o.at 2 rfl).cell rfl,?_⟩);unfold Tn;cases (x.op !=6)
         ·exact⟨rfl,rfl⟩
         ·refine Ei rfl (Ae rfl ⟨_,(o.at 2 rfl).cell rfl,?_⟩);cases (x.op !=18)
          ·exact⟨rfl,rfl⟩
          ·refine Ei rfl (Ae rfl ⟨_,(o.at 2 rfl).cell rfl,?_⟩);cases (x.op !=23)
           ·exact⟨rfl,rfl⟩
           ·exact Ei rfl (Ae rfl ⟨_,(o.at 2 rfl).cell rfl,rfl,rfl⟩)
       ·rintro _ _ iW ⟨rfl,rfl⟩;refine Ab (fun hg=> ?_) fun hg=> ?_
        ·simp only [and_eq_true]at hg;obtain⟨rfl,nx⟩:=hg;rcases hP with⟨_,gJ,iY,GA⟩|⟨tG,_⟩
         ·rw [gJ,cond_true,iY]at cS;simp only at cS;have bZ:a+1≠e:=fun e1=>by
           have:=pd e1;rw [this]at nx;cases nx
          have tF:=FT ht kU gJ;have pg:go2 x a t (fw L1)=Pb (fw L1) a (a+1) (D6 x t):=by unfold go2;rw [nx,cond_true]
          refine Ae rfl ⟨_,(o.at 4 rfl).cell rfl,_,_,(o.at 1 rfl).whole,?_⟩;rw [A0 (by omega) (by omega)];refine FX o 6 5 4 0 rfl rfl rfl rfl ((a:Int)+1) (D6 x t) _ fun w' L' iI hM o rG=>⟨L',iI,?_,o,st.trans rG⟩
          rcases TN (by omega) hM with⟨rfl,hk⟩|⟨rfl,hk⟩
          ·rw [show((a:Int)+1).toNat=a+1 by omega,←pg]at hk;rw [hk]at cS;rw [pg]at hk;exact .inl ⟨rfl,cS,Zo GA tF hk⟩
          ·rw [show((a:Int)+1).toNat=a+1 by omega,←pg]at hk;rw [hk]at cS;exact .inr ⟨rfl,cS.symm⟩
         ·cases tG
        ·refine⟨L1,eM,?_,o,st⟩;rcases hP with⟨rfl,gJ,iY,GA⟩|⟨rfl,nF⟩
         ·rw [gJ,cond_true,iY]at cS;simp only at cS;have pg:go2 x a t (fw L1)=some (fw L1):=by unfold go2;rw [show Tn x.op=false from hg];rfl
          rw [pg]at cS;exact .inl ⟨rfl,cS,GA⟩
         ·exact .inr ⟨rfl,nF⟩
      ·rintro _ ks ⟨L2,wu,hP,o,st⟩;refine⟨_,(o.at 0 rfl).cell rfl,Ab (fun eU=> ?_) fun l9=> ?_⟩
       ·rcases hP with⟨rfl,_⟩|⟨_,nF⟩
        ·cases eU
        ·subst hQ;rw [nF]at h;exact Ae rfl ⟨_,(o.at 4 rfl).cell rfl,_,_,h _,rfl,o.at 7 rfl,o.done⟩
       ·rcases hP with⟨rfl,Brm,qm⟩|⟨rfl,_⟩
        ·obtain⟨s1,o⟩:=o.dX 0;obtain⟨s2,o⟩:=o.dX 0;obtain⟨s3,o⟩:=o.dX 0;obtain⟨s4,o⟩:=o.dX 0;exact⟨L2,o,(((st.trans s1).trans s2).trans s3).trans s4,qm,Brm⟩
        ·cases l9
  ·rintro _ lS ⟨L',o,st,sw,Brn⟩;refine Ae rfl ⟨_,(o.at 0 rfl).cell rfl,?_⟩;intro b7 oE GB Bro;obtain⟨s1,o⟩:=o.dB GB Bro;refine⟨o.wr 0 rfl rfl,fun oG Brp=> ?_⟩;obtain⟨s2,o⟩:=o.dS 0 Brp rfl;refine⟨_,(o.at 0 rfl).cell rfl,o.wr 0 rfl rfl,fun nT TR=> ?_⟩;rw [show IntKind.i64.wrap ((a:Int)+1)=((a+1:Nat):Int) by rw [A0 (by omega) (by omega)];omega]at TR;obtain⟨s3,o⟩:=o.dS 0 TR rfl;obtain⟨s4,o⟩:=o.dX 1;have o:Mem w.heap.size [bC] m [([bC],w.heap.size,w)] [] nT (PL b b1 bC Q b7 ((a+1:Nat):Int) L'):=o;refine⟨⟨b7,a+1,L',rfl,by omega,by omega,o,(((st.trans s1).trans s2).trans s3).trans s4,sw,by rw [show e-(a+1)=q by omega];exact Brn⟩,?_⟩;rw [TP ((o.at 0 rfl).cell (i:=0) rfl),hmu];omega
 ·subst heq;rw [sub_self,Jp]at cS;subst hQ;exact⟨_,_,by rw [←cS]at h;exact h _,rfl,o.at 3 rfl,o.done⟩
def zf (x:Ax):Bool:=x.op==1
def G8 (c:Ah) (k:Nat):Int:=((c.ins.take k).countP zf:Nat)
def zg (c:Ah) (r:Nat):Prop:=∀(a:Nat) (x:Ax),cm c r<=a->(a:Int)<cu c r->c.ins[a]? =some x->Ve c (cm c r) (cu c r) (i2 c r) (G8 c a) a x=true
def Mw (c:Ah):Prop:=∀r,r<c.defs.length->zg c r
def Rk (c:Ah):Prop:=∀r,r<c.defs.length->tE c r=true
open Classical in
noncomputable def gH (c:Ah):Int:=if E5 c=true then(if Mw c then(if G8 c c.ins.length=c.stmts then(if Rk c then 0 else 14)else 3)else 15)else 3
theorem TS {c:Ah} (h:¬E5 c=true):gH c=3:=by unfold gH;rw [if_neg h]
theorem TT {c:Ah} (h:E5 c=true) (h2:¬Mw c):gH c=15:=by unfold gH;rw [if_pos h,if_neg h2]
theorem TU {c:Ah} (h:E5 c=true) (h2:Mw c) (h3:¬G8 c c.ins.length=c.stmts):gH c=3:=by unfold gH;rw [if_pos h,if_pos h2,if_neg h3]
theorem TV {c:Ah} (h:E5 c=true) (h2:Mw c) (h3:G8 c c.ins.length=c.stmts) (h4:¬Rk c):gH c=14:=by unfold gH;rw [if_pos h,if_pos h2,if_pos h3,if_neg h4]
theorem TW {c:Ah} (h:E5 c=true) (h2:Mw c) (h3:G8 c c.ins.length=c.stmts) (h4:Rk c):gH c=0:=by unfold gH;rw [if_pos h,if_pos h2,if_pos h3,if_pos h4]
theorem Au2 {c:Ah} (h:gH c=0):E5 c=true/\Mw c/\G8 c c.ins.length=c.stmts/\Rk c:=by
 unfold gH at h;split at h
 ·split at h
  ·split at h
   ·split at h
    ·exact⟨by assumption,by assumption,by assumption,by assumption⟩
    ·cases h
   ·cases h
  ·cases h
 ·cases h
theorem TX {c:Ah} {k:Nat} {x:Ax} (h:c.ins[k]? =some x):G8 c (k+1)=if x.op=1 then G8 c k+1 else G8 c k:=by
 unfold G8;rw [List.take_add_one,h,List.countP_append];by_cases e:x.op=1
 ·simp [zf,e]
 ·simp [zf,e]
theorem TY (c:Ah) (k:Nat):0<=G8 c k/\G8 c k<=k:=by
 unfold G8;have:=List.countP_le_length (p:=zf) (l:=c.ins.take k);rw [List.length_take]at this;omega
theorem Au3 {c:Ah} (T:ir c) {vars marks:Int} {x:Ax} (h:Mc c vars marks x=true):0<=B3 x/\B3 x<=1000:=by
 unfold B3;cases hr:B7 x
 ·exact⟨Int.le_refl 0,(by decide:(0:Int)<=1000)⟩
 ·rw [cond_true,Wv (Q1 hr)];cases h5:(x.op==5)
  ·cases h9:(x.op==9&&decide (x.b>0))
   ·cases kP:(x.op==14)
    ·cases rJ x.op
     ·cases rK x.op<;>first|exact(by decide:(0:Int)<=0/\(0:Int)<=1000)|exact(by decide:(0:Int)<=1/\(1:Int)<=1000)|exact(by decide:(0:Int)<=2/\(2:Int)<=1000)
     ·first|exact(by decide:(0:Int)<=0/\(0:Int)<=1000)|exact(by decide:(0:Int)<=1/\(1:Int)<=1000)|exact(by decide:(0:Int)<=2/\(2:Int)<=1000)
    ·have e:x.op=14:=by simpa using kP
     unfold Mc at h;rw [e]at h;have h:(decide (x.a>=0)&&(decide (x.a<(c.defs.length:Int))&&(x.b==tB c x.a)))=true:=h;simp only [and_eq_true,decide_eq_true_eq,beq_iff_eq]at h;obtain⟨h1,h2,h3⟩:=h;have aO:x.a.toNat<c.defs.length:=by omega
     have hp:=T.par x.a.toNat _ (getElem?_eq_getElem aO);rw [FP (getElem?_eq_getElem aO)]at h3;show 0<=x.b/\x.b<=1000
     omega
   ·first|exact(by decide:(0:Int)<=0/\(0:Int)<=1000)|exact(by decide:(0:Int)<=1/\(1:Int)<=1000)|exact(by decide:(0:Int)<=2/\(2:Int)<=1000)
  ·show 0<=Xw x.a/\Xw x.a<=1000
   unfold Xw;cases ((x.a==3)||(x.a==4))
   ·cases ((decide (x.a>=5))&&(decide (x.a<=17)))<;>first|exact(by decide:(0:Int)<=0/\(0:Int)<=1000)|exact(by decide:(0:Int)<=1/\(1:Int)<=1000)|exact(by decide:(0:Int)<=2/\(2:Int)<=1000)
   ·first|exact(by decide:(0:Int)<=0/\(0:Int)<=1000)|exact(by decide:(0:Int)<=1/\(1:Int)<=1000)|exact(by decide:(0:Int)<=2/\(2:Int)<=1000)
theorem TZ {c:Ah} (T:ir c) {r:Nat} (hr:r<c.defs.length) (hm:zg c r):jS c.ins (cm c r).toNat (cu c r).toNat:=by
 intro a x h1 h2 hx;have hf:=T.qo hr;have hm:=hm a x (by omega) (by omega) hx;unfold Ve at hm;simp only [and_eq_true,not_eq_true',Bool.or_eq_true]at hm;obtain⟨g1,g2,g3,_⟩:=hm;refine⟨Au3 T g2,fun ht=> ?_,fun he=> ?_⟩
 ·rcases g3 with g3|g3
  ·rw [ht]at g3;cases g3
  ·unfold Tl at g3;simp only [and_eq_true,decide_eq_true_eq]at g3;omega
 ·unfold wo at g1;simp only [or_eq_false_iff,Bool.not_eq_false']at g1;have g:=g1.2.1;have:((a:Int)==cu c r-1)=true:=by simp;omega
  rw [this]at g;simpa using g
def Vi (c:Ah) (r:Nat):Int:=if r<c.defs.length then cm c r else c.ins.length
theorem T_ {c:Ah} {r:Nat} (hr:r<c.defs.length):Vi c (r+1)=cu c r:=by
 unfold Vi;by_cases h:r+1<c.defs.length
 ·rw [if_pos h,ir.Blc h]
 ·rw [if_neg h,ir.Bld (by omega)]
theorem UA {c:Ah} (T:ir c):Vi c 0=0:=by
 have h:=T.n1;unfold Vi cm;rw [if_pos (by omega),getElem?_eq_getElem (by omega)];exact T.zero _ (getElem?_eq_getElem (by omega))
theorem UB (k:Ak) (hd:k.code.defs.length<=100000) {r:Nat} (hr:r<k.code.defs.length) (K:Ak->Prop) (h:K ⟨k.code,k.marks,cm k.code r,cu k.code r,i2 k.code r⟩):Dy k r K:=by
 have hw:IntKind.i64.wrap ((r:Int)+1)=(r+1:Nat):=by rw [A0 (by omega) (by omega)];omega
 have jL:cm k.code r=k.code.defs[r].entry:=by unfold cm;rw [getElem?_eq_getElem hr];rfl
 have za:i2 k.code r=k.code.defs[r].vars:=by unfold i2;rw [getElem?_eq_getElem hr];rfl
 rw [jL,za]at h;refine Lt _ _ _ ⟨fun a b d e g i j l o=>a=k.code.ins/\b=k.code.defs/\d=k.code.af/\e=k.code.main/\g=k.code.stmts/\i=k.marks/\j=k.code.defs[r].entry/\l=k.code.ins.length/\o=k.code.defs[r].vars,Av hr (Av hr ⟨rfl,rfl,rfl,rfl,rfl,rfl,rfl,rfl,rfl⟩),?_⟩;rintro _ _ _ _ _ _ _ _ _ ⟨rfl,rfl,rfl,rfl,rfl,rfl,rfl,rfl,rfl⟩;rw [hw];unfold cu at h;refine Ab (fun hc=> ?_) fun hc=> ?_
 ·have aO:r+1<k.code.defs.length:=by have:=of_decide_eq_true hc;omega
  rw [getElem?_eq_getElem aO]at h;exact Av aO h
 ·have:¬r+1<k.code.defs.length:=by have:=of_decide_eq_false hc;omega
  rw [List.getElem?_eq_none (by omega)]at h;exact h
set_option maxHeartbeats 1000000 in
theorem Axd (c:Ah) (mC:c.ins.length<=100000) (hd:c.defs.length<=100000) (fY:c.af.length<=100000) (K:Int->Int->Prop) (h:∀i,K i (gH c)):Ur c K:=by
 refine Yk _ _ (Auv c hd fY _ ?_);cases ht:E5 c with
 |false=>exact Ei rfl (by rw [TS (by rw [ht];simp)]at h;exact h 0)
 |true=>
 refine Eb rfl ?_;have T:=FM ht;refine⟨fun i a b d e g ma _ _ _ n=>At c.defs.length (fun r=>a=c.ins/\b=c.defs/\d=c.af/\e=c.main/\g=c.stmts/\ma=G8 c (Vi c r).toNat/\∀q,q<r->zg c q) i n,⟨_,At.start ⟨rfl,rfl,rfl,rfl,rfl,by rw [UA T];rfl,fun q hq=>absurd hq (not_lt_zero _)⟩⟩,?_⟩;rintro _ _ _ _ _ _ _ _ _ _ _ ⟨r,rfl,rN,rfl,rfl,rfl,rfl,rfl,rfl,rfl,wv⟩;refine At.cond rN (fun hr=> ?_) fun hr=> ?_
 ·refine UB ⟨c,_,_,_,_⟩ hd hr _ ?_;have gX:Vi c r=cm c r:=by unfold Vi;rw [if_pos hr]
  have zb:=T.qo hr;have FV:=T.wm hr;have zd:=T.tz r;rw [gX];dsimp only;refine⟨fun i a b d e g ma fr to va n=>∃k:Nat,i=k/\a=c.ins/\b=c.defs/\d=c.af/\e=c.main/\g=c.stmts/\fr=cm c r/\to=cu c r/\va=i2 c r/\cm c r<=k/\(k:Int)<=cu c r/\n=(cu c r).toNat-k/\ma=G8 c k/\∀(q:Nat) (x:Ax),cm c r<=q->q<k->c.ins[q]? =some x->Ve c (cm c r) (cu c r) (i2 c r) (G8 c q) q x=true,⟨_,(cm c r).toNat,by omega,rfl,rfl,rfl,rfl,rfl,rfl,rfl,rfl,by omega,by omega,rfl,rfl,fun q x h1 h2=>absurd h1 (by omega)⟩,?_⟩;rintro _ _ _ _ _ _ _ _ _ _ _ ⟨k,rfl,rfl,rfl,rfl,rfl,rfl,rfl,rfl,rfl,kU,iM,rfl,rfl,hq⟩;refine Ab (fun aO=> ?_) fun jZ=> ?_
  ·have aO:=of_decide_eq_true aO;have gR:k<c.ins.length:=by omega
   have hcm:=TY c k;refine⟨fun a b d e g ma fr to va=>a=c.ins/\b=c.defs/\d=c.af/\e=c.main/\g=c.stmts/\ma=G8 c (k+1)/\fr=cm c r/\to=cu c r/\va=i2 c r/\Ve c (cm c r) (cu c r) (i2 c r) (G8 c k) k c.ins[k]=true,Bap ⟨c,_,_,_,_⟩ mC fY zb zd (by show 0<cu c r;omega) k gR _ ?_,?_⟩
   ·refine Ab (fun hb=> ?_) fun hb=>Av gR ?_
    ·have hb:Ve c (cm c r) (cu c r) (i2 c r) (G8 c k) k c.ins[k]=false:=cast (not_eq_true' _) hb;have:¬Mw c:=fun hm=>by
      have:=hm r hr k c.ins[k] kU aO (getElem?_eq_getElem gR);rw [hb]at this;cases this
     rw [TT ht this]at h;exact h _
    ·have hb:Ve c (cm c r) (cu c r) (i2 c r) (G8 c k) k c.ins[k]=true:=cast (Bool.not_eq_false' _) hb;have hs:=TX (getElem?_eq_getElem gR);refine Ab (fun e=> ?_) fun e=> ?_
     ·rw [if_pos (by simpa using e)]at hs;exact⟨rfl,rfl,rfl,rfl,rfl,by rw [hs,A0 (by omega) (by omega)],rfl,rfl,rfl,hb⟩
     ·rw [if_neg (by simpa using e)]at hs;exact⟨rfl,rfl,rfl,rfl,rfl,hs.symm,rfl,rfl,rfl,hb⟩
   ·rintro _ _ _ _ _ _ _ _ _ ⟨rfl,rfl,rfl,rfl,rfl,rfl,rfl,rfl,rfl,hb⟩;refine⟨(cu c r).toNat-(k+1),by omega,k+1,by rw [A0 (by omega) (by omega)];omega,rfl,rfl,rfl,rfl,rfl,rfl,rfl,rfl,by omega,by omega,rfl,rfl,fun q x h1 h2 hx=> ?_⟩;by_cases eq:q=k
    ·subst eq;rw [getElem?_eq_getElem gR]at hx;cases hx;exact hb
    ·exact hq q x h1 (by omega) hx
  ·have jZ:=of_decide_eq_false jZ;obtain rfl:k=(cu c r).toNat:=by omega
   refine At.next (by omega) hr ⟨rfl,rfl,rfl,rfl,rfl,by rw [T_ hr],fun q hqr=> ?_⟩;by_cases eq:q=r
   ·subst eq;exact fun a x h1 h2 hx=>hq a x h1 (by omega) hx
   ·exact wv q (by omega)
 ·have hm:Mw c:=fun q hq=>wv q (by omega)
  have gX:Vi c r=c.ins.length:=by unfold Vi;rw [if_neg (by omega)]
  rw [gX,toNat_natCast];refine Ab (fun hs=> ?_) fun hs=> ?_
  ·have hs:¬G8 c c.ins.length=c.stmts:=by simpa using hs
   rw [TU ht hm hs]at h;exact h 0
  ·have hs:G8 c c.ins.length=c.stmts:=by simpa using hs
   refine⟨fun i a b d e g _ _ _ _ n=>At c.defs.length (fun r=>a=c.ins/\b=c.defs/\d=c.af/\e=c.main/\g=c.stmts/\∀q,q<r->tE c q=true) i n,⟨_,At.start ⟨rfl,rfl,rfl,rfl,rfl,fun q hq=>absurd hq (not_lt_zero _)⟩⟩,?_⟩;rintro _ _ _ _ _ _ _ _ _ _ _ ⟨r,rfl,rN,rfl,rfl,rfl,rfl,rfl,rfl,cS⟩;refine At.cond rN (fun hr=> ?_) fun hr=> ?_
   ·refine UB ⟨c,_,_,_,_⟩ hd hr _ ?_;have zb:=T.qo hr;have FV:=T.wm hr;have zd:=T.tz r;refine Azf _ (cm c r).toNat (cu c r).toNat (by show cm c r=_;omega) (by show cu c r=_;omega) (by omega) (by show _<=c.ins.length;omega) mC (TZ T hr (hm r hr)) _ fun i=> ?_
    show cond (!tE c r) _ _
    refine Ab (fun hb=> ?_) fun hb=> ?_
    ·have:¬Rk c:=fun hF=>by rw [hF r hr]at hb;cases hb
     rw [TV ht hm hs this]at h;exact h i
    ·refine At.next (by omega) hr ⟨rfl,rfl,rfl,rfl,rfl,fun q hq=> ?_⟩;by_cases eq:q=r
     ·subst eq;simpa using hb
     ·exact cS q (by omega)
   ·rw [TW ht hm hs fun q hq=>cS q (by omega)]at h;exact h 0
set_option maxHeartbeats 1000000 in
theorem Au4 (c:Ah) (hd:c.defs.length<=100000) (fY:c.af.length<=100000) (hn:∀d∈c.defs,d.name.length<2^63) (wk:∀d∈c.af,d.name.length<2^63) (K:Bd->Prop) (h:∀i,(gH c=0->i=0)->K ⟨i,gH c⟩):Qj c K:=by
 refine Abm _ _ (Arz c hd fY hn wk _ ?_);cases ht:E5 c with
 |false=>exact Ei rfl (by rw [TS (by rw [ht];simp)]at h;exact h 0 (fun _=>rfl))
 |true=>
 refine Eb rfl ?_;have T:=FM ht;refine⟨fun ma i _ _ n=>At c.defs.length (fun r=>ma=G8 c (Vi c r).toNat/\∀q,q<r->zg c q) i n,⟨_,At.start ⟨by rw [UA T];rfl,fun q hq=>absurd hq (not_lt_zero _)⟩⟩,?_⟩;rintro _ _ _ _ _ ⟨r,rfl,rN,rfl,rfl,wv⟩;refine At.cond rN (fun hr=>Av hr ?_) fun hr=> ?_
 ·have gX:Vi c r=cm c r:=by unfold Vi;rw [if_pos hr]
  have jL:cm c r=c.defs[r].entry:=by unfold cm;rw [getElem?_eq_getElem hr];rfl
  have zb:=T.qo hr;have FV:=T.wm hr;have zd:=T.tz r;rw [gX,←jL];refine⟨fun ma i _ _ n=>∃k:Nat,i=k/\cm c r<=k/\(k:Int)<=cu c r/\n=(cu c r).toNat-k/\ma=G8 c k/\∀(q:Nat) (x:Ax),cm c r<=q->q<k->c.ins[q]? =some x->Ve c (cm c r) (cu c r) (i2 c r) (G8 c q) q x=true,⟨_,(cm c r).toNat,by omega,by omega,by omega,rfl,rfl,fun q x h1 h2=>absurd h1 (by omega)⟩,?_⟩;rintro _ _ _ _ _ ⟨k,rfl,kU,iM,rfl,rfl,hq⟩;have S_:=T.ni;refine y_ c (by omega) hr _ (Ab (fun aO=> ?_) fun jZ=> ?_)
  ·have aO:=of_decide_eq_true aO;have gR:k<c.ins.length:=by omega
   have hcm:=TY c k;refine⟨fun ma _ _=>ma=G8 c (k+1)/\Ve c (cm c r) (cu c r) (i2 c r) (G8 c k) k c.ins[k]=true,Azd T fY hr _ k gR _ (Ab (fun hb=> ?_) fun hb=>Av gR ?_),?_⟩
   ·have hb:Ve c (cm c r) (cu c r) (i2 c r) (G8 c k) k c.ins[k]=false:=cast (not_eq_true' _) hb;have:¬Mw c:=fun hm=>by
     have:=hm r hr k c.ins[k] kU aO (getElem?_eq_getElem gR);rw [hb]at this;cases this
    rw [TT ht this]at h;exact h _ (fun e=>by cases e)
   ·have hb:Ve c (cm c r) (cu c r) (i2 c r) (G8 c k) k c.ins[k]=true:=cast (Bool.not_eq_false' _) hb;have hs:=TX (getElem?_eq_getElem gR);refine Ab (fun e=> ?_) fun e=> ?_
    ·rw [if_pos (by simpa using e)]at hs;exact⟨by rw [hs,A0 (by omega) (by omega)],hb⟩
    ·rw [if_neg (by simpa using e)]at hs;exact⟨hs.symm,hb⟩
   ·rintro _ _ _ ⟨rfl,hb⟩;refine⟨(cu c r).toNat-(k+1),by omega,k+1,by rw [A0 (by omega) (by omega)];omega,by omega,by omega,rfl,rfl,fun q x h1 h2 hx=> ?_⟩;by_cases eq:q=k
    ·subst eq;rw [getElem?_eq_getElem gR]at hx;cases hx;exact hb
    ·exact hq q x h1 (by omega) hx
  ·have jZ:=of_decide_eq_false jZ;obtain rfl:k=(cu c r).toNat:=by omega
   refine At.next (by omega) hr ⟨by rw [T_ hr],fun q hqr=> ?_⟩;by_cases eq:q=r
   ·subst eq;exact fun a x h1 h2 hx=>hq a x h1 (by omega) hx
   ·exact wv q (by omega)
 ·have hm:Mw c:=fun q hq=>wv q (by omega)
  have gX:Vi c r=c.ins.length:=by unfold Vi;rw [if_neg (by omega)]
  rw [gX,toNat_natCast];refine Ab (fun hs=> ?_) fun hs=> ?_
  ·have hs:¬G8 c c.ins.length=c.stmts:=by simpa using hs
   rw [TU ht hm hs]at h;exact h 0 (fun _=>rfl)
  ·have hs:G8 c c.ins.length=c.stmts:=by simpa using hs
   refine⟨fun i _ _ n=>At c.defs.length (fun r=>∀q,q<r->tE c q=true) i n,⟨_,At.start (fun q hq=>absurd hq (not_lt_zero _))⟩,?_⟩;rintro _ _ _ _ ⟨r,rfl,rN,rfl,cS⟩;refine At.cond rN (fun hr=>Axa T hr (TZ T hr (hm r hr)) _ fun l i hi=> ?_) fun hr=> ?_
   ·rw [hi];refine Ab (fun hb=> ?_) fun hb=> ?_
    ·have:¬Rk c:=fun hF=>by rw [hF r hr]at hb;cases hb
     rw [TV ht hm hs this]at h;exact h i (fun e=>by cases e)
    ·refine At.next (by omega) hr fun q hq=> ?_
     by_cases eq:q=r
     ·subst eq;simpa using hb
     ·exact cS q (by omega)
   ·rw [TW ht hm hs fun q hq=>cS q (by omega)]at h;exact h 0 (fun _=>rfl)
theorem Ajj (c:Ah) (hd:c.defs.length<=100000) (fY:c.af.length<=100000) (hn:∀d∈c.defs,d.name.length<2^63) (wk:∀d∈c.af,d.name.length<2^63) (K:Bool->Prop) (h:K (decide (gH c=0))):Xk c K:=by
 refine Abl _ _ (Au4 c hd fY hn wk _ fun i hi=> ?_);by_cases e:gH c=0
 ·rw [decide_eq_true e]at h;rw [hi e,e];exact h
 ·rw [decide_eq_false e]at h;have:((gH c)==0)=false:=by simpa using e
  show K ((i==0)&&(gH c==0))
  rw [this,Bool.and_false];exact h
def lE (c:Ah) (d a:Int):Int:=if Hh c a=d then oc c.ins a else 0
theorem UC {c:Ah} {a:Int} (h:0<=Hh c a):0<=a/\a<c.ins.length:=by
 unfold Hh at h;split at h
 ·assumption
 ·omega
theorem UD {c:Ah} {a:Int} (h:a<0\/(c.ins.length:Int)<=a):Hh c a= -1:=by
 unfold Hh;rw [if_neg (by omega)]
theorem UE (c:Ah) (hd:c.defs.length<=100000) (p:Ap) (h0:0<=p.bz) (a:Int) (K:Int->Prop) (h:K (lE c p.bz a)):OO c p a K:=by
 refine Ai4 _ _ _ _ (B9 (!decide (Hh c a=p.bz)) ?_ (Ab (fun e=> ?_) fun e=> ?_))
 ·refine Ab (fun e=> ?_) fun e=>Ab (fun e2=> ?_) fun e2=>Aza c hd _ _ ?_
  ·rw [UD (.inl (of_decide_eq_true e)),decide_eq_false (by omega)];rfl
  ·rw [UD (.inr (of_decide_eq_true e2)),decide_eq_false (by omega)];rfl
  ·by_cases e3:Hh c a=p.bz
   ·simp [e3]
   ·rw [decide_eq_false e3];have:(Hh c a==p.bz)=false:=by simpa using e3
    simp [bne,this]
 ·have e:¬Hh c a=p.bz:=by simpa using e
  unfold lE at h;rw [if_neg e]at h;exact h
 ·have e:Hh c a=p.bz:=by simpa using e
  have hr:=UC (c:=c) (a:=a) (by omega);unfold lE at h;rw [if_pos e]at h;refine⟨⟨hr.1,hr.2⟩,fun x hx=> ?_⟩
  rwa [Nw hx]at h
def zh (c:Ah) (d a op:Int):Bool:=decide (0<=d)&&(decide (Hh c a=d)&&(oc c.ins a==op))
theorem zi {c:Ah} {d a op:Int} (h0:0<=d) (ho:op≠0):zh c d a op=(lE c d a==op):=by
 unfold zh lE;rw [decide_eq_true h0,Bool.true_and];by_cases e:Hh c a=d
 ·rw [if_pos e,decide_eq_true e,Bool.true_and]
 ·rw [if_neg e,decide_eq_false e,Bool.false_and];have:((0:Int)==op)=false:=by simp;exact fun h=>ho h.symm
  rw [this]
theorem zj (c:Ah) (hd:c.defs.length<=100000) (d a op:Int) (K:Bool->Prop) (h:K (zh c d a op)):Nm c d a op K:=by
 unfold zh at h;refine Alw _ _ _ _ _ (Aw5 c hd _ _ (Ab (fun e=> ?_) fun e=> ?_))
 ·have e:Hh c a=d:=by simpa using e
  rw [decide_eq_true e,Bool.true_and]at h;refine Ab (fun e2=> ?_) fun e2=> ?_
  ·have h0:=of_decide_eq_true e2;rw [decide_eq_true (by omega:0<=d),Bool.true_and]at h;have hr:=UC (c:=c) (a:=a) (by omega);refine⟨⟨hr.1,hr.2⟩,fun x hx=> ?_⟩
   rwa [Nw hx]at h
  ·rw [decide_eq_false (by have:=of_decide_eq_false e2;omega:¬0<=d),Bool.false_and]at h;exact h
 ·have e:¬Hh c a=d:=by simpa using e
  rw [decide_eq_false e,Bool.false_and,Bool.and_false]at h;exact h
def Md (c:Ah) (d a:Int):Bool:=(lE c d a==1)||(lE c d a==24)
theorem Zp (c:Ah) (hd:c.defs.length<=100000) (d a:Int) (h0:0<=d) (K:Bool->Prop) (h:K (Md c d a)):Hc c d a K:=by
 unfold Md at h;rw [←zi h0 (by decide),←zi h0 (by decide)]at h;refine Ab2 _ _ _ _ (zj c hd _ _ _ _ (Ab (fun e=> ?_) fun e=>zj c hd _ _ _ _ ?_))
 ·rw [e]at h;exact h
 ·rw [e,Bool.false_or]at h;exact h
def Mx:List Br->Int
 |[]=>0|x::l=>Gj x+Mx l
theorem Ww:∀(l:List Br) (x:Br),Mx (l++[x])=Mx l+Gj x
 |[],x=>by simp [Mx]
 |a::l,x=>by rw [List.cons_append,Mx,Ww l x,Mx];omega
theorem UF:∀ {l:List Br},(∀x∈l,0<=x.size/\x.size<=16)->0<=Mx l/\Mx l<=16*l.length
 |[],_=>by simp [Mx]
 |a::l,h=>by
  have h1:=h a (.head _);have h2:=UF (l:=l) fun x hx=>h x (.tail _ hx)
  have:1<=Gj a/\Gj a<=16:=by unfold Gj;split<;>omega
  rw [Mx,List.length_cons];omega
theorem Vj {c:Ah} (T:ir c) (k:Nat):0<=Mx (c.af.take k)/\Mx (c.af.take k)<=16*c.af.length:=by
 have:=UF (l:=c.af.take k) fun x hx=>T.ch x (List.mem_of_mem_take hx)
 rw [List.length_take]at this;omega
theorem Axe {c:Ah} (T:ir c) (fY:c.af.length<=100000) (K:Int->Prop) (h:K (Mx c.af)):Us c K:=by
 refine Yr _ _ ⟨fun n i m=>At c.af.length (fun k=>n=Mx (c.af.take k)) i m,⟨_,At.start rfl⟩,?_⟩;rintro _ _ _ ⟨k,rfl,hk,rfl,rfl⟩;refine At.cond hk (fun hk=>Av hk ?_) fun hk=> ?_
 ·have h1:=Vj T k;have h2:=Vj T (k+1);have hs:=Ww (c.af.take k) c.af[k];rw [←E8 hk]at hs;refine At.next (by omega) hk ?_;rw [hs];exact A0 (by show _<=Mx _+Gj _;omega) (by show Mx _+Gj _<=_;omega)
 ·rw [hk,List.take_length];exact h
theorem Vk {c:Ah} (T:ir c) (fY:c.af.length<=100000) (K:Int->Prop) (h:K (Mx c.af)):Hd c K:=by
 refine Ab3 _ _ ⟨fun n i m=>At c.af.length (fun k=>n=Mx (c.af.take k)) i m,⟨_,At.start rfl⟩,?_⟩;rintro _ _ _ ⟨k,rfl,hk,rfl,rfl⟩;refine At.cond hk (fun hk=> ?_) fun hk=> ?_
 ·have h1:=Vj T k;have h2:=Vj T (k+1);have hs:=Ww (c.af.take k) c.af[k];rw [←E8 hk]at hs;have eb:=T.ch _ (getElem_mem hk);refine B9 (Mx (c.af.take (k+1))) (Av hk (Ab (fun e=>Av hk ?_) fun e=> ?_)) (At.next (by omega) hk rfl)
  ·have:Gj c.af[k]=c.af[k].size:=by unfold Gj;rw [if_neg (by have:=of_decide_eq_true e;omega)]
   rw [hs,this]at*;exact A0 (by omega) (by omega)
  ·have:Gj c.af[k]=1:=by unfold Gj;rw [if_pos (by have:=of_decide_eq_false e;omega)]
   rw [hs,this]at*;exact A0 (by omega) (by omega)
 ·rw [hk,List.take_length];exact h
def dm (n most:Int):Bool:=decide (n>=0)&&decide (n<=most)
theorem Jq (n most:Int) (K:Bool->Prop) (h:K (dm n most)):R8 n most K:=by
 refine Wr _ _ _ ?_;unfold dm at h
 first
  |exact h
  |exact Ab (fun e=>by rw [e]at h;exact h) fun e=>by rw [e]at h;exact h
theorem Li (n below:Int) (K:Bool->Prop) (h:K (dm n (below-1))):Cg n below K:=by
 have e:decide (n<below)=decide (n<=below-1):=by rw [Bool.eq_iff_iff];simp;omega
 refine Ad9 _ _ _ ?_;unfold dm at h;rw [←e]at h
 first
  |exact h
  |exact Ab (fun e=>by rw [e]at h;exact h) fun e=>by rw [e]at h;exact h
end Go.Proofs.YthkbhlmijkegiaaGreat
