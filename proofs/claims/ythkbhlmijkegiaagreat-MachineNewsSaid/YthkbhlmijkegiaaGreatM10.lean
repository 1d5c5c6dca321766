/- A part of the proof: conditions of the code, contracts, the plain law. -/
import Derived.Test.YthkbhlmijkegiaaGreatM6
import Derived.Test.YthkbhlmijkegiaaGreatM9
import Derived.Test.YthkbhlmijkegiaaGreatM8
import Derived.Test.YthkbhlmijkegiaaGreatM1
import Derived.Test.YthkbhlmijkegiaaGreatRows
import Derived.Test.YthkbhlmijkegiaaGreatVcI
import Derived.Test.YthkbhlmijkegiaaGreatMapL
import Derived.KernelRfl
open List (getElem?_eq_getElem getElem_mem mem_singleton getElem?_set drop_length any_eq_true)
open Int (toNat_natCast)
open Bool (and_eq_true or_eq_false_iff not_eq_true' or_eq_true)
open Nat (le_refl not_lt_zero sub_self)
namespace Go.Proofs.YthkbhlmijkegiaaGreat
open Go.Vc Go.Lv Go.Ty Go.Tk
namespace Nv
def Vj (s:List UInt8):Bool:=
 match s with
 |[]=>false|c::l=>decide ((c::l).length<=16)&&(m9 c&&((c::l).all Tk.Mi&& !decide ((c::l)∈words)))
theorem QN (c:UInt8) (l:List UInt8):Vj (c::l)=(decide ((c::l).length<=16)&&(m9 c&&((c::l).all Tk.Mi&& !decide ((c::l)∈words)))):=rfl
theorem QO {α:Type} [BEq α] [LawfulBEq α] (p:α->Bool):∀(l:List α),(l.takeWhile p==l)=l.all p
 |[]=>by simp
 |a::l=>by
  rw [List.takeWhile_cons,List.all_cons];cases h:p a with
  |true=>simp only [if_true,Bool.true_and];rw [←QO p l];rw [Bool.eq_iff_iff];simp
  |false=>simp
theorem QP (n:Nat) (h:n<256) (K:Bool->Prop) (hk:K (pU n)):Hu n K:=by
 refine Uw _ _ ?_;have:=Aou n h;unfold BV at this;unfold Nu;rw [this];exact hk
theorem Axs (n:Nat) (K:Bool->Prop) (hk:K (pV n)):My n K:=by
 refine Wo _ _ ?_;have:pV n=(decide ((n:Int)>=48)&&decide ((n:Int)<=57)):=by
  unfold pV;rw [Bool.eq_iff_iff];simp;omega
 unfold Pf;rw [←this];exact hk
theorem Au8 (n:Nat) (h:n<256) (K:Bool->Prop) (hk:K (sL n)):K4 n K:=by
 refine Ux _ _ (QP n h _ (Ab (fun hc=> ?_) fun hc=>Axs n _ ?_))
 ·unfold sL at hk;rw [hc]at hk;exact hk
 ·unfold sL at hk;rw [hc]at hk;exact hk
theorem Az2 (s:List UInt8) (hs:s.length<2^40) (K:List UInt8->Prop) (hk:K (s.takeWhile Tk.Mi)):Eo s K:=by
 refine Kp _ _ ⟨fun x n=>∃k:Nat,x=k/\k<=s.length/\n=s.length-k/\∀i (h:i<s.length),i<k->Tk.Mi s[i]=true,⟨_,0,rfl,by omega,rfl,by omega⟩,?_⟩;rintro _ _ ⟨k,rfl,ic,rfl,gw⟩;refine Ab (fun hc=>⟨by simp at hc;omega,?_⟩) fun hc=> ?_
 ·have aP:k<s.length:=by simp at hc;omega
  rw [toNat_natCast,getD_eq s k aP];refine Au8 _ (UInt8.toNat_lt _) _ (Ab (fun hd=>⟨by omega,?_⟩) fun hd=> ?_)
  ·have dU:Tk.Mi s[k]=false:=by simpa [Tk.Mi] using hd
   rw [←Lc Tk.Mi s k gw (fun _=>dU)];exact hk
  ·have dU:Tk.Mi s[k]=true:=by simpa [Tk.Mi] using hd
   refine⟨s.length-(k+1),by omega,k+1,by rw [A3 (by omega) (by omega)];omega,by omega,rfl,fun i h hi=> ?_⟩;by_cases wb:i=k
   ·subst wb;exact dU
   ·exact gw i h (by omega)
 ·have oq:k=s.length:=by simp at hc;omega
  rw [Lc Tk.Mi s k gw (fun h=>by omega),oq,List.take_length]at hk;exact hk
def pf (i j:Nat):Nat:=(i+j)/2
theorem Axt (i j:Nat) (h:i+j<2^40):IntKind.i64.wrap ((IntKind.u64.wrap (IntKind.i64.wrap ((i:Int)+(j:Int)))).fdiv (2^(min 1 IntKind.u64.bits)))=(pf i j:Nat):=by
 have e0:IntKind.i64.wrap ((i:Int)+(j:Int))=(i:Int)+j:=A3 (by omega) (by omega);have e:IntKind.u64.wrap ((i:Int)+(j:Int))=(i:Int)+j:=by rw [IntKind.wrap_u64];omega
 have e2:(min 1 IntKind.u64.bits)=1:=by decide
 have e3:((i:Int)+(j:Int)).fdiv (2^1)=(pf i j:Nat):=by
  rw [Int.fdiv_eq_ediv_of_nonneg _ (by decide)];unfold pf;omega
 rw [e0,e,e2,e3];exact A3 (by omega) (by unfold pf;omega)
theorem Bbl (s:List UInt8) (K:Bool->Prop) (hk:K false):E3 s K:=by
 refine Px _ _ ?_;unfold Jl;rw [beq_self_eq_true];exact hk
theorem Az3 (s:List UInt8) (K:Bool->Prop) (hk:K false):Eb s K:=by
 refine M7 _ _ ?_;unfold Hg;rw [beq_self_eq_true];exact hk
theorem Az4 (x y:List UInt8) (K:Bool->Prop) (hk:K (Op.bytesLess x y)):Hv x y K:=
 Qq _ _ _ (Bbl _ _ hk)
theorem Au9 (l:List (List UInt8)) (hl:LK l) (hn:l.length<1000) (t:List UInt8) (K:Int->Bool->Prop) (hk:∀i,K i (decide (t∈l))):B4 l t K:=by
 refine Ff _ _ _ ⟨fun i j n=>∃i' j':Nat,i=i'/\j=j'/\i'<=j'/\j'<=l.length/\n=j'-i'/\(∀k (h:k<l.length),k<i'->Op.bytesLess l[k] t=true)/\(∀k (h:k<l.length),j'<=k->Op.bytesLess l[k] t=false),
  ⟨_,0,l.length,rfl,rfl,Nat.zero_le _,le_refl _,rfl,fun _ _ h=>absurd h (not_lt_zero _),fun k h h'=>by omega⟩,?_⟩
 rintro _ _ _ ⟨i,j,rfl,rfl,lE,hj,rfl,my,QQ⟩;refine Ab (fun hx=> ?_) fun hx=> ?_
 ·have aP:i<j:=by simpa using hx
  rw [Axt i j (by omega)];have CS:i<=pf i j:=by unfold pf;omega
  have kA:pf i j<j:=by unfold pf;omega
  generalize pf i j=m at CS kA;have FN:m<l.length:=by omega
  refine⟨by omega,by omega,fun x hx=> ?_⟩;rw [toNat_natCast,getElem?_eq_getElem FN]at hx;cases hx
  refine Az4 _ _ _ (Ab (fun hb=> ?_) fun hb=> ?_)
  ·rw [A3 (by omega) (by omega)];refine⟨_,?_,m+1,j,by omega,rfl,by omega,hj,rfl,fun k h hk=> ?_,QQ⟩
   ·omega
   ·rcases Nat.lt_or_ge k m with h'|h'
    ·exact Tl _ _ _ (hl k m h FN h') hb
    ·obtain rfl:k=m:=by omega
     exact hb
  ·refine⟨_,?_,i,m,rfl,rfl,CS,by omega,rfl,my,fun k h hk=> ?_⟩
   ·omega
   ·rcases Nat.lt_or_ge m k with h'|h'
    ·cases hh:Op.bytesLess l[k] t with
     |false=>rfl
     |true=>rw [Tl _ _ _ (hl m k FN h h') hh]at hb;cases hb
    ·obtain rfl:k=m:=by omega
     exact hb
 ·have j9:i=j:=by have:¬i<j:=by simpa using hx
                  omega
  subst j9;refine Ab (fun oe=> ?_) fun oe=> ?_
  ·have kW:i<l.length:=by simpa using oe
   have gl:=getElem?_eq_getElem kW;refine⟨by omega,fun x hx=> ?_⟩;rw [toNat_natCast,gl]at hx;cases hx
   refine Ab (fun hb=> ?_) fun hb=>⟨by omega,fun x hx=> ?_⟩
   ·have:l[i]=t:=by simpa using hb
    have:=hk i
    rwa [decide_eq_true (by rw [←‹l[i]=t›];exact getElem_mem kW)]at this
   ·have cf:l[i]≠t:=by simpa using hb
    refine Az3 _ _ ?_;have nn:t∉l:=by
     intro hm;obtain⟨p,hp,rfl⟩:=List.getElem_of_mem hm;rcases Nat.lt_trichotomy p i with h'|h'|h'
     ·have:=my p hp h';rw [Qy]at this;cases this
     ·subst h';exact cf rfl
     ·have:=hl i p kW hp h';rw [QQ i kW (le_refl _)]at this;cases this
    have:=hk i
    rwa [decide_eq_false nn]at this
  ·have kW:¬i<l.length:=by simpa using oe
   have nn:t∉l:=by
    intro hm;obtain⟨p,hp,rfl⟩:=List.getElem_of_mem hm;have:=my p hp (by omega);rw [Qy]at this;cases this
   have:=hk i
   rwa [decide_eq_false nn]at this
theorem Az5 (s:List UInt8) (K:Bool->Prop) (hk:K (decide (s∈words))):Oq s K:=
 Yx _ _ (Wp _ (Au9 words Aje (by decide) s _ fun _=>hk))
theorem QS (s:List UInt8) (K:Bool->Prop) (hk:K (Vj s)):Kl s K:=by
 refine Yw _ _ ?_;cases s with
 |nil=>exact Bj rfl hk
 |cons c l=>
  rw [QN]at hk;refine Cu rfl (Ab (fun rG=> ?_) fun rG=> ?_)
  ·have Brj:(c::l).length<=16:=by simp at rG;simp;omega
   rw [decide_eq_true Brj,Bool.true_and]at hk;refine⟨⟨by omega,by simp⟩,QP _ (UInt8.toNat_lt _) _ ?_⟩;have e0:(c::l).getD 0 0=c:=rfl;rw [e0];refine Ab (fun hl=> ?_) fun hl=> ?_
   ·have rH:m9 c=true:=hl;rw [rH,Bool.true_and]at hk;refine Az2 _ (by omega) _ ?_;rw [QO];refine Ab (fun ha=>Az5 _ _ ?_) fun ha=> ?_
    ·rw [ha,Bool.true_and]at hk;exact hk
    ·rw [ha,Bool.false_and]at hk;exact hk
   ·have rH:m9 c=false:=hl;rw [rH,Bool.false_and]at hk;exact hk
  ·rw [decide_eq_false (by simp at rG;simp;omega),Bool.false_and]at hk;exact hk
def Lh (s:List UInt8) (k:Nat):Bool:=m9 (s.getD k 0)||(decide (k≠0)&&BU (s.getD k 0))
theorem Avb (s:List UInt8):Vj s=(decide (s.length<=16)&&(decide (s≠[])&&(decide (∀k,k<s.length->Lh s k=true)&& !decide (s∈words)))):=by
 cases s with
 |nil=>rfl
 |cons c l=>
  rw [QN];have gw:(m9 c&&(c::l).all Tk.Mi)=decide (∀k,k<(c::l).length->Lh (c::l) k=true):=by
   rw [Bool.eq_iff_iff];simp only [and_eq_true,decide_eq_true_iff,List.all_eq_true];constructor
   ·rintro⟨h0,h1⟩ k hk;cases k with
    |zero=>simp [Lh,h0]
    |succ k=>
     have:Tk.Mi ((c::l)[k+1])=true:=h1 _ (getElem_mem hk);rw [←getD_eq _ _ hk]at this;simpa [Lh,Tk.Mi,sL,m9,BU] using this
   ·intro h;refine⟨by simpa [Lh] using h 0 (by simp),fun x hx=> ?_⟩;obtain⟨k,hk,rfl⟩:=List.getElem_of_mem hx;have:=h k hk;rw [←getD_eq _ _ hk];simp only [Lh,or_eq_true,and_eq_true]at this;simp only [Tk.Mi,sL,or_eq_true];rcases this with h|⟨_,h⟩
    ·exact .inl h
    ·exact .inr h
  rw [←gw];simp [Bool.and_assoc]
theorem Asi (n:Nat) (K:Bool->Prop) (hk:K (pU n)):Ol n K:=by
 refine Yr _ _ ?_;have:pU n=(cond (decide ((n:Int)>=97)) ((decide ((n:Int)<=122))||(cond (decide ((n:Int)>=65)) ((decide ((n:Int)<=90))||((n:Int)==95)) ((n:Int)==95))) (cond (decide ((n:Int)>=65)) ((decide ((n:Int)<=90))||((n:Int)==95)) ((n:Int)==95))):=by
  have e1:decide ((n:Int)>=97)=decide (97<=n):=by rw [decide_eq_decide];omega
  have e2:decide ((n:Int)<=122)=decide (n<=122):=by rw [decide_eq_decide];omega
  have e3:decide ((n:Int)>=65)=decide (65<=n):=by rw [decide_eq_decide];omega
  have e4:decide ((n:Int)<=90)=decide (n<=90):=by rw [decide_eq_decide];omega
  have e5:((n:Int)==95)=(n==95):=by rw [Bool.eq_iff_iff];simp;omega
  rw [e1,e2,e3,e4,e5];unfold pU;cases decide (97<=n)<;>cases decide (n<=122)<;>cases decide (65<=n)<;>cases decide (n<=90)<;>cases (n==95)<;>rfl
 unfold Qm;rw [←this];exact hk
theorem Avc (n:Nat) (K:Bool->Prop) (hk:K (pV n)):Qe n K:=by
 refine Abl _ _ ?_;have:pV n=(decide ((n:Int)>=48)&&decide ((n:Int)<=57)):=by
  unfold pV;rw [Bool.eq_iff_iff];simp;omega
 unfold Sd;rw [←this];exact hk
theorem Bbm (l:List (List UInt8)) (hn:l.length<1000) (s:List UInt8) (K:Bool->Prop) (hk:K (decide (s∈l))):z_ l s K:=by
 refine Al0 _ _ _ ⟨fun i n=>∃k:Nat,i=k/\k<=l.length/\n=l.length-k/\s∉l.take k,⟨_,0,rfl,by omega,rfl,by simp⟩,?_⟩;rintro _ _ ⟨k,rfl,ic,rfl,fG⟩;refine Ab (fun hc=>⟨by simp at hc;omega,fun x hx=> ?_⟩) fun hc=> ?_
 ·rw [toNat_natCast]at hx;have aP:=(List.getElem?_eq_some_iff.1 hx).1;refine Ab (fun hb=> ?_) fun hb=> ?_
  ·have:x=s:=by simpa using hb
   subst this
   rwa [decide_eq_true (List.mem_of_getElem? hx)]at hk
  ·rw [A3 (by omega) (by omega)];refine⟨l.length-(k+1),by omega,k+1,by omega,by omega,rfl,?_⟩;rw [List.take_add_one,hx];simp only [Option.toList_some,List.mem_append,mem_singleton,not_or];exact⟨fG,fun e=>by rw [e]at hb;simp at hb⟩
 ·rw [List.take_of_length_le (by simp at hc;omega)]at fG
  rwa [decide_eq_false fG]at hk
theorem FO (s:List UInt8) (hs:s.length<2^63) (K:Bool->Prop) (hk:K (Vj s)):Oi s K:=by
 rw [Avb]at hk;refine Aea _ _ ⟨fun i n=>∃k:Nat,i=k/\k<=s.length/\n=s.length-k/\∀j,j<k->Lh s j=true,⟨_,0,rfl,by omega,rfl,by omega⟩,?_⟩;rintro _ _ ⟨k,rfl,ic,rfl,gw⟩;refine Ab (fun hc=> ?_) fun hc=> ?_
 ·have aP:k<s.length:=by simp at hc;omega
  refine⟨fun b=>b= !Lh s k,⟨by omega,?_⟩,?_⟩
  ·rw [toNat_natCast];refine Asi _ _ (Ab (fun h1=> ?_) fun h1=> ?_)
   ·have h1:m9 (s.getD k 0)=false:=by simpa [m9] using h1
    refine Ab (fun h0=> ?_) fun h0=>⟨by omega,Avc _ _ ?_⟩
    ·have:k=0:=by simp at h0;omega
     subst this;show _=_
     unfold Lh;rw [h1];simp
    ·have h0:k≠0:=by simp at h0;omega
     show _=_
     unfold Lh;rw [h1];simp [h0,BU]
   ·have h1:m9 (s.getD k 0)=true:=by simpa [m9] using h1
    show _=_
    unfold Lh;rw [h1];simp
  ·rintro _ rfl;refine Ab (fun hb=> ?_) fun hb=> ?_
   ·have hb:Lh s k=false:=by simpa using hb
    rw [decide_eq_false (p:=∀k,k<s.length->Lh s k=true) (fun h=>by rw [h k aP]at hb;cases hb)]at hk;simpa using hk
   ·have hb:Lh s k=true:=by simpa using hb
    refine⟨s.length-(k+1),by omega,k+1,by rw [A3 (by omega) (by omega)];omega,by omega,rfl,fun j hj=> ?_⟩;by_cases kq:j=k
    ·subst kq;exact hb
    ·exact gw j (by omega)
 ·have oq:k=s.length:=by simp at hc;omega
  subst oq;rw [decide_eq_true (p:=∀k,k<s.length->Lh s k=true) gw,Bool.true_and]at hk;refine Ab (fun h1=> ?_) fun h1=> ?_
  ·have cf:s≠[]:=by intro e;subst e;simp at h1
   rw [decide_eq_true cf,Bool.true_and]at hk;refine Ab (fun rG=> ?_) fun rG=> ?_
   ·rw [decide_eq_true (by simp at rG;omega),Bool.true_and]at hk;refine Abm _ (Bbm _ (by decide) _ _ ?_);have:decide (s∈([[99,104,97,110],[112,114,111,99],[109,97,105,110],[118,97,114],[105,102],[101,108,115,101],[119,104,105,108,101],[115,101,108,101,99,116],[99,97,115,101],[119,104,101,110],[97,102,116,101,114],[115,116,97,114,116],[115,108,101,101,112],[114,97,110,100,111,109],[112,114,105,110,116],[97,115,115,101,114,116],[115,107,105,112],[115,116,111,112]]:List (List UInt8)))=decide (s∈words):=by
     rw [decide_eq_decide];have h1:∀x∈([[99,104,97,110],[112,114,111,99],[109,97,105,110],[118,97,114],[105,102],[101,108,115,101],[119,104,105,108,101],[115,101,108,101,99,116],[99,97,115,101],[119,104,101,110],[97,102,116,101,114],[115,116,97,114,116],[115,108,101,101,112],[114,97,110,100,111,109],[112,114,105,110,116],[97,115,115,101,114,116],[115,107,105,112],[115,116,111,112]]:List (List UInt8)),x∈words:=by decide
     have h2:∀x∈words,x∈([[99,104,97,110],[112,114,111,99],[109,97,105,110],[118,97,114],[105,102],[101,108,115,101],[119,104,105,108,101],[115,101,108,101,99,116],[99,97,115,101],[119,104,101,110],[97,102,116,101,114],[115,116,97,114,116],[115,108,101,101,112],[114,97,110,100,111,109],[112,114,105,110,116],[97,115,115,101,114,116],[115,107,105,112],[115,116,111,112]]:List (List UInt8)):=by decide
     exact⟨h1 s,h2 s⟩
    rw [this];exact hk
   ·rw [decide_eq_false (by simp at rG;omega),Bool.false_and]at hk;exact hk
  ·have cf:s=[]:=by
    cases s with
    |nil=>rfl
    |cons c l=>simp at h1;omega
   subst cf;simpa using hk
end Nv
open Go.Vc Go.Lv Go.Ty
abbrev Th:=Int×Bool
def D5 (op:Int):Bool:=decide (19<=op)&&decide (op<=22)
def Gd (op:Int):Bool:=(op==4)||((op==10)||((op==11)||((decide (op>=12))&&(decide (op<=17)))))
def rI (op:Int):Bool:=(op==6)||((op==7)||((op==8)||((op==20)||((op==21)||(op==22)))))
def Ee (x:Ay):Int×Bool:=cond (rI x.op) (x.a,true) (cond (x.op==19) (x.b,true) (0,false))
def X7 (op:Int):Int:=cond ((op==3)||(op==4)) 1 (cond ((decide (op>=5))&&(decide (op<=17))) 2 0)
def B5 (x:Ay):Int:=cond (B9 x) (cond (x.op==5) (X7 x.a) (cond (x.op==9&&decide (x.b>0)) 1 (cond (x.op==14) x.b (rowOf x.op).kJ))) 0
def Li (x:Ay):Int:=cond (B9 x) (rowOf x.op).gives 0
theorem Bcf {α:Type} {K:α->Prop} {a b:α} (h:K a) (e:b=a):K b:=e▸h
theorem Rt (op:Int) (K:Bool->Prop) (h:K (D5 op)):Fw op K:=by
 refine Uu _ _ (Bcf (K:=K) h ?_);unfold D5;rw [Bool.eq_iff_iff];simp;omega
theorem Tz (op:Int) (K:Bool->Prop) (h:K (D5 op)):En op K:=
 Wg _ _ h
theorem QT (op:Int) (K:Bool->Prop) (h:K (Gd op)):Oj op K:=Ad1 _ _ h
theorem Ct {α:Type} {A:(α->Prop)->Prop} {B:α->Prop} (v:α) (h1:A (fun x=>x=v)) (h2:B v):∃J,A J/\∀x,J x->B x:=⟨_,h1,fun _ e=>e▸h2⟩
theorem QU (op:Int) (K:Bool->Prop) (h:K (Gd op)):Mh op K:=by
 refine Abt _ _ (Ct (Gd op) ?_ ?_)
 ·have e:Gd op=((op==4)||((op==10)||((op==11)||((op==12)||((op==13)||((op==14)||((op==15)||((op==16)||(op==17))))))))):=by
   unfold Gd;rw [Bool.eq_iff_iff];simp;omega
  rw [e];cases op==4<;>cases op==10<;>cases op==11<;>cases op==12<;>cases op==13<;>cases op==14<;>cases op==15<;>cases op==16<;>cases op==17<;>rfl
 ·cases hb:Gd op<;>rw [hb]at h<;>exact h
theorem QV (x:Ay) (K:Int->Bool->Prop) (h:K (Ee x).1 (Ee x).2):K2 x K:=by
 refine Uv _ _ (Ct (rI x.op) ?_ ?_)
 ·unfold rI;cases x.op==6<;>cases x.op==7<;>cases x.op==8<;>cases x.op==20<;>cases x.op==21<;>cases x.op==22<;>rfl
 ·unfold Ee at h;refine Ab (fun e=>by rw [e]at h;exact h) fun e=>Ab (fun e2=>by rw [e,e2]at h;exact h) fun e2=>by rw [e,e2]at h;exact h
theorem QW (x:Ay) (K:Int->Bool->Prop) (h:K (Ee x).1 (Ee x).2):Kj x K:=by
 refine Yo _ _ (Abk _ _ ?_);unfold Ee at h;refine Ab (fun e=> ?_) fun e=>Ab (fun e2=> ?_) fun e2=> ?_
 ·have h6:rI x.op=false:=by have:x.op=19:=by simpa using e
                            rw [this];rfl
  rw [h6,e]at h;exact h
 ·have h6:rI x.op=true:=e2;rw [h6]at h;exact h
 ·have h6:rI x.op=false:=e2;rw [h6,e]at h;exact h
theorem Axu (op:Int) (K:Int->Prop) (h:K (X7 op)):E2 op K:=by
 unfold X7 at h;refine Pe _ _ (Ab (fun e=>by rw [e]at h;exact h) fun e=>Ab (fun e2=>by rw [e,e2]at h;exact h) fun e2=>by rw [e,e2]at h;exact h)
theorem Axv (op:Int) (K:Int->Prop) (h:K (X7 op)):S7 op K:=by
 unfold X7 at h;refine Ad9 _ _ (Ab (fun e=>by rw [e]at h;exact h) fun e=>Ab (fun e2=>by rw [e,e2]at h;exact h) fun e2=>by rw [e,e2]at h;exact h)
theorem Rb {x:Ay} (h:B9 x=true):1<=x.op/\x.op<=25:=by
 unfold B9 pe W7 at h;simp only [and_eq_true,not_eq_true',or_eq_false_iff]at h;have:=h.1.1;simpa using this
theorem Axw (x:Ay) (K:Int->Prop) (h:K (B5 x)):Qi x K:=by
 refine Abw _ _ (FK _ _ (FL _ _ ?_));unfold B5 at h;cases hr:B9 x
 ·rw [hr]at h;exact h
 ·rw [hr]at h;simp only [cond_true]at h;refine Bj rfl (Ab (fun e=> ?_) fun e=> ?_)
  ·rw [e]at h;exact Axu _ _ h
  ·rw [e]at h;refine Ct (x.op==9&&decide (x.b>0)) ?_ ?_
   ·cases x.op==9<;>rfl
   ·cases h9:x.op==9&&decide (x.b>0)
    ·rw [h9]at h;cases kV:x.op==14
     ·rw [kV]at h;exact h
     ·rw [kV]at h;exact h
    ·rw [h9]at h;exact h
def rJ (op:Int):Bool:=(op==10)||(op==20)
def rK (op:Int):Bool:=(op==4)||((op==7)||((op==8)||((op==11)||((op==12)||((op==13)||((op==15)||((op==16)||((op==19)||(op==21)))))))))
theorem W8 {op:Int} (ho:1<=op/\op<=25):(rowOf op).kJ=cond (rJ op) 2 (cond (rK op) 1 0):=
 eq_of_beq (zm (p:=fun op r=>r.kJ==cond (rJ op) 2 (cond (rK op) 1 0)) (by decide) ho)
theorem QX {op:Int} (ho:1<=op/\op<=25):(rowOf op).gives=cond ((op==2)||((op==3)||((op==5)||(op==9)))) 1 0:=
 eq_of_beq (zm (p:=fun op r=>r.gives==cond ((op==2)||((op==3)||((op==5)||(op==9)))) 1 0) (by decide) ho)
theorem QY (x:Ay) (K:Int->Prop) (h:K (B5 x)):Mc x K:=by
 refine Abi _ _ (FM _ _ ?_);unfold B5 at h;cases hr:B9 x
 ·rw [hr]at h;exact h
 ·rw [hr]at h;have ho:=Rb hr;rw [W8 ho]at h;simp only [cond_true]at h;refine Bj rfl (Ab (fun e=> ?_) fun e=> ?_)
  ·rw [e]at h;exact Axv _ _ h
  ·rw [e]at h;refine Ab (fun wB=> ?_) fun wB=>Ab (fun e9=> ?_) fun e9=> ?_
   ·have h9:(x.op==9&&decide (x.b>0))=false:=by
     have:x.op=14:=by simpa using wB
     rw [this];rfl
    rw [h9,wB]at h;exact h
   ·have e2:rJ x.op=false/\rK x.op=false:=by
     have:x.op=9:=by simpa using e9
     rw [this];exact⟨rfl,rfl⟩
    rw [wB,e9,e2.1,e2.2]at h;cases hb:decide (x.b>0)
    ·rw [hb]at h;exact h
    ·rw [hb]at h;exact h
   ·rw [wB,e9]at h;refine Ct (rJ x.op) ?_ ?_
    ·unfold rJ;cases x.op==10<;>rfl
    ·cases h2:rJ x.op
     ·rw [h2]at h;refine Ct (rK x.op) ?_ ?_
      ·unfold rK;cases x.op==4<;>cases x.op==7<;>cases x.op==8<;>cases x.op==11<;>cases x.op==12<;>cases x.op==13<;>cases x.op==15<;>cases x.op==16<;>cases x.op==19<;>cases x.op==21<;>rfl
      ·cases h1:rK x.op
       ·rw [h1]at h;exact h
       ·rw [h1]at h;exact h
     ·rw [h2]at h;exact h
theorem Axx (x:Ay) (K:Int->Prop) (h:K (Li x)):Qj x K:=by
 refine Abx _ _ (FK _ _ (Ct (B9 x) ?_ ?_))
 ·cases hr:W7 x.op
  ·show false=B9 x
   unfold B9 pe;rw [hr];rfl
  ·exact FL _ _ rfl
 ·unfold Li at h;cases hr:B9 x<;>rw [hr]at h<;>exact h
theorem Ave (x:Ay) (K:Int->Prop) (h:K (Li x)):Qd x K:=by
 refine Abj _ _ (Ct (B9 x&&((x.op==2)||((x.op==3)||((x.op==5)||(x.op==9))))) (FM _ _ ?_) ?_)
 ·cases B9 x
  ·rfl
  ·cases x.op==2<;>cases x.op==3<;>cases x.op==5<;>cases x.op==9<;>rfl
 ·unfold Li at h;cases hr:B9 x
  ·rw [hr]at h;exact h
  ·rw [hr,cond_true,QX (Rb hr)]at h;cases hb:((x.op==2)||((x.op==3)||((x.op==5)||(x.op==9))))
   ·rw [hb]at h;exact h
   ·rw [hb]at h;exact h
def Gz (l:List Ay) (QZ:Int):Nat->Int->Int
 |0,_=>QZ|k+1,now=>if 0<=now/\now<l.length then(match l[now.toNat]? with
  |some x=>if x.op=6 then Gz l QZ k x.a else now
  |none=>now)else now
def Bm (l:List Ay) (at_:Int):Int:=Gz l at_ (l.length+1) at_
theorem Anc {l:List Ay} {a now:Int} {k:Nat} {x:Ay} (h1:0<=now) (h2:now<l.length) (hx:l[now.toNat]? =some x):Gz l a (k+1) now=if x.op=6 then Gz l a k x.a else now:=by
 rw [Gz,if_pos ⟨h1,h2⟩,hx]
theorem Vk {l:List Ay} {a now:Int} {q:Nat} {K N:Int->Prop} (hK:Bm l a=Gz l a (q+1) now) (h:K (Bm l a)) (hN:∀x:Ay,Bm l a=Gz l a q x.a->N x.a): ∃(J:Bool->Prop),(cond (decide (now<0)) (J true) (cond (decide (now>=(l.length:Int))) (J true) (((0:Int)<=now/\now<(l.length:Int))/\∀x2,l[now.toNat]? =some x2->J (x2.op !=6))))/\∀x1,J x1->cond x1 (K now) (((0:Int)<=now/\now<(l.length:Int))/\∀x3,l[now.toNat]? =some x3->N x3.a):=by
 rw [Gz]at hK;by_cases hr:0<=now/\now<l.length
 ·obtain⟨h0,h1⟩:=hr;have aP:now.toNat<l.length:=by omega
  rw [if_pos ⟨h0,h1⟩,getElem?_eq_getElem aP]at hK;refine Ct (l[now.toNat].op !=6) (Bj (by simp;omega) (Bj (by simp;omega) (DP h0 aP rfl))) (Ab (fun e=> ?_) fun e=>DP h0 aP ?_)
  ·have:¬l[now.toNat].op=6:=by simpa using e
   simp only [this,if_false]at hK;rw [←hK];exact h
  ·have:l[now.toNat].op=6:=by simpa using e
   simp only [this,if_true]at hK;exact hN _ hK
 ·rw [if_neg hr]at hK;refine Ct true (Ab (fun _=>rfl) fun h0=>Ab (fun _=>rfl) fun h1=> ?_) (by show K now;rw [←hK];exact h);simp at h0 h1;omega
theorem Q_ (c:Ah) (hl:c.ins.length<=100000) (a:Int) (K:Int->Prop) (h:K (Bm c.ins a)):Jb c a K:=by
 have hw:IntKind.i64.wrap ((c.ins.length:Int)+1)=(c.ins.length+1:Nat):=by rw [A3 (by omega) (by omega)];omega
 refine Wk _ _ _ ⟨fun now k n=>∃j:Nat,k=j/\j<=c.ins.length+1/\n=c.ins.length+1-j/\Bm c.ins a=Gz c.ins a (c.ins.length+1-j) now,⟨_,0,rfl,by omega,rfl,rfl⟩,?_⟩;rintro now _ _ ⟨j,rfl,hj,rfl,he⟩;rw [hw];refine Ab (fun hc=> ?_) fun hc=> ?_
 ·have hj:j<c.ins.length+1:=by have:=of_decide_eq_true hc;omega
  obtain⟨q,hq⟩:∃q,c.ins.length+1-j=q+1:=⟨c.ins.length-j,by omega⟩
  rw [hq]at he⊢;exact Vk (N:=fun b=>∃n1,n1<q+1/\∃i:Nat,IntKind.i64.wrap ((j:Int)+1)=i/\i<=c.ins.length+1/\n1=c.ins.length+1-i/\Bm c.ins a=Gz c.ins a (c.ins.length+1-i) b) he h fun x hx=>⟨q,by omega,j+1,by rw [A3 (by omega) (by omega)];omega,by omega,by omega,by rw [show c.ins.length+1-(j+1)=q by omega];exact hx⟩
 ·have hj:j=c.ins.length+1:=by have:=of_decide_eq_false hc;omega
  subst hj;rw [sub_self]at he;rw [he]at h;exact h
theorem RA (c:Ah) (hl:c.ins.length<=100000) (a:Int) (K:Int->Prop) (h:K (Bm c.ins a)):Kk c a K:=by
 refine Yq _ _ _ ⟨fun now k n=>∃j:Nat,k=j/\j<=c.ins.length+1/\n=c.ins.length+1-j/\Bm c.ins a=Gz c.ins a (c.ins.length+1-j) now,⟨_,0,rfl,by omega,rfl,rfl⟩,?_⟩;rintro now _ _ ⟨j,rfl,hj,rfl,he⟩;refine Ab (fun hc=> ?_) fun hc=> ?_
 ·have hj:j<c.ins.length+1:=by have:=of_decide_eq_true hc;omega
  obtain⟨q,hq⟩:∃q,c.ins.length+1-j=q+1:=⟨c.ins.length-j,by omega⟩
  rw [hq]at he⊢;exact Vk (N:=fun b=>∃n1,n1<q+1/\∃i:Nat,IntKind.i64.wrap ((j:Int)+1)=i/\i<=c.ins.length+1/\n1=c.ins.length+1-i/\Bm c.ins a=Gz c.ins a (c.ins.length+1-i) b) he h fun x hx=>⟨q,by omega,j+1,by rw [A3 (by omega) (by omega)];omega,by omega,by omega,by rw [show c.ins.length+1-(j+1)=q by omega];exact hx⟩
 ·have hj:j=c.ins.length+1:=by have:=of_decide_eq_false hc;omega
  subst hj;rw [sub_self]at he;rw [he]at h;exact h
def Vl (ds:List Cf) (at_:Int):Nat->Int
 |0=> -1|k+1=>match ds[k]? with
  |some d=>if d.entry<=at_ then k else Vl ds at_ k
  |none=>Vl ds at_ k
def Lj (c:Ah) (at_:Int):Int:=if 0<=at_/\at_<c.ins.length then Vl c.defs at_ c.defs.length else-1
def Dl (v0:List Cf) (xs:List ((Int)×((List UInt8)×(Int)×(Int)×(Int)))):Prop:=∀(m:List Nat) (w:World),bB m w->∀(b0:Nat) (c_:List Value),H0 m w (Zb b0) c_->(oE Gc).rep m w v0 c_->Im Tryz.prog 250 #[.pointer (some (Zb b0))] [.int .i64,.row [.string,.int .i64,.int .i64,.int .i64]] m xs w
def Fz (x0:Nat) (x1:Nat) (K:Value->World->Prop) (w:World):Prop:=∃x2 x3 x4,w.cell? (Zb x1)=some (.slice x2 x3 x4)/\∃(I:Int->World->Prop) (x5:Int->World->Nat),I (IntKind.i64.wrap ((x3:Int)-1)) w/\∀(_x6:Nat->Value) (x7:Int) (w1:World),I x7 w1->cond (decide (x7>=0)) (∃x8 x9 ae,w1.cell? (Zb x1)=some (.slice x8 x9 ae)/\((0:Int)<=x7/\x7<(x9:Int))/\Ak x8 (fun aa=>∃ad ai ag ah,Ad w1 (aa.add (x7.toNat*4)) [.string (bS ad),.int .i64 ai,.int .i64 ag,.int .i64 ah]/\Ky Tryz.prog x0 #[.int .i64 x7,.agg #[.string (bS ad),.int .i64 ai,.int .i64 ag,.int .i64 ah]] (fun ao w2=>cond (!ao) (Cc [] w2/\K (.tuple #[]) (shut [] w2)) (I (IntKind.i64.wrap (x7-1)) w2/\x5 (IntKind.i64.wrap (x7-1)) w2<x5 x7 w1)) w1)) (Cc [] w1/\K (.tuple #[]) (shut [] w1))
theorem F0 (x0:Nat) (x1:Nat) (K:Value->World->Prop) (w:World) (h:Fz x0 x1 K w):Calls Tryz.prog 250 #[.func (.yield x0) #[] #[],.pointer (some ⟨x1,0,none⟩)] w (aG K):=
 Rl { loops:=[(6,[(3,.int .i64)])] } Tryz.func250 (by kernel_rfl) h
def Fg (v0:List Cf) (xs:List ((Int)×((List UInt8)×(Int)×(Int)×(Int)))):Prop:=∃(I:Int->(List ((Int)×((List UInt8)×(Int)×(Int)×(Int))))->Bool->Nat->Prop),(∃n,I (IntKind.i64.wrap ((v0.length:Int)-1)) [] false n)/\∀(i:Int) (pre:List ((Int)×((List UInt8)×(Int)×(Int)×(Int)))) (st:Bool) (n:Nat),I i pre st n->cond (decide (i>=0)) (st=false/\((0:Int)<=i/\i<(v0.length:Int))/\∀x,v0[i.toNat]? =some x->xs[pre.length]? =some (i,(x.name,x.entry,x.params,x.vars))/\(∃n1,n1<n/\I (IntKind.i64.wrap (i-1)) (pre++[(i,(x.name,x.entry,x.params,x.vars))]) false n1)/\((true=false->(pre++[(i,(x.name,x.entry,x.params,x.vars))])=xs))) ((st=false->pre=xs))
theorem F1 (v0:List Cf) (xs:List ((Int)×((List UInt8)×(Int)×(Int)×(Int)))) (h:Fg v0 xs):Dl v0 xs:=by
 intro m w hm b0 c_ RB f0;obtain⟨a,c,rfl,le,f⟩:=f0;intro l J Jx W hW hAJ hAX hY hG;have kw:=hW.Bnz m;have oI:=kw.oI;have fU:([]:List ((Int)×((List UInt8)×(Int)×(Int)×(Int))))<+:xs:=List.nil_prefix;change Gh J Jx [] false W at hG;refine F0 l b0 _ _ ?_;refine⟨_,_,_,(Ad.head (RB.st oI).2),?_⟩;obtain⟨I,⟨n2,h⟩,h2⟩:=h;obtain⟨Z,hZ⟩:∃Z:Int->World->Nat->Prop,Z=fun i w1 n=>∃(pre:List ((Int)×((List UInt8)×(Int)×(Int)×(Int)))) (st:Bool),I i pre st n/\pre<+:xs/\Gh J Jx pre st w1/\(st=false->Ai m w w1):=⟨_,rfl⟩
 refine⟨fun i w1=>∃n,Z i w1 n,fun i w1=>b8 (Z i w1),⟨n2,?_⟩,?_⟩
 ·rw [hZ];exact⟨[],false,h,fU,hG,(fun _=>kw)⟩
 ·intro _ i w1 aM;obtain⟨n,bZ⟩:∃n,n=b8 (Z i w1):=⟨_,rfl⟩
  have aM:=Aw aM;rw [←bZ,hZ]at aM;obtain⟨pre,st,h,fU,hG,hkw⟩:=aM;have h:=h2 i pre st n h;refine Aa (fun h=> ?_) (fun h=> ?_) h
  ·obtain⟨hs,h⟩:=h;rw [hs]at hG;have kw:=hkw hs;have oI:=kw.oI;refine⟨_,_,_,(Ad.head (RB.st oI).2),?_⟩;obtain⟨hi,h⟩:=h;obtain⟨p,x,cs,hp,he,hc,hr⟩:=(f.st oI).elem hi;obtain rfl:=Bb hr;have h:=h x he;refine⟨hi,Ae hp ?_⟩;refine⟨_,_,_,_,hc.2,?_⟩;obtain⟨hx,h⟩:=h;have fU:=Alp fU hx;refine Ky.mono (hY _ _ _ hG fU) (fun go w2 hb=> ?_);cases go
   ·have hG:Gh J Jx _ true w2:=hb;have h:=And.right h;exact⟨I7 _,I6 hG fU h⟩
   ·have hG:Gh J Jx _ false w2:=hb.1;have kw:=kw.kpm hb.2;have oI:=kw.oI;have h:=h.1;obtain⟨n1,hl,h⟩:=h;exact As bZ (show Z _ w2 n1 from(by rw [hZ];exact⟨(pre++[(i,(x.name,x.entry,x.params,x.vars))]),false,h,fU,hG,(fun _=>kw)⟩)) hl
  ·exact⟨I7 _,I6 hG fU h⟩
def dT (d:Cf):List UInt8×Int×Int×Int:=(d.name,d.entry,d.params,d.vars)
def mq (ds:List Cf):Nat->List (Int×(List UInt8×Int×Int×Int))
 |0=>[]|k+1=>(match ds[k]? with
  |some d=>((k:Int),dT d)::mq ds k|none=>mq ds k)
theorem FP {ds:List Cf} {k:Nat} (h:k<ds.length):mq ds (k+1)=((k:Int),dT ds[k])::mq ds k:=by
 rw [mq,getElem?_eq_getElem h]
theorem RC {ds:List Cf} :∀(k j:Nat) (hk:k<=ds.length) (hj:j<k),(mq ds k)[j]? =some (((k-1-j:Nat):Int),dT (ds[k-1-j]'(by omega)))
 |0,_,_,hj=>absurd hj (not_lt_zero _)
 |k+1,j,hk,hj=>by
  rw [FP (by omega)];cases j with
  |zero=>rfl
  |succ j=>
   rw [List.getElem?_cons_succ,RC k j (by omega) (by omega)];have e:k+1-1-(j+1)=k-1-j:=by omega
   simp only [e]
theorem FQ {ds:List Cf} :∀(k:Nat),k<=ds.length->(mq ds k).length=k
 |0,_=>rfl
 |k+1,hk=>by rw [FP (by omega),List.length_cons,FQ k (by omega)]
theorem Axy (ds:List Cf) (hl:ds.length<=100000):Dl ds (mq ds ds.length):=by
 refine F1 _ _ ⟨fun i pre stop n=>stop=false/\∃k:Nat,i=(k:Int)-1/\k<=ds.length/\n=k/\pre++mq ds k=mq ds ds.length,⟨_,rfl,ds.length,by rw [A3 (by omega) (by omega)],le_refl _,rfl,rfl⟩,?_⟩;rintro _ pre _ n ⟨rfl,k,rfl,hk,hn,he⟩;refine Ab (fun hc=> ?_) fun hc=> ?_
 ·obtain⟨q,rfl⟩:∃q,k=q+1:=⟨k-1,by simp at hc;omega⟩
  have hq:((q+1:Nat):Int)-1=(q:Int):=by omega
  rw [hq];rw [FP (by omega)]at he;refine⟨rfl,Ax (by omega) ⟨?_,⟨q,by omega,rfl,q,by rw [A3 (by omega) (by omega)],by omega,rfl,?_⟩,fun h=>by cases h⟩⟩
  ·rw [←he,List.getElem?_append_right (le_refl _),sub_self];rfl
  ·rw [List.append_assoc];exact he
 ·have:k=0:=by simp at hc;omega
  subst this;intro _;rw [←he];simp [mq]
theorem Avf {α:Type} {xs pre:List α} {x:α} (h:pre++[x]<+:xs):xs[pre.length]? =some x:=by
 obtain⟨l,hl⟩:=h;rw [←hl];simp
theorem Mem.Bnj {n0:Nat} {rs m0 M:List Nat} {fr:List (List Nat×Nat×World)} {ds:List Nat} {w W:World} {ps:List Pc} (o:Mem n0 rs m0 ((M,W.heap.size,W)::fr) ds w ps) (hM:∀k∈m0,k∈M):wX M (ms ps m0) W w/\Mem n0 rs m0 fr ds w ps:=by
 have hf:=o.g_ _ (List.mem_cons_self);obtain⟨hk,o'⟩:=o.I3;refine⟨⟨hk.kp.all,fun k hk=> ?_⟩,o'⟩;rcases Ce.1 hk with⟨p,hp,hb⟩|h
 ·exact hf.2 p hp k hb
 ·exact .inl (hM k h)
def PR (b b1 b2:Nat) (r a:Int) (cs:List Value):List Pc:=[.box b2 [.int .i64 r],.box b1 [.int .i64 a],.box b cs]
set_option maxHeartbeats 1000000 in
theorem Az6 (c:Ah) (hl:c.defs.length<=100000) (a:Int) (K:Int->Prop) (h:K (Lj c a)):Qk c a K:=by
 intro m w hm cs hc;obtain⟨a0,c0,a1,c1,a2,c2,rfl,⟨le,f⟩,⟨bz,f1⟩,⟨bH,f2⟩⟩:=A5 hc;have o:=Mem.start hm.lt;refine Yc _ _ _ _ _ _ _ _ _ _ _ _ _ _ ?_;intro b w1 hb aU;obtain⟨ar,o⟩:=o.dB hb aU;intro b1 w2 ca cJ;obtain⟨aR,o⟩:=o.dB ca cJ;intro b2 w3 di eC;obtain⟨bf,o⟩:=o.dB di eC;have st:=(ar.trans aR).trans bf;refine⟨fun x w'=>x= !(decide (0<=a)&&decide (a<(c.ins.length:Int)))/\w'=w3,⟨_,(o.at 1 rfl).cell rfl,Ab (fun hc=>⟨?_,rfl⟩) fun hc=>⟨_,(o.at 1 rfl).cell rfl,_,_,_,(o.at 2 rfl).cell rfl,?_,rfl⟩⟩,?_⟩
 ·have:¬(0<=a):=by simp at hc;omega
  simp [this]
 ·have:0<=a:=by simp at hc;omega
  rw [Bool.eq_iff_iff];simp [this]
 rintro _ x w4 ⟨rfl,rfl⟩;refine Ab (fun hx=> ?_) fun hx=> ?_
 ·refine⟨o.wr 0 rfl rfl,fun w5 du=> ?_⟩;obtain⟨bh,o⟩:=o.dS 0 du rfl;refine⟨o.marks.1,_,(o.at 0 rfl).cell rfl,_,?_,rfl,o.done⟩;have:¬(0<=a/\a<c.ins.length):=fun hh=>by simp [hh.1,hh.2]at hx
  unfold Lj at h
  rwa [if_neg this]at h
 ·have hr:0<=a/\a<c.ins.length:=by simpa using hx
  unfold Lj at h;rw [if_pos hr]at h;refine⟨_,_,_,(o.at 2 rfl).cell rfl,?_⟩;refine Gf _ _ _ _ _ ?_;intro b3 w6 jj cZ;obtain⟨bh,o⟩:=o.dB jj cZ;have el:=o.IX 0 rfl (by simp);obtain⟨bk,o⟩:=o.dX 0;have st:=(st.trans bh).trans bk;refine⟨_,rfl,?_⟩;have hle:=o.le;have oc:=o.dsl;have o:Mem w.heap.size [] m [([],w.heap.size,w)] [] w6 (PR b b1 b2 0 a [.slice a0 c.ins.length c0,.slice a1 c.defs.length c1,.slice a2 c.af.length c2,.int .i64 c.main,.int .i64 c.stmts]):=o;have st:Step m w (ms (PR b b1 b2 0 a [.slice a0 c.ins.length c0,.slice a1 c.defs.length c1,.slice a2 c.af.length c2,.int .i64 c.main,.int .i64 c.stmts]) m) w6:=st;have RD:=Axy c.defs hl _ _ (o.mn hm) b3 _ el ⟨_,_,rfl,bz,f1.st st⟩;clear el;generalize hV:Vl c.defs a c.defs.length=V at h;generalize hQ:([.slice a0 c.ins.length c0,.slice a1 c.defs.length c1,.slice a2 c.af.length c2,.int .i64 c.main,.int .i64 c.stmts]:List Value)=Q at o st RD;refine⟨ms (PR b b1 b2 0 a Q) m,mq c.defs c.defs.length,qC.of (o.mn hm).lt RD,fun F pre w'=>F=ms (PR b b1 b2 0 a Q) m/\Mem w.heap.size [] m [([],w.heap.size,w)] [] w' (PR b b1 b2 0 a Q)/\pre.length<=c.defs.length/\Vl c.defs a (c.defs.length-pre.length)=V,
   fun _ w'=>Mem w.heap.size [] m [([],w.heap.size,w)] [] w' (PR b b1 b2 V a Q),fun _ _ _=>False,⟨rfl,o,Nat.zero_le _,hV⟩,?_,?_,?_⟩
  ·rintro _ pre i nm e ps vs w7 w8 ⟨rfl,o,hp,he⟩ hG fU;intro b4 w9 gQ ef;have hx:=Avf fU;have aP:pre.length<c.defs.length:=by
    have:=(List.getElem?_eq_some_iff.1 hx).1
    rwa [FQ _ (le_refl _)]at this
   rw [RC _ _ (le_refl _) aP]at hx;obtain⟨k,hk⟩:∃k,c.defs.length-1-pre.length=k:=⟨_,rfl⟩
   have ic:k<c.defs.length:=by omega
   simp only [hk,dT]at hx;simp only [Option.some.injEq,Prod.mk.injEq]at hx;obtain⟨rfl,rfl,rfl,rfl,rfl⟩:=hx;rw [show c.defs.length-pre.length=k+1 by omega,Vl,getElem?_eq_getElem ic]at he;simp only at he;have o:=o.grow hG (fun f hf=>by rw [mem_singleton.1 hf];exact hle) oc;obtain⟨_,o⟩:=o.dB gQ ef;refine⟨o.wr 0 rfl rfl,fun aK fI=> ?_⟩;obtain⟨_,o⟩:=o.cH 0 fI rfl;refine⟨Sv (Aq ef) (Kr fI) (H4 gQ (Ai.refl _ _)),rfl,fun aI t9=> ?_⟩;have o:=o.grow t9 (fun f hf=>by rw [mem_singleton.1 hf];exact hle) oc;have o0:=(o.at 0 rfl).cell (i:=1) rfl;have o:Mem w.heap.size [] m [([],w.heap.size,w)] [] aI (PR b b1 b2 0 a Q):=o.erase 0;have o:=o.round (M:=ms (PR b b1 b2 0 a Q) m) (B:=aI.heap.size) (le_refl _) (fun k hk=> .inl hk);refine⟨_,o0,_,(o.at 1 rfl).cell rfl,Ab (fun hd=> ?_) fun hd=> ?_⟩
   ·refine⟨o.wr 0 rfl rfl,fun bj j7=> ?_⟩;obtain⟨_,o⟩:=o.dS 0 j7 rfl;obtain⟨hk,o⟩:=o.I3;have:(k:Int)=V:=by rw [←he,if_pos (of_decide_eq_true hd)]
    rw [this]at o;exact⟨hk.kp.all,o⟩
   ·obtain⟨hKF,o⟩:=Mem.Bnj o fun q hq=>Ce.2 (.inr hq)
    refine⟨_,hKF,rfl,o,?_,?_⟩
    ·rw [List.length_append];simp;omega
    ·rw [if_neg (of_decide_eq_false hd)]at he;rw [List.length_append,List.length_singleton,show c.defs.length-(pre.length+1)=k by omega];exact he
  ·rintro pre bG bt D fU o hG hD qi;have o:=o.grow hG (fun f hf=>by rw [mem_singleton.1 hf];exact hle) oc;have o:=o.mark qi hD hle oc;exact⟨o.marks.1,_,(o.I5 0 rfl).cell rfl,_,h,rfl,o.I4⟩
  ·rintro _ cr ck D ⟨rfl,o,hp,he⟩ hG hD qi;have o:=o.grow hG (fun f hf=>by rw [mem_singleton.1 hf];exact hle) oc;have o:=o.mark qi hD hle oc;refine⟨o.wr 0 rfl rfl,fun cQ lk=> ?_⟩;obtain⟨_,o⟩:=o.dS 0 lk rfl;rw [FQ _ (le_refl _),sub_self]at he;have he:V= -1:=he.symm;subst he;exact⟨o.marks.1,_,(o.I5 0 rfl).cell rfl,_,h,rfl,o.I4⟩
def wC:List UInt8:=[109,97,105,110]
def Lk (d:Cf):Bool:=(d.name==wC)||Nv.Vj d.name
def Ll (n:Nat) (last:Int) (d:Cf):Bool:= !((!Lk d)||((decide (last<0)&&(d.entry !=0))||(decide (d.entry<=last)||(decide (d.entry>=(n:Int))||(decide (d.params<0)||(decide (d.params>d.vars)||decide (d.vars>16)))))))
def Jw (n:Nat):List Cf->Int->Bool
 |[],_=>true|d::l,last=>Ll n last d&&Jw n l d.entry
def F2 (base:Int) (x:Bu):Bool:= !((!Nv.Vj x.name)||(decide (x.size<0)||(decide (x.size>16)||(x.base !=base))))
def Hw (x:Bu):Int:=if 1>x.size then 1 else x.size
def E7:List Bu->Int->Bool
 |[],_=>true|x::l,base=>F2 base x&&(!decide (base+Hw x>64)&&E7 l (base+Hw x))
def tw (c:Ah):Bool:= !(decide ((c.defs.length:Int)<1)||(decide ((c.defs.length:Int)>32)||(decide ((c.ins.length:Int)>65536)||(decide (c.main<0)||(decide (c.main>=(c.defs.length:Int))||(((c.defs.getD c.main.toNat default).params !=0)))))))
def E8 (c:Ah):Bool:=tw c&&(Jw c.ins.length c.defs (-1)&&E7 c.af 0)
theorem Vm {α:Type} {l:List α} {k:Nat} (h:k<l.length):l.drop k=l[k]::l.drop (k+1):=List.drop_eq_getElem_cons h
theorem RE {c:Ah} {K:Bool->Prop} {R:Prop} (hf:tw c=false->K false) (hr:tw c=true->R): ∃(J:Bool->Prop),(cond (decide ((c.defs.length:Int)<1)) (J true) (cond (decide ((c.defs.length:Int)>32)) (J true) (cond (decide ((c.ins.length:Int)>65536)) (J true) (cond (decide (c.main<0)) (J true) (cond (decide (c.main>=(c.defs.length:Int))) (J true) (((0:Int)<=c.main/\c.main<(c.defs.length:Int))/\∀x1,c.defs[c.main.toNat]? =some x1->J (x1.params !=0)))))))/\∀x,J x->cond x (K false) R:=by
 refine Ct (!tw c) ?_ (Ab (fun e=>hf (by simpa using e)) fun e=>hr (by simpa using e));unfold tw;cases decide ((c.defs.length:Int)<1)
 ·cases decide ((c.defs.length:Int)>32)
  ·cases decide ((c.ins.length:Int)>65536)
   ·cases h4:decide (c.main<0)
    ·cases h5:decide (c.main>=(c.defs.length:Int))
     ·have h4:=of_decide_eq_false h4;have h5:=of_decide_eq_false h5;refine DP (by omega) (by omega) ?_;have:c.defs.getD c.main.toNat default=c.defs[c.main.toNat]'(by omega):=by simp [List.getD,getElem?_eq_getElem (show c.main.toNat<c.defs.length by omega)]
      rw [this];simp
     ·rfl
    ·rfl
   ·rfl
  ·rfl
 ·rfl
theorem Avg (c:Ah) (hd:c.defs.length<=100000) (gN:c.af.length<=100000) (K:Bool->Prop) (h:K (E8 c)):Mx c K:=by
 unfold E8 at h;refine Wi _ _ (RE (fun e=>by rw [e]at h;exact h) fun e=> ?_);rw [e,Bool.true_and]at h;refine⟨fun last i n=>At c.defs.length (fun k=>Jw c.ins.length (c.defs.drop k) last=Jw c.ins.length c.defs (-1)) i n,⟨_,At.start rfl⟩,?_⟩;rintro last _ _ ⟨k,rfl,hk,rfl,he⟩;refine At.cond hk (fun hk=> ?_) fun hk=> ?_
 ·rw [Vm hk,Jw]at he;refine Ax hk (Ct (Lk c.defs[k]) ?_ (Ct (!Ll c.ins.length last c.defs[k]) ?_ (Ab (fun hb=> ?_) fun hb=> ?_)))
  ·unfold Lk wC;cases c.defs[k].name==[109,97,105,110]
   ·exact Nv.QS _ _ rfl
   ·rfl
  ·unfold Ll;generalize decide (c.defs[k].entry<=last)=a1;generalize decide (c.defs[k].entry>=(c.ins.length:Int))=a2;generalize decide (c.defs[k].params<0)=a3;generalize decide (c.defs[k].params>c.defs[k].vars)=a4;generalize decide (c.defs[k].vars>16)=a5;cases Lk c.defs[k]<;>cases decide (last<0)<;>cases (c.defs[k].entry !=0)<;>cases a1<;>cases a2<;>cases a3<;>cases a4<;>first|rfl|(cases a5<;>rfl)
  ·rw [show Ll c.ins.length last c.defs[k]=false by simpa using hb,Bool.false_and]at he;rw [←he,Bool.false_and]at h;exact h
  ·rw [show Ll c.ins.length last c.defs[k]=true by simpa using hb,Bool.true_and]at he;exact At.next (by omega) hk he
 ·rw [hk,drop_length,Jw]at he;rw [←he,Bool.true_and]at h;refine⟨fun base i n=>At c.af.length (fun k=>0<=base/\base<=64/\E7 (c.af.drop k) base=E7 c.af 0) i n,⟨_,At.start ⟨by omega,by omega,rfl⟩⟩,?_⟩;rintro base _ _ ⟨k,rfl,hk,rfl,h0,h64,he⟩;refine At.cond hk (fun hk=> ?_) fun hk=> ?_
  ·rw [Vm hk,E7]at he;refine Ax hk (Ct (!F2 base c.af[k]) (Nv.QS _ _ ?_) (Ab (fun hb=> ?_) fun hb=> ?_))
   ·unfold F2;cases Nv.Vj c.af[k].name<;>cases decide (c.af[k].size<0)<;>cases decide (c.af[k].size>16)<;>first|rfl|(cases (c.af[k].base !=base)<;>rfl)
   ·rw [show F2 base c.af[k]=false by simpa using hb,Bool.false_and]at he;rw [←he]at h;exact h
   ·have hb:F2 base c.af[k]=true:=by simpa using hb
    rw [hb,Bool.true_and]at he;have hs:0<=c.af[k].size/\c.af[k].size<=16:=by
     unfold F2 at hb;simp at hb;omega
    have zn:1<=Hw c.af[k]/\Hw c.af[k]<=16:=by unfold Hw;split<;>omega
    have hw:IntKind.i64.wrap (base+(if 1>c.af[k].size then 1 else c.af[k].size))=base+Hw c.af[k]:=A3 (by show _<=base+Hw _;omega) (by show base+Hw _<=_;omega);rw [hw];refine Ab (fun hc=> ?_) fun hc=> ?_
    ·rw [hc]at he;rw [←he]at h;exact h
    ·rw [hc]at he;exact At.next (by omega) hk ⟨by omega,by have:=of_decide_eq_false hc;omega,he⟩
  ·rw [hk,drop_length,E7]at he;rw [←he]at h;exact h
theorem Asj (c:Ah) (hd:c.defs.length<=100000) (gN:c.af.length<=100000) (hn:∀d∈c.defs,d.name.length<2^63) (FR:∀d∈c.af,d.name.length<2^63) (K:Bool->Prop) (h:K (E8 c)):Oh c K:=by
 unfold E8 at h;refine Ym _ _ (RE (fun e=>by rw [e]at h;exact h) fun e=> ?_);rw [e,Bool.true_and]at h;refine⟨fun i n=>At c.defs.length (fun k=>∃last:Int,((k=0/\last= -1)\/(0<k/\0<=last/\∃d,c.defs[k-1]? =some d/\d.entry=last))/\Jw c.ins.length (c.defs.drop k) last=Jw c.ins.length c.defs (-1)) i n,⟨_,At.start ⟨-1,.inl ⟨rfl,rfl⟩,rfl⟩⟩,?_⟩;rintro _ _ ⟨k,rfl,hk,rfl,last,pd,he⟩;refine At.cond hk (fun hk=> ?_) fun hk=> ?_
 ·rw [Vm hk,Jw]at he;have Brk:(decide (c.defs[k].entry<0)||(decide (c.defs[k].entry>=(c.ins.length:Int))||((k==0&&(c.defs[k].entry !=0))||(decide (0<k)&&decide (c.defs[k].entry<=last)))))=((decide (last<0)&&(c.defs[k].entry !=0))||(decide (c.defs[k].entry<=last)||decide (c.defs[k].entry>=(c.ins.length:Int)))):=by
   rw [Bool.eq_iff_iff];rcases pd with⟨rfl,rfl⟩|⟨h0,h1,_⟩
   ·simp;omega
   ·simp;omega
  have Boy:∀ {J:Bool->Prop},0<k->(J (decide (c.defs[k].entry<=last)))->(((0:Int)<=(IntKind.i64.wrap ((k:Int)-1))/\(IntKind.i64.wrap ((k:Int)-1))<(c.defs.length:Int))/\∀x5,c.defs[(IntKind.i64.wrap ((k:Int)-1)).toNat]? =some x5->J (decide (c.defs[k].entry<=x5.entry))):=by
   intro J h0 hJ;rw [A3 (by omega) (by omega)];refine⟨⟨by omega,by omega⟩,fun x hx=> ?_⟩;rcases pd with⟨h1,_⟩|⟨_,_,d,hd,xe⟩
   ·omega
   ·rw [show((k:Int)-1).toNat=k-1 by omega,hd]at hx;cases hx
    rw [xe];exact hJ
  have Boz:∀ {J:Bool->Prop},J (decide (c.defs[k].entry<0)||(decide (c.defs[k].entry>=(c.ins.length:Int))||((k==0&&(c.defs[k].entry !=0))||(decide (0<k)&&decide (c.defs[k].entry<=last)))))->
   cond (decide (c.defs[k].entry<0)) (J true) (cond (decide (c.defs[k].entry>=(c.ins.length:Int))) (J true) (cond ((k:Int)==0) (cond (c.defs[k].entry !=0) (J true) (cond (decide ((k:Int)>0)) (((0:Int)<=(IntKind.i64.wrap ((k:Int)-1))/\(IntKind.i64.wrap ((k:Int)-1))<(c.defs.length:Int))/\∀x5,c.defs[(IntKind.i64.wrap ((k:Int)-1)).toNat]? =some x5->J (decide (c.defs[k].entry<=x5.entry))) (J false)))
    (cond (decide ((k:Int)>0)) (((0:Int)<=(IntKind.i64.wrap ((k:Int)-1))/\(IntKind.i64.wrap ((k:Int)-1))<(c.defs.length:Int))/\∀x6,c.defs[(IntKind.i64.wrap ((k:Int)-1)).toNat]? =some x6->J (decide (c.defs[k].entry<=x6.entry))) (J false)))):=by
   intro J;cases decide (c.defs[k].entry<0)
   ·cases decide (c.defs[k].entry>=(c.ins.length:Int))
    ·by_cases h0:k=0
     ·have e1:(k==0)=true:=by simp [h0]
      have e2:((k:Int)==0)=true:=by simp [h0]
      have e3:decide (0<k)=false:=by simp [h0]
      have e4:decide ((k:Int)>0)=false:=by simp [h0]
      rw [e1,e2,e3,e4];cases (c.defs[k].entry !=0)
      ·exact fun hJ=>hJ
      ·exact fun hJ=>hJ
     ·have e1:(k==0)=false:=by simp [h0]
      have e2:((k:Int)==0)=false:=by simp [h0]
      have e3:decide (0<k)=true:=by simp;omega
      have e4:decide ((k:Int)>0)=true:=by simp;omega
      rw [e1,e2,e3,e4];exact fun hJ=>Boy (by omega) hJ
    ·exact fun hJ=>hJ
   ·exact fun hJ=>hJ
  obtain⟨J,hJ⟩:∃J:Bool->Prop,J=fun x=>x=(!Lk c.defs[k]||((decide (last<0)&&(c.defs[k].entry !=0))||(decide (c.defs[k].entry<=last)||decide (c.defs[k].entry>=(c.ins.length:Int))))):=⟨_,rfl⟩
  refine Ax hk ⟨J,?_,fun x hx=> ?_⟩
  ·cases lU:Lk c.defs[k]
   ·have h1:(c.defs[k].name==[109,97,105,110])=false:=by unfold Lk wC at lU;simp only [or_eq_false_iff]at lU;exact lU.1
    have h2:Nv.Vj c.defs[k].name=false:=by unfold Lk wC at lU;simp only [or_eq_false_iff]at lU;exact lU.2
    rw [h1];refine Nv.FO _ (hn _ (getElem_mem hk)) _ ?_;rw [h2,hJ,lU];rfl
   ·have hT:=Boz (J:=J) (by rw [hJ,lU,Brk];rfl);have h1:=lU;unfold Lk wC at h1;cases h2:(c.defs[k].name==[109,97,105,110])
    ·rw [h2,Bool.false_or]at h1;refine Nv.FO _ (hn _ (getElem_mem hk)) _ ?_;rw [h1];exact hT
    ·exact hT
  ·rw [hJ]at hx;refine Ab (fun hb=> ?_) fun hb=> ?_
   ·have hf:Ll c.ins.length last c.defs[k]=false:=by
     rw [hb]at hx;unfold Ll
     revert hx
     cases Lk c.defs[k]<;>cases decide (last<0)&&(c.defs[k].entry !=0)<;>cases decide (c.defs[k].entry<=last)<;>cases decide (c.defs[k].entry>=(c.ins.length:Int))<;>intro hx<;>first|rfl|cases hx
    rw [hf,Bool.false_and]at he;rw [←he,Bool.false_and]at h;exact h
   ·rw [hb]at hx;have hd:Ll c.ins.length last c.defs[k]= !(decide (c.defs[k].params<0)||(decide (c.defs[k].params>c.defs[k].vars)||decide (c.defs[k].vars>16))):=by
     unfold Ll
     revert hx
     cases Lk c.defs[k]<;>cases decide (last<0)&&(c.defs[k].entry !=0)<;>cases decide (c.defs[k].entry<=last)<;>cases decide (c.defs[k].entry>=(c.ins.length:Int))<;>intro hx<;>first|rfl|cases hx
    refine Ct (!Ll c.ins.length last c.defs[k]) ?_ (Ab (fun hb=> ?_) fun hb=> ?_)
    ·rw [hd];cases decide (c.defs[k].params<0)<;>cases decide (c.defs[k].params>c.defs[k].vars)<;>cases decide (c.defs[k].vars>16)<;>rfl
    ·rw [show Ll c.ins.length last c.defs[k]=false by simpa using hb,Bool.false_and]at he;rw [←he,Bool.false_and]at h;exact h
    ·have eM:Ll c.ins.length last c.defs[k]=true:=by simpa using hb
     rw [eM,Bool.true_and]at he;refine At.next (by omega) hk ⟨_,.inr ⟨by omega,?_,c.defs[k],?_,rfl⟩,he⟩
     ·unfold Ll at eM;simp only [not_eq_true',or_eq_false_iff,decide_eq_false_iff_not]at eM;rcases pd with⟨_,hl⟩|⟨_,hl,_⟩
      ·subst hl;have:=eM.2.2.1;omega
      ·have:=eM.2.2.1;omega
     ·rw [Nat.add_sub_cancel];exact getElem?_eq_getElem hk
 ·rw [hk,drop_length,Jw]at he;rw [←he,Bool.true_and]at h;refine⟨fun base i n=>At c.af.length (fun k=>0<=base/\((base<=64/\E7 (c.af.drop k) base=E7 c.af 0)\/(64<base/\base<=90/\E7 c.af 0=false))) i n,⟨_,At.start ⟨by omega,.inl ⟨by omega,rfl⟩⟩⟩,?_⟩;rintro base _ _ ⟨k,rfl,hk,rfl,h0,hc⟩;refine At.cond hk (fun hk=> ?_) fun hk=> ?_
  ·have aU:∀x:Bu,0<=x.size->x.size<=16->base<=64->∀ {J:Int->Prop},J (base+Hw x)->cond (x.size==0) (J (IntKind.i64.wrap ((IntKind.i64.wrap (base+x.size))+1))) (J (IntKind.i64.wrap (base+x.size))):=by
    intro x h1 h2 h3 J hJ;rw [A3 (n:=base+x.size) (by omega) (by omega),A3 (by omega) (by omega)];refine Ab (fun e=> ?_) fun e=> ?_
    ·have:x.size=0:=by simpa using e
     have:Hw x=1:=by unfold Hw;rw [if_pos (by omega)]
     rw [this]at hJ
     rwa [show base+x.size+1=base+1 by omega]
    ·have:¬x.size=0:=by simpa using e
     have:Hw x=x.size:=by unfold Hw;rw [if_neg (by omega)]
     rwa [this]at hJ
   have Bnk:E7 c.af 0=false->K false:=fun e=>by rw [e]at h;exact h
   refine⟨fun b=>b=base+Hw c.af[k]/\base<64/\F2 base c.af[k]=true,Ax hk (Ct (!F2 base c.af[k]||decide (base>=64)) (Nv.FO _ (FR _ (getElem_mem hk)) _ ?_) (Ab (fun hb=> ?_) fun hb=> ?_)),?_⟩
   ·unfold F2;cases Nv.Vj c.af[k].name<;>cases decide (c.af[k].size<0)<;>cases decide (c.af[k].size>16)<;>cases (c.af[k].base !=base)<;>first|rfl|(cases decide (base>=64)<;>rfl)
   ·refine Bnk ?_;rcases hc with⟨h1,hc⟩|⟨_,_,hc⟩
    ·rw [Vm hk,E7]at hc;cases gW:F2 base c.af[k]
     ·rw [gW,Bool.false_and]at hc;exact hc.symm
     ·rw [gW]at hb hc;have hb:base>=64:=by simpa using hb
      have hs:0<=c.af[k].size/\c.af[k].size<=16:=by
       unfold F2 at gW;simp at gW;omega
      have zn:1<=Hw c.af[k]:=by unfold Hw;split<;>omega
      rw [decide_eq_true (by omega:base+Hw c.af[k]>64)]at hc;exact hc.symm
    ·exact hc
   ·have gW:F2 base c.af[k]=true:=by
     cases gW:F2 base c.af[k]
     ·rw [gW]at hb;cases hb
     ·rfl
    have hb:base<64:=by rw [gW]at hb;simpa using hb
    have hs:0<=c.af[k].size/\c.af[k].size<=16:=by
     unfold F2 at gW;simp at gW;omega
    exact aU _ hs.1 hs.2 (by omega) (J:=fun b=>b=base+Hw c.af[k]/\base<64/\F2 base c.af[k]=true) ⟨rfl,hb,gW⟩
   ·rintro _ ⟨rfl,hb,gW⟩;have hs:0<=c.af[k].size/\c.af[k].size<=16:=by
     unfold F2 at gW;simp at gW;omega
    have zn:1<=Hw c.af[k]/\Hw c.af[k]<=16:=by unfold Hw;split<;>omega
    refine At.next (by omega) hk ⟨by omega,?_⟩;rcases hc with⟨h1,hc⟩|⟨h1,_⟩
    ·rw [Vm hk,E7,gW,Bool.true_and]at hc;by_cases hg:base+Hw c.af[k]>64
     ·rw [decide_eq_true hg]at hc;exact .inr ⟨hg,by omega,hc.symm⟩
     ·rw [decide_eq_false hg]at hc;exact .inl ⟨by omega,hc⟩
    ·omega
  ·rcases hc with⟨h1,hc⟩|⟨h1,_,hc⟩
   ·rw [hk,drop_length,E7]at hc;rw [←hc]at h;rw [decide_eq_true h1];exact h
   ·rw [hc]at h;rw [decide_eq_false (by omega)];exact h
def cw (c:Ah) (r:Nat):Int:=((c.defs[r]?).map (·.entry)).getD 0
def cK (c:Ah) (r:Nat):Int:=match c.defs[r+1]? with
 |some d=>d.entry|none=>c.ins.length
def i7 (c:Ah) (r:Nat):Int:=((c.defs[r]?).map (·.vars)).getD 0
structure fj (c:Ah):Prop where
 n1:1<=c.defs.length
 n2:c.defs.length<=32
 ni:c.ins.length<=65536
 m0:0<=c.main
 m1:c.main<c.defs.length
 mp:∀(d:Cf),c.defs[c.main.toNat]? =some d->d.params=0
 tz:∀(i:Nat) (d:Cf),c.defs[i]? =some d->0<=d.entry/\d.entry<c.ins.length
 par:∀(i:Nat) (d:Cf),c.defs[i]? =some d->0<=d.params/\d.params<=d.vars/\d.vars<=16
 mono:∀(i:Nat) (d e:Cf),c.defs[i]? =some d->c.defs[i+1]? =some e->d.entry<e.entry
 zero:∀(d:Cf),c.defs[0]? =some d->d.entry=0
 ch:∀x∈c.af,0<=x.size/\x.size<=16
theorem Api {n:Nat} {last:Int} {d:Cf} (h:Ll n last d=true):last<d.entry/\d.entry<n/\0<=d.params/\d.params<=d.vars/\d.vars<=16/\(last<0->d.entry=0):=by
 unfold Ll at h;simp only [not_eq_true',or_eq_false_iff,decide_eq_false_iff_not,Bool.and_eq_false_iff,bne_eq_false_iff_eq]at h;obtain⟨_,h1,h2,h3,h4,h5,h6⟩:=h;refine⟨by omega,by omega,by omega,by omega,by omega,fun hl=> ?_⟩;rcases h1 with h1|h1
 ·exact absurd hl h1
 ·exact h1
theorem X8 {n:Nat} :∀ {l:List Cf} {last:Int},-1<=last->Jw n l last=true->(∀(i:Nat) (d:Cf),l[i]? =some d->last<d.entry/\d.entry<n/\0<=d.params/\d.params<=d.vars/\d.vars<=16)/\
 (∀(i:Nat) (d e:Cf),l[i]? =some d->l[i+1]? =some e->d.entry<e.entry)/\(last<0->∀d,l[0]? =some d->d.entry=0)
 |[],_,_,_=>⟨fun _ _ h=>by simp at h,fun _ _ _ h=>by simp at h,fun _ _ h=>by simp at h⟩
 |a::l,last,hl,h=>by
  rw [Jw,and_eq_true]at h;obtain⟨h1,h2,h3,h4,h5,h6⟩:=Api h.1;obtain⟨g1,g2,_⟩:=X8 (last:=a.entry) (by omega) h.2;refine⟨fun i d hd=> ?_,fun i d e hd he=> ?_,fun hl d hd=> ?_⟩
  ·cases i with
   |zero=>cases hd;exact⟨h1,h2,h3,h4,h5⟩
   |succ i=>have:=g1 i d hd;omega
  ·cases i with
   |zero=>cases hd;exact(g1 0 e he).1
   |succ i=>exact g2 i d e hd he
  ·cases hd;exact h6 hl
theorem Vn:∀ {l:List Bu} {base:Int},E7 l base=true->∀x∈l,0<=x.size/\x.size<=16
 |[],_,_,_,hx=>(by first | (cases hx; done) | simp at hx)
 |a::l,base,h,x,hx=>by
  rw [E7,and_eq_true,and_eq_true]at h;cases hx with
  |head=>
   have h:=h.1;unfold F2 at h;simp at h;omega
  |tail _ hx=>exact Vn h.2.2 x hx
theorem FT {c:Ah} (h:E8 c=true):fj c:=by
 unfold E8 at h;simp only [and_eq_true]at h;obtain⟨h1,h2,h3⟩:=h;obtain⟨g1,g2,g3⟩:=X8 (by omega) h2;unfold tw at h1;simp only [not_eq_true',or_eq_false_iff,decide_eq_false_iff_not,bne_eq_false_iff_eq]at h1;obtain⟨k1,k2,k3,k4,k5,k6⟩:=h1;refine⟨by omega,by omega,by omega,by omega,by omega,fun d hd=> ?_,fun i d hd=>by have:=g1 i d hd;omega,fun i d hd=>by have:=g1 i d hd;omega,g2,g3 (by omega),Vn h3⟩;rw [List.getD,hd]at k6;exact k6
variable {c:Ah}
theorem fj.ql (T:fj c) {r:Nat} (hr:r<c.defs.length):0<=cw c r:=by
 unfold cw;rw [getElem?_eq_getElem hr];exact(T.tz _ _ (getElem?_eq_getElem hr)).1
theorem fj.rL (T:fj c) (r:Nat):cK c r<=c.ins.length:=by
 unfold cK;split
 ·rename_i d hd;have:=(T.tz _ _ hd).2;omega
 ·exact Int.le_refl _
theorem fj.tB (T:fj c) {r:Nat} (hr:r<c.defs.length):cw c r<cK c r:=by
 unfold cw cK;rw [getElem?_eq_getElem hr];split
 ·rename_i d hd;exact T.mono _ _ _ (getElem?_eq_getElem hr) hd
 ·exact(T.tz _ _ (getElem?_eq_getElem hr)).2
theorem fj.Bmh {r:Nat} (hr:r+1<c.defs.length):cw c (r+1)=cK c r:=by
 unfold cw cK;rw [getElem?_eq_getElem hr];rfl
theorem fj.Bmi {r:Nat} (hr:r+1=c.defs.length):cK c r=c.ins.length:=by
 unfold cK;rw [List.getElem?_eq_none (by omega)]
theorem zo (c:Ah) (hd:c.defs.length<=100000) {r:Nat} (hr:r<c.defs.length) (K:Int->Prop) (h:K (cK c r)):Np c r K:=by
 have hw:IntKind.i64.wrap ((r:Int)+1)=(r+1:Nat):=by rw [A3 (by omega) (by omega)];omega
 refine Aly _ _ _ ?_;unfold JN;rw [hw];unfold cK at h;refine Ab (fun hc=> ?_) fun hc=> ?_
 ·have aP:r+1<c.defs.length:=by have:=of_decide_eq_true hc;omega
  rw [getElem?_eq_getElem aP]at h;exact Ax aP h
 ·have:¬r+1<c.defs.length:=by have:=of_decide_eq_false hc;omega
  rw [List.getElem?_eq_none (by omega)]at h;exact h
def O4 (l:List Ay) (i:Int):Int:=((l[i.toNat]?).map (·.op)).getD 0
theorem H5 {l:List Ay} {i:Int} {x:Ay} (h:l[i.toNat]? =some x):O4 l i=x.op:=by unfold O4;rw [h];rfl
def Gt (l:List Ay) (fr to at_:Int):Bool:=decide (Bm l at_>=fr)&&(decide (Bm l at_<to)&&((O4 l (Bm l at_)==1)||(O4 l (Bm l at_)==24)))
theorem RF {l:List Ay} {fr to s:Int} {K:Bool->Prop} (h0:0<=fr) (h1:to<=l.length) (h:K (decide (s>=fr)&&(decide (s<to)&&((O4 l s==1)||(O4 l s==24))))): cond (decide (s>=fr)) (cond (decide (s<to)) (((0:Int)<=s/\s<(l.length:Int))/\∀x,l[s.toNat]? =some x->cond (x.op==1) (K true) (((0:Int)<=s/\s<(l.length:Int))/\∀x1,l[s.toNat]? =some x1->K (x1.op==24))) (K false)) (K false):=by
 refine Ab (fun ha=> ?_) fun ha=>by rw [ha]at h;exact h
 refine Ab (fun hb=> ?_) fun hb=>by rw [ha,hb]at h;exact h
 rw [ha,hb]at h;have ha:=of_decide_eq_true ha;have hb:=of_decide_eq_true hb;refine⟨⟨by omega,by omega⟩,fun x hx=> ?_⟩;rw [H5 hx]at h;refine Ab (fun hc=>by rw [hc]at h;exact h) fun hc=>⟨⟨by omega,by omega⟩,fun y hy=> ?_⟩
 rw [hx]at hy;cases hy
 rw [hc]at h;exact h
theorem FV (k:An) (hl:k.code.ins.length<=100000) (h0:0<=k.from_) (h1:k.to<=k.code.ins.length) (a:Int) (K:Bool->Prop) (h:K (Gt k.code.ins k.from_ k.to a)):Dj k a K:=
 Ns _ _ _ (Q_ _ hl _ _ (RF h0 h1 h))
theorem RG (T:fj c) {r:Nat} (hr:r<c.defs.length) (a:Int) (K:Bool->Prop) (h:K (Gt c.ins (cw c r) (cK c r) a)):Hd c r a K:=by
 have:=T.ni;have:=T.n2;refine Abe _ _ _ _ (RA _ (by omega) _ _ (Ax hr ?_));have jL:cw c r=c.defs[r].entry:=by unfold cw;rw [getElem?_eq_getElem hr];rfl
 have ht:=RF (K:=K) (s:=Bm c.ins a) (T.ql hr) (T.rL r) h;rw [jL]at ht;refine Ab (fun e=> ?_) fun e=> ?_
 ·rw [e]at ht;exact zo c (by omega) hr _ ht
 ·rw [e]at ht;exact ht
def T0 (l:List Ay) (fr to at_ t:Int):Bool:=decide (t>=fr)&&(decide (t<to)&&(decide (t>at_)||(O4 l t==1)))
theorem Axz (k:An) (h0:0<=k.from_) (h1:k.to<=k.code.ins.length) (a t:Int) (K:Bool->Prop) (h:K (T0 k.code.ins k.from_ k.to a t)):Fv k a t K:=by
 unfold T0 at h;refine Nt _ _ _ _ (Ab (fun ha=> ?_) fun ha=>by rw [ha]at h;exact h);refine Ab (fun hb=> ?_) fun hb=>by rw [ha,hb]at h;exact h
 refine Ab (fun hc=>by rw [ha,hb,hc]at h;exact h) fun hc=> ?_
 rw [ha,hb,hc]at h;have ha:=of_decide_eq_true ha;have hb:=of_decide_eq_true hb;refine⟨⟨by omega,by omega⟩,fun x hx=> ?_⟩;rw [H5 hx]at h;exact h
theorem Asl {α:Type} (l:List α) (hl:l.length<=100000) (p:α->Bool) (V:α->(Bool->Prop)->Prop) (hV:∀x K,K (p x)->V x K) (K:Int->Prop) (h1:∀(i:Nat) (hi:i<l.length),p l[i]=true->(∀(j:Nat) (hj:j<i),p (l[j]'(by omega))=false)->K i) (h2:(∀x∈l,p x=false)->K (-1)): ∃(I:Int->Nat->Prop),(∃n,I 0 n)/\∀(x:Int) (n:Nat),I x n->cond (decide (x<(l.length:Int))) (((0:Int)<=x/\x<(l.length:Int))/\∀x1,l[x.toNat]? =some x1->V x1 (fun x2=>cond x2 (K x) (∃n1,n1<n/\I (IntKind.i64.wrap (x+1)) n1))) (K (-1)):=by
 refine⟨fun i n=>At l.length (fun k=>∀(j:Nat) (hj:j<l.length),j<k->p l[j]=false) i n,⟨_,At.start (fun j _ h=>absurd h (not_lt_zero _))⟩,?_⟩;rintro _ _ ⟨k,rfl,hk,rfl,he⟩;refine At.cond hk (fun hk=>Ax hk (hV _ _ (Ab (fun hp=> ?_) fun hp=> ?_))) fun hk=> ?_
 ·exact h1 k hk hp fun j hj=>he j (by omega) hj
 ·refine At.next (by omega) hk fun j hj aP=> ?_
  by_cases e:j=k
  ·subst e;exact hp
  ·exact he j hj (by omega)
 ·refine h2 fun x hx=> ?_
  obtain⟨j,hj,rfl⟩:=List.mem_iff_getElem.1 hx;exact he j hj (by omega)
theorem FW {α:Type} {l:List α} {p:α->Bool} {K:Bool->Prop} (h:K (l.any p)):(∀(i:Nat) (hi:i<l.length),p l[i]=true->K (decide ((i:Int)>=0)))/\((∀x∈l,p x=false)->K (decide ((-1:Int)>=0))):=by
 refine⟨fun i hi hp=> ?_,fun hn=> ?_⟩
 ·have:l.any p=true:=any_eq_true.2 ⟨_,getElem_mem hi,hp⟩;rw [this]at h;rw [decide_eq_true (by omega)];exact h
 ·have:l.any p=false:=by
   cases e:l.any p
   ·rfl
   ·obtain⟨x,hx,hp⟩:=any_eq_true.1 e;rw [hn x hx]at hp;cases hp
  rw [this]at h;exact h
def ka (a b:Int) (d:Bu):Bool:=(d.base==a)&&(d.size==b)
theorem Az7 (l:List Bu) (hl:l.length<=100000) (x:Ay) (K:Bool->Prop) (h:K (l.any (ka x.a x.b))):A4 l x K:=by
 refine Cg _ _ _ (Cv _ _ _ ?_);obtain⟨g1,g2⟩:=FW h;exact Asl l hl (ka x.a x.b) (fun d K=>Fx d x K) (fun d K hK=>Nw _ _ _ (by
  unfold ka at hK;refine Ab (fun e=>by rw [e]at hK;exact hK) fun e=>by rw [e]at hK;exact hK)) _ (fun i hi hp _=>g1 i hi hp) g2
theorem Apk (c:Ah) (hl:c.af.length<=100000) (a b:Int) (K:Bool->Prop) (h:K (c.af.any (ka a b))):Gp c a b K:=by
 refine Wf _ _ _ _ ⟨fun i n=>At c.af.length (fun k=>∀(j:Nat) (hj:j<c.af.length),j<k->ka a b c.af[j]=false) i n,⟨_,At.start (fun j _ h=>absurd h (not_lt_zero _))⟩,?_⟩;rintro _ _ ⟨k,rfl,hk,rfl,he⟩;refine At.cond hk (fun hk=>Ct (ka a b c.af[k]) (Ax hk ?_) (Ab (fun hp=> ?_) fun hp=> ?_)) fun hk=> ?_
 ·unfold ka;refine Ab (fun e=>Ax hk (by rw [e];simp)) fun e=>by rw [e];rfl
 ·have:c.af.any (ka a b)=true:=any_eq_true.2 ⟨_,getElem_mem hk,hp⟩;rw [this]at h;exact h
 ·refine At.next (by omega) hk fun j hj aP=> ?_
  by_cases e:j=k
  ·subst e;exact hp
  ·exact he j hj (by omega)
 ·have:c.af.any (ka a b)=false:=by
   cases e:c.af.any (ka a b)
   ·rfl
   ·obtain⟨x,hx,hp⟩:=any_eq_true.1 e;obtain⟨j,hj,rfl⟩:=List.mem_iff_getElem.1 hx;rw [he j hj (by omega)]at hp;cases hp
  rw [this]at h;exact h
def N3 (op:Int):Bool:=(op==3)||((op==4)||((op==11)||((op==12)||(op==19))))
def tC (c:Ah) (i:Int):Int:=((c.defs[i.toNat]?).map (·.params)).getD 0
def Mk (c:Ah) (vars marks:Int) (x:Ay):Bool:=cond (x.op==1) (x.a==marks) (cond (N3 x.op) (decide (x.a>=0)&&decide (x.a<vars)) (cond (x.op==9) (c.af.any (ka x.a x.b)) (cond (x.op==14) (decide (x.a>=0)&&(decide (x.a<(c.defs.length:Int))&&(x.b==tC c x.a))) true)))
def tD (fr to at_:Int) (x:Ay):Bool:=(!B9 x)||((!((x.op==24)==(at_==to-1)))||((at_==fr)&&((x.op !=1)&&(x.op !=24))))
def T1 (c:Ah) (fr to vars marks at_:Int) (x:Ay):Bool:=(!tD fr to at_ x)&&(Mk c vars marks x&&(((!(Ee x).2)||T0 c.ins fr to at_ (Ee x).1)&&(((!Gd x.op)||Gt c.ins fr to (at_+1))&&((!D5 x.op)||Gt c.ins fr to (Ee x).1))))
theorem FX {c:Ah} {i:Int} {d:Cf} (h:c.defs[i.toNat]? =some d):tC c i=d.params:=by unfold tC;rw [h];rfl
theorem Bbn (k:An) (hl:k.code.ins.length<=100000) (gN:k.code.af.length<=100000) (h0:0<=k.from_) (h1:k.to<=k.code.ins.length) (RH:0<k.to) (a:Nat) (ha:a<k.code.ins.length) (K:Bool->Prop) (h:K (T1 k.code k.from_ k.to k.vars k.marks a k.code.ins[a])):G1 k a K:=by
 have aU:IntKind.i64.wrap (k.to-1)=k.to-1:=A3 (by omega) (by omega);have cJ:IntKind.i64.wrap ((a:Int)+1)=(a:Int)+1:=A3 (by omega) (by omega);generalize hx:k.code.ins[a]=x at h;refine Pw _ _ _ (Ax ha ?_);rw [hx,aU,cJ];unfold T1 at h;refine Ct (tD k.from_ k.to a x) (FL _ _ ?_) (Ab (fun e=>by rw [e]at h;exact h) fun e=> ?_)
 ·unfold tD;cases B9 x
  ·rfl
  ·cases ((x.op==24)==((a:Int)==k.to-1))
   ·rfl
   ·cases ((a:Int)==k.from_)
    ·rfl
    ·cases (x.op !=1)<;>rfl
 rw [e,Bool.not_false,Bool.true_and]at h;refine Ct (Mk k.code k.vars k.marks x) ?_ ?_
 ·unfold Mk;cases h1:(x.op==1)
  ·refine Ct (N3 x.op) ?_ ?_
   ·unfold N3;cases x.op==3<;>cases x.op==4<;>cases x.op==11<;>cases x.op==12<;>rfl
   ·cases N3 x.op
    ·cases h9:(x.op==9)
     ·cases kV:(x.op==14)
      ·rfl
      ·show cond (decide (x.a>=0)) _ _
       cases hg:decide (x.a>=0)
       ·rfl
       ·show cond (decide (x.a<(k.code.defs.length:Int))) _ _
        cases pg:decide (x.a<(k.code.defs.length:Int))
        ·rfl
        ·have hg:=of_decide_eq_true hg;have pg:=of_decide_eq_true pg;refine⟨⟨by omega,pg⟩,fun d hd=> ?_⟩;rw [FX hd];rfl
     ·exact Az7 _ gN _ _ rfl
    ·cases decide (x.a>=0)<;>rfl
  ·rfl
 ·refine QV _ _ (Ct ((!Mk k.code k.vars k.marks x)||((Ee x).2&& !T0 k.code.ins k.from_ k.to a (Ee x).1)) ?_ ?_)
  ·cases Mk k.code k.vars k.marks x
   ·rfl
   ·cases (Ee x).2
    ·rfl
    ·exact Axz _ h0 h1 _ _ _ rfl
  ·refine Ab (fun e2=> ?_) fun e2=> ?_
   ·have:(Mk k.code k.vars k.marks x&&(((!(Ee x).2)||T0 k.code.ins k.from_ k.to a (Ee x).1)&&(((!Gd x.op)||Gt k.code.ins k.from_ k.to ((a:Int)+1))&&((!D5 x.op)||Gt k.code.ins k.from_ k.to (Ee x).1))))=false:=by
     revert e2
     cases Mk k.code k.vars k.marks x<;>cases (Ee x).2<;>cases T0 k.code.ins k.from_ k.to a (Ee x).1<;>intro e2<;>first|rfl|cases e2
    rw [this]at h;exact h
   ·have:(Mk k.code k.vars k.marks x&&(((!(Ee x).2)||T0 k.code.ins k.from_ k.to a (Ee x).1)&&(((!Gd x.op)||Gt k.code.ins k.from_ k.to ((a:Int)+1))&&((!D5 x.op)||Gt k.code.ins k.from_ k.to (Ee x).1))))=(((!Gd x.op)||Gt k.code.ins k.from_ k.to ((a:Int)+1))&&((!D5 x.op)||Gt k.code.ins k.from_ k.to (Ee x).1)):=by
     revert e2
     cases Mk k.code k.vars k.marks x<;>cases (Ee x).2<;>cases T0 k.code.ins k.from_ k.to a (Ee x).1<;>intro e2<;>first|rfl|cases e2
    rw [this]at h;refine QU _ _ ?_;cases po:Gd x.op
    ·rw [po]at h;refine Rt _ _ ?_;cases kb:D5 x.op
     ·rw [kb]at h;exact h
     ·rw [kb]at h;exact FV _ hl h0 h1 _ _ h
    ·rw [po]at h;refine FV _ hl h0 h1 _ _ ?_;cases RI:Gt k.code.ins k.from_ k.to ((a:Int)+1)
     ·rw [RI]at h;exact h
     ·rw [RI]at h;refine Rt _ _ ?_;cases kb:D5 x.op
      ·rw [kb]at h;exact h
      ·rw [kb]at h;exact FV _ hl h0 h1 _ _ h
def FY (c:Ah) (vars marks:Int) (x:Ay):Bool:=((x.op==1)&&(x.a !=marks))||((N3 x.op&&(decide (x.a<0)||decide (x.a>=vars)))||(((x.op==9)&& !c.af.any (ka x.a x.b))||((x.op==14)&&(decide (x.a<0)||(decide (x.a>=(c.defs.length:Int))||(x.b !=tC c x.a))))))
theorem Ax0 (c:Ah) (vars marks:Int) (x:Ay):FY c vars marks x= !Mk c vars marks x:=by
 have e1:decide (x.a<0)= !decide (x.a>=0):=by rw [Bool.eq_iff_iff];simp
 have e2:decide (x.a>=vars)= !decide (x.a<vars):=by rw [Bool.eq_iff_iff];simp
 have e3:decide (x.a>=(c.defs.length:Int))= !decide (x.a<(c.defs.length:Int)):=by rw [Bool.eq_iff_iff];simp
 unfold FY Mk;rw [e1,e2,e3];cases h1:(x.op==1)
 ·cases hs:N3 x.op
  ·cases h9:(x.op==9)
   ·cases kV:(x.op==14)
    ·rfl
    ·show(decide (x.a>=0)).not.or _=_
     cases decide (x.a>=0)<;>cases decide (x.a<(c.defs.length:Int))<;>rfl
   ·have:x.op=9:=by simpa using h9
    rw [this];cases c.af.any (ka x.a x.b)<;>rfl
  ·have h9:(x.op==9)=false:=by unfold N3 at hs;simp at hs⊢;omega
   have kV:(x.op==14)=false:=by unfold N3 at hs;simp at hs⊢;omega
   rw [h9,kV];cases decide (x.a>=0)<;>cases decide (x.a<vars)<;>rfl
 ·have h:x.op=1:=by simpa using h1
  rw [h];cases hb:(x.a==marks)<;>simp [bne,hb,N3]
theorem Avh {x:Ay} (h:D5 x.op=true):(Ee x).2=true:=by
 unfold D5 at h;simp only [and_eq_true,decide_eq_true_eq]at h;have:x.op=19\/x.op=20\/x.op=21\/x.op=22:=by omega
 unfold Ee rI;rcases this with e|e|e|e<;>rw [e]<;>rfl
set_option maxHeartbeats 1000000 in
theorem Az9 {c:Ah} (T:fj c) (gN:c.af.length<=100000) {r:Nat} (hr:r<c.defs.length) (marks:Int) (a:Nat) (ha:a<c.ins.length) (K:Bool->Prop) (h:K (T1 c (cw c r) (cK c r) (i7 c r) marks a c.ins[a])):Wc c r a marks K:=by
 have RJ:=T.ni;have RH:=T.rL r;have Br4:0<cK c r:=by have:=T.ql hr;have:=T.tB hr;omega
 have aU:IntKind.i64.wrap (cK c r-1)=cK c r-1:=A3 (by omega) (by omega);have cJ:IntKind.i64.wrap ((a:Int)+1)=(a:Int)+1:=A3 (by omega) (by omega);have zp:i7 c r=c.defs[r].vars:=by unfold i7;rw [getElem?_eq_getElem hr];rfl
 have jL:cw c r=c.defs[r].entry:=by unfold cw;rw [getElem?_eq_getElem hr];rfl
 generalize hx:c.ins[a]=x at h;refine Aio _ _ _ _ _ ⟨fun fr to op x1 x2=>fr=cw c r/\to=cK c r/\op=x.op/\x1=x.a/\x2=x.b,Ax ha (Ax hr (zo c (by have:=T.n2;omega) hr _ ⟨jL.symm,rfl,by rw [hx],by rw [hx],by rw [hx]⟩)),?_⟩;rintro _ _ _ _ _ ⟨rfl,rfl,rfl,rfl,rfl⟩;rw [aU,cJ];unfold T1 tD at h;generalize hv1:((x.op==24)==((a:Int)==cK c r-1))=v1 at h;refine Ct ((!B9 x)|| !v1) (FM _ _ ?_) (Ab (fun e=> ?_) fun e=> ?_)
 ·show cond (!B9 x) _ _
  cases B9 x
  ·rfl
  ·rw [←hv1];show cond (x.op==24) (cond ((a:Int) !=cK c r-1) _ (cond (x.op !=24) _ _)) (cond (x.op !=24) _ _)
   cases RK:(x.op==24)
   ·rw [show(x.op !=24)=true by rw [bne,RK];rfl];cases ((a:Int)==cK c r-1)<;>rfl
   ·rw [show(x.op !=24)=false by rw [bne,RK];rfl,bne];cases ((a:Int)==cK c r-1)<;>rfl
 ·have:((!B9 x)||((!v1)||(((a:Int)==cw c r)&&((x.op !=1)&&(x.op !=24)))))=true:=by
   revert e;cases B9 x<;>cases v1<;>intro e<;>first|rfl|cases e
  rw [this]at h;exact h
 have he:((!B9 x)||((!v1)||(((a:Int)==cw c r)&&((x.op !=1)&&(x.op !=24)))))=(((a:Int)==cw c r)&&((x.op !=1)&&(x.op !=24))):=by
  revert e;cases B9 x<;>cases v1<;>intro e<;>first|rfl|cases e
 rw [he]at h;clear he e;have hk:=Ax0 c (i7 c r) marks x;generalize lT:Mk c (i7 c r) marks x=v2 at h hk;unfold FY at hk;have fG:∀ {A:Prop},(v2=false->K false):=fun e=>by
  rw [e]at h;rw [Bool.false_and,Bool.and_false]at h;exact h
 refine Ct ((((a:Int)==cw c r)&&((x.op !=1)&&(x.op !=24)))||((x.op==1)&&(x.a !=marks))) ?_ (Ab (fun e=> ?_) fun e=> ?_)
 ·cases ((a:Int)==cw c r)
  ·cases (x.op==1)<;>rfl
  ·cases h1:(x.op==1)
   ·rw [show(x.op !=1)=true by rw [bne,h1];rfl];cases (x.op !=24)<;>rfl
   ·rw [show(x.op !=1)=false by rw [bne,h1];rfl];rfl
 ·cases hf:(((a:Int)==cw c r)&&((x.op !=1)&&(x.op !=24)))
  ·rw [hf,Bool.false_or]at e;rw [e,Bool.true_or]at hk;exact fG (A:=True) (by simpa using hk.symm)
  ·rw [hf]at h;exact h
 have e1:=e;rw [or_eq_false_iff]at e1;rw [e1.1]at h;rw [e1.2,Bool.false_or]at hk;clear e e1;refine Ct (N3 x.op) ?_ ?_
 ·unfold N3;cases x.op==3<;>cases x.op==4<;>cases x.op==11<;>cases x.op==12<;>rfl
 refine Ct ((N3 x.op&&(decide (x.a<0)||decide (x.a>=i7 c r)))||((x.op==9)&& !c.af.any (ka x.a x.b))) ?_ (Ab (fun e=> ?_) fun e=> ?_)
 ·have kb:∀ {J:Bool->Prop},J ((x.op==9)&& !c.af.any (ka x.a x.b))->cond (x.op==9) (Gp c x.a x.b (fun x8=>J (!x8))) (J false):=by
   intro J;cases (x.op==9)
   ·exact fun h=>h
   ·exact fun h=>Apk _ gN _ _ _ h
  cases N3 x.op
  ·exact kb (J:=fun y=>y=(false||((x.op==9)&& !c.af.any (ka x.a x.b)))) rfl
  ·show cond (decide (x.a<0)) _ _
   cases decide (x.a<0)
   ·refine Ax hr ?_;rw [←zp];cases decide (x.a>=i7 c r)
    ·exact kb (J:=fun y=>y=((true&&(false||false))||((x.op==9)&& !c.af.any (ka x.a x.b)))) rfl
    ·rfl
   ·rfl
 ·refine fG (A:=True) ?_;rw [or_eq_true]at e;rcases e with e|e<;>rw [e]at hk
  ·simpa using hk.symm
  ·simp at hk;exact hk
 rw [or_eq_false_iff]at e;rw [e.1,e.2,Bool.false_or,Bool.false_or]at hk;clear e;refine Ct ((x.op==14)&&(decide (x.a<0)||(decide (x.a>=(c.defs.length:Int))||(x.b !=tC c x.a)))) ?_ (Ab (fun e=> ?_) fun e=> ?_)
 ·cases (x.op==14)
  ·rfl
  ·show cond (decide (x.a<0)) _ _
   cases h1:decide (x.a<0)
   ·show cond (decide (x.a>=(c.defs.length:Int))) _ _
    cases h2:decide (x.a>=(c.defs.length:Int))
    ·have h1:=of_decide_eq_false h1;have h2:=of_decide_eq_false h2;refine⟨⟨by omega,by omega⟩,fun d hd=> ?_⟩;rw [FX hd];rfl
    ·rfl
   ·rfl
 ·rw [e]at hk;exact fG (A:=True) (by simpa using hk.symm)
 rw [e]at hk;have lT:v2=true:=by simpa using hk.symm
 rw [lT,Bool.not_false,Bool.true_and,Bool.true_and]at h;clear e hk fG lT;refine⟨((!(Ee x).2)||T0 c.ins (cw c r) (cK c r) a (Ee x).1)=true/\((!D5 x.op)||Gt c.ins (cw c r) (cK c r) (Ee x).1)=true,QW _ _ ?_,?_⟩
 ·show cond (Ee x).2 _ _
  cases rM:(Ee x).2
  ·refine⟨rfl,?_⟩;cases kb:D5 x.op
   ·rfl
   ·rw [Avh kb]at rM;cases rM
  ·rw [rM]at h;generalize (Ee x).1=t at h;have RL:∀ {J:Bool->Prop},J (D5 x.op&& !Gt c.ins (cw c r) (cK c r) t)->En x.op (fun ag=>cond ag (Hd c r t (fun ah=>J (!ah))) (J false)):=by
    intro J hJ;refine Tz _ _ ?_;cases kb:D5 x.op
    ·rw [kb]at hJ;exact hJ
    ·rw [kb]at hJ;exact RG T hr _ _ hJ
   refine Ct (!T0 c.ins (cw c r) (cK c r) a t||(D5 x.op&& !Gt c.ins (cw c r) (cK c r) t)) ?_ (Ab (fun e=> ?_) fun e=> ?_)
   ·unfold T0;have e1:decide (t<cw c r)= !decide (t>=cw c r):=by rw [Bool.eq_iff_iff];simp
    have e2:decide (t>=cK c r)= !decide (t<cK c r):=by rw [Bool.eq_iff_iff];simp
    have e3:decide (t<=(a:Int))= !decide (t>(a:Int)):=by rw [Bool.eq_iff_iff];simp
    rw [e1,e2,e3];cases h1:decide (t>=cw c r)
    ·rfl
    ·cases h2:decide (t<cK c r)
     ·rfl
     ·cases h3:decide (t>(a:Int))
      ·have h1:=of_decide_eq_true h1;have h2:=of_decide_eq_true h2;have:=T.ql hr;refine⟨⟨by omega,by omega⟩,fun y hy=> ?_⟩;rw [H5 hy,bne];cases (y.op==1)
       ·rfl
       ·exact RL (J:=fun z=>z=(!(true&&(true&&(false||true)))||(D5 x.op&& !Gt c.ins (cw c r) (cK c r) t))) rfl
      ·exact RL (J:=fun z=>z=(!(true&&(true&&(true||(O4 c.ins t==1))))||(D5 x.op&& !Gt c.ins (cw c r) (cK c r) t))) rfl
   ·have:(((!true)||T0 c.ins (cw c r) (cK c r) a t)&&(((!Gd x.op)||Gt c.ins (cw c r) (cK c r) ((a:Int)+1))&&((!D5 x.op)||Gt c.ins (cw c r) (cK c r) t)))=false:=by
     revert e
     cases T0 c.ins (cw c r) (cK c r) a t<;>cases D5 x.op<;>cases Gt c.ins (cw c r) (cK c r) t<;>cases Gd x.op<;>cases Gt c.ins (cw c r) (cK c r) ((a:Int)+1)<;>intro e<;>first|rfl|cases e
    rw [this]at h;exact h
   ·revert e
    cases T0 c.ins (cw c r) (cK c r) a t<;>cases D5 x.op<;>cases Gt c.ins (cw c r) (cK c r) t<;>intro e<;>first|exact⟨rfl,rfl⟩|cases e
 ·rintro⟨h1,h2⟩;rw [h1,h2,Bool.true_and,Bool.and_true]at h;refine QT _ _ ?_;cases po:Gd x.op
  ·rw [po]at h;exact h
  ·rw [po]at h;exact RG T hr _ _ h
def m3 (op:Int):Bool:=(op==1)||((op==24)||(op==25))
def Gu (x:Ay) (t:Th):Bool:=cond (m3 x.op) ((t.1==0)&& !t.2) (cond (x.op==23) ((t.1==0)&&t.2) (cond (D5 x.op) ((t.1-B5 x==0)&&t.2) (cond (Gd x.op||(x.op==18)) ((t.1-B5 x==0)&& !t.2) (decide (t.1-B5 x>=0)))))
def D9 (x:Ay) (t:Th):Th:=(t.1-B5 x+Li x,cond (m3 x.op) (x.op==25) t.2)
theorem Vo {x:Ay} (h:m3 x.op=true\/(x.op==23)=true):B5 x=0:=by
 unfold B5;cases hr:B9 x
 ·rfl
 ·rw [cond_true,W8 (Rb hr)];have:x.op=1\/x.op=24\/x.op=25\/x.op=23:=by
   rcases h with h|h
   ·unfold m3 at h;simp at h;omega
   ·simp at h;omega
  rcases this with e|e|e|e<;>rw [e]<;>rfl
theorem FZ (x:Ay):0<=Li x/\Li x<=1:=by
 unfold Li;cases hr:B9 x
 ·exact⟨Int.le_refl 0,(by decide:(0:Int)<=1)⟩
 ·rw [cond_true,QX (Rb hr)];cases ((x.op==2)||((x.op==3)||((x.op==5)||(x.op==9))))<;>decide
theorem Baa (x:Ay) (t:By) (ht:0<=t.n/\t.n<=1000000) (hk:0<=B5 x/\B5 x<=1000) (K:By->Bool->Prop) (h:K ⟨(D9 x (t.n,t.choose)).1,(D9 x (t.n,t.choose)).2⟩ (Gu x (t.n,t.choose))):Xt x t K:=by
 have hg:=FZ x;have hw:IntKind.i64.wrap (t.n-B5 x)=t.n-B5 x:=A3 (by omega) (by omega);refine Abu _ _ _ (Ct (t.n-B5 x) (Axw _ _ hw) ⟨fun ok _ ch=>ok=Gu x (t.n,t.choose)/\ch=(D9 x (t.n,t.choose)).2,Ct (m3 x.op) ?_ (Ab (fun e=> ?_) fun e=> ?_),?_⟩)
 ·unfold m3;cases x.op==1<;>cases x.op==24<;>rfl
 ·unfold Gu D9;rw [e];exact⟨by rw [cond_true];cases t.n==0<;>cases t.choose<;>rfl,rfl⟩
 ·unfold Gu D9;rw [e];refine Ab (fun e2=> ?_) fun e2=>Rt _ _ (Ab (fun e3=> ?_) fun e3=>Ct (Gd x.op||(x.op==18)) (QU _ _ ?_) (Ab (fun e4=> ?_) fun e4=> ?_))
  ·rw [e2];exact⟨by rw [cond_false,cond_true];cases t.n==0<;>cases t.choose<;>rfl,rfl⟩
  ·rw [e2,e3];refine Ab (fun e5=> ?_) fun e5=> ?_
   ·exact⟨by rw [cond_false,cond_false,cond_true,e5];rfl,rfl⟩
   ·exact⟨by rw [cond_false,cond_false,cond_true,e5];rfl,rfl⟩
  ·cases Gd x.op<;>rfl
  ·rw [e2,e3,e4];refine Ab (fun e5=> ?_) fun e5=> ?_
   ·exact⟨by rw [cond_false,cond_false,cond_false,cond_true,e5];rfl,rfl⟩
   ·exact⟨by rw [cond_false,cond_false,cond_false,cond_true,e5];rfl,rfl⟩
  ·rw [e2,e3,e4];exact⟨rfl,rfl⟩
 ·rintro _ _ _ ⟨rfl,rfl⟩;refine Axx _ _ ?_;rw [A3 (by omega) (by omega)];exact h
theorem Ax1 (x:Ay) (t:Ap) (ht:0<=t.n/\t.n<=1000000) (hk:0<=B5 x/\B5 x<=1000) (K:Bool->Prop) (h:K (Gu x (t.n,t.choose))):S5 x t K:=by
 have hw:IntKind.i64.wrap (t.n-B5 x)=t.n-B5 x:=A3 (by omega) (by omega);refine Ad2 _ _ _ (Ct (t.n-B5 x) (QY _ _ hw) ?_);unfold Gu at h;cases hm:m3 x.op
 ·rw [hm]at h;cases tE:(x.op==23)
  ·rw [tE]at h;refine Ab (fun hl=> ?_) fun hl=>Ct false ?_ (Bj rfl (Bj rfl (Tz _ _ ?_)))
   ·have hl:=of_decide_eq_true hl;have e1:(t.n-B5 x==0)=false:=by simp;omega
    have e2:decide (t.n-B5 x>=0)=false:=by simp;omega
    rw [e1,e2]at h;cases hc:D5 x.op<;>rw [hc]at h
    ·cases ha:Gd x.op||(x.op==18)<;>rw [ha]at h<;>exact h
    ·exact h
   ·rw [←hm];unfold m3;cases x.op==1<;>cases x.op==24<;>rfl
   ·have hl:decide (t.n-B5 x>=0)=true:=by have:=of_decide_eq_false hl;simp;omega
    rw [hl]at h;cases hc:D5 x.op
    ·rw [hc]at h;refine Ct (Gd x.op||(x.op==18)) (QT _ _ ?_) ?_
     ·cases Gd x.op<;>rfl
     ·cases ha:Gd x.op||(x.op==18)
      ·rw [ha]at h;exact h
      ·rw [ha]at h;refine Cu rfl (Ab (fun e=>by rw [e]at h;exact h) fun e=>by rw [e]at h;exact h)
    ·rw [hc]at h;refine Cu rfl (Ab (fun e=>by rw [e]at h;exact h) fun e=>by rw [e]at h;exact h)
  ·rw [tE]at h;have tF:=Vo (x:=x) (.inr tE);refine Bj (by simp [tF];omega) (Ct false ?_ (Bj rfl (Cu rfl ?_)))
   ·rw [←hm];unfold m3;cases x.op==1<;>cases x.op==24<;>rfl
   ·refine Ab (fun e=>by rw [e]at h;exact h) fun e=>by rw [e]at h;exact h
 ·rw [hm]at h;have tF:=Vo (x:=x) (.inl hm);refine Bj (by simp [tF];omega) (Ct true ?_ (Cu rfl ?_))
  ·rw [←hm];unfold m3;cases x.op==1<;>cases x.op==24<;>rfl
  ·refine Ab (fun e=>by rw [e]at h;exact h) fun e=>by rw [e]at h;exact h
abbrev Kn:=Nat->Option Th
def Pk (kn:Kn) (at_ to:Nat) (now:Th):Option Kn:=
 if to<=at_ then(if now=(0,false)then some kn else none)else match kn to with
  |some mr=>if now=mr then some kn else none
  |none=>some fun j=>if j=to then some now else kn j
def T2 (op:Int):Bool:=(op !=6)&&((op !=18)&&((op !=23)&&(op !=24)))
def go1 (x:Ay) (at_:Nat) (t:Th) (kn:Kn):Option Kn:=cond (Ee x).2 (Pk kn at_ (Ee x).1.toNat (cond (D5 x.op) (0,false) (D9 x t))) (some kn)
def go2 (x:Ay) (at_:Nat) (t:Th) (kn:Kn):Option Kn:=cond (T2 x.op) (Pk kn at_ (at_+1) (D9 x t)) (some kn)
def Y3 (x:Ay) (o:Option Th):Option Th:=match o with
 |some t=>some t|none=>if x.op=1 then some (0,false)else none
def Js (l:List Ay):Kn->Nat->Nat->Bool
 |_,_,0=>true|kn,at_,k+1=>match l[at_]? with
  |none=>true|some x=>match Y3 x (kn at_)with
   |none=>Js l kn (at_+1) k|some t=>cond (Gu x t) (match go1 x at_ t kn with
    |none=>false|some k1=>match go2 x at_ t k1 with
     |none=>false|some k2=>Js l k2 (at_+1) k) false
def tG (c:Ah) (r:Nat):Bool:=Js c.ins (fun j=>if j=(cw c r).toNat then some (0,false)else none) (cw c r).toNat ((cK c r).toNat-(cw c r).toNat)
def kf (kn:Kn) (b:Nat):Prop:=∀j t,kn j=some t->0<=t.1/\t.1<=b
theorem Zz {kn k1:Kn} {at_ to:Nat} {now:Th} {b:Nat} (hk:kf kn b) (hn:0<=now.1/\now.1<=b) (h:Pk kn at_ to now=some k1):kf k1 b:=by
 unfold Pk at h;split at h
 ·split at h
  ·cases h;exact hk
  ·cases h
 ·split at h
  ·split at h
   ·cases h;exact hk
   ·cases h
  ·cases h
   intro j t hj;dsimp only at hj;split at hj
   ·cases hj;exact hn
   ·exact hk j t hj
def jW (l:List Ay) (fr to:Nat):Prop:=∀(a:Nat) (x:Ay),fr<=a->a<to->l[a]? =some x->(0<=B5 x/\B5 x<=1000)/\((Ee x).2=true->0<=(Ee x).1/\(Ee x).1<to)/\(a+1=to->x.op=24)
theorem F_ {x:Ay} {t:Th} {b:Nat} (ht:0<=t.1/\t.1<=b) (hk:0<=B5 x) (hf:Gu x t=true):0<=(D9 x t).1/\(D9 x t).1<=(b+1:Nat):=by
 have hg:=FZ x;have:0<=t.1-B5 x:=by
  unfold Gu at hf;cases hm:m3 x.op
  ·rw [hm]at hf;cases tE:(x.op==23)
   ·rw [tE]at hf;cases hc:D5 x.op
    ·rw [hc]at hf;cases ha:Gd x.op||(x.op==18)
     ·rw [ha]at hf;exact of_decide_eq_true hf
     ·rw [ha]at hf;simp at hf;omega
    ·rw [hc]at hf;simp at hf;omega
   ·rw [Vo (.inr tE)];omega
  ·rw [Vo (.inl hm)];omega
 unfold D9;simp only;omega
def N4:Option Th->Ap
 |none=>⟨false,0,false⟩|some t=>⟨true,t.1,t.2⟩
def Rel (all:List Ap) (kn:Kn) (at_ n:Nat):Prop:=all.length=n+1/\∀j,at_<=j->j<=n->all[j]? =some (N4 (kn j))
theorem RM {a b:Th} :(((N4 (some a)).jh==(N4 (some b)).jh)&&(((N4 (some a)).n==(N4 (some b)).n)&&(((N4 (some a)).choose==(N4 (some b)).choose)&&true)))=decide (a=b):=by
 obtain⟨a1,a2⟩:=a;obtain⟨b1,b2⟩:=b;simp only [N4];rw [Bool.eq_iff_iff];simp
theorem RN {all:List Ap} {kn:Kn} {a n:Nat} (hn:n<=100000) (hR:Rel all kn (a+1) n) {to:Int} (h0:0<=to) (h1:to<=n) (now:Th) (K:List Ap->Bool->Prop) (fG:Pk kn a to.toNat now=none->∀l,K l false) (lZ:∀k1,Pk kn a to.toNat now=some k1->∀l,Rel l k1 (a+1) n->K l true):Md all a to (N4 (some now)) K:=by
 obtain⟨t,rfl⟩:∃t:Nat,to=t:=⟨to.toNat,by omega⟩
 rw [toNat_natCast]at fG lZ;unfold Pk at fG lZ;refine Abf _ _ _ _ _ (Ab (fun hc=> ?_) fun hc=> ?_)
 ·have hc:t<=a:=by have:=of_decide_eq_true hc;omega
  rw [if_pos hc]at fG lZ;have e:(((N4 (some now)).jh==true)&&(((N4 (some now)).n==0)&&(((N4 (some now)).choose==false)&&true)))=decide (now=(0,false)):=RM (a:=now) (b:=(0,false));rw [e];by_cases hz:now=(0,false)
  ·rw [if_pos hz]at lZ;rw [decide_eq_true hz];exact lZ _ rfl _ hR
  ·rw [if_neg hz]at fG;rw [decide_eq_false hz];exact fG rfl _
 ·have hc:¬t<=a:=by have:=of_decide_eq_false hc;omega
  rw [if_neg hc]at fG lZ;have aP:t<all.length:=by rw [hR.1];omega
  have hg:=hR.2 t (by omega) (by omega);rw [getElem?_eq_getElem aP]at hg;have hg:=Option.some.inj hg;refine Ax aP ?_;cases hk:kn t with
  |some mr=>
   rw [hk]at hg fG lZ;rw [hg];refine Cu rfl (Ax aP ?_);rw [hg];have e:=RM (a:=mr) (b:=now);rw [e];by_cases hz:now=mr
   ·simp only [hz,if_true]at lZ;rw [decide_eq_true hz.symm];exact lZ _ rfl _ hR
   ·simp only [hz,if_false]at fG;rw [decide_eq_false (fun e=>hz e.symm)];exact fG trivial _
  |none=>
   rw [hk]at hg fG lZ;rw [hg];refine Bj rfl ⟨by rw [hR.1];omega,Ax aP (lZ _ rfl _ ⟨by simp [hR.1],fun j vc vd=> ?_⟩)⟩;rw [toNat_natCast,getElem?_set];by_cases e:t=j
   ·subst e;rw [if_pos rfl,if_pos aP];simp only [if_true]
   ·rw [if_neg e];simp only [if_neg (fun h:j=t=>e h.symm)];exact hR.2 j vc vd
theorem Rel.mono {all:List Ap} {kn:Kn} {a b n:Nat} (h:Rel all kn a n) (hab:a<=b):Rel all kn b n:=⟨h.1,fun j hj hn=>h.2 j (Nat.le_trans hab hj) hn⟩
theorem Ani {x:Ay} {t:Th} (hf:Gu x t=true):cond t.2 true (x.op==25)=(D9 x t).2:=by
 unfold D9;unfold Gu at hf;cases hm:m3 x.op
 ·have:(x.op==25)=false:=by unfold m3 at hm;simp at hm⊢;omega
  rw [this];cases t.2<;>rfl
 ·rw [hm]at hf;simp only [cond_true,and_eq_true,not_eq_true']at hf;rw [hf.2];rfl
theorem Avi {x:Ay} {o:Option Th} {t:Th} (h:Y3 x o=some t):(⟨true,(N4 o).n,(N4 o).choose⟩:Ap)=N4 (some t):=by
 unfold Y3 at h;cases o with
 |some u=>cases h;rfl
 |none=>
  simp only at h;split at h
  ·cases h;rfl
  ·cases h
theorem Vp {l:List Ap} {a:Nat} {x:Ap} (h:a<l.length):(l.set a x)[a]? =some x:=by rw [getElem?_set,if_pos rfl,if_pos h]
set_option maxHeartbeats 1000000 in
theorem Ax2 {c:Ah} (T:fj c) {r:Nat} (hr:r<c.defs.length) (hI:jW c.ins (cw c r).toNat (cK c r).toNat) (K:List Ap->Int->Prop) (h:∀l (i:Int),decide (i>=0)= !tG c r->K l i):S3 c r K:=by
 have RJ:=T.ni;have zq:=T.ql hr;have GA:=T.tB hr;have zr:=T.rL r;have hw:IntKind.i64.wrap ((c.ins.length:Int)+1)=(c.ins.length+1:Nat):=by rw [A3 (by omega) (by omega)];omega
 have jL:cw c r=c.defs[r].entry:=by unfold cw;rw [getElem?_eq_getElem hr];rfl
 obtain⟨f,hf⟩:∃f:Nat,cw c r=f:=⟨(cw c r).toNat,by omega⟩
 obtain⟨e,he⟩:∃e:Nat,cK c r=e:=⟨(cK c r).toNat,by omega⟩
 have hfe:f<e:=by omega
 have o1:e<=c.ins.length:=by omega
 unfold tG at h;rw [hf,he,toNat_natCast,toNat_natCast]at h hI;generalize hR:Js c.ins (fun j=>if j=f then some (0,false)else none) f (e-f)=R at h;refine Adz _ _ _ ?_;unfold Ur;rw [hw,toNat_natCast];refine⟨⟨by omega,by omega⟩,Ax hr ?_⟩;rw [←jL,hf,toNat_natCast];refine⟨⟨by omega,by omega⟩,fun x1 ph=>Ax hr ?_⟩;rw [←jL,hf];obtain rfl:x1=⟨false,0,false⟩:=by
  rw [List.getElem?_replicate]at ph;split at ph
  ·exact(Option.some.inj ph).symm
  ·cases ph
 refine⟨fun all at_ n=>∃(a:Nat) (kn:Kn),at_=a/\f<=a/\a<=e/\n=e-a/\Rel all kn a c.ins.length/\kf kn a/\Js c.ins kn a (e-a)=R,⟨_,f,_,rfl,le_refl _,by omega,rfl,⟨by simp,fun j vc vd=> ?_⟩,?_,hR⟩,?_⟩
 ·rw [toNat_natCast,getElem?_set];by_cases e:f=j
  ·subst e;rw [if_pos rfl,if_pos (by rw [List.length_replicate];omega)];simp only [if_true];rfl
  ·rw [if_neg e];simp only [if_neg (fun h:j=f=>e h.symm)];rw [List.getElem?_replicate,if_pos (by omega)];rfl
 ·intro j t hj;dsimp only at hj;split at hj
  ·cases hj;exact⟨Int.le_refl _,by omega⟩
  ·cases hj
 rintro all _ _ ⟨a,kn,rfl,nh,GB,rfl,wE,hB,dp⟩;refine zo c (by have:=T.n2;omega) hr _ ?_;rw [he];refine At.cond GB (fun aP=> ?_) fun heq=> ?_
 ·have iP:a<c.ins.length:=by omega
  have zt:a<all.length:=by rw [wE.1];omega
  obtain⟨q,hq⟩:∃q,e-a=q+1:=⟨e-a-1,by omega⟩
  have pb:=wE.2 a (le_refl _) (by omega);rw [getElem?_eq_getElem zt]at pb;have pb:=Option.some.inj pb;obtain⟨x,hx⟩:∃x,c.ins[a]=x:=⟨_,rfl⟩
  obtain⟨⟨lp,iR⟩,rM,pd⟩:=hI a x nh aP (by rw [getElem?_eq_getElem iP,hx]);rw [hq,Js,getElem?_eq_getElem iP,hx]at dp;simp only at dp;have tg:∀(l:List Ap) (k2:Kn),Rel l k2 (a+1) c.ins.length->kf k2 (a+1)->Js c.ins k2 (a+1) q=R->
   ∃n1,n1<e-a/\∃(b:Nat) (kn:Kn),IntKind.i64.wrap ((a:Int)+1)=b/\f<=b/\b<=e/\n1=e-b/\Rel l kn b c.ins.length/\kf kn b/\Js c.ins kn b (e-b)=R:=fun l k2 h1 h2 h3=>
   ⟨e-(a+1),by omega,a+1,k2,by rw [A3 (by omega) (by omega)];omega,by omega,by omega,rfl,h1,h2,by rw [show e-(a+1)=q by omega];exact h3⟩
  have rN:∀ {k:Kn},kf k a->kf k (a+1):=fun h j t hj=>by have:=h j t hj;omega
  refine⟨fun l=>∃k2,Rel l k2 (a+1) c.ins.length/\kf k2 (a+1)/\Js c.ins k2 (a+1) q=R,?_,fun l ⟨k2,h1,h2,h3⟩=>tg l k2 h1 h2 h3⟩;refine Ct (Y3 x (kn a)).isNone (Ax zt ?_) ?_
  ·rw [pb];unfold Y3;cases kn a with
   |some t=>rfl
   |none=>
    refine Cu rfl (Ax iP ?_);rw [hx];by_cases e1:x.op=1
    ·simp [e1]
    ·simp [e1]
  ·cases hc:Y3 x (kn a)with
   |none=>
    rw [hc]at dp;exact⟨kn,wE.mono (by omega),rN hB,dp⟩
   |some t=>
    rw [hc]at dp;simp only at dp;refine Bj rfl (Ax zt (Ax iP ?_));rw [pb,hx,Avi hc,toNat_natCast];have oa:=Vp (x:=N4 (some t)) zt;have ht:0<=t.1/\t.1<=a:=by
     unfold Y3 at hc;cases l7:kn a with
     |some u=>rw [l7]at hc;cases hc;exact hB _ _ l7
     |none=>
      rw [l7]at hc;simp only at hc;split at hc
      ·cases hc;exact⟨Int.le_refl _,by omega⟩
      ·cases hc
    refine Ct (!Gu x t) ⟨⟨by omega,by omega⟩,fun ae RO=> ?_⟩ ?_
    ·rw [oa]at RO;cases RO
     exact Ax1 x _ ⟨ht.1,by show t.1<=_;omega⟩ ⟨lp,iR⟩ _ rfl
    ·cases h_:Gu x t with
     |false=>
      rw [h_]at dp;exact h _ _ (by rw [←dp];simp)
     |true=>
      rw [h_,cond_true]at dp;have tH:=F_ ht lp h_;have hg:=FZ x;have RP:Rel (all.set a (N4 (some t))) kn (a+1) c.ins.length:=⟨by simp [wE.1],fun j hj hn=>by rw [getElem?_set,if_neg (by omega)];exact wE.2 j (by omega) hn⟩
      refine Bj rfl ⟨fun co n ch=>co=true/\n=(D9 x t).1/\ch=(D9 x t).2,⟨⟨by omega,by omega⟩,fun ad RQ=>⟨⟨by omega,by omega⟩,fun ai RR=>QY _ _ (Ave _ _ ?_)⟩⟩,?_⟩
      ·rw [oa]at RQ RR;cases RQ
       cases RR
       have e1:IntKind.i64.wrap (IntKind.i64.wrap ((N4 (some t)).n-B5 x)+Li x)=(D9 x t).1:=by
        show IntKind.i64.wrap (IntKind.i64.wrap (t.1-B5 x)+Li x)=t.1-B5 x+Li x
        rw [A3 (n:=t.1-B5 x) (by omega) (by omega),A3 (by omega) (by omega)]
       rw [e1];have e2:=Ani h_;show cond t.2 _ _
       cases h2:t.2
       ·rw [h2]at e2;exact⟨rfl,rfl,e2⟩
       ·rw [h2]at e2;exact⟨rfl,rfl,e2⟩
      ·rintro _ _ _ ⟨rfl,rfl,rfl⟩;have zu:∀(l:List Ap),R=false->K l a:=fun l e=>h _ _ (by rw [e];simp)
       refine⟨fun l ok=>(ok=false/\R=false)\/(ok=true/\∃k1,go1 x a t kn=some k1/\Rel l k1 (a+1) c.ins.length/\kf k1 (a+1)),QW _ _ ?_,?_⟩
       ·unfold go1;cases wF:(Ee x).2 with
        |false=>exact .inr ⟨rfl,kn,by simp,RP,rN hB⟩
        |true=>
         obtain⟨g0,g1⟩:=rM wF;unfold go1 at dp;rw [wF,cond_true]at dp;refine Cu rfl ⟨fun co n ch=>(⟨co,n,ch⟩:Ap)=N4 (some (cond (D5 x.op) (0,false) (D9 x t))),Tz _ _ ?_,?_⟩
         ·cases D5 x.op<;>rfl
         ·intro co n ch hco;rw [hco];refine RN (by omega) RP g0 (by omega) _ _ (fun hn l=> .inl ⟨rfl,?_⟩) fun k1 hk l hl=> .inr ⟨rfl,k1,hk,hl,?_⟩
          ·rw [hn]at dp;exact dp.symm
          ·refine Zz (rN hB) ?_ hk;cases D5 x.op
           ·exact tH
           ·exact⟨Int.le_refl _,by show(0:Int)<=_;omega⟩
       ·rintro ji ok (⟨rfl,nX⟩|⟨rfl,k1,Brl,RS,RT⟩)
        ·exact zu _ nX
        ·rw [Brl]at dp;simp only at dp;refine Bj rfl ⟨fun l ok=>(ok=false/\R=false)\/(ok=true/\∃k2,go2 x a t k1=some k2/\Rel l k2 (a+1) c.ins.length/\kf k2 (a+1)),Ct (T2 x.op) ?_ ?_,?_⟩
         ·unfold T2;cases x.op !=6<;>cases x.op !=18<;>cases x.op !=23<;>rfl
         ·unfold go2;cases nh:T2 x.op with
          |false=>exact .inr ⟨rfl,k1,by simp,RS,RT⟩
          |true=>
           have cf:a+1≠e:=fun e1=>by
            have:=pd e1;rw [this]at nh;cases nh
           unfold go2 at dp;rw [nh,cond_true]at dp;rw [A3 (by omega) (by omega)];have e1:(⟨true,(D9 x t).1,(D9 x t).2⟩:Ap)=N4 (some (D9 x t)):=rfl;rw [e1];refine Cu rfl (RN (by omega) RS (by omega) (by omega) _ _ (fun hn l=> .inl ⟨rfl,?_⟩) fun k2 hk l hl=> .inr ⟨rfl,k2,?_,hl,?_⟩)
           ·rw [show((a:Int)+1).toNat=a+1 by omega]at hn;rw [hn]at dp;exact dp.symm
           ·rw [show((a:Int)+1).toNat=a+1 by omega]at hk;exact hk
           ·exact Zz RT tH hk
         ·rintro kP ok (⟨rfl,nX⟩|⟨rfl,k2,iw,Bo4,zg⟩)
          ·exact zu _ nX
          ·rw [iw]at dp;exact⟨k2,Bo4,zg,dp⟩
 ·subst heq;rw [sub_self,Js]at dp;exact h _ _ (by rw [←dp];simp)
abbrev qm (f:FuncId) (a:Array Value) (w:World) (K:Value->World->Prop):Prop:=Calls Tryz.prog f a w (aG K)
def Rd (x0:Addr) (K:Value->World->Prop) (w:World):Prop:=∀(x1:Nat) (w1:World),x1=w.heap.size->w1=w.alloc (.map #[] 0)->∃x2,w1.cell? (x0.add 6)=some (.int .i64 x2)/\Bd Tryz.prog (Instr.mapUpdate 187 (.map (some x1)) (.int .i64 x2) (.agg #[.int .i64 0,.bool false])) (fun _ w2=>∀(x4:Nat) (w3:World),x4=w2.heap.size->w3=w2.alloc (.cells #[.map none] 187)->Af w3 (Zb x4) 1/\∀w4:World,w4=w3.setCell (Zb x4) (.map (some x1))->∃x5,w4.cell? (x0.add 6)=some (.int .i64 x5)/\∀(x6:Nat) (w5:World),x6=w4.heap.size->w5=w4.alloc (.cells #[.int .i64 0] 3)->Af w5 (Zb x6) 1/\∀w6:World,w6=w5.setCell (Zb x6) (.int .i64 x5)->∃(I:Option Addr->World->Prop) (x7:Option Addr->World->Nat),I (some (Zb x6)) w6/\∀(_x8:Nat->Value) (x9:Option Addr) (w7:World),I x9 w7->∀w8:World,w8=w7.drew->Ak x9 (fun ae=>∃aa,w8.cell? ae=some (.int .i64 aa)/\∃ad,w8.cell? (x0.add 7)=some (.int .i64 ad)/\cond (decide (aa<ad)) (∃(J:World->Prop),(∃ai,w8.cell? (Zb x4)=some (.map ai)/\Ak x9 (fun ag=>∃ah,w8.cell? ag=some (.int .i64 ah)/\Bd Tryz.prog (Instr.lookup 187 (.map ai) (.int .i64 ah) true) (fun aj w9=>∃ao ak ax,aj= .tuple #[.agg #[.int .i64 ao,.bool ak],.bool ax]/\∀(aA:Nat) (aK:World),aA=w9.heap.size->aK=w9.alloc (.cells #[.int .i64 0,.bool false] 186)->Af aK (Zb aA) 2/\∀aI:World,aI=setCells aK (Zb aA) [.int .i64 ao,.bool ak]->∃(J1:Option Addr->World->Prop),(∀bj:World,bj=aI.drew->∃(S:World->Prop),S bj/\∃aB ay aw,(∀u:World,S u->u.cell? x0=some (.slice aB ay aw))/\Ak x9 (fun aD=>∃aN,(∀u:World,S u->u.cell? aD=some (.int .i64 aN))/\((0:Int)<=aN/\aN<(ay:Int))/\Ak aB (fun aH=>∃aF bg aQ,(∀u:World,S u->Ad u (aH.add (aN.toNat*3)) [.int .i64 aF,.int .i64 bg,.int .i64 aQ])/\∀(aE:Nat) (bG:World),aE=bj.heap.size->bG=bj.alloc (.cells #[.int .i64 0,.int .i64 0,.int .i64 0] 95)->S bG/\Af bG (Zb aE) 3/\∀bt:World,bt=setCells bG (Zb aE) [.int .i64 aF,.int .i64 bg,.int .i64 aQ]->J1 (some (Zb aE)) bt)))/\∀(_x31:Nat->Value) aZ cr,J1 aZ cr->∃(J2:Bool->World->Prop),(cond (!ax) (Ak aZ (fun aV=>∃bc,cr.cell? aV=some (.int .i64 bc)/\J2 (bc !=1) cr)) (J2 false cr))/\∀(_x35:Nat->Value) aO ck,J2 aO ck->cond (aO) (J ck) (Ak aZ (fun bC=>∃bJ br a_,Ad ck bC [.int .i64 bJ,.int .i64 br,.int .i64 a_]/\∃bD bF,Ad ck (Zb aA) [.int .i64 bD,.bool bF]/\qm 116 #[.agg #[.int .i64 bJ,.int .i64 br,.int .i64 a_],.agg #[.int .i64 bD,.bool bF]] ck (fun bn cQ=>∃bO aX bP,bn= .tuple #[.agg #[.int .i64 bO,.bool aX],.bool bP]/\∀(bA:Nat) (cR:World),bA=cQ.heap.size->cR=cQ.alloc (.cells #[.int .i64 0,.bool false] 186)->∀(bM:Nat) (eR:World),bM=cR.heap.size->eR=cR.alloc (.cells #[.bool false] 4)->Af eR (Zb bA) 2/\∀dk:World,dk=setCells eR (Zb bA) [.int .i64 bO,.bool aX]->Af dk (Zb bM) 1/\∀gg:World,gg=dk.setCell (Zb bM) (.bool bP)->∃(J3:World->Prop),(Ak aZ (fun bW=>∃bQ bT bU,Ad gg bW [.int .i64 bQ,.int .i64 bT,.int .i64 bU]/\qm 111 #[.agg #[.int .i64 bQ,.int .i64 bT,.int .i64 bU]] gg (fun b9 iJ=>∃cg b_,b9= .tuple #[.int .i64 cg,.bool b_]/\∃(J4:Bool->World->Prop),(cond (b_) (∃cb,iJ.cell? (Zb bM)=some (.bool cb)/\J4 cb iJ) (J4 false iJ))/\∀(_x57:Nat->Value) cp il,J4 cp il->cond (cp) (Ak aZ (fun cu=>∃cy,il.cell? cu=some (.int .i64 cy)/\qm 115 #[.int .i64 cy] il (fun cB jx=>∃cE,cB= .bool cE/\cond (cE) (qm 117 #[.int .i64 cg,.agg #[.int .i64 0,.bool false],.pointer (some (Zb x4)),.pointer x9,.pointer (some (Zb bM))] jx (fun _x63 gM=>J3 gM)) (∃cU cG,Ad jx (Zb bA) [.int .i64 cU,.bool cG]/\qm 117 #[.int .i64 cg,.agg #[.int .i64 cU,.bool cG],.pointer (some (Zb x4)),.pointer x9,.pointer (some (Zb bM))] jx (fun _x66 jO=>J3 jO))))) (J3 il))))/\∀(_x67:Nat->Value) im,J3 im->∃(J5:World->Prop),(∃(J6:Bool->World->Prop),(∃cX,im.cell? (Zb bM)=some (.bool cX)/\cond (cX) (Ak aZ (fun dA=>∃cW,im.cell? dA=some (.int .i64 cW)/\cond (cW !=6) (Ak aZ (fun dV=>∃dP,im.cell? dV=some (.int .i64 dP)/\cond (dP !=18) (Ak aZ (fun eg=>∃dG,im.cell? eg=some (.int .i64 dG)/\cond (dG !=23) (Ak aZ (fun dM=>∃eu,im.cell? dM=some (.int .i64 eu)/\J6 (eu !=24) im)) (J6 false im))) (J6 false im))) (J6 false im))) (J6 false im))/\∀(_x77:Nat->Value) eh jg,J6 eh jg->cond (eh) (Ak x9 (fun ei=>∃dI,jg.cell? ei=some (.int .i64 dI)/\∃dF eb,Ad jg (Zb bA) [.int .i64 dF,.bool eb]/\qm 117 #[.int .i64 (IntKind.i64.wrap (dI+1)),.agg #[.int .i64 dF,.bool eb],.pointer (some (Zb x4)),.pointer x9,.pointer (some (Zb bM))] jg (fun _x83 nA=>J5 nA))) (J5 jg))/\∀(_x84:Nat->Value) iK,J5 iK->∃eo,iK.cell? (Zb bM)=some (.bool eo)/\cond (!eo) (Ak x9 (fun ep=>∃dW,iK.cell? ep=some (.int .i64 dW)/\K (.tuple #[.int .i64 dW,.bool false]) iK)) (J iK))))) w8))/\∀(_x88:Nat->Value) lz,J lz->Ak x9 (fun dN=>∃dw,lz.cell? dN=some (.int .i64 dw)/\∀(dr:Nat) (nB:World),dr=lz.heap.size->nB=lz.alloc (.cells #[.int .i64 0] 3)->Af nB (Zb dr) 1/\∀mC:World,mC=nB.setCell (Zb dr) (.int .i64 dw)->∃dj,mC.cell? (Zb dr)=some (.int .i64 dj)/\Af mC (Zb dr) 1/\∀lB:World,lB=mC.setCell (Zb dr) (.int .i64 (IntKind.i64.wrap (dj+1)))->I (some (Zb dr)) lB/\x7 (some (Zb dr)) lB<x7 x9 w7)) (K (.tuple #[.int .i64 0,.bool true]) w8))) w1
theorem Re (x0:Addr) (K:Value->World->Prop) (w:World) (h:Rd x0 K w):Calls Tryz.prog 58 #[.pointer (some x0)] w (aG K):=
 Ag { loops:=[(58,[(5,.pointer)])],dH:=[(233,[]),(1865,[(8,.pointer)]),(7462,[(53,.bool)]),(29855,[]),(59711,[]),(119421,[(69,.bool)]),(119422,[(101,.bool)])] } Tryz.func58 (by kernel_rfl) h
def O5 (x0:Int) (x1:Int) (x2:Bool) (x3:Addr) (x4:Addr) (x5:Addr) (K:Value->World->Prop) (w:World):Prop:=∀(x6:Nat) (w1:World),x6=w.heap.size->w1=w.alloc (.cells #[.int .i64 x1,.bool x2] 186)->∃x7,w1.cell? x3=some (.map x7)/\Bd Tryz.prog (Instr.lookup 187 (.map x7) (.int .i64 x0) true) (fun x8 w2=>∃x9 ae aa,x8= .tuple #[.agg #[.int .i64 x9,.bool ae],.bool aa]/\∀(ad:Nat) (w3:World),ad=w2.heap.size->w3=w2.alloc (.cells #[.int .i64 0,.bool false] 186)->Af w3 (Zb ad) 2/\∀w4:World,w4=setCells w3 (Zb ad) [.int .i64 x9,.bool ae]->∃ai,w4.cell? x4=some (.int .i64 ai)/\cond (decide (x0<=ai)) (∃ag,w4.cell? x5=some (.bool ag)/\cond (ag) (∃ah aj,Ad w4 (Zb x6) [.int .i64 ah,.bool aj]/\Af w4 x5 1/\∀w5:World,w5=w4.setCell x5 (.bool ((ah==0)&&((aj==false)&&true)))->K (.tuple #[]) w5) (Af w4 x5 1/\∀w6:World,w6=w4.setCell x5 (.bool false)->K (.tuple #[]) w6)) (cond (aa) (∃ao,w4.cell? x5=some (.bool ao)/\cond (ao) (∃ak ax,Ad w4 (Zb x6) [.int .i64 ak,.bool ax]/\∃aA aB,Ad w4 (Zb ad) [.int .i64 aA,.bool aB]/\Af w4 x5 1/\∀w7:World,w7=w4.setCell x5 (.bool ((ak==aA)&&((ax==aB)&&true)))->K (.tuple #[]) w7) (Af w4 x5 1/\∀w8:World,w8=w4.setCell x5 (.bool false)->K (.tuple #[]) w8)) (∃ay,w4.cell? x3=some (.map ay)/\∃aw aD,Ad w4 (Zb x6) [.int .i64 aw,.bool aD]/\Bd Tryz.prog (Instr.mapUpdate 187 (.map ay) (.int .i64 x0) (.agg #[.int .i64 aw,.bool aD])) (fun _ w9=>K (.tuple #[]) w9) w4))) w1
theorem O6 (x0:Int) (x1:Int) (x2:Bool) (x3:Addr) (x4:Addr) (x5:Addr) (K:Value->World->Prop) (w:World) (h:O5 x0 x1 x2 x3 x4 x5 K w):Calls Tryz.prog 117 #[.int .i64 x0,.agg #[.int .i64 x1,.bool x2],.pointer (some x3),.pointer (some x4),.pointer (some x5)] w (aG K):=
 Ag {} Tryz.func117 (by kernel_rfl) h
def Acz (x0:Option Addr) (x1:Nat) (x2:Nat) (x3:Option Addr) (x4:Nat) (x5:Nat) (x6:Option Addr) (x7:Nat) (x8:Nat) (x9:Int) (ae:Int) (aa:Int) (K:Value->World->Prop) (w:World):Prop:=∀(ad:Nat) (w1:World),ad=w.heap.size->w1=w.alloc (.cells #[.slice x0 x1 x2,.slice x3 x4 x5,.slice x6 x7 x8,.int .i64 x9,.int .i64 ae] 26)->∃ai ag ah aj ao ak ax aA aB ay aw,Ad w1 (Zb ad) [.slice ai ag ah,.slice aj ao ak,.slice ax aA aB,.int .i64 ay,.int .i64 aw]/\qm 23 #[.agg #[.slice ai ag ah,.slice aj ao ak,.slice ax aA aB,.int .i64 ay,.int .i64 aw]] w1 (fun aD w2=>∃aN aH,aD= .tuple #[.int .i64 aN,.int .i64 aH]/\cond (aH !=0) (K (.tuple #[.pointer none,.int .i64 aH]) w2) (∀(_x27:Nat->Value),cond (((decide (aa<0))||(decide (aa>1048576)))) (K (.tuple #[.pointer none,.int .i64 1]) w2) (∃bg aQ aE aJ aZ aV bc bw aO bC bJ,Ad w2 (Zb ad) [.slice bg aQ aE,.slice aJ aZ aV,.slice bc bw aO,.int .i64 bC,.int .i64 bJ]/\qm 24 #[.agg #[.slice bg aQ aE,.slice aJ aZ aV,.slice bc bw aO,.int .i64 bC,.int .i64 bJ]] w2 (fun br w3=>∃a_ bD bF bn bO aX bP bA bM bW bQ,br= .agg #[.slice a_ bD bF,.slice bn bO aX,.slice bP bA bM,.int .i64 bW,.int .i64 bQ]/\∀(bT:Nat) (w4:World),bT=w3.heap.size->w4=w3.alloc (.cells #[.slice a_ bD bF,.slice bn bO aX,.slice bP bA bM,.int .i64 bW,.int .i64 bQ,.int .i64 aa] 64)->K (.tuple #[.pointer (some (Zb bT)),.int .i64 0]) w4))))
theorem Ac0 (x0:Option Addr) (x1:Nat) (x2:Nat) (x3:Option Addr) (x4:Nat) (x5:Nat) (x6:Option Addr) (x7:Nat) (x8:Nat) (x9:Int) (ae:Int) (aa:Int) (K:Value->World->Prop) (w:World) (h:Acz x0 x1 x2 x3 x4 x5 x6 x7 x8 x9 ae aa K w):Calls Tryz.prog 8 #[.agg #[.slice x0 x1 x2,.slice x3 x4 x5,.slice x6 x7 x8,.int .i64 x9,.int .i64 ae],.int .i64 aa] w (aG K):=
 Ag { jJ:=[(28,[21])] } Tryz.func8 (by kernel_rfl) h
def kD (t:Th):Value:= .agg #[.int .i64 t.1,.bool t.2]
def gp (L:List (Int×Th)):Kn:=fun j=>G3 L (j:Int)
def tI (L:List (Int×Th)) (a to:Int) (now:Th) (ok:Bool):List (Int×Th)×Bool:=
 if to<=a then(L,ok&&decide (now=(0,false)))else match G3 L to with
  |some mr=>(L,ok&&decide (now=mr))|none=>(L++[(to,now)],ok)
section
variable {n0:Nat} {rs m0:List Nat} {fr:List (List Nat×Nat×World)} {ds:List Nat} {w:World} {ps:List Pc}
theorem RU (a b:Th):((a.1==b.1)&&((a.2==b.2)&&true))=decide (a=b):=by
 obtain⟨a1,a2⟩:=a;obtain⟨b1,b2⟩:=b;rw [Bool.eq_iff_iff];simp
theorem Vq {α:Type} {l:List α} {k:Nat} {x:α} (h:l[k]? =some x):l.set k x=l:=by
 apply List.ext_getElem?;intro i;rw [getElem?_set];split
 ·rename_i e;subst e;rw [if_pos (List.getElem?_eq_some_iff.1 h).1,h]
 ·rfl
theorem RV {w':World} (o:Mem n0 rs m0 fr ds w ps) (k:Nat) {b:Nat} {ob:Obj} {fy:List (Int×Value)} (hk:ps[k]? =some (.raw b ob)) (hK:Ai [b] w w') (hm:w'.heap[b]? =some (Lu (Nq .i64) fy)):Step (ms ps m0) w (ms (ps.set k (.raw b (Lu (Nq .i64) fy))) m0) w'/\Mem n0 rs m0 fr ds w' (ps.set k (.raw b (Lu (Nq .i64) fy))):=
 ⟨Mem.Bmc (Nq .i64) k hk hK,o.Bm7 (Nq .i64) k hk hK hm⟩
set_option maxHeartbeats 1000000 in
theorem GC (o:Mem n0 rs m0 fr ds w ps) {b b1 ba b6:Nat} {L:List (Int×Th)} {a:Int} {ok:Bool} (k1 k2 k3 k4:Nat) (h1:ps[k1]? =some (.raw b (Lu (Nq .i64) (R3 kD L)))) (h2:ps[k2]? =some (.box b1 [.map (some b)])) (h3:ps[k3]? =some (.box ba [.int .i64 a])) (h4:ps[k4]? =some (.box b6 [.bool ok])) (to:Int) (now:Th) (K:World->Prop) (hK:∀w' L' iQ,(L',iQ)=tI L a to now ok->Mem n0 rs m0 fr ds w' ((ps.set k1 (.raw b (Lu (Nq .i64) (R3 kD L')))).set k4 (.box b6 [.bool iQ]))->Step (ms ps m0) w (ms ((ps.set k1 (.raw b (Lu (Nq .i64) (R3 kD L')))).set k4 (.box b6 [.bool iQ])) m0) w'->K w'): Calls Tryz.prog 117 #[.int .i64 to,.agg #[.int .i64 now.1,.bool now.2],.pointer (some ⟨b1,0,none⟩),.pointer (some ⟨ba,0,none⟩),.pointer (some ⟨b6,0,none⟩)] w (aG fun _ w'=>K w'):=by
 have hz:∀w:World,(zeroValue 186).run Tryz.prog w= .ok (kD (0,false)) w:=fun w=>by kernel_rfl
 refine O6 _ _ _ _ _ _ _ _ ?_;intro b' w1 DK aU;obtain⟨ar,o⟩:=o.dB DK aU;refine⟨_,(o.at (k2+1) h2).cell rfl,?_⟩;refine JL (E:=Nq .i64) (f:=kD) (L:=L) (z:=(0,false)) (o.xZ (k1+1) h1) Tryz.underlying187 Tryz.underlying3 (hz w1) to ?_;refine⟨_,_,_,rfl,?_⟩;intro b'' w3 Brm eC;obtain⟨aR,o⟩:=o.dB Brm eC;refine⟨o.wr 0 rfl rfl,fun w4 db=> ?_⟩;obtain⟨bf,o⟩:=o.cH 0 db rfl;have pS:=(ar.trans aR).trans bf;have fin:∀ {w5:World} {iQ:Bool},w5=w4.setCell ⟨b6,0,none⟩ (.bool iQ)->(L,iQ)=tI L a to now ok->K w5:=by
  intro w5 iQ du he;obtain⟨bh,o⟩:=o.dS (k4+2) du h4;obtain⟨bk,o⟩:=o.dX 0;obtain⟨aY,o⟩:=o.dX 0;have o:Mem n0 rs m0 fr ds w5 (ps.set k4 (.box b6 [.bool iQ])):=o;have st:Step (ms ps m0) w (ms (ps.set k4 (.box b6 [.bool iQ])) m0) w5:=((pS.trans bh).trans bk).trans aY;rw [←Vq h1]at o;refine hK _ _ _ he o ?_;rw [Vq h1];exact st
 refine⟨_,(o.at (k3+2) h3).cell rfl,?_⟩;unfold tI at fin hK;refine Ab (fun hc=> ?_) fun hc=> ?_
 ·have hc:=of_decide_eq_true hc;rw [if_pos hc]at fin;refine⟨_,(o.at (k4+2) h4).cell rfl,Ab (fun eM=> ?_) fun eM=> ?_⟩
  ·refine⟨_,_,(o.at 1 rfl).whole,o.wr (k4+2) h4 rfl,fun w5 du=>fin du ?_⟩;rw [eM,Bool.true_and];exact congrArg _ (RU now (0,false))
  ·refine⟨o.wr (k4+2) h4 rfl,fun w5 du=>fin du ?_⟩;rw [eM];rfl
 ·have hc:=of_decide_eq_false hc;rw [if_neg hc]at fin hK;cases hg:G3 L to with
  |some mr=>
   rw [hg]at fin;refine Cu rfl ⟨_,(o.at (k4+2) h4).cell rfl,Ab (fun eM=> ?_) fun eM=> ?_⟩
   ·refine⟨_,_,(o.at 1 rfl).whole,_,_,(o.at 0 rfl).whole,o.wr (k4+2) h4 rfl,fun w5 du=>fin du ?_⟩;rw [eM];show(L,_)=(L,true&&decide (now=mr))
    rw [Bool.true_and,hg];exact congrArg _ (RU now mr)
   ·refine⟨o.wr (k4+2) h4 rfl,fun w5 du=>fin du ?_⟩;rw [eM];rfl
  |none=>
   refine Bj rfl ⟨_,(o.at (k2+2) h2).cell rfl,_,_,(o.at 1 rfl).whole,?_⟩;refine JJ (E:=Nq .i64) (s:=to) (o.xZ (k1+2) h1) Tryz.underlying187 Tryz.underlying3 (by rw [JK,hg];rfl) fun w9 hk hm=> ?_
   rw [show(Value.agg #[.int .i64 now.1,.bool now.2])=kD now from rfl,JI]at hm;obtain⟨bh,o⟩:=RV o (k1+2) h1 hk hm;obtain⟨bk,o⟩:=o.dX 0;obtain⟨aY,o⟩:=o.dX 0;have o:Mem n0 rs m0 fr ds w9 (ps.set k1 (.raw b (Lu (Nq .i64) (R3 kD (L++[(to,now)]))))):=o;have st:Step (ms ps m0) w (ms (ps.set k1 (.raw b (Lu (Nq .i64) (R3 kD (L++[(to,now)]))))) m0) w9:=((pS.trans bh).trans bk).trans aY;have cf:k1≠k4:=fun e=>by rw [e,h4]at h1;cases h1
   have RX:(ps.set k1 (.raw b (Lu (Nq .i64) (R3 kD (L++[(to,now)])))))[k4]? =some (.box b6 [.bool ok]):=by rw [getElem?_set,if_neg cf];exact h4
   refine hK w9 (L++[(to,now)]) ok ?_ ?_ ?_
   ·rw [hg]
   ·rw [Vq RX];exact o
   ·rw [Vq RX];exact st
end
theorem Aso {L:List (Int×Th)} {s x:Int} {v:Th} (h:G3 L s=none):G3 (L++[(s,v)]) x=if x=s then some v else G3 L x:=by
 unfold G3 at h⊢;rw [List.find?_append];by_cases e:x=s
 ·subst e;rw [if_pos rfl];have:L.find? (·.1==x)=none:=by simpa using h
  rw [this];simp
 ·rw [if_neg e];have hn:([(s,v)]:List (Int×Th)).find? (·.1==x)=none:=by simp;exact fun h=>e h.symm
  rw [hn,Option.or_none]
theorem RY {L L1:List (Int×Th)} {a:Nat} {to:Int} {now:Th} {fq:Bool} (h0:0<=to) (h:(L1,fq)=tI L a to now true):
 (fq=true/\Pk (gp L) a to.toNat now=some (gp L1))\/(fq=false/\Pk (gp L) a to.toNat now=none):=by
 obtain⟨t,rfl⟩:∃t:Nat,to=t:=⟨to.toNat,by omega⟩
 rw [toNat_natCast];unfold tI at h;unfold Pk;by_cases hc:t<=a
 ·rw [if_pos (by omega)]at h;rw [if_pos hc];cases h
  by_cases hz:now=(0,false)
  ·rw [if_pos hz,decide_eq_true hz];exact .inl ⟨rfl,rfl⟩
  ·rw [if_neg hz,decide_eq_false hz];exact .inr ⟨rfl,rfl⟩
 ·rw [if_neg (by omega)]at h;rw [if_neg hc];cases hg:G3 L (t:Int)with
  |some mr=>
   rw [hg]at h;cases h
   rw [show gp L t=some mr from hg];by_cases hz:now=mr
   ·simp only [hz,if_true];exact .inl ⟨by simp,trivial⟩
   ·simp only [hz,if_false];exact .inr ⟨by simp,trivial⟩
  |none=>
   rw [hg]at h;cases h
   rw [show gp L t=none from hg];refine .inl ⟨rfl,congrArg some ?_⟩;funext j;show _=G3 _ _
   rw [Aso hg];by_cases e:j=t
   ·rw [if_pos e,if_pos (by omega)]
   ·rw [if_neg e,if_neg (by omega)];rfl
section
variable {n0:Nat} {rs m0:List Nat} {fr:List (List Nat×Nat×World)} {ds:List Nat} {w w':World} {ps:List Pc}
theorem Apm (o:Mem n0 rs m0 fr ds w ps) {b:Nat} (hb:b=w.heap.size) (e:w'=w.alloc (.map #[] 0)):Step (ms ps m0) w (ms (.raw b (Lu (Nq .i64) (R3 kD []))::ps) m0) w'/\Mem n0 rs m0 fr ds w' (.raw b (Lu (Nq .i64) (R3 kD []))::ps):=
 ⟨Mem.Bmb (Nq .i64) kD hb e,o.Bm6 (Nq .i64) kD hb e⟩
end
def PL (b b1 bL:Nat) (Q:List Value) (ba:Nat) (a:Int) (L:List (Int×Th)):List Pc:=[.box ba [.int .i64 a],.box b1 [.map (some b)],.raw b (Lu (Nq .i64) (R3 kD L)),.box bL Q]
def k9 (t:Th):List Value:=[.int .i64 t.1,.bool t.2]
def GD (x:Ay):List Value:=[.int .i64 x.op,.int .i64 x.a,.int .i64 x.b]
def PB (b b1 bL:Nat) (Q:List Value) (ba b3 b4 b5 b6:Nat) (a:Int) (x:Ay) (t u:Th) (L:List (Int×Th)) (ok:Bool):List Pc:= .box b6 [.bool ok]::.box b5 (k9 u)::.box b4 (GD x)::.box b3 (k9 t)::PL b b1 bL Q ba a L
def GF (e:Nat) (p:Option Addr) (w:World):Nat:=match p with
 |some q=>(match w.cell? q with
  |some (.int _ v)=>((e:Int)-v).toNat|_=>0)
 |none=>0
theorem RZ {e ba:Nat} {w:World} {a:Int} (h:w.cell? ⟨ba,0,none⟩=some (.int .i64 a)):GF e (some ⟨ba,0,none⟩) w=((e:Int)-a).toNat:=by
 unfold GF;simp only [h]
set_option maxHeartbeats 4000000 in
theorem Bab (k:An) (f e:Nat) (hf:k.from_=f) (he:k.to=e) (hfe:f<e) (o1:e<=k.code.ins.length) (hl:k.code.ins.length<=100000) (hI:jW k.code.ins f e) (K:Int->Bool->Prop) (h:∀i,K i (Js k.code.ins (fun j=>if j=f then some (0,false)else none) f (e-f))):J0 k K:=by
 generalize hR:Js k.code.ins (fun j=>if j=f then some (0,false)else none) f (e-f)=R at h;intro m w hm bL bN jE ll dQ;obtain⟨a0,c0,a1,c1,a2,c2,rfl,⟨le,fi⟩,⟨bz,f1⟩,⟨bH,f2⟩⟩:=Cj dQ;have o:=Mem.recv hm.lt jE ll;have st:=Mem.oH (w:=w) jE ll;have fT:∀b∈[bL],b∈m:=fun b hb=>(mem_singleton.1 hb)▸jE
 refine Re ⟨bL,0,none⟩ _ _ ?_;intro b w1 hb aU;obtain⟨ar,o⟩:=Apm o hb aU;refine⟨_,(o.at 1 rfl).cell rfl,?_⟩;refine JJ (E:=Nq .i64) (s:=k.from_) (o.xZ 0 rfl) Tryz.underlying187 Tryz.underlying3 rfl fun w2 hk R_=> ?_
 rw [show(Value.agg #[.int .i64 0,.bool false])=kD (0,false) from rfl,JI]at R_;obtain⟨aR,o⟩:=RV o 0 rfl hk R_;intro b1 w3 ca eC;obtain⟨bf,o⟩:=o.dB ca eC;refine⟨o.wr 0 rfl rfl,fun w4 db=> ?_⟩;obtain⟨bh,o⟩:=o.dS 0 db rfl;refine⟨_,(o.at 2 rfl).cell rfl,?_⟩;intro b2 w5 di du;obtain⟨bk,o⟩:=o.dB di du;refine⟨o.wr 0 rfl rfl,fun w6 cZ=> ?_⟩;obtain⟨aY,o⟩:=o.dS 0 cZ rfl;have st:=(((((st.trans ar).trans aR).trans bf).trans bh).trans bk).trans aY;generalize hQ:([.slice a0 k.code.ins.length c0,.slice a1 k.code.defs.length c1,.slice a2 k.code.af.length c2,.int .i64 k.code.main,.int .i64 k.code.stmts,.int .i64 k.marks,.int .i64 k.from_,.int .i64 k.to,.int .i64 k.vars]:List Value)=Q at o st;rw [hf]at o st;have o:Mem w.heap.size [bL] m [([bL],w.heap.size,w)] [] w6 (PL b b1 bL Q b2 f [((f:Int),(0,false))]):=o;have st:Step m w (ms (PL b b1 bL Q b2 f [((f:Int),(0,false))]) m) w6:=st;have I9:∀ {P:Prop},P->P:=fun h=>h
 refine⟨fun p w'=>∃(ba a:Nat) (L:List (Int×Th)),p=some ⟨ba,0,none⟩/\f<=a/\a<=e/\Mem w.heap.size [bL] m [([bL],w.heap.size,w)] [] w' (PL b b1 bL Q ba a L)/\Step m w (ms (PL b b1 bL Q ba a L) m) w'/\kf (gp L) a/\Js k.code.ins (gp L) a (e-a)=R,
  GF e,⟨b2,f,_,rfl,le_refl _,by omega,o,st,?_,?_⟩,?_⟩
 ·intro j t hj;unfold gp G3 at hj;rw [List.find?_cons]at hj;split at hj
  ·cases hj;exact⟨Int.le_refl _,by show(0:Int)<=_;omega⟩
  ·cases hj
 ·rw [←hR];congr 1;funext j;unfold gp G3;rw [List.find?_cons];by_cases ej:j=f
  ·simp [ej]
  ·have:((f:Int)==(j:Int))=false:=by simp;omega
   simp [this,ej]
 rintro _ _ w7 ⟨ba,a,L,rfl,nh,GB,o,st,hB,dp⟩;have hmu:=RZ (e:=e) ((o.at 0 rfl).cell (i:=0) rfl);intro w8 gG;obtain⟨bu,o⟩:=o.dD gG;have st:=st.trans bu;subst hQ;refine Ae rfl ⟨_,(o.at 0 rfl).cell rfl,_,(o.at 3 rfl).cell rfl,?_⟩;rw [show decide ((a:Int)<k.to)=decide ((a:Int)<(e:Int)) by rw [he]];generalize hQ:([.slice a0 k.code.ins.length c0,.slice a1 k.code.defs.length c1,.slice a2 k.code.af.length c2,.int .i64 k.code.main,.int .i64 k.code.stmts,.int .i64 k.marks,.int .i64 k.from_,.int .i64 k.to,.int .i64 k.vars]:List Value)=Q at o st;refine At.cond GB (fun aP=> ?_) fun heq=> ?_
 ·have iP:a<k.code.ins.length:=by omega
  obtain⟨q,hq⟩:∃q,e-a=q+1:=⟨e-a-1,by omega⟩
  obtain⟨x,hx⟩:∃x,k.code.ins[a]=x:=⟨_,rfl⟩
  have kI:k.code.ins[a]? =some x:=by rw [getElem?_eq_getElem iP,hx]
  obtain⟨⟨lp,iR⟩,rM,pd⟩:=hI a x nh aP kI;rw [hq,Js,kI]at dp;simp only at dp;refine⟨fun w'=>∃L',Mem w.heap.size [bL] m [([bL],w.heap.size,w)] [] w' (PL b b1 bL Q ba a L')/\Step m w (ms (PL b b1 bL Q ba a L') m) w'/\kf (gp L') (a+1)/\Js k.code.ins (gp L') (a+1) q=R,?_,?_⟩
  ·refine⟨_,(o.at 1 rfl).cell rfl,Ae rfl ⟨_,(o.at 0 rfl).cell rfl,?_⟩⟩;refine JL (E:=Nq .i64) (f:=kD) (L:=L) (z:=(0,false)) (o.xZ 2 rfl) Tryz.underlying187 Tryz.underlying3 (by kernel_rfl) (a:Int) ?_;have Bo5:(G3 L (a:Int)).isSome=(gp L a).isSome:=rfl;obtain⟨t0,tF⟩:∃t0,(G3 L (a:Int)).getD (0,false)=t0:=⟨_,rfl⟩
   rw [Bo5,tF];refine⟨_,_,_,rfl,?_⟩;intro b3 aK jj fI;obtain⟨bX,o⟩:=o.dB jj fI;refine⟨o.wr 0 rfl rfl,fun aI iz=> ?_⟩;obtain⟨bV,o⟩:=o.cH 0 iz rfl;have st:=(st.trans bX).trans bV;have o:Mem w.heap.size [bL] m [([bL],w.heap.size,w)] [] aI (.box b3 (k9 t0)::PL b b1 bL Q ba a L):=o;have st:Step m w (ms (.box b3 (k9 t0)::PL b b1 bL Q ba a L) m) aI:=st;refine⟨fun p w'=>∃b4,p=some ⟨b4,0,none⟩/\Mem w.heap.size [bL] m [([bL],w.heap.size,w)] [] w' (.box b4 (GD x)::.box b3 (k9 t0)::PL b b1 bL Q ba a L)/\Step m w (ms (.box b4 (GD x)::.box b3 (k9 t0)::PL b b1 bL Q ba a L) m) w',?_,?_⟩
   ·intro bj j7;obtain⟨cP,o⟩:=o.dD j7;have st:=st.trans cP;obtain⟨p,x',cs,hp,qn,hc,hr⟩:=(fi.st st).elem (i:=(a:Int)) ⟨by omega,by omega⟩;rw [toNat_natCast,kI]at qn;cases qn
    obtain rfl:=A6 hr;subst hQ;refine⟨fun u=>Ai [] bj u,Ai.refl _ _,_,_,_,fun u hu=>((o.at 4 rfl).bo hu (by simp)).cell rfl,Ae rfl ⟨_,fun u hu=>((o.at 1 rfl).bo hu (by simp)).cell rfl,⟨by omega,by omega⟩,Ae hp ⟨_,_,_,fun u hu=>H0.held hc hu (by simp),?_⟩⟩⟩;intro b4 bG gQ nI;obtain⟨dJ,o⟩:=o.dB gQ nI;refine⟨Aq nI,o.wr 0 rfl rfl,fun bt kN=> ?_⟩;obtain⟨ec,o⟩:=o.cH 0 kN rfl;exact⟨b4,rfl,o,(st.trans dJ).trans ec⟩
   ·rintro _ _ cr ⟨b4,rfl,o,st⟩;refine⟨fun v w'=>v=(Y3 x (gp L a)).isNone/\w'=cr,?_,?_⟩
    ·unfold Y3;cases l7:gp L a with
     |some u=>exact⟨rfl,rfl⟩
     |none=>
      refine Cu rfl (Ae rfl ⟨_,(o.at 0 rfl).cell rfl,?_,rfl⟩);by_cases e1:x.op=1<;>simp [e1]
    rintro _ _ ck ⟨rfl,rfl⟩;have rN:∀ {k:Kn},kf k a->kf k (a+1):=fun h j t hj=>by have:=h j t hj;omega
    cases hc:Y3 x (gp L a)with
    |none=>
     rw [hc]at dp;obtain⟨cP,o⟩:=o.dX 0;obtain⟨dJ,o⟩:=o.dX 0;exact⟨L,o,(st.trans cP).trans dJ,rN hB,dp⟩
    |some t=>
     rw [hc]at dp;simp only at dp;obtain rfl:t=t0:=by
      rw [←tF];unfold Y3 at hc;cases l7:gp L a with
      |some u=>
       rw [l7]at hc;cases hc;rw [show G3 L (a:Int)=some t from l7];rfl
      |none=>
       rw [l7]at hc;simp only at hc;rw [show G3 L (a:Int)=none from l7];split at hc
       ·cases hc;rfl
       ·cases hc
     have ht:0<=t.1/\t.1<=a:=by
      unfold Y3 at hc;cases l7:gp L a with
      |some u=>rw [l7]at hc;cases hc;exact hB _ _ l7
      |none=>
       rw [l7]at hc;simp only at hc;split at hc
       ·cases hc;exact⟨Int.le_refl _,by omega⟩
       ·cases hc
     refine Bj rfl (Ae rfl ⟨_,_,_,(o.at 0 rfl).whole,_,_,(o.at 1 rfl).whole,?_⟩);refine Ac (Baa x ⟨t.1,t.2⟩ ⟨ht.1,by show t.1<=_;omega⟩ ⟨lp,iR⟩ (fun r ok=>r=⟨(D9 x t).1,(D9 x t).2⟩/\ok=Gu x t) ⟨rfl,rfl⟩ _ ck (o.mp hm fT) _ (Ci x) _ (Qc _)) ?_;rintro _ cQ ⟨_,_,⟨rfl,rfl⟩,⟨c_,rfl,jQ⟩,ke⟩;obtain rfl:=Pb jQ;obtain⟨cP,o⟩:=o.dE ke;refine⟨_,_,_,rfl,?_⟩;intro b5 cR j8 pP;obtain⟨dJ,o⟩:=o.dB j8 pP;intro b6 eR GG kR;obtain⟨ec,o⟩:=o.dB GG kR;refine⟨o.wr 1 rfl rfl,fun dk iY=> ?_⟩;obtain⟨fc,o⟩:=o.cH 1 iY rfl;refine⟨o.wr 0 rfl rfl,fun gg qR=> ?_⟩;obtain⟨fR,o⟩:=o.dS 0 qR rfl;have st:=((((st.trans cP).trans dJ).trans ec).trans fc).trans fR;have o:Mem w.heap.size [bL] m [([bL],w.heap.size,w)] [] gg (PB b b1 bL Q ba b3 b4 b5 b6 a x t (D9 x t) L (Gu x t)):=o;have st:Step m w (ms (PB b b1 bL Q ba b3 b4 b5 b6 a x t (D9 x t) L (Gu x t)) m) gg:=st;refine⟨fun w'=>∃L1 fq,((fq=true/\Gu x t=true/\go1 x a t (gp L)=some (gp L1)/\kf (gp L1) (a+1))\/(fq=false/\R=false))/\Mem w.heap.size [bL] m [([bL],w.heap.size,w)] [] w' (PB b b1 bL Q ba b3 b4 b5 b6 a x t (D9 x t) L1 fq)/\Step m w (ms (PB b b1 bL Q ba b3 b4 b5 b6 a x t (D9 x t) L1 fq) m) w',?_,?_⟩
     ·refine Ae rfl ⟨_,_,_,(o.at 2 rfl).whole,?_⟩;refine Ac (QV x (fun r ok=>r=(Ee x).1/\ok=(Ee x).2) ⟨rfl,rfl⟩ _ gg (o.mp hm fT) _ (Ci x)) ?_;rintro _ iJ ⟨_,_,⟨rfl,rfl⟩,rfl,ke⟩;obtain⟨fJ,o⟩:=o.dE ke;have st:=st.trans fJ;refine⟨_,_,rfl,fun v w'=>v=((Ee x).2&&Gu x t)/\w'=iJ,?_,?_⟩
      ·cases (Ee x).2
       ·exact⟨rfl,rfl⟩
       ·exact⟨_,(o.at 0 rfl).cell rfl,rfl,rfl⟩
      rintro _ _ il ⟨rfl,rfl⟩;refine Ab (fun hg=> ?_) fun hg=> ?_
      ·simp only [and_eq_true]at hg;obtain⟨wF,h_⟩:=hg;rw [h_]at o st dp;rw [cond_true]at dp;obtain⟨g0,g1⟩:=rM wF;refine Ae rfl ⟨_,(o.at 2 rfl).cell rfl,?_⟩;refine Ac (Rt x.op (fun r=>r=D5 x.op) rfl _ il (o.mp hm fT)) ?_;rintro _ jx ⟨_,rfl,rfl,dh⟩;obtain⟨fg,o⟩:=o.dE dh;have st:=st.trans fg;have tH:=F_ ht lp h_;have gN:∀(now:Th),now=cond (D5 x.op) (0,false) (D9 x t)->∀(w':World) (L':List (Int×Th)) (iQ:Bool),(L',iQ)=tI L a (Ee x).1 now true->(iQ=true/\Gu x t=true/\go1 x a t (gp L)=some (gp L')/\kf (gp L') (a+1))\/(iQ=false/\R=false):=by
        intro now hn w' L' iQ hM;have iv:go1 x a t (gp L)=Pk (gp L) a (Ee x).1.toNat now:=by unfold go1;rw [wF,cond_true,hn]
        rcases RY g0 hM with⟨rfl,hk⟩|⟨rfl,hk⟩
        ·refine .inl ⟨rfl,h_,iv.trans hk,Zz (rN hB) ?_ hk⟩;rw [hn];cases D5 x.op
         ·exact tH
         ·exact⟨Int.le_refl _,by show(0:Int)<=_;omega⟩
        ·refine .inr ⟨rfl,?_⟩;rw [iv,hk]at dp;exact dp.symm
       refine⟨_,rfl,Ab (fun kb=> ?_) fun kb=> ?_⟩
       ·exact GC o 6 5 4 0 rfl rfl rfl rfl (Ee x).1 (0,false) _ fun w' L' iQ hM o rE=>⟨L',iQ,gN _ (by rw [kb];rfl) w' L' iQ hM,o,st.trans rE⟩
       ·exact⟨_,_,(o.at 1 rfl).whole,GC o 6 5 4 0 rfl rfl rfl rfl (Ee x).1 (D9 x t) _ fun w' L' iQ hM o rE=>⟨L',iQ,gN _ (by rw [kb];rfl) w' L' iQ hM,o,st.trans rE⟩⟩
      ·refine⟨L,Gu x t,?_,o,st⟩;cases h_:Gu x t with
       |false=>
        rw [h_]at dp;exact .inr ⟨rfl,dp.symm⟩
       |true=>
        rw [h_,Bool.and_true]at hg;exact .inl ⟨rfl,rfl,by unfold go1;rw [hg];rfl,rN hB⟩
     ·rintro _ im ⟨L1,fq,hP,o,st⟩;refine⟨fun w'=>∃L2 wG,((wG=true/\Js k.code.ins (gp L2) (a+1) q=R/\kf (gp L2) (a+1))\/(wG=false/\R=false))/\Mem w.heap.size [bL] m [([bL],w.heap.size,w)] [] w' (PB b b1 bL Q ba b3 b4 b5 b6 a x t (D9 x t) L2 wG)/\Step m w (ms (PB b b1 bL Q ba b3 b4 b5 b6 a x t (D9 x t) L2 wG) m) w',?_,?_⟩
      ·refine⟨fun v w'=>v=(fq&&T2 x.op)/\w'=im,⟨_,(o.at 0 rfl).cell rfl,?_⟩,?_⟩
       ·cases fq
        ·exact⟨rfl,rfl⟩
        ·refine Cu rfl (Ae rfl ⟨_,(o.at 2 rfl).cell rfl,?_⟩);unfold T2;cases (x.op !=6)
         ·exact⟨rfl,rfl⟩
         ·refine Cu rfl (Ae rfl ⟨_,(o.at 2 rfl).cell rfl,?_⟩);cases (x.op !=18)
          ·exact⟨rfl,rfl⟩
          ·refine Cu rfl (Ae rfl ⟨_,(o.at 2 rfl).cell rfl,?_⟩);cases (x.op !=23)
           ·exact⟨rfl,rfl⟩
           ·exact Cu rfl (Ae rfl ⟨_,(o.at 2 rfl).cell rfl,rfl,rfl⟩)
       ·rintro _ _ jg ⟨rfl,rfl⟩;refine Ab (fun hg=> ?_) fun hg=> ?_
        ·simp only [and_eq_true]at hg;obtain⟨rfl,nh⟩:=hg;rcases hP with⟨_,h_,iv,GH⟩|⟨zu,_⟩
         ·rw [h_,cond_true,iv]at dp;simp only at dp;have cf:a+1≠e:=fun e1=>by
           have:=pd e1;rw [this]at nh;cases nh
          have tH:=F_ ht lp h_;have pg:go2 x a t (gp L1)=Pk (gp L1) a (a+1) (D9 x t):=by unfold go2;rw [nh,cond_true]
          refine Ae rfl ⟨_,(o.at 4 rfl).cell rfl,_,_,(o.at 1 rfl).whole,?_⟩;rw [A3 (by omega) (by omega)];refine GC o 6 5 4 0 rfl rfl rfl rfl ((a:Int)+1) (D9 x t) _ fun w' L' iQ hM o rE=>⟨L',iQ,?_,o,st.trans rE⟩
          rcases RY (by omega) hM with⟨rfl,hk⟩|⟨rfl,hk⟩
          ·rw [show((a:Int)+1).toNat=a+1 by omega,←pg]at hk;rw [hk]at dp;rw [pg]at hk;exact .inl ⟨rfl,dp,Zz GH tH hk⟩
          ·rw [show((a:Int)+1).toNat=a+1 by omega,←pg]at hk;rw [hk]at dp;exact .inr ⟨rfl,dp.symm⟩
         ·cases zu
        ·refine⟨L1,fq,?_,o,st⟩;rcases hP with⟨rfl,h_,iv,GH⟩|⟨rfl,nX⟩
         ·rw [h_,cond_true,iv]at dp;simp only at dp;have pg:go2 x a t (gp L1)=some (gp L1):=by unfold go2;rw [show T2 x.op=false from hg];rfl
          rw [pg]at dp;exact .inl ⟨rfl,dp,GH⟩
         ·exact .inr ⟨rfl,nX⟩
      ·rintro _ iK ⟨L2,wG,hP,o,st⟩;refine⟨_,(o.at 0 rfl).cell rfl,Ab (fun fG=> ?_) fun lZ=> ?_⟩
       ·rcases hP with⟨rfl,_⟩|⟨_,nX⟩
        ·cases fG
        ·subst hQ;rw [nX]at h;exact Ae rfl ⟨_,(o.at 4 rfl).cell rfl,_,_,h _,rfl,o.at 7 rfl,o.done⟩
       ·rcases hP with⟨rfl,Brn,qj⟩|⟨rfl,_⟩
        ·obtain⟨s1,o⟩:=o.dX 0;obtain⟨s2,o⟩:=o.dX 0;obtain⟨s3,o⟩:=o.dX 0;obtain⟨s4,o⟩:=o.dX 0;exact⟨L2,o,(((st.trans s1).trans s2).trans s3).trans s4,qj,Brn⟩
        ·cases lZ
  ·rintro _ lz ⟨L',o,st,r7,Bro⟩;refine Ae rfl ⟨_,(o.at 0 rfl).cell rfl,?_⟩;intro b7 nB GI Brp;obtain⟨s1,o⟩:=o.dB GI Brp;refine⟨o.wr 0 rfl rfl,fun mC Brq=> ?_⟩;obtain⟨s2,o⟩:=o.dS 0 Brq rfl;refine⟨_,(o.at 0 rfl).cell rfl,o.wr 0 rfl rfl,fun lB SA=> ?_⟩;rw [show IntKind.i64.wrap ((a:Int)+1)=((a+1:Nat):Int) by rw [A3 (by omega) (by omega)];omega]at SA;obtain⟨s3,o⟩:=o.dS 0 SA rfl;obtain⟨s4,o⟩:=o.dX 1;have o:Mem w.heap.size [bL] m [([bL],w.heap.size,w)] [] lB (PL b b1 bL Q b7 ((a+1:Nat):Int) L'):=o;refine⟨⟨b7,a+1,L',rfl,by omega,by omega,o,(((st.trans s1).trans s2).trans s3).trans s4,r7,by rw [show e-(a+1)=q by omega];exact Bro⟩,?_⟩;rw [RZ ((o.at 0 rfl).cell (i:=0) rfl),hmu];omega
 ·subst heq;rw [sub_self,Js]at dp;subst hQ;exact⟨_,_,by rw [←dp]at h;exact h _,rfl,o.at 3 rfl,o.done⟩
def zw (x:Ay):Bool:=x.op==1
def G8 (c:Ah) (k:Nat):Int:=((c.ins.take k).countP zw:Nat)
def zx (c:Ah) (r:Nat):Prop:=∀(a:Nat) (x:Ay),cw c r<=a->(a:Int)<cK c r->c.ins[a]? =some x->T1 c (cw c r) (cK c r) (i7 c r) (G8 c a) a x=true
def G9 (c:Ah):Prop:=∀r,r<c.defs.length->zx c r
def Ru (c:Ah):Prop:=∀r,r<c.defs.length->tG c r=true
open Classical in
noncomputable def iy (c:Ah):Int:=if E8 c=true then(if G9 c then(if G8 c c.ins.length=c.stmts then(if Ru c then 0 else 14)else 3)else 15)else 3
theorem SB {c:Ah} (h:¬E8 c=true):iy c=3:=by unfold iy;rw [if_neg h]
theorem SC {c:Ah} (h:E8 c=true) (h2:¬G9 c):iy c=15:=by unfold iy;rw [if_pos h,if_neg h2]
theorem SD {c:Ah} (h:E8 c=true) (h2:G9 c) (h3:¬G8 c c.ins.length=c.stmts):iy c=3:=by unfold iy;rw [if_pos h,if_pos h2,if_neg h3]
theorem SE {c:Ah} (h:E8 c=true) (h2:G9 c) (h3:G8 c c.ins.length=c.stmts) (h4:¬Ru c):iy c=14:=by unfold iy;rw [if_pos h,if_pos h2,if_pos h3,if_neg h4]
theorem SG {c:Ah} (h:E8 c=true) (h2:G9 c) (h3:G8 c c.ins.length=c.stmts) (h4:Ru c):iy c=0:=by unfold iy;rw [if_pos h,if_pos h2,if_pos h3,if_pos h4]
theorem Avm {c:Ah} (h:iy c=0):E8 c=true/\G9 c/\G8 c c.ins.length=c.stmts/\Ru c:=by
 unfold iy at h;split at h
 ·split at h
  ·split at h
   ·split at h
    ·exact⟨by assumption,by assumption,by assumption,by assumption⟩
    ·cases h
   ·cases h
  ·cases h
 ·cases h
theorem SH {c:Ah} {k:Nat} {x:Ay} (h:c.ins[k]? =some x):G8 c (k+1)=if x.op=1 then G8 c k+1 else G8 c k:=by
 unfold G8;rw [List.take_add_one,h,List.countP_append];by_cases e:x.op=1
 ·simp [zw,e]
 ·simp [zw,e]
theorem SI (c:Ah) (k:Nat):0<=G8 c k/\G8 c k<=k:=by
 unfold G8;have:=List.countP_le_length (p:=zw) (l:=c.ins.take k);rw [List.length_take]at this;omega
theorem Avn {c:Ah} (T:fj c) {vars marks:Int} {x:Ay} (h:Mk c vars marks x=true):0<=B5 x/\B5 x<=1000:=by
 unfold B5;cases hr:B9 x
 ·exact⟨Int.le_refl 0,(by decide:(0:Int)<=1000)⟩
 ·rw [cond_true,W8 (Rb hr)];cases h5:(x.op==5)
  ·cases h9:(x.op==9&&decide (x.b>0))
   ·cases kV:(x.op==14)
    ·cases rJ x.op
     ·cases rK x.op<;>first|exact(by decide:(0:Int)<=0/\(0:Int)<=1000)|exact(by decide:(0:Int)<=1/\(1:Int)<=1000)|exact(by decide:(0:Int)<=2/\(2:Int)<=1000)
     ·first|exact(by decide:(0:Int)<=0/\(0:Int)<=1000)|exact(by decide:(0:Int)<=1/\(1:Int)<=1000)|exact(by decide:(0:Int)<=2/\(2:Int)<=1000)
    ·have e:x.op=14:=by simpa using kV
     unfold Mk at h;rw [e]at h;have h:(decide (x.a>=0)&&(decide (x.a<(c.defs.length:Int))&&(x.b==tC c x.a)))=true:=h;simp only [and_eq_true,decide_eq_true_eq,beq_iff_eq]at h;obtain⟨h1,h2,h3⟩:=h;have aP:x.a.toNat<c.defs.length:=by omega
     have hp:=T.par x.a.toNat _ (getElem?_eq_getElem aP);rw [FX (getElem?_eq_getElem aP)]at h3;show 0<=x.b/\x.b<=1000
     omega
   ·first|exact(by decide:(0:Int)<=0/\(0:Int)<=1000)|exact(by decide:(0:Int)<=1/\(1:Int)<=1000)|exact(by decide:(0:Int)<=2/\(2:Int)<=1000)
  ·show 0<=X7 x.a/\X7 x.a<=1000
   unfold X7;cases ((x.a==3)||(x.a==4))
   ·cases ((decide (x.a>=5))&&(decide (x.a<=17)))<;>first|exact(by decide:(0:Int)<=0/\(0:Int)<=1000)|exact(by decide:(0:Int)<=1/\(1:Int)<=1000)|exact(by decide:(0:Int)<=2/\(2:Int)<=1000)
   ·first|exact(by decide:(0:Int)<=0/\(0:Int)<=1000)|exact(by decide:(0:Int)<=1/\(1:Int)<=1000)|exact(by decide:(0:Int)<=2/\(2:Int)<=1000)
theorem SJ {c:Ah} (T:fj c) {r:Nat} (hr:r<c.defs.length) (hm:zx c r):jW c.ins (cw c r).toNat (cK c r).toNat:=by
 intro a x h1 h2 hx;have hf:=T.ql hr;have hm:=hm a x (by omega) (by omega) hx;unfold T1 at hm;simp only [and_eq_true,not_eq_true',or_eq_true]at hm;obtain⟨g1,g2,g3,_⟩:=hm;refine⟨Avn T g2,fun ht=> ?_,fun he=> ?_⟩
 ·rcases g3 with g3|g3
  ·rw [ht]at g3;cases g3
  ·unfold T0 at g3;simp only [and_eq_true,decide_eq_true_eq]at g3;omega
 ·unfold tD at g1;simp only [or_eq_false_iff,Bool.not_eq_false']at g1;have g:=g1.2.1;have:((a:Int)==cK c r-1)=true:=by simp;omega
  rw [this]at g;simpa using g
def Vr (c:Ah) (r:Nat):Int:=if r<c.defs.length then cw c r else c.ins.length
theorem SK {c:Ah} {r:Nat} (hr:r<c.defs.length):Vr c (r+1)=cK c r:=by
 unfold Vr;by_cases h:r+1<c.defs.length
 ·rw [if_pos h,fj.Bmh h]
 ·rw [if_neg h,fj.Bmi (by omega)]
theorem SL {c:Ah} (T:fj c):Vr c 0=0:=by
 have h:=T.n1;unfold Vr cw;rw [if_pos (by omega),getElem?_eq_getElem (by omega)];exact T.zero _ (getElem?_eq_getElem (by omega))
theorem SM (k:An) (hd:k.code.defs.length<=100000) {r:Nat} (hr:r<k.code.defs.length) (K:An->Prop) (h:K ⟨k.code,k.marks,cw k.code r,cK k.code r,i7 k.code r⟩):D1 k r K:=by
 have hw:IntKind.i64.wrap ((r:Int)+1)=(r+1:Nat):=by rw [A3 (by omega) (by omega)];omega
 have jL:cw k.code r=k.code.defs[r].entry:=by unfold cw;rw [getElem?_eq_getElem hr];rfl
 have zp:i7 k.code r=k.code.defs[r].vars:=by unfold i7;rw [getElem?_eq_getElem hr];rfl
 rw [jL,zp]at h;refine Lz _ _ _ ⟨fun a b d e g i j l o=>a=k.code.ins/\b=k.code.defs/\d=k.code.af/\e=k.code.main/\g=k.code.stmts/\i=k.marks/\j=k.code.defs[r].entry/\l=k.code.ins.length/\o=k.code.defs[r].vars,Ax hr (Ax hr ⟨rfl,rfl,rfl,rfl,rfl,rfl,rfl,rfl,rfl⟩),?_⟩;rintro _ _ _ _ _ _ _ _ _ ⟨rfl,rfl,rfl,rfl,rfl,rfl,rfl,rfl,rfl⟩;rw [hw];unfold cK at h;refine Ab (fun hc=> ?_) fun hc=> ?_
 ·have aP:r+1<k.code.defs.length:=by have:=of_decide_eq_true hc;omega
  rw [getElem?_eq_getElem aP]at h;exact Ax aP h
 ·have:¬r+1<k.code.defs.length:=by have:=of_decide_eq_false hc;omega
  rw [List.getElem?_eq_none (by omega)]at h;exact h
set_option maxHeartbeats 1000000 in
theorem Ax5 (c:Ah) (kW:c.ins.length<=100000) (hd:c.defs.length<=100000) (gN:c.af.length<=100000) (K:Int->Int->Prop) (h:∀i,K i (iy c)):Up c K:=by
 refine Yt _ _ (Avg c hd gN _ ?_);cases ht:E8 c with
 |false=>exact Cu rfl (by rw [SB (by rw [ht];simp)]at h;exact h 0)
 |true=>
 refine Bj rfl ?_;have T:=FT ht;refine⟨fun i a b d e g ma _ _ _ n=>At c.defs.length (fun r=>a=c.ins/\b=c.defs/\d=c.af/\e=c.main/\g=c.stmts/\ma=G8 c (Vr c r).toNat/\∀q,q<r->zx c q) i n,⟨_,At.start ⟨rfl,rfl,rfl,rfl,rfl,by rw [SL T];rfl,fun q hq=>absurd hq (not_lt_zero _)⟩⟩,?_⟩;rintro _ _ _ _ _ _ _ _ _ _ _ ⟨r,rfl,rO,rfl,rfl,rfl,rfl,rfl,rfl,rfl,wH⟩;refine At.cond rO (fun hr=> ?_) fun hr=> ?_
 ·refine SM ⟨c,_,_,_,_⟩ hd hr _ ?_;have iq:Vr c r=cw c r:=by unfold Vr;rw [if_pos hr]
  have zq:=T.ql hr;have GA:=T.tB hr;have zr:=T.rL r;rw [iq];dsimp only;refine⟨fun i a b d e g ma fr to va n=>∃k:Nat,i=k/\a=c.ins/\b=c.defs/\d=c.af/\e=c.main/\g=c.stmts/\fr=cw c r/\to=cK c r/\va=i7 c r/\cw c r<=k/\(k:Int)<=cK c r/\n=(cK c r).toNat-k/\ma=G8 c k/\∀(q:Nat) (x:Ay),cw c r<=q->q<k->c.ins[q]? =some x->T1 c (cw c r) (cK c r) (i7 c r) (G8 c q) q x=true,⟨_,(cw c r).toNat,by omega,rfl,rfl,rfl,rfl,rfl,rfl,rfl,rfl,by omega,by omega,rfl,rfl,fun q x h1 h2=>absurd h1 (by omega)⟩,?_⟩;rintro _ _ _ _ _ _ _ _ _ _ _ ⟨k,rfl,rfl,rfl,rfl,rfl,rfl,rfl,rfl,rfl,lp,iR,rfl,rfl,hq⟩;refine Ab (fun aP=> ?_) fun j9=> ?_
  ·have aP:=of_decide_eq_true aP;have ic:k<c.ins.length:=by omega
   have hcm:=SI c k;refine⟨fun a b d e g ma fr to va=>a=c.ins/\b=c.defs/\d=c.af/\e=c.main/\g=c.stmts/\ma=G8 c (k+1)/\fr=cw c r/\to=cK c r/\va=i7 c r/\T1 c (cw c r) (cK c r) (i7 c r) (G8 c k) k c.ins[k]=true,Bbn ⟨c,_,_,_,_⟩ kW gN zq zr (by show 0<cK c r;omega) k ic _ ?_,?_⟩
   ·refine Ab (fun hb=> ?_) fun hb=>Ax ic ?_
    ·have hb:T1 c (cw c r) (cK c r) (i7 c r) (G8 c k) k c.ins[k]=false:=cast (not_eq_true' _) hb;have:¬G9 c:=fun hm=>by
      have:=hm r hr k c.ins[k] lp aP (getElem?_eq_getElem ic);rw [hb]at this;cases this
     rw [SC ht this]at h;exact h _
    ·have hb:T1 c (cw c r) (cK c r) (i7 c r) (G8 c k) k c.ins[k]=true:=cast (Bool.not_eq_false' _) hb;have hs:=SH (getElem?_eq_getElem ic);refine Ab (fun e=> ?_) fun e=> ?_
     ·rw [if_pos (by simpa using e)]at hs;exact⟨rfl,rfl,rfl,rfl,rfl,by rw [hs,A3 (by omega) (by omega)],rfl,rfl,rfl,hb⟩
     ·rw [if_neg (by simpa using e)]at hs;exact⟨rfl,rfl,rfl,rfl,rfl,hs.symm,rfl,rfl,rfl,hb⟩
   ·rintro _ _ _ _ _ _ _ _ _ ⟨rfl,rfl,rfl,rfl,rfl,rfl,rfl,rfl,rfl,hb⟩;refine⟨(cK c r).toNat-(k+1),by omega,k+1,by rw [A3 (by omega) (by omega)];omega,rfl,rfl,rfl,rfl,rfl,rfl,rfl,rfl,by omega,by omega,rfl,rfl,fun q x h1 h2 hx=> ?_⟩;by_cases eq:q=k
    ·subst eq;rw [getElem?_eq_getElem ic]at hx;cases hx;exact hb
    ·exact hq q x h1 (by omega) hx
  ·have j9:=of_decide_eq_false j9;obtain rfl:k=(cK c r).toNat:=by omega
   refine At.next (by omega) hr ⟨rfl,rfl,rfl,rfl,rfl,by rw [SK hr],fun q hqr=> ?_⟩;by_cases eq:q=r
   ·subst eq;exact fun a x h1 h2 hx=>hq a x h1 (by omega) hx
   ·exact wH q (by omega)
 ·have hm:G9 c:=fun q hq=>wH q (by omega)
  have iq:Vr c r=c.ins.length:=by unfold Vr;rw [if_neg (by omega)]
  rw [iq,toNat_natCast];refine Ab (fun hs=> ?_) fun hs=> ?_
  ·have hs:¬G8 c c.ins.length=c.stmts:=by simpa using hs
   rw [SD ht hm hs]at h;exact h 0
  ·have hs:G8 c c.ins.length=c.stmts:=by simpa using hs
   refine⟨fun i a b d e g _ _ _ _ n=>At c.defs.length (fun r=>a=c.ins/\b=c.defs/\d=c.af/\e=c.main/\g=c.stmts/\∀q,q<r->tG c q=true) i n,⟨_,At.start ⟨rfl,rfl,rfl,rfl,rfl,fun q hq=>absurd hq (not_lt_zero _)⟩⟩,?_⟩;rintro _ _ _ _ _ _ _ _ _ _ _ ⟨r,rfl,rO,rfl,rfl,rfl,rfl,rfl,rfl,dp⟩;refine At.cond rO (fun hr=> ?_) fun hr=> ?_
   ·refine SM ⟨c,_,_,_,_⟩ hd hr _ ?_;have zq:=T.ql hr;have GA:=T.tB hr;have zr:=T.rL r;refine Bab _ (cw c r).toNat (cK c r).toNat (by show cw c r=_;omega) (by show cK c r=_;omega) (by omega) (by show _<=c.ins.length;omega) kW (SJ T hr (hm r hr)) _ fun i=> ?_
    show cond (!tG c r) _ _
    refine Ab (fun hb=> ?_) fun hb=> ?_
    ·have:¬Ru c:=fun hF=>by rw [hF r hr]at hb;cases hb
     rw [SE ht hm hs this]at h;exact h i
    ·refine At.next (by omega) hr ⟨rfl,rfl,rfl,rfl,rfl,fun q hq=> ?_⟩;by_cases eq:q=r
     ·subst eq;simpa using hb
     ·exact dp q (by omega)
   ·rw [SG ht hm hs fun q hq=>dp q (by omega)]at h;exact h 0
set_option maxHeartbeats 1000000 in
theorem GJ (c:Ah) (hd:c.defs.length<=100000) (gN:c.af.length<=100000) (hn:∀d∈c.defs,d.name.length<2^63) (FR:∀d∈c.af,d.name.length<2^63) (K:Bf->Prop) (h:∀i,(iy c=0->i=0)->K ⟨i,iy c⟩):Xo c K:=by
 refine Aba _ _ (Asj c hd gN hn FR _ ?_);cases ht:E8 c with
 |false=>exact Cu rfl (by rw [SB (by rw [ht];simp)]at h;exact h 0 (fun _=>rfl))
 |true=>
 refine Bj rfl ?_;have T:=FT ht;refine⟨fun ma i _ _ n=>At c.defs.length (fun r=>ma=G8 c (Vr c r).toNat/\∀q,q<r->zx c q) i n,⟨_,At.start ⟨by rw [SL T];rfl,fun q hq=>absurd hq (not_lt_zero _)⟩⟩,?_⟩;rintro _ _ _ _ _ ⟨r,rfl,rO,rfl,rfl,wH⟩;refine At.cond rO (fun hr=>Ax hr ?_) fun hr=> ?_
 ·have iq:Vr c r=cw c r:=by unfold Vr;rw [if_pos hr]
  have jL:cw c r=c.defs[r].entry:=by unfold cw;rw [getElem?_eq_getElem hr];rfl
  have zq:=T.ql hr;have GA:=T.tB hr;have zr:=T.rL r;rw [iq,←jL];refine⟨fun ma i _ _ n=>∃k:Nat,i=k/\cw c r<=k/\(k:Int)<=cK c r/\n=(cK c r).toNat-k/\ma=G8 c k/\∀(q:Nat) (x:Ay),cw c r<=q->q<k->c.ins[q]? =some x->T1 c (cw c r) (cK c r) (i7 c r) (G8 c q) q x=true,⟨_,(cw c r).toNat,by omega,by omega,by omega,rfl,rfl,fun q x h1 h2=>absurd h1 (by omega)⟩,?_⟩;rintro _ _ _ _ _ ⟨k,rfl,lp,iR,rfl,rfl,hq⟩;have RJ:=T.ni;refine zo c (by omega) hr _ (Ab (fun aP=> ?_) fun j9=> ?_)
  ·have aP:=of_decide_eq_true aP;have ic:k<c.ins.length:=by omega
   have hcm:=SI c k;refine⟨fun ma _ _=>ma=G8 c (k+1)/\T1 c (cw c r) (cK c r) (i7 c r) (G8 c k) k c.ins[k]=true,Az9 T gN hr _ k ic _ (Ab (fun hb=> ?_) fun hb=>Ax ic ?_),?_⟩
   ·have hb:T1 c (cw c r) (cK c r) (i7 c r) (G8 c k) k c.ins[k]=false:=cast (not_eq_true' _) hb;have:¬G9 c:=fun hm=>by
     have:=hm r hr k c.ins[k] lp aP (getElem?_eq_getElem ic);rw [hb]at this;cases this
    rw [SC ht this]at h;exact h _ (fun e=>by cases e)
   ·have hb:T1 c (cw c r) (cK c r) (i7 c r) (G8 c k) k c.ins[k]=true:=cast (Bool.not_eq_false' _) hb;have hs:=SH (getElem?_eq_getElem ic);refine Ab (fun e=> ?_) fun e=> ?_
    ·rw [if_pos (by simpa using e)]at hs;exact⟨by rw [hs,A3 (by omega) (by omega)],hb⟩
    ·rw [if_neg (by simpa using e)]at hs;exact⟨hs.symm,hb⟩
   ·rintro _ _ _ ⟨rfl,hb⟩;refine⟨(cK c r).toNat-(k+1),by omega,k+1,by rw [A3 (by omega) (by omega)];omega,by omega,by omega,rfl,rfl,fun q x h1 h2 hx=> ?_⟩;by_cases eq:q=k
    ·subst eq;rw [getElem?_eq_getElem ic]at hx;cases hx;exact hb
    ·exact hq q x h1 (by omega) hx
  ·have j9:=of_decide_eq_false j9;obtain rfl:k=(cK c r).toNat:=by omega
   refine At.next (by omega) hr ⟨by rw [SK hr],fun q hqr=> ?_⟩;by_cases eq:q=r
   ·subst eq;exact fun a x h1 h2 hx=>hq a x h1 (by omega) hx
   ·exact wH q (by omega)
 ·have hm:G9 c:=fun q hq=>wH q (by omega)
  have iq:Vr c r=c.ins.length:=by unfold Vr;rw [if_neg (by omega)]
  rw [iq,toNat_natCast];refine Ab (fun hs=> ?_) fun hs=> ?_
  ·have hs:¬G8 c c.ins.length=c.stmts:=by simpa using hs
   rw [SD ht hm hs]at h;exact h 0 (fun _=>rfl)
  ·have hs:G8 c c.ins.length=c.stmts:=by simpa using hs
   refine⟨fun i _ _ n=>At c.defs.length (fun r=>∀q,q<r->tG c q=true) i n,⟨_,At.start (fun q hq=>absurd hq (not_lt_zero _))⟩,?_⟩;rintro _ _ _ _ ⟨r,rfl,rO,rfl,dp⟩;refine At.cond rO (fun hr=>Ax2 T hr (SJ T hr (hm r hr)) _ fun l i hi=> ?_) fun hr=> ?_
   ·rw [hi];refine Ab (fun hb=> ?_) fun hb=> ?_
    ·have:¬Ru c:=fun hF=>by rw [hF r hr]at hb;cases hb
     rw [SE ht hm hs this]at h;exact h i (fun e=>by cases e)
    ·refine At.next (by omega) hr fun q hq=> ?_
     by_cases eq:q=r
     ·subst eq;simpa using hb
     ·exact dp q (by omega)
   ·rw [SG ht hm hs fun q hq=>dp q (by omega)]at h;exact h 0 (fun _=>rfl)
def l8 (c:Ah) (d a:Int):Int:=if Lj c a=d then O4 c.ins a else 0
theorem Ax6 {c:Ah} {a:Int} (h:0<=Lj c a):0<=a/\a<c.ins.length:=by
 unfold Lj at h;split at h
 ·assumption
 ·omega
theorem SN {c:Ah} {a:Int} (h:a<0\/(c.ins.length:Int)<=a):Lj c a= -1:=by
 unfold Lj;rw [if_neg (by omega)]
theorem SO (c:Ah) (hd:c.defs.length<=100000) (p:Aj) (h0:0<=p.bp) (a:Int) (K:Int->Prop) (h:K (l8 c p.bp a)):JF c p a K:=by
 refine Ai5 _ _ _ _ (Ct (!decide (Lj c a=p.bp)) ?_ (Ab (fun e=> ?_) fun e=> ?_))
 ·refine Ab (fun e=> ?_) fun e=>Ab (fun e2=> ?_) fun e2=>Az6 c hd _ _ ?_
  ·rw [SN (.inl (of_decide_eq_true e)),decide_eq_false (by omega)];rfl
  ·rw [SN (.inr (of_decide_eq_true e2)),decide_eq_false (by omega)];rfl
  ·by_cases e3:Lj c a=p.bp
   ·simp [e3]
   ·rw [decide_eq_false e3];have:(Lj c a==p.bp)=false:=by simpa using e3
    simp [bne,this]
 ·have e:¬Lj c a=p.bp:=by simpa using e
  unfold l8 at h;rw [if_neg e]at h;exact h
 ·have e:Lj c a=p.bp:=by simpa using e
  have hr:=Ax6 (c:=c) (a:=a) (by omega);unfold l8 at h;rw [if_pos e]at h;refine⟨⟨hr.1,hr.2⟩,fun x hx=> ?_⟩
  rwa [H5 hx]at h
def rP (c:Ah) (d a:Int):Bool:=(l8 c d a==1)||(l8 c d a==24)
def Py:List Bu->Int
 |[]=>0|x::l=>Hw x+Py l
theorem SP:∀(l:List Bu) (x:Bu),Py (l++[x])=Py l+Hw x
 |[],x=>by simp [Py]
 |a::l,x=>by rw [List.cons_append,Py,SP l x,Py];omega
theorem SQ:∀ {l:List Bu},(∀x∈l,0<=x.size/\x.size<=16)->0<=Py l/\Py l<=16*l.length
 |[],_=>by simp [Py]
 |a::l,h=>by
  have h1:=h a (.head _);have h2:=SQ (l:=l) fun x hx=>h x (.tail _ hx)
  have:1<=Hw a/\Hw a<=16:=by unfold Hw;split<;>omega
  rw [Py,List.length_cons];omega
theorem GK {c:Ah} (T:fj c) (k:Nat):0<=Py (c.af.take k)/\Py (c.af.take k)<=16*c.af.length:=by
 have:=SQ (l:=c.af.take k) fun x hx=>T.ch x (List.mem_of_mem_take hx)
 rw [List.length_take]at this;omega
theorem Ax7 {c:Ah} (T:fj c) (gN:c.af.length<=100000) (K:Int->Prop) (h:K (Py c.af)):Uq c K:=by
 refine Y0 _ _ ⟨fun n i m=>At c.af.length (fun k=>n=Py (c.af.take k)) i m,⟨_,At.start rfl⟩,?_⟩;rintro _ _ _ ⟨k,rfl,hk,rfl,rfl⟩;refine At.cond hk (fun hk=>Ax hk ?_) fun hk=> ?_
 ·have h1:=GK T k;have h2:=GK T (k+1);have hs:=SP (c.af.take k) c.af[k];rw [←F9 hk]at hs;refine At.next (by omega) hk ?_;rw [hs];exact A3 (by show _<=Py _+Hw _;omega) (by show Py _+Hw _<=_;omega)
 ·rw [hk,List.take_length];exact h
def eL (n lG:Int):Bool:=decide (n>=0)&&decide (n<=lG)
theorem Gw (n lG:Int) (K:Bool->Prop) (h:K (eL n lG)):Jc n lG K:=by
 refine Wq _ _ _ ?_;unfold eL at h
 first
  |exact h
  |exact Ab (fun e=>by rw [e]at h;exact h) fun e=>by rw [e]at h;exact h
theorem SR (n below:Int) (K:Bool->Prop) (h:K (eL n (below-1))):On n below K:=by
 have e:decide (n<below)=decide (n<=below-1):=by rw [Bool.eq_iff_iff];simp;omega
 refine Aej _ _ _ ?_;unfold eL at h;rw [←e]at h
 first
  |exact h
  |exact Ab (fun e=>by rw [e]at h;exact h) fun e=>by rw [e]at h;exact h
end Go.Proofs.YthkbhlmijkegiaaGreat
