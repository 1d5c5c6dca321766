/- A part of the proof: conditions of the code, contracts, the plain law. -/
import Derived.Test.YtpdccfgpbkagcaaGreatM4
import Derived.Test.YtpdccfgpbkagcaaGreatM5
import Derived.Test.YtpdccfgpbkagcaaGreatLoop
import Derived.Test.YtpdccfgpbkagcaaGreatMapG
import Derived.Test.YtpdccfgpbkagcaaGreatMapL
open Int (le_refl toNat_natCast)
open List (getElem?_eq_getElem length_append replicate length_drop length_singleton length_replicate append_nil length_cons nil_append mem_of_getElem? mem_append_right length_nil mem_append getElem?_eq_none drop_drop append_assoc mem_append_left length_take mem_map map_cons)
open Nat (not_lt_zero lt_or_ge zero_le lt_trichotomy sub_self)
open Bool (false_eq_true)
open Option (map_eq_none_iff)
namespace Go.Proofs.YtpdccfgpbkagcaaGreat
open Go.Vc Go.Lv Go.Ty Go.Tr Go.Tk
theorem Aza (xs:List Int) (hn:xs.length<2^40) (K:List Int->Prop) (h:K xs.reverse):C2 xs K:=by
 refine G7 _ _ ?_;unfold D6;refine⟨fun i j l n=>∃k:Nat,i=k/\j=(xs.length:Int)-1-k/\2*k<=xs.length+1/\l.length=xs.length/\(∀t,t<xs.length->l[t]? =if t<k\/xs.length-k<=t then xs[xs.length-1-t]? else xs[t]?)/\n=xs.length-k,
  ⟨_,0,rfl,by rw [Au (by omega) (by omega)];omega,by omega,rfl,fun t ht=>by rw [if_neg (by omega)],rfl⟩,?_⟩
 rintro _ _ l _ ⟨k,rfl,rfl,hk,hl,hg,rfl⟩;refine Aa (fun e=> ?_) fun e=> ?_
 ·have e:(k:Int)<(xs.length:Int)-1-k:=by simpa using e
  have hj:((xs.length:Int)-1-k).toNat=xs.length-1-k:=by omega
  rw [hj,toNat_natCast];have g1:=hg (xs.length-1-k) (by omega);have g2:=hg k (by omega);rw [if_neg (by omega)]at g1 g2;refine⟨fun l1=>l1=(l.set k (xs[xs.length-1-k]'(by omega))).set (xs.length-1-k) (xs[k]'(by omega)),⟨⟨by omega,by omega⟩,fun x hx=>⟨⟨by omega,by omega⟩,fun x1 jw=>⟨⟨by omega,by omega⟩,fun x2 jZ=>⟨⟨by omega,by omega⟩,fun x3 zT=> ?_⟩⟩⟩⟩,?_⟩
  ·rw [g1,getElem?_eq_getElem (by omega)]at hx;rw [g2,getElem?_eq_getElem (by omega)]at jw;cases hx
   cases jw
   rfl
  rintro _ rfl;refine⟨xs.length-(k+1),by omega,k+1,by rw [Au (by omega) (by omega)];omega,by rw [Au (by omega) (by omega)];omega,by omega,by simp [hl],fun t ht=> ?_,rfl⟩;rw [List.getElem?_set,List.length_set];by_cases h1:xs.length-1-k=t
  ·rw [if_pos h1,if_pos (by omega),if_pos (by omega),←h1,show xs.length-1-(xs.length-1-k)=k by omega,getElem?_eq_getElem (by omega)]
  rw [if_neg h1,List.getElem?_set];by_cases h2:k=t
  ·subst h2;rw [if_pos rfl,if_pos (by omega),if_pos (by omega),getElem?_eq_getElem (by omega)]
  rw [if_neg h2,hg t ht];by_cases h3:t<k\/xs.length-k<=t
  ·rw [if_pos h3,if_pos (by omega)]
  ·rw [if_neg h3,if_neg (by omega)]
 ·have e:¬(k:Int)<(xs.length:Int)-1-k:=by simpa using e
  have:l=xs.reverse:=by
   apply List.ext_getElem?;intro t;by_cases ht:t<xs.length
   ·rw [hg t ht,List.getElem?_reverse ht];split
    ·rfl
    ·rw [show xs.length-1-t=t by omega]
   ·rw [getElem?_eq_none (by omega),getElem?_eq_none (by simp;omega)]
  rw [this];exact h
def Du (x:Ag):Bool:=x.n==1&&(x.op==34||(x.op==35||x.op==36))
theorem RP (x:Ag) (K:Bool->Prop) (h:K (Du x)):D3 x K:=by
 refine Sz _ _ ?_;unfold Ly;unfold Du at h;refine Aa (fun e=> ?_) fun e=> ?_
 ·rw [e]at h;refine Aa (fun e1=> ?_) fun e1=> ?_
  ·rw [e1]at h;exact h
  rw [e1]at h;refine Aa (fun e2=> ?_) fun e2=> ?_
  ·rw [e2]at h;exact h
  ·rw [e2]at h;exact h
 ·rw [e]at h;exact h
theorem Z6 (n most:Int) (a b:List UInt8) (c:UInt8) (k:Nat) (hn:n=((a.length+k+b.length:Nat):Int)) (hm:n<=most) (hk:n<2^31) (K:List UInt8->Bool->Prop) (h:K (a++replicate k c++b) true):Fc n most a (c.toNat:Int) b K:=by
 refine Zi _ _ _ _ _ _ ?_;unfold Qo;rw [if_neg (by omega),Au (n:=n-_) (by omega) (by omega),Au (by omega) (by omega)];have e:n-(a.length:Int)-(b.length:Int)=(k:Int):=by omega
 rw [e];refine Ba (by simp) (Axp _ _ (by omega) (by omega) _ ?_);have e2:strOf (replicate (k:Int).toNat (c.toNat:Int))=replicate k c:=by
  unfold strOf;rw [toNat_natCast,List.map_replicate,toNat_natCast,UInt8.ofNat_toNat]
 rw [e2,GA];refine⟨by rw [length_replicate];omega,by rw [length_append,length_replicate];omega,h⟩
theorem Aux (x:Ag) (want:List UInt8) (hw:want.length<=10) (K:List UInt8->Bool->Prop) (w2:List UInt8) (bR:w2=if Du x then 69::(if 5<=x.op/\x.op<=17 then [69,69]else want)else(if 5<=x.op/\x.op<=17 then [69,69]else want)) (h:K w2 ((w2.length:Int)==x.kids)): ∃(J4:(List UInt8)->Prop),(∃(J5:Bool->Prop),(cond (decide (x.op>=5)) (J5 (decide (x.op<=17))) (J5 false))/\∀(ae:Bool),J5 ae->cond (ae) (J4 [69,69]) (J4 want))/\∀(rh:List UInt8),J4 rh->∃(J6:(List UInt8)->Prop),(D3 x (fun ag=>cond (ag) ((([69].length+rh.length:Nat):Int)<=IntKind.i64.max/\J6 ([69]++rh)) (J6 rh)))/\∀(tE:List UInt8),J6 tE->K tE ((tE.length:Int)==x.kids):=by
 refine⟨(·=if 5<=x.op/\x.op<=17 then [69,69]else want),⟨(·=decide (5<=x.op/\x.op<=17)),?_,?_⟩,?_⟩
 ·refine Aa (fun e=> ?_) fun e=> ?_
  ·have e:x.op>=5:=by simpa using e
   show decide (x.op<=17)=_
   by_cases h2:x.op<=17
   ·rw [decide_eq_true h2,decide_eq_true ⟨e,h2⟩]
   ·rw [decide_eq_false h2,decide_eq_false (fun hh=>h2 hh.2)]
  ·have e:¬x.op>=5:=by simpa using e
   show false=_
   rw [decide_eq_false (fun hh=>e hh.1)]
 ·rintro _ rfl;refine Aa (fun e=> ?_) fun e=> ?_
  ·have e:=of_decide_eq_true e;show _=_
   rw [if_pos e]
  ·have e:=of_decide_eq_false e;show _=_
   rw [if_neg e]
 rintro _ rfl;have hl:(if 5<=x.op/\x.op<=17 then [69,69]else want).length<=10:=by
  split
  ·decide
  ·exact hw
 refine⟨(·=w2),RP _ _ (Aa (fun e=>⟨?_,?_⟩) fun e=> ?_),?_⟩
 ·rw [GA,length_singleton];omega
 ·rw [e,if_pos rfl]at bR;exact bR.symm
 ·rw [e,if_neg (by simp)]at bR;exact bR.symm
 ·rintro _ rfl;exact h
namespace Nv
def GG (s:List UInt8):Bool:=
 match s with
 |[]=>false|c::l=>decide ((c::l).length<=16)&&(U6 c&&((c::l).all Tk.Je&& !decide ((c::l)∈words)))
theorem Aml (c:UInt8) (l:List UInt8):GG (c::l)=(decide ((c::l).length<=16)&&(U6 c&&((c::l).all Tk.Je&& !decide ((c::l)∈words)))):=rfl
theorem Z7 {α:Type} [BEq α] [LawfulBEq α] (p:α->Bool):∀(l:List α),(l.takeWhile p==l)=l.all p
 |[]=>by simp
 |a::l=>by
  rw [List.takeWhile_cons,List.all_cons];cases h:p a with
  |true=>simp only [if_true,Bool.true_and];rw [←Z7 p l];rw [Bool.eq_iff_iff];simp
  |false=>simp
theorem RQ (n:Nat) (h:n<256) (K:Bool->Prop) (hk:K (r8 n)):Gs n K:=by
 refine S0 _ _ ?_;have:=Amg n h;unfold FM at this;unfold Lz;rw [this];exact hk
theorem Auy (n:Nat) (K:Bool->Prop) (hk:K (r9 n)):Lc n K:=by
 refine U0 _ _ ?_;have:r9 n=(decide ((n:Int)>=48)&&decide ((n:Int)<=57)):=by
  unfold r9;rw [Bool.eq_iff_iff];simp;omega
 unfold Nn;rw [←this];exact hk
theorem Ars (n:Nat) (h:n<256) (K:Bool->Prop) (hk:K (uQ n)):Kc n K:=by
 refine S5 _ _ (RQ n h _ (Aa (fun hc=> ?_) fun hc=>Auy n _ ?_))
 ·unfold uQ at hk;rw [hc]at hk;exact hk
 ·unfold uQ at hk;rw [hc]at hk;exact hk
theorem Axq (s:List UInt8) (hs:s.length<2^40) (K:List UInt8->Prop) (hk:K (s.takeWhile Tk.Je)):Dr s K:=by
 refine Jr _ _ ⟨fun x n=>∃k:Nat,x=k/\k<=s.length/\n=s.length-k/\∀i (h:i<s.length),i<k->Tk.Je s[i]=true,⟨_,0,rfl,by omega,rfl,by omega⟩,?_⟩;rintro _ _ ⟨k,rfl,gw,rfl,eX⟩;refine Aa (fun hc=>⟨by simp at hc;omega,?_⟩) fun hc=> ?_
 ·have aE:k<s.length:=by simp at hc;omega
  rw [toNat_natCast,getD_eq s k aE];refine Ars _ (UInt8.toNat_lt _) _ (Aa (fun hd=>⟨by omega,?_⟩) fun hd=> ?_)
  ·have d6:Tk.Je s[k]=false:=by simpa [Tk.Je] using hd
   rw [←Kg Tk.Je s k eX (fun _=>d6)];exact hk
  ·have d6:Tk.Je s[k]=true:=by simpa [Tk.Je] using hd
   refine⟨s.length-(k+1),by omega,k+1,by rw [Au (by omega) (by omega)];omega,by omega,rfl,fun i h hi=> ?_⟩;by_cases u7:i=k
   ·subst u7;exact d6
   ·exact eX i h (by omega)
 ·have dU:k=s.length:=by simp at hc;omega
  rw [Kg Tk.Je s k eX (fun h=>by omega),dU,List.take_length]at hk;exact hk
def rk (i j:Nat):Nat:=(i+j)/2
theorem Auz (i j:Nat) (h:i+j<2^40):IntKind.i64.wrap ((IntKind.u64.wrap (IntKind.i64.wrap ((i:Int)+(j:Int)))).fdiv (2^(min 1 IntKind.u64.bits)))=(rk i j:Nat):=by
 have e0:IntKind.i64.wrap ((i:Int)+(j:Int))=(i:Int)+j:=Au (by omega) (by omega);have e:IntKind.u64.wrap ((i:Int)+(j:Int))=(i:Int)+j:=by rw [IntKind.wrap_u64];omega
 have e2:(min 1 IntKind.u64.bits)=1:=by decide
 have e3:((i:Int)+(j:Int)).fdiv (2^1)=(rk i j:Nat):=by
  rw [Int.fdiv_eq_ediv_of_nonneg _ (by decide)];unfold rk;omega
 rw [e0,e,e2,e3];exact Au (by omega) (by unfold rk;omega)
theorem Azb (s:List UInt8) (K:Bool->Prop) (hk:K false):Em s K:=by
 refine Nt _ _ ?_;unfold Hx;rw [beq_self_eq_true];exact hk
theorem Axr (s:List UInt8) (K:Bool->Prop) (hk:K false):De s K:=by
 refine Ld _ _ ?_;unfold Gf;rw [beq_self_eq_true];exact hk
theorem Axs (x y:List UInt8) (K:Bool->Prop) (hk:K (Op.bytesLess x y)):Gt x y K:=
 Ou _ _ _ (Azb _ _ hk)
theorem Art (l:List (List UInt8)) (hl:QQ l) (hn:l.length<1000) (t:List UInt8) (K:Int->Bool->Prop) (hk:∀i,K i (decide (t∈l))):B5 l t K:=by
 refine Ev _ _ _ ⟨fun i j n=>∃i' j':Nat,i=i'/\j=j'/\i'<=j'/\j'<=l.length/\n=j'-i'/\(∀k (h:k<l.length),k<i'->Op.bytesLess l[k] t=true)/\(∀k (h:k<l.length),j'<=k->Op.bytesLess l[k] t=false),
  ⟨_,0,l.length,rfl,rfl,zero_le _,Nat.le_refl _,rfl,fun _ _ h=>absurd h (not_lt_zero _),fun k h h'=>by omega⟩,?_⟩
 rintro _ _ _ ⟨i,j,rfl,rfl,mN,hj,rfl,m6,z4⟩;refine Aa (fun hx=> ?_) fun hx=> ?_
 ·have aE:i<j:=by simpa using hx
  rw [Auz i j (by omega)];have GH:i<=rk i j:=by unfold rk;omega
  have lY:rk i j<j:=by unfold rk;omega
  generalize rk i j=m at GH lY;have tF:m<l.length:=by omega
  refine⟨by omega,by omega,fun x hx=> ?_⟩;rw [toNat_natCast,getElem?_eq_getElem tF]at hx;cases hx
  refine Axs _ _ _ (Aa (fun hb=> ?_) fun hb=> ?_)
  ·rw [Au (by omega) (by omega)];refine⟨_,?_,m+1,j,by omega,rfl,by omega,hj,rfl,fun k h hk=> ?_,z4⟩
   ·omega
   ·rcases lt_or_ge k m with h'|h'
    ·exact Re _ _ _ (hl k m h tF h') hb
    ·obtain rfl:k=m:=by omega
     exact hb
  ·refine⟨_,?_,i,m,rfl,rfl,GH,by omega,rfl,m6,fun k h hk=> ?_⟩
   ·omega
   ·rcases lt_or_ge m k with h'|h'
    ·cases hh:Op.bytesLess l[k] t with
     |false=>rfl
     |true=>rw [Re _ _ _ (hl m k tF h h') hh]at hb;cases hb
    ·obtain rfl:k=m:=by omega
     exact hb
 ·have jf:i=j:=by have:¬i<j:=by simpa using hx
                  omega
  subst jf;refine Aa (fun jZ=> ?_) fun jZ=> ?_
  ·have o4:i<l.length:=by simpa using jZ
   have gl:=getElem?_eq_getElem o4;refine⟨by omega,fun x hx=> ?_⟩;rw [toNat_natCast,gl]at hx;cases hx
   refine Aa (fun hb=> ?_) fun hb=>⟨by omega,fun x hx=> ?_⟩
   ·have:l[i]=t:=by simpa using hb
    have:=hk i
    rwa [decide_eq_true (by rw [←‹l[i]=t›];exact List.getElem_mem o4)]at this
   ·have bA:l[i]≠t:=by simpa using hb
    refine Axr _ _ ?_;have nJ:t∉l:=by
     intro hm;obtain⟨p,hp,rfl⟩:=List.getElem_of_mem hm;rcases lt_trichotomy p i with h'|h'|h'
     ·have:=m6 p hp h';rw [Ov]at this;cases this
     ·subst h';exact bA rfl
     ·have:=hl i p o4 hp h';rw [z4 i o4 (Nat.le_refl _)]at this;cases this
    have:=hk i
    rwa [decide_eq_false nJ]at this
  ·have o4:¬i<l.length:=by simpa using jZ
   have nJ:t∉l:=by
    intro hm;obtain⟨p,hp,rfl⟩:=List.getElem_of_mem hm;have:=m6 p hp (by omega);rw [Ov]at this;cases this
   have:=hk i
   rwa [decide_eq_false nJ]at this
theorem Axt (s:List UInt8) (K:Bool->Prop) (hk:K (decide (s∈words))):Mt s K:=
 Xj _ _ (U2 _ (Art words Af6 (by decide) s _ fun _=>hk))
theorem Lf (s:List UInt8) (K:Bool->Prop) (hk:K (GG s)):Ms s K:=by
 refine Xi _ _ ?_;cases s with
 |nil=>exact Ba rfl hk
 |cons c l=>
  rw [Aml]at hk;refine B3 rfl (Aa (fun ib=> ?_) fun ib=> ?_)
  ·have Brl:(c::l).length<=16:=by simp at ib;simp;omega
   rw [decide_eq_true Brl,Bool.true_and]at hk;refine⟨⟨by omega,by simp⟩,RQ _ (UInt8.toNat_lt _) _ ?_⟩;have e0:(c::l).getD 0 0=c:=rfl;rw [e0];refine Aa (fun hl=> ?_) fun hl=> ?_
   ·have z5:U6 c=true:=hl;rw [z5,Bool.true_and]at hk;refine Axq _ (by omega) _ ?_;rw [Z7];refine Aa (fun ha=>Axt _ _ ?_) fun ha=> ?_
    ·rw [ha,Bool.true_and]at hk;exact hk
    ·rw [ha,Bool.false_and]at hk;exact hk
   ·have z5:U6 c=false:=hl;rw [z5,Bool.false_and]at hk;exact hk
  ·rw [decide_eq_false (by simp at ib;simp;omega),Bool.false_and]at hk;exact hk
end Nv
open Go.Vc Go.Lv Go.Ty Go.Tr Go.Tk
theorem GI {op:Int} (h1:5<=op) (h2:op<=17):op=5\/op=6\/op=7\/op=8\/op=9\/op=10\/op=11\/op=12\/op=13\/op=14\/op=15\/op=16\/op=17:=by omega
theorem Dh (x:Ag) (want ds:List UInt8) (hw:want.length<=10) (hk:x.kids=(ds.length:Int)) (bR:ds=if Du x then 69::(if 5<=x.op/\x.op<=17 then [69,69]else want)else(if 5<=x.op/\x.op<=17 then [69,69]else want)) (K:List UInt8->Bool->Prop) (h:K ds true): ∃(J4:(List UInt8)->Prop),(∃(J5:Bool->Prop),(cond (decide (x.op>=5)) (J5 (decide (x.op<=17))) (J5 false))/\∀(ae:Bool),J5 ae->cond (ae) (J4 [69,69]) (J4 want))/\∀(rh:List UInt8),J4 rh->∃(J6:(List UInt8)->Prop),(D3 x (fun ag=>cond (ag) ((([69].length+rh.length:Nat):Int)<=IntKind.i64.max/\J6 ([69]++rh)) (J6 rh)))/\∀(tE:List UInt8),J6 tE->K tE ((tE.length:Int)==x.kids):=by
 refine Aux x want hw K ds bR ?_;rw [hk,beq_self_eq_true];exact h
theorem Aru {c:UInt8} {x:Ag} {ds:List UInt8} (ho:dg c x ds) (hd:ds.length<2^30) (most:Int) (hm:(ds.length:Int)<=most) (K:List UInt8->Bool->Prop) (h:K ds true):Oh x most K:=by
 have dU:=GB ho (by omega);refine Zg _ _ _ ?_;cases ho with
 |num n a h1 h2=>
  exact⟨(·=[]),⟨(·=false),rfl,fun _ e=>by cases e;exact⟨(·=false),rfl,fun _ e=>by cases e;exact⟨(·=false),rfl,fun _ e=>by cases e;exact rfl⟩⟩⟩,fun _ e=>by cases e;exact Dh _ [] _ (by decide) dU (by simp [Du]) K h⟩
 |name s a hn=>
  exact⟨(·=[]),⟨(·=false),rfl,fun _ e=>by cases e;exact⟨(·=false),rfl,fun _ e=>by cases e;exact⟨(·=false),rfl,fun _ e=>by cases e;exact rfl⟩⟩⟩,fun _ e=>by cases e;exact Dh _ [] _ (by decide) dU (by simp [Du]) K h⟩
 |un op a cF=>
  rcases cF with rfl|rfl
  ·exact⟨(·=[69]),⟨(·=true),rfl,fun _ e=>by cases e;exact rfl⟩,fun _ e=>by cases e;exact Dh _ [69] _ (by decide) dU (by simp [Du]) K h⟩
  ·exact⟨(·=[69]),⟨(·=true),rfl,fun _ e=>by cases e;exact rfl⟩,fun _ e=>by cases e;exact Dh _ [69] _ (by decide) dU (by simp [Du]) K h⟩
 |bin op a h1 h2=>
  rcases GI h1 h2 with rfl|rfl|rfl|rfl|rfl|rfl|rfl|rfl|rfl|rfl|rfl|rfl|rfl<;>
  exact⟨(·=[]),⟨(·=false),rfl,fun _ e=>by cases e;exact⟨(·=false),rfl,fun _ e=>by cases e;exact⟨(·=false),rfl,fun _ e=>by cases e;exact rfl⟩⟩⟩,fun _ e=>by cases e;exact Dh _ [] _ (by decide) dU (by simp [Du]) K h⟩
 |set op s a cF hn=>
  rcases cF with rfl|rfl|rfl<;>
  exact⟨(·=[69]),⟨(·=true),rfl,fun _ e=>by cases e;exact rfl⟩,fun _ e=>by cases e;exact Dh _ [69] _ (by decide) dU (by simp [Du]) K h⟩
 |send a=>exact⟨(·=[82,69]),⟨(·=false),rfl,fun _ e=>by cases e;exact rfl⟩,fun _ e=>by cases e;exact Dh _ [82,69] _ (by decide) dU (by simp [Du]) K h⟩
 |recv s a hn=>exact⟨(·=[82]),⟨(·=false),rfl,fun _ e=>by cases e;exact rfl⟩,fun _ e=>by cases e;exact Dh _ [82] _ (by decide) dU (by simp [Du]) K h⟩
 |RH a=>exact⟨(·=[69,66]),⟨(·=false),rfl,fun _ e=>by cases e;exact rfl⟩,fun _ e=>by cases e;exact Dh _ [69,66] _ (by decide) dU (by simp [Du]) K h⟩
 |RJ a=>exact⟨(·=[69,66,66]),⟨(·=false),rfl,fun _ e=>by cases e;exact rfl⟩,fun _ e=>by cases e;exact Dh _ [69,66,66] _ (by decide) dU (by simp [Du]) K h⟩
 |RK a=>exact⟨(·=[69,66]),⟨(·=false),rfl,fun _ e=>by cases e;exact⟨(·=true),rfl,fun _ e=>by cases e;exact rfl⟩⟩,fun _ e=>by cases e;exact Dh _ [69,66] _ (by decide) dU (by simp [Du]) K h⟩
 |zY k a h1=>
  rw [length_replicate]at dU hd hm;refine⟨fun _=>False,⟨(·=false),rfl,?_⟩,fun _ h=>h.elim⟩;rintro _ rfl;refine⟨(·=false),rfl,?_⟩;rintro _ rfl;refine Z6 _ _ [67] [] 67 (k-1) (by rw [dU];simp only [length_cons,length_nil];omega) (by rw [dU];exact hm) (by rw [dU];omega) _ ?_;rw [append_nil,show [67]++replicate (k-1) (67:UInt8)=replicate k 67 by rw [show k=(k-1)+1 by omega,List.replicate_succ,Nat.add_sub_cancel];rfl];exact h
 |start s k a hn=>
  rw [length_replicate]at dU hd hm;refine⟨fun _=>False,⟨(·=false),rfl,?_⟩,fun _ h=>h.elim⟩;rintro _ rfl;refine⟨(·=false),rfl,?_⟩;rintro _ rfl;refine Z6 _ _ [] [] 69 k (by rw [dU];simp only [length_nil];omega) (by rw [dU];exact hm) (by rw [dU];omega) _ ?_;rw [append_nil,nil_append];exact h
 |one op a cF=>
  rcases cF with rfl|rfl|rfl<;>
  exact⟨(·=[69]),⟨(·=true),rfl,fun _ e=>by cases e;exact rfl⟩,fun _ e=>by cases e;exact Dh _ [69] _ (by decide) dU (by simp [Du]) K h⟩
 |none op a cF=>
  rcases cF with rfl|rfl<;>
  exact⟨(·=[]),⟨(·=false),rfl,fun _ e=>by cases e;exact⟨(·=false),rfl,fun _ e=>by cases e;exact⟨(·=false),rfl,fun _ e=>by cases e;exact rfl⟩⟩⟩,fun _ e=>by cases e;exact Dh _ [] _ (by decide) dU (by simp [Du]) K h⟩
 |zZ a=>exact⟨(·=[66]),⟨(·=false),rfl,fun _ e=>by cases e;exact⟨(·=false),rfl,fun _ e=>by cases e;exact⟨(·=true),rfl,fun _ e=>by cases e;exact rfl⟩⟩⟩,fun _ e=>by cases e;exact Dh _ [66] _ (by decide) dU (by simp [Du]) K h⟩
 |clause op s a w ds hc=>
  rcases hc with⟨rfl,hn,rfl⟩|⟨rfl,rfl,rfl⟩|⟨rfl,rfl,rfl⟩
  ·exact⟨(·=[82,66]),⟨(·=false),rfl,fun _ e=>by cases e;exact⟨(·=false),rfl,fun _ e=>by cases e;exact rfl⟩⟩,fun _ e=>by cases e;exact Dh _ [82,66] _ (by decide) dU (by cases w<;>simp [Du]) K h⟩
  ·exact⟨(·=[82,69,66]),⟨(·=false),rfl,fun _ e=>by cases e;exact⟨(·=false),rfl,fun _ e=>by cases e;exact rfl⟩⟩,fun _ e=>by cases e;exact Dh _ [82,69,66] _ (by decide) dU (by cases w<;>simp [Du]) K h⟩
  ·exact⟨(·=[69,66]),⟨(·=false),rfl,fun _ e=>by cases e;exact⟨(·=true),rfl,fun _ e=>by cases e;exact rfl⟩⟩,fun _ e=>by cases e;exact Dh _ [69,66] _ (by decide) dU (by cases w<;>simp [Du]) K h⟩
 |z0 s a hn=>exact⟨(·=[]),⟨(·=false),rfl,fun _ e=>by cases e;exact⟨(·=false),rfl,fun _ e=>by cases e;exact rfl⟩⟩,fun _ e=>by cases e;exact Dh _ [] _ (by decide) dU (by simp [Du]) K h⟩
 |z3 s a hn=>exact⟨(·=[69]),⟨(·=false),rfl,fun _ e=>by cases e;exact⟨(·=false),rfl,fun _ e=>by cases e;exact rfl⟩⟩,fun _ e=>by cases e;exact Dh _ [69] _ (by decide) dU (by simp [Du]) K h⟩
 |block k a=>
  rw [length_replicate]at dU hd hm;refine⟨fun _=>False,⟨(·=false),rfl,?_⟩,fun _ h=>h.elim⟩;rintro _ rfl;refine⟨(·=false),rfl,?_⟩;rintro _ rfl;refine Z6 _ _ [] [] 83 k (by rw [dU];simp only [length_nil];omega) (by rw [dU];exact hm) (by rw [dU];omega) _ ?_;rw [append_nil,nil_append];exact h
 |param s a hn=>
  exact⟨(·=[]),⟨(·=false),rfl,fun _ e=>by cases e;exact⟨(·=false),rfl,fun _ e=>by cases e;exact⟨(·=false),rfl,fun _ e=>by cases e;exact rfl⟩⟩⟩,fun _ e=>by cases e;exact Dh _ [] _ (by decide) dU (by simp [Du]) K h⟩
 |unit k a=>
  rw [length_replicate]at dU hd hm;refine⟨fun _=>False,⟨(·=false),rfl,?_⟩,fun _ h=>h.elim⟩;rintro _ rfl;refine⟨(·=false),rfl,?_⟩;rintro _ rfl;refine⟨(·=false),rfl,?_⟩;rintro _ rfl;refine Z6 _ _ [] [] 68 k (by rw [dU];simp only [length_nil];omega) (by rw [dU];exact hm) (by rw [dU];omega) _ ?_;rw [append_nil,nil_append];exact h
 |chan s n a hn h1 h2=>
  exact⟨(·=[]),⟨(·=false),rfl,fun _ e=>by cases e;exact⟨(·=false),rfl,fun _ e=>by cases e;exact⟨(·=false),rfl,fun _ e=>by cases e;exact rfl⟩⟩⟩,fun _ e=>by cases e;exact Dh _ [] _ (by decide) dU (by simp [Du]) K h⟩
 |main a=>exact⟨(·=[66]),⟨(·=false),rfl,fun _ e=>by cases e;exact⟨(·=false),rfl,fun _ e=>by cases e;exact⟨(·=true),rfl,fun _ e=>by cases e;exact rfl⟩⟩⟩,fun _ e=>by cases e;exact Dh _ [66] _ (by decide) dU (by simp [Du]) K h⟩
 |proc s k a hn=>
  rw [length_append,length_replicate,length_singleton]at dU hd hm;refine⟨fun _=>False,⟨(·=false),rfl,?_⟩,fun _ h=>h.elim⟩;rintro _ rfl;refine⟨(·=false),rfl,?_⟩;rintro _ rfl;refine⟨(·=false),rfl,?_⟩;rintro _ rfl;refine Z6 _ _ [] [66] 80 k (by rw [dU];simp only [length_nil,length_singleton];omega) (by rw [dU];exact hm) (by rw [dU];omega) _ ?_;rw [nil_append];exact h
theorem Apt {c:UInt8} {x:Ag} {ds:List UInt8} (ho:dg c x ds) (K:Int->Prop) (h:K (c.toNat:Int)):Mr x.op K:=by
 refine Xf _ _ ?_;cases ho with
 |un op a cF=>rcases cF with rfl|rfl<;>exact h
 |bin op a h1 h2=>rcases GI h1 h2 with rfl|rfl|rfl|rfl|rfl|rfl|rfl|rfl|rfl|rfl|rfl|rfl|rfl<;>exact h
 |set op s a cF hn=>rcases cF with rfl|rfl|rfl<;>exact h
 |one op a cF=>rcases cF with rfl|rfl|rfl<;>exact h
 |none op a cF=>rcases cF with rfl|rfl<;>exact h
 |clause op s a w ds hc=>rcases hc with⟨rfl,hn,rfl⟩|⟨rfl,rfl,rfl⟩|⟨rfl,rfl,rfl⟩<;>exact h
 |chan s n a hn h1 h2=>exact⟨(·=true),rfl,fun _ e=>by cases e;exact h⟩
 |main a=>exact⟨(·=true),rfl,fun _ e=>by cases e;exact h⟩
 |proc s k a hn=>exact⟨(·=true),rfl,fun _ e=>by cases e;exact h⟩
 |param s a hn=>exact⟨(·=false),rfl,fun _ e=>by cases e;exact h⟩
 |unit k a=>exact⟨(·=false),rfl,fun _ e=>by cases e;exact h⟩
 |_=>exact h
theorem Au0 (s:List UInt8):Nv.GG s=Tk.D7 s:=by cases s<;>rfl
theorem Ew (x:Ag) (nm:Bool) (fD:∀K:Bool->Prop,K nm->Gr x.op K) (hs:nm=true->Tk.D7 x.name=true) (hs0:nm=false->x.name=[]) (most:Int) (qc:cond (x.op==1) (999999999999999999=most) (cond (x.op==38) (16=most) ((if Du x then 1 else 0)=most))) (h0:0<=x.n) (h1:x.n<=most) {K:Bool->Prop} (h:K true):Hl x K:=by
 refine Uz _ _ ⟨(·=most),?_,?_⟩
 ·refine Aa (fun e=> ?_) fun e=> ?_
  ·rw [e]at qc;exact qc
  rw [e]at qc;refine Aa (fun e=> ?_) fun e=> ?_
  ·rw [e]at qc;exact qc
  rw [e]at qc;refine RP _ _ (Aa (fun e=> ?_) fun e=> ?_)
  ·rw [e]at qc;exact qc
  ·rw [e]at qc;exact qc
 rintro _ rfl;refine⟨(·=false),fD _ ?_,?_⟩
 ·cases nm with
  |false=>
   rw [hs0 rfl];exact Ba rfl (fD _ rfl)
  |true=>
   have hn:=hs rfl;have bA:(x.name==[])=false:=by
    cases hx:x.name with
    |nil=>rw [hx]at hn;cases hn
    |cons=>rfl
   rw [bA];refine Ba rfl (fD _ (B3 rfl (Nv.Lf _ _ ?_)));rw [Au0,hn];rfl
 ·rintro _ rfl;refine Ba rfl (B3 (by simpa using h0) ?_);rw [decide_eq_true h1];exact h
theorem kU {op:Int} (b:Bool) (h:∀K:Bool->Prop,K b->Ot op K):∀K:Bool->Prop,K b->Gr op K:=fun K hK=>Xh _ _ (h K hK)
theorem Amn {c:UInt8} {x:Ag} {ds:List UInt8} (ho:dg c x ds) (K:Bool->Prop) (h:K true):Hl x K:=by
 cases ho with
 |num n a h1 h2=>exact Ew _ false (kU false fun K hK=>by exact⟨(·=false),rfl,fun _ e=>by cases e;exact hK⟩) (by nofun) (fun _=>by rfl) 999999999999999999 (by rfl) h1 h2 h
 |name s a hn=>exact Ew _ true (kU true fun K hK=>by exact⟨(·=true),rfl,fun _ e=>by cases e;exact hK⟩) (fun _=>by exact hn) (by nofun) 0 (by simp [Du]) (by exact le_refl _) (by exact le_refl _) h
 |un op a cF=>
  rcases cF with rfl|rfl<;>exact Ew _ false (kU false fun K hK=>by exact⟨(·=false),rfl,fun _ e=>by cases e;exact hK⟩) (by nofun) (fun _=>by rfl) 0 (by simp [Du]) (by exact le_refl _) (by exact le_refl _) h
 |bin op a h1 h2=>
  rcases GI h1 h2 with rfl|rfl|rfl|rfl|rfl|rfl|rfl|rfl|rfl|rfl|rfl|rfl|rfl<;>exact Ew _ false (kU false fun K hK=>by exact⟨(·=false),rfl,fun _ e=>by cases e;exact hK⟩) (by nofun) (fun _=>by rfl) 0 (by simp [Du]) (by exact le_refl _) (by exact le_refl _) h
 |set op s a cF hn=>
  rcases cF with rfl|rfl|rfl<;>exact Ew _ true (kU true fun K hK=>by exact⟨(·=true),rfl,fun _ e=>by cases e;exact hK⟩) (fun _=>by exact hn) (by nofun) 0 (by simp [Du]) (by exact le_refl _) (by exact le_refl _) h
 |recv s a hn=>exact Ew _ true (kU true fun K hK=>by exact⟨(·=true),rfl,fun _ e=>by cases e;exact hK⟩) (fun _=>by exact hn) (by nofun) 0 (by simp [Du]) (by exact le_refl _) (by exact le_refl _) h
 |start s k a hn=>exact Ew _ true (kU true fun K hK=>by exact⟨(·=true),rfl,fun _ e=>by cases e;exact hK⟩) (fun _=>by exact hn) (by nofun) 0 (by simp [Du]) (by exact le_refl _) (by exact le_refl _) h
 |one op a cF=>
  rcases cF with rfl|rfl|rfl<;>exact Ew _ false (kU false fun K hK=>by exact⟨(·=false),rfl,fun _ e=>by cases e;exact hK⟩) (by nofun) (fun _=>by rfl) 0 (by simp [Du]) (by exact le_refl _) (by exact le_refl _) h
 |none op a cF=>
  rcases cF with rfl|rfl<;>exact Ew _ false (kU false fun K hK=>by exact⟨(·=false),rfl,fun _ e=>by cases e;exact hK⟩) (by nofun) (fun _=>by rfl) 0 (by simp [Du]) (by exact le_refl _) (by exact le_refl _) h
 |clause op s a w ds hc=>
  rcases hc with⟨rfl,hn,rfl⟩|⟨rfl,rfl,rfl⟩|⟨rfl,rfl,rfl⟩
  ·exact Ew _ true (kU true fun K hK=>by exact⟨(·=true),rfl,fun _ e=>by cases e;exact hK⟩) (fun _=>by exact hn) (by nofun) (if w then 1 else 0) (by cases w<;>simp [Du]) (by cases w<;>simp) (by exact le_refl _) h
  ·exact Ew _ false (kU false fun K hK=>by exact⟨(·=false),rfl,fun _ e=>by cases e;exact hK⟩) (by nofun) (fun _=>by rfl) (if w then 1 else 0) (by cases w<;>simp [Du]) (by cases w<;>simp) (by exact le_refl _) h
  ·exact Ew _ false (kU false fun K hK=>by exact⟨(·=false),rfl,fun _ e=>by cases e;exact hK⟩) (by nofun) (fun _=>by rfl) (if w then 1 else 0) (by cases w<;>simp [Du]) (by cases w<;>simp) (by exact le_refl _) h
 |z0 s a hn=>exact Ew _ true (kU true fun K hK=>by exact⟨(·=true),rfl,fun _ e=>by cases e;exact hK⟩) (fun _=>by exact hn) (by nofun) 0 (by simp [Du]) (by exact le_refl _) (by exact le_refl _) h
 |z3 s a hn=>exact Ew _ true (kU true fun K hK=>by exact⟨(·=true),rfl,fun _ e=>by cases e;exact hK⟩) (fun _=>by exact hn) (by nofun) 0 (by simp [Du]) (by exact le_refl _) (by exact le_refl _) h
 |param s a hn=>exact Ew _ true (kU true fun K hK=>by exact⟨(·=true),rfl,fun _ e=>by cases e;exact hK⟩) (fun _=>by exact hn) (by nofun) 0 (by simp [Du]) (by exact le_refl _) (by exact le_refl _) h
 |chan s n a hn h1 h2=>exact Ew _ true (kU true fun K hK=>by exact⟨(·=true),rfl,fun _ e=>by cases e;exact hK⟩) (fun _=>by exact hn) (by nofun) 16 (by rfl) h1 h2 h
 |proc s k a hn=>exact Ew _ true (kU true fun K hK=>by exact⟨(·=true),rfl,fun _ e=>by cases e;exact hK⟩) (fun _=>by exact hn) (by nofun) 0 (by simp [Du]) (by exact le_refl _) (by exact le_refl _) h
 |_=>exact Ew _ false (kU false fun K hK=>by exact⟨(·=false),rfl,fun _ e=>by cases e;exact hK⟩) (by nofun) (fun _=>by rfl) 0 (by simp [Du]) (by exact le_refl _) (by exact le_refl _) h
theorem RR (l:List UInt8):(A7 l).reverse=A7 l.reverse:=by simp [A7]
theorem Arv {f:Fo} (hf:kT [85] f) (hl:f.flat.length<=100000) (K:Int->Int->Prop) (h:K 0 0):Mq f.flat K:=by
 refine Xd _ _ ?_;unfold Oq;have GJ:∀ {cs:List UInt8} {f:Fo},kT cs f->cs.length<=f.flat.length:=by
  intro cs f h
  induction h with
  |nil=>exact Nat.le_refl _
  |cons _ _ _ _ q_=>simp only [Fo.flat,length_cons,length_append];omega
 refine⟨fun todo x n=>∃(i:Nat) (cs:List UInt8) (g:Fo),x=i/\todo=A7 cs.reverse/\kT cs g/\f.flat.drop i=g.flat/\i<=f.flat.length/\n=f.flat.length-i,⟨_,0,[85],f,rfl,rfl,hf,rfl,zero_le _,rfl⟩,?_⟩;rintro _ _ _ ⟨i,cs,g,rfl,rfl,hg,hd,hi,rfl⟩;have tG:=congrArg List.length hd;rw [length_drop]at tG;have n_:=GJ hg;refine Aa (fun e=> ?_) fun e=> ?_
 ·have e:i<f.flat.length:=by simpa using e
  cases hg with
  |nil=>simp [Fo.flat]at tG;omega
  |@cons c x ds cs a b ho ha hb=>
   have hx:f.flat[i]? =some x:=by
    have:(f.flat.drop i)[0]? =some x:=by rw [hd];rfl
    rwa [List.getElem?_drop,Nat.add_zero]at this
   have RS:=GJ ha;have RU:=GJ hb;simp only [Fo.flat,length_cons,length_append]at tG n_;have sb:(A7 (c::cs).reverse).length=cs.length+1:=by simp [A7]
   have qI:IntKind.i64.wrap (((A7 (c::cs).reverse).length:Int)-1)=(cs.length:Int):=by rw [sb,Au (by omega) (by omega)];omega
   have RV:A7 (c::cs).reverse=A7 cs.reverse++[(c.toNat:Int)]:=by simp [A7]
   have jr:(A7 cs.reverse).length=cs.length:=by simp [A7]
   refine⟨⟨by omega,by omega⟩,fun y hy=> ?_⟩;rw [toNat_natCast,hx]at hy;cases hy
   rw [qI,sb,toNat_natCast];refine Ba (by simp;omega) ⟨⟨by omega,by omega⟩,fun z hz=> ?_⟩;rw [RV,List.getElem?_append_right (by omega),jr,sub_self]at hz;cases hz
   refine Aru ho (by omega) _ (by rw [Au (by omega) (by omega)];omega) _ ⟨(·=false),Apt ho _ (Ba (by simp) (Ba rfl (Amn ho _ rfl))),?_⟩;rintro _ rfl;refine Ba rfl (Aza _ (by simp [A7];omega) _ ⟨⟨by omega,by omega⟩,?_,?_⟩)
   ·rw [RR,length_take];simp [A7];omega
   ·rw [RV,List.take_append_of_le_length (by omega),List.take_of_length_le (by omega),RR];refine⟨f.flat.length-(i+1),by omega,i+1,ds++cs,a.app b,by rw [Au (by omega) (by omega)];omega,?_,RL ha hb,?_,by omega,rfl⟩
    ·simp [A7]
    ·rw [←drop_drop,hd,K5];rfl
 ·have e:¬i<f.flat.length:=by simpa using e
  cases hg with
  |nil=>exact Ba rfl h
  |cons=>simp [Fo.flat]at tG;omega
section
variable {l:List Ag}
structure ft (l:List Ag) (i:Nat) (cs:List UInt8) (r:Ai):Prop where
 at_:∃j:Nat,r.at_=j/\j<=l.length
 ok:r.ok=true->∃(f:Fo) (j:Nat),r.at_=j/\kT cs f/\l.drop i=f.flat++l.drop j/\j=i+f.flat.length
theorem X5 {cs:List UInt8} {f:Fo} (h:kT cs f):cs.length<=f.flat.length:=by
 induction h with
 |nil=>exact Nat.le_refl _
 |cons _ _ _ _ q_=>simp only [Fo.flat,length_cons,length_append];omega
theorem ft.len {i:Nat} {cs:List UInt8} {r:Ai} (h:ft l i cs r) (ho:r.ok=true):i+cs.length<=l.length/\∃j:Nat,r.at_=j/\i+cs.length<=j:=by
 obtain⟨f,j,h1,h2,h3,h4⟩:=h.ok ho;obtain⟨j',e1,e2⟩:=h.at_;have:=X5 h2;have:j'=j:=by omega
 exact⟨by omega,j,h1,by omega⟩
theorem ft.start {i:Nat} (hi:i<=l.length):ft l i [] ⟨(i:Int),true⟩:=⟨⟨i,rfl,hi⟩,fun _=>⟨.nil,i,rfl,.nil,rfl,rfl⟩⟩
theorem ft.no {i:Nat} (hi:i<=l.length) (k:Nat) (cs:List UInt8):ft l k cs ⟨(i:Int),false⟩:=⟨⟨i,rfl,hi⟩,nofun⟩
theorem ft.app {i k:Nat} {cs ds:List UInt8} {c r:Ai} (h:ft l i cs c) (hk:c.at_=k) (ho:c.ok=true) (g:ft l k ds r):ft l i (cs++ds) r:=by
 refine⟨g.at_,fun hr=> ?_⟩;obtain⟨f,j,h1,h2,h3,h4⟩:=h.ok ho;obtain⟨f',j',g1,g2,g3,g4⟩:=g.ok hr;have:j=k:=by omega
 subst this;exact⟨f.app f',j',g1,RL h2 g2,by rw [h3,g3,K5,append_assoc],by rw [K5,length_append];omega⟩
def PA (l:List Ag) (i:Nat):Prop:=∀(c:UInt8) (K:Ai->Prop),(∀r,ft l i [c] r->K r)->Hv l i [c] K
theorem Tg {i1:Nat} (hl:l.length<=100000) (kV:∀j,i1<=j->PA l j) {i0:Nat} {cQ:List UInt8} (c0:Ai) (h0:ft l i0 cQ c0) (h1:c0.ok=true->(i1:Int)<=c0.at_) (cs:List UInt8) (ir:cs.length<=1000) (K:Ai->Prop) (hK:∀r,ft l i0 (cQ++cs) r->K r):B6 l c0 cs K:=by
 refine Afs _ _ _ _ ⟨fun k At Ok n=>∃k':Nat,k=k'/\k'<=cs.length/\n=cs.length-k'/\ft l i0 (cQ++cs.take k') ⟨At,Ok⟩/\(Ok=true->(i1:Int)<=At),⟨_,0,rfl,zero_le _,rfl,by rw [List.take_zero,append_nil];exact h0,h1⟩,?_⟩;rintro _ At Ok _ ⟨k,rfl,hk,rfl,hg,cT⟩;refine⟨fun b=>b=(decide (k<cs.length)&&Ok),Aa (fun hc=> ?_) (fun hc=> ?_),?_⟩
 ·show Ok=_
  rw [decide_eq_true (by have:=of_decide_eq_true hc;omega)];rfl
 ·show false=_
  rw [decide_eq_false (by have:=of_decide_eq_false hc;omega)];rfl
 rintro _ rfl;refine Aa (fun hc=> ?_) fun hc=> ?_
 ·have dV:k<cs.length/\Ok=true:=by simpa using hc
  clear hc;obtain⟨hc,rfl⟩:=dV;have hw:IntKind.i64.wrap ((k:Int)+1)=((k+1:Nat):Int):=by rw [Au (by omega) (by omega)];omega
  rw [hw,toNat_natCast,toNat_natCast];have n_:(cs.take (k+1)).drop k=[cs[k]]:=by
   rw [List.take_succ_eq_append_getElem hc,List.drop_append,List.drop_of_length_le (by rw [length_take];exact Nat.min_le_left _ _),length_take,Nat.min_eq_left (by omega)];simp
  rw [n_];obtain⟨a,ha,_⟩:=hg.at_;have ha:At=(a:Int):=ha;subst ha;have jf:=cT rfl;refine⟨fun fI oQ=>ft l a [cs[k]] ⟨fI,oQ⟩,⟨⟨⟨by omega,by omega⟩,by omega,by omega⟩,kV a (by omega) _ _ fun r hr=>hr⟩,?_⟩;intro fI oQ hr;refine⟨_,by omega,k+1,rfl,by omega,rfl,?_,fun ho=> ?_⟩
  ·rw [List.take_succ_eq_append_getElem hc,←append_assoc];exact hg.app rfl rfl hr
  ·subst ho;obtain⟨_,j,hj,uB⟩:=hr.len rfl;have hj:fI=(j:Int):=hj;omega
 ·refine hK _ ?_;cases Ok with
  |false=>exact⟨hg.at_,nofun⟩
  |true=>
   have hc:¬k<cs.length:=by simpa using hc
   rw [List.take_of_length_le (by omega)]at hg;exact hg
theorem GK {i1:Nat} (hl:l.length<=100000) (kV:∀j,i1<=j->PA l j) {i0:Nat} {cQ:List UInt8} (c0:Ai) (h0:ft l i0 cQ c0) (h1:c0.ok=true->(i1:Int)<=c0.at_) (c:UInt8) (n:Int) (hn:0<=n) (K:Ai->Prop) (hK:∀r,ft l i0 (cQ++replicate n.toNat c) r->K r):D5 l c0 [c] n K:=by
 refine Afr _ _ _ _ _ ⟨fun k At Ok r=>∃k':Nat,k=k'/\k'<=n.toNat/\r=n.toNat-k'/\(Ok=false\/ft l i0 (cQ++replicate k' c) ⟨At,Ok⟩)/\(∃j:Nat,At=j/\j<=l.length)/\(Ok=true->(i1:Int)<=At),⟨_,0,rfl,zero_le _,rfl,.inr (by rw [List.replicate_zero,append_nil];exact h0),h0.at_,h1⟩,?_⟩;rintro _ At Ok _ ⟨k,rfl,hk,rfl,hg,dR,cT⟩;refine⟨fun b=>b=(decide ((k:Int)<n)&&Ok),Aa (fun hc=> ?_) (fun hc=> ?_),?_⟩
 ·show Ok=_
  rw [hc];rfl
 ·show false=_
  rw [hc];rfl
 rintro _ rfl;refine Aa (fun hc=> ?_) fun hc=> ?_
 ·have dV:(k:Int)<n/\Ok=true:=by simpa using hc
  clear hc;obtain⟨hc,rfl⟩:=dV;rcases hg with hg|hg
  ·cases hg
  obtain⟨hlen,_⟩:=hg.len rfl;simp only [length_append,length_replicate]at hlen;have hw:IntKind.i64.wrap ((k:Int)+1)=((k+1:Nat):Int):=by rw [Au (by omega) (by omega)];omega
  rw [hw];obtain⟨a,ha,_⟩:=dR;subst ha;have jf:=cT rfl;refine kV a (by omega) _ _ fun r hr=>⟨n.toNat-(k+1),by omega,k+1,rfl,by omega,rfl,.inr ?_,hr.at_,fun ho=> ?_⟩
  ·rw [List.replicate_succ',←append_assoc];exact hg.app rfl rfl hr
  ·obtain⟨_,j,hj,uB⟩:=hr.len ho;omega
 ·refine hK _ ?_;cases Ok with
  |false=>exact⟨dR,nofun⟩
  |true=>
   have hc:¬(k:Int)<n:=by simpa using hc
   rcases hg with hg|hg
   ·cases hg
   have:k=n.toNat:=by omega
   subst this;exact hg
theorem Z8 {c:UInt8} {x:Ag} {i:Nat} {r:Ai} (hx:l[i]? =some x) (ha:∃j:Nat,r.at_=j/\j<=l.length) (h:r.ok=true->∃ds,dg c x ds/\ft l (i+1) ds r):ft l i [c] r:=by
 refine⟨ha,fun ho=> ?_⟩;obtain⟨ds,hk,hg⟩:=h ho;obtain⟨f,j,h1,h2,h3,h4⟩:=hg.ok ho;obtain⟨aE,mr⟩:=List.getElem?_eq_some_iff.1 hx;refine⟨.cons x f .nil,j,h1,.cons hk h2 .nil,?_,?_⟩
 ·rw [List.drop_eq_getElem_cons aE,mr,h3];simp [Fo.flat]
 ·simp [Fo.flat];omega
theorem G0 {c:UInt8} {x:Ag} {ds:List UInt8} {i:Nat} {r:Ai} (hx:l[i]? =some x) (hk:dg c x ds) (hg:ft l (i+1) ([]++ds) r):ft l i [c] r:=
 Z8 hx hg.at_ fun _=>⟨ds,hk,hg⟩
theorem RX {c d:UInt8} {x:Ag} {n:Int} {i:Nat} {r:Ai} (hl:l.length<=100000) (hx:l[i]? =some x) (hk:qb n.toNat=n->dg c x (replicate n.toNat d)) (hn:0<=n) (hg:ft l (i+1) ([]++replicate n.toNat d) r):ft l i [c] r:=by
 refine Z8 hx hg.at_ fun ho=>⟨_,hk ?_,hg⟩
 obtain⟨h1,_⟩:=hg.len ho;simp only [nil_append,length_replicate]at h1;rw [Le (by omega)];omega
theorem K6 {x:Ag} {k:Int} (h:(Tk.D7 x.name&&(x.n==0&&x.kids==k))=true):Tk.D7 x.name=true/\x.n=0/\x.kids=k:=by simpa using h
theorem Ez {x:Ag} {k:Int} (h:(x.name==[]&&(x.n==0&&x.kids==k))=true):x.name=[]/\x.n=0/\x.kids=k:=by simpa using h
theorem Arw (hl:l.length<=100000) {i:Nat} {x:Ag} (hx:l[i]? =some x) (fD:x.name.length<2^63) (kV:∀j,i+1<=j->PA l j) (K:Ai->Prop) (hK:∀r,ft l i [69] r->K r):Q9 l x ⟨(i:Int),false⟩ ⟨((i+1:Nat):Int),true⟩ K:=by
 have aE:=(List.getElem?_eq_some_iff.1 hx).1;have hs:=ft.start (l:=l) (i:=i+1) (by omega);have ik:∀ds:List UInt8,ds.length<=1000->dg 69 x ds->B6 l ⟨((i+1:Nat):Int),true⟩ ds K:=fun ds hd hk=>Tg hl kV _ hs (fun _=>le_refl _) ds hd K fun r hr=>hK r (G0 hx hk hr)
 obtain⟨op,name,n,kids,a⟩:=x;refine Ab5 _ _ _ _ _ ⟨fun b=>b=true->dg 69 ⟨op,name,n,kids,a⟩ [],?_,?_⟩
 ·refine Aa (fun e1=> ?_) fun _=>nofun
  refine Aa (fun e2=> ?_) fun _=>nofun
  refine Aa (fun e3=> ?_) fun _=>nofun
  refine Aa (fun e4=> ?_) fun _=>nofun
  intro e5;simp at e1 e2 e3 e4 e5;subst e1;subst e2;subst e3;exact .num n a e4 e5
 intro b hb;refine Aa (fun e=> ?_) fun _=> ?_
 ·exact hK _ (G0 hx (hb e) hs)
 refine⟨fun b=>b=true->dg 69 ⟨op,name,n,kids,a⟩ [],?_,?_⟩
 ·refine Aa (fun e1=> ?_) fun _=>nofun
  refine Lf _ _ fD _ fun e=> ?_
  obtain⟨h1,h2,h3⟩:=K6 e;simp at e1 h1 h2 h3;subst e1;subst h2;subst h3;exact .name name a h1
 intro b hb;refine Aa (fun e=> ?_) fun _=> ?_
 ·exact hK _ (G0 hx (hb e) hs)
 refine⟨fun b=>b=true->dg 69 ⟨op,name,n,kids,a⟩ [69],?_,?_⟩
 ·refine Aa (fun e1=> ?_) fun _=>Aa (fun e1=> ?_) fun _=>nofun
  ·refine Gz _ _ _ fun e=> ?_
   obtain⟨h1,h2,h3⟩:=Ez e;simp at e1 h1 h2 h3;subst e1;subst h1;subst h2;subst h3;exact .un 3 a (.inl rfl)
  ·refine Gz _ _ _ fun e=> ?_
   obtain⟨h1,h2,h3⟩:=Ez e;simp at e1 h1 h2 h3;subst e1;subst h1;subst h2;subst h3;exact .un 4 a (.inr rfl)
 intro b hb;refine Aa (fun e=> ?_) fun _=> ?_
 ·exact ik _ (by decide) (hb e)
 refine⟨fun b=>b=true->dg 69 ⟨op,name,n,kids,a⟩ [69,69],?_,?_⟩
 ·refine Aa (fun e1=> ?_) fun _=>nofun
  refine Aa (fun e2=> ?_) fun _=>nofun
  refine Gz _ _ _ fun e=> ?_
  obtain⟨h1,h2,h3⟩:=Ez e;simp at e1 e2 h1 h2 h3;subst h1;subst h2;subst h3;exact .bin op a e1 e2
 intro b hb;refine Aa (fun e=> ?_) fun _=> ?_
 ·exact ik _ (by decide) (hb e)
 exact hK _ (ft.no (by omega) _ _)
theorem Arx (hl:l.length<=100000) {i:Nat} {x:Ag} (hx:l[i]? =some x) (fD:x.name.length<2^63) (kV:∀j,i+1<=j->PA l j) (K:Ai->Prop) (hK:∀r,ft l i [83] r->K r):Ra l x ⟨(i:Int),false⟩ ⟨((i+1:Nat):Int),true⟩ K:=by
 have aE:=(List.getElem?_eq_some_iff.1 hx).1;have hs:=ft.start (l:=l) (i:=i+1) (by omega);have ik:∀ds:List UInt8,ds.length<=1000->dg 83 x ds->B6 l ⟨((i+1:Nat):Int),true⟩ ds K:=fun ds hd hk=>Tg hl kV _ hs (fun _=>le_refl _) ds hd K fun r hr=>hK r (G0 hx hk hr)
 have eX:∀(d:UInt8) (n:Int),0<=n->(qb n.toNat=n->dg 83 x (replicate n.toNat d))->D5 l ⟨((i+1:Nat):Int),true⟩ [d] n K:=fun d n hn hk=>GK hl kV _ hs (fun _=>le_refl _) d n hn K fun r hr=>hK r (RX hl hx hk hn hr)
 obtain⟨op,name,n,kids,a⟩:=x;refine Ab6 _ _ _ _ _ ⟨fun _ _=>True,?_,fun _ _ _=>hK _ (ft.no (by omega) _ _)⟩;refine⟨fun b=>b=true->op=18\/op=19\/op=20,?_,?_⟩
 ·refine Aa (fun e _=> ?_) fun _=>Aa (fun e _=> ?_) fun _ e=> ?_
  ·simp at e;omega
  ·simp at e;omega
  ·simp at e;omega
 intro b hb;refine Aa (fun e=> ?_) fun _=> ?_
 ·have cF:=hb e;refine Lf _ _ fD _ (Aa (fun e=>ik _ (by decide) ?_) fun _=>trivial);obtain⟨h1,h2,h3⟩:=K6 e;simp at h1 h2 h3;subst h2;subst h3;exact .set op name a cF h1
 refine Aa (fun e1=> ?_) fun _=> ?_
 ·refine Gz _ _ _ (Aa (fun e=>ik _ (by decide) ?_) fun _=>trivial);obtain⟨h1,h2,h3⟩:=Ez e;simp at e1 h1 h2 h3;subst e1;subst h1;subst h2;subst h3;exact .send a
 refine Aa (fun e1=> ?_) fun _=> ?_
 ·refine Lf _ _ fD _ (Aa (fun e=>ik _ (by decide) ?_) fun _=>trivial);obtain⟨h1,h2,h3⟩:=K6 e;simp at e1 h1 h2 h3;subst e1;subst h2;subst h3;exact .recv name a h1
 refine Aa (fun e1=> ?_) fun _=> ?_
 ·refine Gz _ _ _ (Aa (fun e=>ik _ (by decide) ?_) fun _=>Gz _ _ _ (Aa (fun e=>ik _ (by decide) ?_) fun _=>trivial))
  ·obtain⟨h1,h2,h3⟩:=Ez e;simp at e1 h1 h2 h3;subst e1;subst h1;subst h2;subst h3;exact .RH a
  ·obtain⟨h1,h2,h3⟩:=Ez e;simp at e1 h1 h2 h3;subst e1;subst h1;subst h2;subst h3;exact .RJ a
 refine Aa (fun e1=> ?_) fun _=> ?_
 ·refine Gz _ _ _ (Aa (fun e=>ik _ (by decide) ?_) fun _=>trivial);obtain⟨h1,h2,h3⟩:=Ez e;simp at e1 h1 h2 h3;subst e1;subst h1;subst h2;subst h3;exact .RK a
 refine Aa (fun e1=> ?_) fun _=> ?_
 ·refine⟨fun b=>b=true->name=[]/\n=0/\1<=kids,Aa (fun e2=>Gz _ _ _ fun e=> ?_) fun _=>nofun,fun b hb=>Aa (fun e=> ?_) fun _=>trivial⟩
  ·obtain⟨h1,h2,h3⟩:=Ez e;exact⟨h1,h2,by simpa using e2⟩
  ·obtain⟨h1,h2,h3⟩:=hb e;simp at e1;subst e1;subst h1;subst h2;refine eX 67 kids (by omega) fun hw=> ?_
   have:=dg.zY kids.toNat a (by omega)
   rwa [hw]at this
 refine Aa (fun e1=> ?_) fun _=> ?_
 ·refine⟨fun b=>b=true->Tk.D7 name=true/\n=0/\0<=kids,Aa (fun e2=>Lf _ _ fD _ fun e=> ?_) fun _=>nofun,fun b hb=>Aa (fun e=> ?_) fun _=>trivial⟩
  ·obtain⟨h1,h2,h3⟩:=K6 e;exact⟨h1,h2,by simpa using e2⟩
  ·obtain⟨h1,h2,h3⟩:=hb e;simp at e1;subst e1;subst h2;refine eX 69 kids h3 fun hw=> ?_
   have:=dg.start name kids.toNat a h1
   rwa [hw]at this
 refine⟨fun b=>b=true->op=27\/op=28\/op=29,?_,?_⟩
 ·refine Aa (fun e _=> ?_) fun _=>Aa (fun e _=> ?_) fun _ e=> ?_
  ·simp at e;omega
  ·simp at e;omega
  ·simp at e;omega
 intro b hb;refine Aa (fun e=> ?_) fun _=> ?_
 ·have cF:=hb e;refine Gz _ _ _ (Aa (fun e=>ik _ (by decide) ?_) fun _=>trivial);obtain⟨h1,h2,h3⟩:=Ez e;simp at h1 h2 h3;subst h1;subst h2;subst h3;exact .one op a cF
 refine⟨fun b=>b=true->op=30\/op=31,?_,?_⟩
 ·refine Aa (fun e _=> ?_) fun _ e=> ?_
  ·simp at e;omega
  ·simp at e;omega
 intro b hb;refine Aa (fun e=> ?_) fun _=>trivial
 have cF:=hb e;refine Gz _ _ _ (Aa (fun e=> ?_) fun _=>trivial);obtain⟨h1,h2,h3⟩:=Ez e;simp at h1 h2 h3;subst h1;subst h2;subst h3;exact hK _ (G0 hx (.none op a cF) hs)
theorem Amo (hl:l.length<=100000) {i:Nat} {x:Ag} (hx:l[i]? =some x) (fD:x.name.length<2^63) (kV:∀j,i+1<=j->PA l j) (K:Ai->Prop) (hK:∀r,ft l i [67] r->K r):Mu l x ⟨(i:Int),false⟩ ⟨((i+1:Nat):Int),true⟩ K:=by
 have aE:=(List.getElem?_eq_some_iff.1 hx).1;have hs:=ft.start (l:=l) (i:=i+1) (by omega);have bV:K ⟨(i:Int),false⟩:=hK _ (ft.no (by omega) _ _);have ik:∀ds:List UInt8,ds.length<=1000->dg 67 x ds->B6 l ⟨((i+1:Nat):Int),true⟩ ds K:=fun ds hd hk=>Tg hl kV _ hs (fun _=>le_refl _) ds hd K fun r hr=>hK r (G0 hx hk hr)
 obtain⟨op,name,n,kids,a⟩:=x;refine Xl _ _ _ _ _ (Aa (fun e1=> ?_) fun _=> ?_)
 ·refine Gz _ _ _ (Aa (fun e=>ik _ (by decide) ?_) fun _=>bV);obtain⟨h1,h2,h3⟩:=Ez e;simp at e1 h1 h2 h3;subst e1;subst h1;subst h2;subst h3;exact .zZ a
 refine⟨fun want _ _=>(op=34/\want=[82,66])\/(op=35/\want=[82,69,66])\/(op=36/\want=[69,66]),?_,?_⟩
 ·refine Aa (fun e=> ?_) fun _=>Aa (fun e=> ?_) fun _=>Aa (fun e=> ?_) fun _=>bV
  ·exact .inl ⟨by simpa using e,rfl⟩
  ·exact .inr (.inl ⟨by simpa using e,rfl⟩)
  ·exact .inr (.inr ⟨by simpa using e,rfl⟩)
 intro want _ _ hw;have RY:want.length<=3:=by rcases hw with⟨_,rfl⟩|⟨_,rfl⟩|⟨_,rfl⟩<;>decide
 refine⟨fun w1=>w1=(if n=1 then [69]else [])++want,?_,?_⟩
 ·refine Aa (fun e=>⟨?_,?_⟩) fun e=> ?_
  ·rw [GA,length_singleton];omega
  ·have e:n=1:=by simpa using e
   show _=_
   rw [if_pos e]
  ·have e:¬n=1:=by simpa using e
   show _=_
   rw [if_neg e];rfl
 rintro _ rfl;refine⟨fun b=>b=false->(n=0\/n=1)/\kids=(((if n=1 then [69]else [])++want).length:Int)/\(op=34->Tk.D7 name=true)/\(op≠34->name=[]),?_,?_⟩
 ·refine Aa (fun _=>nofun) fun e1=>Aa (fun _=>nofun) fun e2=>Aa (fun _=>nofun) fun e3=> ?_
  refine GC _ fD _ (Aa (fun _=>nofun) fun e4=> ?_);have e1:¬n<0:=by simpa using e1
  have e2:¬n>1:=by simpa using e2
  have e3:kids=(((if n=1 then [69]else [])++want).length:Int):=by simpa using e3
  have e4:(op==34)=Tk.D7 name:=by simpa using e4
  refine Aa (fun e5=> ?_) fun e5=> ?_
  ·intro e6;have e5:op≠34:=by simpa using e5
   exact⟨by omega,e3,fun h=>absurd h e5,fun _=>by simpa using e6⟩
  ·intro _;have e5:op=34:=by simpa using e5
   exact⟨by omega,e3,fun _=>by rw [←e4,e5];rfl,fun h=>absurd e5 h⟩
 intro b hb;refine Aa (fun _=>bV) fun e=> ?_
 obtain⟨h1,h2,h3,h4⟩:=hb e;refine ik _ (by rw [length_append];split<;>simp<;>omega) ?_;have hc:(op=34/\Tk.D7 name=true/\want=[82,66])\/(op=35/\name=[]/\want=[82,69,66])\/(op=36/\name=[]/\want=[69,66]):=by
  rcases hw with⟨h,hw⟩|⟨h,hw⟩|⟨h,hw⟩
  ·exact .inl ⟨h,h3 h,hw⟩
  ·exact .inr (.inl ⟨h,h4 (by omega),hw⟩)
  ·exact .inr (.inr ⟨h,h4 (by omega),hw⟩)
 rcases h1 with rfl|rfl
 ·have:=dg.clause op name a false want hc;rw [Le (by simp;omega)]at this;rw [h2];exact this
 ·have:=dg.clause op name a true want hc;rw [Le (by simp;omega)]at this;rw [h2];exact this
theorem Apu (hl:l.length<=100000) (fD:∀x∈l,x.name.length<2^63/\x.kids<=9223372036854775807):∀(m i:Nat),l.length-i<=m->PA l i:=by
 intro m
 induction m with
 |zero=>
  intro i hi c K hK;refine Kf _ _ _ _ (B3 (by simp;omega) (hK _ (ft.no (Nat.le_refl _) _ _)))
 |succ m ih=>
  intro i hi c K hK;rcases lt_or_ge i l.length with aE|aE
  rotate_left
  ·exact Kf _ _ _ _ (B3 (by simp;omega) (hK _ (ft.no (Nat.le_refl _) _ _)))
  have kV:∀j,i+1<=j->PA l j:=fun j hj=>ih j (by omega)
  have hs:=ft.start (l:=l) (i:=i+1) (by omega);have hw:IntKind.i64.wrap ((i:Int)+1)=((i+1:Nat):Int):=by rw [Au (by omega) (by omega)];omega
  refine Kf _ _ _ _ (Ba (by simp;omega) ⟨⟨by omega,by omega⟩,fun x hx=> ?_⟩);rw [toNat_natCast]at hx;rw [hw];obtain⟨hn,mw⟩:=fD x (mem_of_getElem? hx);refine⟨fun _ _=>True,?_,fun _ _ _=>hK _ (ft.no (by omega) _ _)⟩;refine Aa (fun e=> ?_) fun _=> ?_
  ·have e:c=69:=by simpa using e
   subst e;exact Arw hl hx hn kV _ hK
  refine Aa (fun e=> ?_) fun _=> ?_
  ·have e:c=83:=by simpa using e
   subst e;exact Arx hl hx hn kV _ hK
  refine Aa (fun e=> ?_) fun _=> ?_
  ·have e:c=67:=by simpa using e
   subst e;exact Amo hl hx hn kV _ hK
  have ik:∀ds:List UInt8,ds.length<=1000->dg c x ds->B6 l ⟨((i+1:Nat):Int),true⟩ ds K:=fun ds hd hk=>Tg hl kV _ hs (fun _=>le_refl _) ds hd K fun r hr=>hK r (G0 hx hk hr)
  have eX:∀(d:UInt8) (n:Int),0<=n->(qb n.toNat=n->dg c x (replicate n.toNat d))->D5 l ⟨((i+1:Nat):Int),true⟩ [d] n K:=fun d n hn hk=>GK hl kV _ hs (fun _=>le_refl _) d n hn K fun r hr=>hK r (RX hl hx hk hn hr)
  obtain⟨op,name,n,kids,a⟩:=x;refine Aa (fun e=> ?_) fun _=> ?_
  ·have e:c=82:=by simpa using e
   subst e;refine⟨fun b=>b=true->op=33/\Tk.D7 name=true/\n=0/\(kids=0\/kids=1),Aa (fun e1=> ?_) fun _=>nofun,fun b hb=>Aa (fun e=> ?_) fun _=>trivial⟩
   ·have e1:op=33:=by simpa using e1
    refine Lf _ _ hn _ (Aa (fun e _=> ?_) fun _=>Lf _ _ hn _ fun e=> ?_)
    ·obtain⟨h1,h2,h3⟩:=K6 e;exact⟨e1,h1,h2,.inl h3⟩
    ·obtain⟨h1,h2,h3⟩:=K6 e;exact⟨e1,h1,h2,.inr h3⟩
   ·obtain⟨rfl,h1,rfl,h3⟩:=hb e;refine eX 69 kids (by rcases h3 with h|h<;>(rw [h];decide)) fun _=> ?_
    rcases h3 with rfl|rfl
    ·exact .z0 name a h1
    ·exact .z3 name a h1
  refine Aa (fun e=> ?_) fun _=> ?_
  ·have e:c=66:=by simpa using e
   subst e;refine⟨fun b=>b=true->op=32/\name=[]/\n=0/\0<=kids,Aa (fun e1=>Aa (fun e2=>Gz _ _ _ fun e=> ?_) fun _=>nofun) fun _=>nofun,fun b hb=>Aa (fun e=> ?_) fun _=>trivial⟩
   ·obtain⟨h1,h2,h3⟩:=Ez e;exact⟨by simpa using e1,h1,h2,by simpa using e2⟩
   ·obtain⟨rfl,rfl,rfl,h3⟩:=hb e;refine eX 83 kids h3 fun hw=> ?_
    have:=dg.block kids.toNat a
    rwa [hw]at this
  refine Aa (fun e=> ?_) fun _=> ?_
  ·have e:c=80:=by simpa using e
   subst e;refine⟨fun b=>b=true->op=39/\Tk.D7 name=true/\n=0/\kids=0,Aa (fun e1=>Lf _ _ hn _ fun e=> ?_) fun _=>nofun,fun b hb=>Aa (fun e=> ?_) fun _=>trivial⟩
   ·obtain⟨h1,h2,h3⟩:=K6 e;exact⟨by simpa using e1,h1,h2,h3⟩
   ·obtain⟨rfl,h1,rfl,rfl⟩:=hb e;exact hK _ (G0 hx (.param name a h1) hs)
  refine Aa (fun e=> ?_) fun _=> ?_
  ·have e:c=85:=by simpa using e
   subst e;refine⟨fun b=>b=true->op=42/\name=[]/\n=0/\0<=kids,Aa (fun e1=>Aa (fun e2=>Gz _ _ _ fun e=> ?_) fun _=>nofun) fun _=>nofun,fun b hb=>Aa (fun e=> ?_) fun _=>trivial⟩
   ·obtain⟨h1,h2,h3⟩:=Ez e;exact⟨by simpa using e1,h1,h2,by simpa using e2⟩
   ·obtain⟨rfl,rfl,rfl,h3⟩:=hb e;refine eX 68 kids h3 fun hw=> ?_
    have:=dg.unit kids.toNat a
    rwa [hw]at this
  refine Aa (fun e=> ?_) fun _=>trivial
  have e:c=68:=by simpa using e
  subst e;refine Aa (fun e1=> ?_) fun _=> ?_
  ·have e1:op=38:=by simpa using e1
   subst e1;refine⟨fun b=>b=true->Tk.D7 name=true/\kids=0/\0<=n/\n<=16,GC _ hn _ (Aa (fun e=>Aa (fun e2=>Aa (fun e3 e4=> ?_) fun _=>nofun) fun _=>nofun) fun _=>nofun),fun b hb=>Aa (fun e=> ?_) fun _=>trivial⟩
   ·exact⟨e,by simpa using e2,by simpa using e3,by simpa using e4⟩
   ·obtain⟨h1,rfl,h2,h3⟩:=hb e;exact hK _ (G0 hx (.chan name n a h1 h2 h3) hs)
  refine Aa (fun e1=> ?_) fun _=> ?_
  ·have e1:op=41:=by simpa using e1
   subst e1;refine Gz _ _ _ (Aa (fun e=>ik _ (by decide) ?_) fun _=>trivial);obtain⟨h1,h2,h3⟩:=Ez e;simp at h1 h2 h3;subst h1;subst h2;subst h3;exact .main a
  refine Aa (fun e1=> ?_) fun _=>trivial
  have e1:op=40:=by simpa using e1
  subst e1;refine⟨fun b=>b=true->Tk.D7 name=true/\n=0/\1<=kids,Aa (fun e2=>Lf _ _ hn _ fun e=> ?_) fun _=>nofun,fun b hb=>Aa (fun e=> ?_) fun _=>trivial⟩
  ·obtain⟨h1,h2,h3⟩:=K6 e;exact⟨h1,h2,by simpa using e2⟩
  ·obtain⟨h1,rfl,h3⟩:=hb e;have hkm:kids<=9223372036854775807:=mw;have z6:IntKind.i64.wrap (kids-1)=kids-1:=Au (by omega) (by omega);show D5 l _ [80] (IntKind.i64.wrap (kids-1)) _
   rw [z6];refine GK hl kV _ hs (fun _=>le_refl _) 80 (kids-1) (by omega) _ fun r hr=> ?_
   refine Tg hl kV r hr (fun ho=> ?_) [66] (by decide) K fun r2 du=>hK r2 (Z8 hx du.at_ fun ho=>⟨replicate (kids-1).toNat 80++[66],?_,?_⟩)
   ·obtain⟨_,j,hj,uB⟩:=hr.len ho;omega
   ·obtain⟨h5,_⟩:=du.len ho;simp only [nil_append,length_append,length_replicate,length_singleton]at h5;have:=dg.proc name (kids-1).toNat a h1;rw [Le (by omega),show(((kids-1).toNat+1:Nat):Int)=kids by omega]at this;exact this
   ·rw [nil_append]at du;exact du
end
end Go.Proofs.YtpdccfgpbkagcaaGreat
namespace Go.Tr
theorem RZ {l:List Int} {a b:Nat} (z7:a<b) (hb:b<Cf l a):Cf l b<=Cf l a:=by
 have xO:b<l.length:=Nat.lt_of_lt_of_le hb (Cd l a);have gU:a<l.length:=by omega
 have h1:=C8 l a;rw [Gb gU,Mz]at h1;have hs:l.drop b<:+l.drop (a+1):=by
  rw [show b=(a+1)+(b-(a+1)) by omega,←drop_drop];exact List.drop_suffix _ _
 obtain⟨d,hd,he⟩:=zV (l.drop (a+1)) (l.getD a 0).toNat (l.drop b) hs (by rw [←h1,length_drop,length_drop];omega);rw [←h1,show d=1+(d-1) by omega,Dy,←C8]at he;have h2:=congrArg List.length he;have h3:=Vd (l.drop (Cf l b)) (d-1);have h4:=Cd l a;have h5:=Cd l b;simp only [length_drop]at h2 h3;omega
theorem bh.within {l:List Int} {k j i:Nat} (h:bh l k j i):i<Cf l k:=by
 obtain⟨hk,hj,he,hi⟩:=h;have h1:=C8 l k;rw [Gb hk,Mz,show(l.getD k 0).toNat=j+((l.getD k 0).toNat-j) by omega,Dy,he]at h1;have h2:=zU (l.drop i) ((l.getD k 0).toNat-j) (by intro e;have:=congrArg List.length e;simp at this;omega) (by omega);have h3:=congrArg List.length h1;have h4:=Cd l k;simp only [length_drop]at h2 h3;omega
theorem bh.first {l:List Int} {k i:Nat} (h:bh l k 0 i):i=k+1:=by
 obtain⟨hk,_,he,hi⟩:=h;rw [Cz]at he;exact(D9 (by omega) (by omega) he).symm
theorem bh.next {l:List Int} {k j i i':Nat} (h:bh l k j i) (h':bh l k (j+1) i'):i'=Cf l i:=by
 obtain⟨hk,_,he,hi⟩:=h;obtain⟨_,_,eY,fh⟩:=h';rw [Dy,he,←C8]at eY;exact(D9 (Cd _ _) (by omega) eY).symm
theorem bh.last {l:List Int} {k j i:Nat} (h:bh l k j i) (hj:j+1=(l.getD k 0).toNat):Cf l i=Cf l k:=by
 obtain⟨hk,_,he,hi⟩:=h;have h1:=C8 l k;rw [Gb hk,Mz,←hj,Dy,he,←C8]at h1;exact(D9 (Cd _ _) (Cd _ _) h1).symm
theorem Z9 {l:List Int} {k:Nat} (hk:k<l.length) (h:(l.getD k 0).toNat=0):Cf l k=k+1:=by
 have h1:=C8 l k;rw [Gb hk,Mz,h,Cz]at h1;exact D9 (Cd _ _) (by omega) h1
def Sub (l:List Int) (u x:Nat):Prop:=u<=x/\x<Cf l u
theorem Sub.lz {l:List Int} {u x j y:Nat} (h:Sub l u x) (k:bh l x j y):Sub l u y:=by
 have h1:=k.ahead;have h2:=k.within;refine⟨by have:=h.1;omega,?_⟩;by_cases e:u=x
 ·subst e;exact h2
 ·have:=RZ (l:=l) (a:=u) (b:=x) (by have:=h.1;omega) h.2;omega
theorem Sub.up {l:List Int} {u x j y:Nat} (h:Sub l u y) (k:bh l x j y) (hn:u≠y):Sub l u x:=by
 have hux:u<y:=by have:=h.1;omega
 rcases lt_trichotomy u x with h1|h1|h1
 ·refine⟨by omega,?_⟩;have:=h.2;have:=k.ahead;omega
 ·subst h1;exact⟨Nat.le_refl _,by have:=h.2;omega⟩
 ·
  exfalso;obtain⟨hk,hj,he,hi⟩:=k;have hs:l.drop u<:+l.drop (x+1):=by
   rw [show u=(x+1)+(u-(x+1)) by omega,←drop_drop];exact List.drop_suffix _ _
  obtain⟨d,hd,tz⟩:=zV _ j _ hs (by rw [he];simp;omega);rw [he,show d=1+(d-1) by omega,Dy,←C8]at tz;have h3:=congrArg List.length tz;have h4:=Vd (l.drop (Cf l u)) (d-1);have h5:=h.2;have h6:=Cd l u;simp only [length_drop]at h3 h4;omega
theorem Sub.Bm3 {l:List Int} {u x:Nat} (h:Sub l u x):Cf l x<=Cf l u:=by
 by_cases e:u=x
 ·subst e;exact Nat.le_refl _
 ·exact RZ (by have:=h.1;omega) h.2
theorem Sub.Bo9 {l:List Int} {u x j y:Nat} (h:Sub l u y) (k:bh l x j y) (hn:u≠y):u<=x/\Cf l x<=Cf l u:=
 ⟨(h.up k hn).1,(h.up k hn).Bm3⟩
structure o5 (l:List Int) (de pa:Nat->Prop) (r i v:Nat):Prop where
 lo:r<=v
 lt:v<i
 de:de v
 th:pa v\/(Cf l v<=i/\∃u j,bh l u j v/\i<Cf l u)
section
variable {l:List Int} {de pa:Nat->Prop} {r:Nat}
structure Decls (l:List Int) (de pa:Nat->Prop):Prop where
 below:∀v y,de v->Sub l v y->y≠v->¬de y
 par:∀v,de v->pa v->Cf l v=v+1
theorem Apv (D:Decls l de pa) {i i':Nat} (hk:bh l i 0 i') {v:Nat} :o5 l de pa r i' v↔o5 l de pa r i v:=by
 have fh:=hk.first;subst fh;constructor
 ·intro h;by_cases hvi:v=i
  ·subst hvi;exfalso;have hw:=hk.within;rcases h.th with hp|⟨he,_⟩
   ·have:=D.par _ h.de hp;omega
   ·omega
  ·refine⟨h.lo,by have:=h.lt;omega,h.de,?_⟩;rcases h.th with hp|⟨he,u,j,hu,aE⟩
   ·exact .inl hp
   ·refine .inr ⟨?_,u,j,hu,by omega⟩;by_cases h1:Cf l v<=i
    ·exact h1
    ·exfalso;have hs:Sub l v i:=⟨by have:=h.lt;omega,by omega⟩
     have:=(hs.lz hk).2;omega
 ·intro h;refine⟨h.lo,by have:=h.lt;omega,h.de,?_⟩;rcases h.th with hp|⟨he,u,j,hu,aE⟩
  ·exact .inl hp
  ·have hs:Sub l u i:=⟨by have:=hu.ahead;have:=h.lt;omega,aE⟩
   exact .inr ⟨by omega,u,j,hu,(hs.lz hk).2⟩
theorem R_ (D:Decls l de pa) {p j k k':Nat} (hk:bh l p j k) (bZ:bh l p (j+1) k') {v:Nat} (hr:r<=p) (xR:∀y,Sub l k y->y≠k->¬pa y):o5 l de pa r k' v↔o5 l de pa r k v\/(v=k/\de k):=by
 have e:=hk.next bZ;have gw:k<l.length:=hk.2.2.2;have hgt:=Fl l k gw;constructor
 ·intro h;have hv:=h.lt;by_cases SA:v=k
  ·subst SA;exact .inr ⟨rfl,h.de⟩
  ·left;rcases Nat.lt_or_gt_of_ne SA with aE|aE
   ·refine⟨h.lo,aE,h.de,?_⟩;rcases h.th with hp|⟨he,u,j',hu,uu⟩
    ·exact .inl hp
    ·refine .inr ⟨?_,u,j',hu,by omega⟩;by_cases h1:Cf l v<=k
     ·exact h1
     ·exfalso;have hs:Sub l v k:=⟨by omega,by omega⟩
      have:=((hs.up hk (by omega)).lz bZ).2;omega
   ·exfalso;have hs:Sub l k v:=⟨by omega,by omega⟩
    rcases h.th with hp|⟨he,u,j',hu,uu⟩
    ·exact xR v hs (by omega) hp
    ·have:=(hs.Bo9 hu (by omega)).2;omega
 ·rintro(h|⟨rfl,hd⟩)
  ·refine⟨h.lo,by have:=h.lt;omega,h.de,?_⟩;rcases h.th with hp|⟨he,u,j',hu,aE⟩
   ·exact .inl hp
   ·have hs:Sub l u k:=⟨by have:=hu.ahead;have:=h.lt;omega,aE⟩
    by_cases SB:u=k
    ·exfalso;subst SB;have:=hu.ahead;have:=h.lt;omega
    ·exact .inr ⟨by omega,u,j',hu,((hs.up hk SB).lz bZ).2⟩
  ·refine⟨by have:=hk.ahead;omega,by omega,hd,?_⟩;exact .inr ⟨by omega,p,j,hk,bZ.within⟩
end
section
variable {κ:Type} {nm:Nat->κ} {num:Nat->Int}
def Env (nm:Nat->κ) (num:Nat->Int) (S:Nat->Prop) (m:κ->Option Int):Prop:=∀s,(∀v,S v->nm v=s->m s=some (num v))/\((∀v,S v->nm v≠s)->m s=none)
theorem Env.congr {S S':Nat->Prop} {m:κ->Option Int} (h:Env nm num S m) (e:∀v,S' v↔S v):Env nm num S' m:=fun s=>
 ⟨fun v hv=>(h s).1 v ((e v).1 hv),fun hn=>(h s).2 fun v hv=>hn v ((e v).2 hv)⟩
variable [DecidableEq κ]
def sc (m:κ->Option Int) (s:κ) (n:Int):κ->Option Int:=fun t=>if t=s then some n else m t
def xT (m:κ->Option Int) (s:κ):κ->Option Int:=fun t=>if t=s then none else m t
theorem Env.put {S S':Nat->Prop} {m:κ->Option Int} {k:Nat} (h:Env nm num S m) (hn:∀u,S u->nm u≠nm k) (e:∀v,S' v↔S v\/v=k):Env nm num S' (sc m (nm k) (num k)):=fun s=>by
 unfold sc;refine⟨fun v hv hs=> ?_,fun bV=> ?_⟩
 ·rcases(e v).1 hv with h1|rfl
  ·rw [if_neg (fun e=>hn v h1 (hs.trans e))];exact(h s).1 v h1 hs
  ·rw [if_pos hs.symm]
 ·rw [if_neg (fun e'=>bV k ((e k).2 (.inr rfl)) e'.symm)];exact(h s).2 fun v hv=>bV v ((e v).2 (.inl hv))
def Rq (m:κ->Option Int) (l:List κ):κ->Option Int:=l.foldl xT m
theorem Apw (l:List κ) (m:κ->Option Int) (s:κ):Rq m l s=if s∈l then none else m s:=by
 induction l generalizing m with
 |nil=>simp [Rq]
 |cons a l ih=>
  show Rq (xT m a) l s=_
  rw [ih];unfold xT;by_cases h1:s∈l
  ·simp [h1]
  ·by_cases h2:s=a
   ·simp [h2]
   ·simp [h1,h2]
theorem Env.del {S S':Nat->Prop} {M:List Nat} {m:κ->Option Int} (h:Env nm num S' m) (e:∀v,S' v↔S v\/v∈M) (hd:∀u,S u->∀v∈M,nm u≠nm v):Env nm num S (Rq m (M.map nm)):=fun s=>by
 rw [Apw];refine⟨fun v hv hs=> ?_,fun bV=> ?_⟩
 ·rw [if_neg (fun hm=>by
   obtain⟨u,hu,he⟩:=mem_map.1 hm;exact hd v hv u hu (hs.trans he.symm))]
  exact(h s).1 v ((e v).2 (.inl hv)) hs
 ·by_cases hm:s∈M.map nm
  ·rw [if_pos hm]
  ·rw [if_neg hm];refine(h s).2 fun v hv he=> ?_
   rcases(e v).1 hv with h1|h1
   ·exact bV v h1 he
   ·exact hm (mem_map.2 ⟨v,h1,he⟩)
end
section
variable {l:List Int} {de pa:Nat->Prop} {r:Nat}
theorem SC (D:Decls l de pa) {i v1 v2:Nat} (h1:o5 l de pa r i v1) (h2:o5 l de pa r i v2) (aE:v1<v2):o5 l de pa r v2 v1:=by
 refine⟨h1.lo,aE,h1.de,?_⟩;rcases h1.th with hp|⟨he,u,j,hu,hi⟩
 ·exact .inl hp
 ·refine .inr ⟨?_,u,j,hu,by have:=h2.lt;omega⟩;by_cases hh:Cf l v1<=v2
  ·exact hh
  ·exact absurd h2.de (D.below v1 v2 h1.de ⟨by omega,by omega⟩ (by omega))
theorem Apx (D:Decls l de pa) {κ:Type} {nm:Nat->κ} {i:Nat} (bV:∀v,v<i->de v->r<=v->∀u,o5 l de pa r v u->nm u≠nm v) {v1 v2:Nat} (h1:o5 l de pa r i v1) (h2:o5 l de pa r i v2) (hn:nm v1=nm v2):v1=v2:=by
 rcases lt_trichotomy v1 v2 with h|h|h
 ·exact absurd hn (bV v2 h2.lt h2.de h2.lo v1 (SC D h1 h2 h))
 ·exact h
 ·exact absurd hn.symm (bV v1 h1.lt h1.de h1.lo v2 (SC D h2 h1 h))
end
def er (de:Nat->Prop) [DecidablePred de] (r:Nat):Nat->Nat
 |0=>0|i+1=>er de r i+if r<=i/\de i then 1 else 0
section
variable {de:Nat->Prop} [DecidablePred de] {r:Nat}
theorem GL (i:Nat):er de r i<=i:=by
 induction i with
 |zero=>exact Nat.le_refl _
 |succ i ih=>rw [er];split<;>omega
theorem z8 (i:Nat) (h:i<=r):er de r i=0:=by
 induction i with
 |zero=>rfl
 |succ i ih=>rw [er,ih (by omega),if_neg (by omega)]
end
end Go.Tr
namespace Go.Proofs.YtpdccfgpbkagcaaGreat
open Go.Vc Go.Lv Go.Ty Go.Tr Go.Tk
def Ki (op:Int):UInt8:=
 if op<=17 then 69 else if op<=31 then 83 else if op=32 then 66 else if op=33 then 82 else if op<=37 then 67 else if op=39 then 80 else if op<=41 then 68 else 85
theorem SD {c:UInt8} {x:Ag} {ds:List UInt8} (h:dg c x ds):c=Ki x.op:=by
 cases h with
 |un op a h=>rcases h with rfl|rfl<;>rfl
 |bin op a h1 h2=>unfold Ki;rw [if_pos h2]
 |set op s a h=>rcases h with rfl|rfl|rfl<;>rfl
 |one op a h=>rcases h with rfl|rfl|rfl<;>rfl
 |none op a h=>rcases h with rfl|rfl<;>rfl
 |clause op s a w ds h=>rcases h with⟨rfl,_⟩|⟨rfl,_⟩|⟨rfl,_⟩<;>rfl
 |_=>rfl
structure Node (l:List Ag) (q:Nat) (x:Ag) (ds:List UInt8):Prop where
 at_:l[q]? =some x
 ok:dg (Ki x.op) x ds
 kids:x.kids=(ds.length:Int)
 lz:∀(j:Nat) (d:UInt8),ds[j]? =some d->∃(i':Nat) (y:Ag),bh (ks l) q j i'/\l[i']? =some y/\Ki y.op=d
theorem Ar0 {α:Type} {l a b:List α} {p:Nat} (h:l.drop p=a++b):l.drop (p+a.length)=b:=by
 rw [←drop_drop,h,List.drop_left]
theorem Ar1 {l:List Ag} (hl:l.length<2^39) {cs:List UInt8} {f:Fo} (h:kT cs f):∀(p:Nat) (post:List Ag),l.drop p=f.flat++post->eL cs.length ((ks l).drop p)=(ks l).drop (p+f.flat.length)/\(∀(j:Nat) (d:UInt8),cs[j]? =some d->∃(i':Nat) (y:Ag),eL j ((ks l).drop p)=(ks l).drop i'/\i'<p+f.flat.length/\l[i']? =some y/\Ki y.op=d)/\(∀q,p<=q->q<p+f.flat.length->∃x ds,Node l q x ds):=by
 induction h with
 |nil=>
  intro p post _;refine⟨by simp [Cz,Fo.flat],fun j d h=>by simp at h,fun q h1 h2=> ?_⟩;simp [Fo.flat]at h2;omega
 |@cons c x ds cs a b ho ha hb nx m8=>
  intro p post hd;have xU:(Fo.cons x a b).flat=x::(a.flat++b.flat):=rfl;rw [xU]at hd⊢;rw [List.cons_append,append_assoc]at hd;have l0:p<l.length:=by
   have:=congrArg List.length hd;rw [length_drop]at this;simp at this;omega
  have hx:l[p]? =some x:=by
   have:(l.drop p)[0]? =some x:=by rw [hd];rfl
   rwa [List.getElem?_drop,Nat.add_zero]at this
  have wq:l.drop (p+1)=a.flat++(b.flat++post):=by rw [←drop_drop,hd];rfl
  have hlen:=congrArg List.length wq;rw [length_drop,length_append]at hlen;have RY:ds.length<=a.flat.length:=X5 ha;have hk:=GB ho (by omega);obtain⟨a1,a2,a3⟩:=nx (p+1) _ wq;obtain⟨b1,b2,b3⟩:=m8 (p+1+a.flat.length) post (Ar0 wq);have eO:eL 1 ((ks l).drop p)=(ks l).drop (p+1+a.flat.length):=by
   rw [FT hx,Mz,hk,toNat_natCast];exact a1
  simp only [length_cons,length_append];refine⟨?_,fun j d hj=> ?_,fun q h1 h2=> ?_⟩
  ·rw [Nat.add_comm cs.length 1,Dy,eO,b1];congr 1;omega
  ·cases j with
   |zero=>
    simp only [List.getElem?_cons_zero,Option.some.injEq]at hj;exact⟨p,x,Cz _,by omega,hx,by rw [←SD ho];exact hj⟩
   |succ j=>
    rw [List.getElem?_cons_succ]at hj;obtain⟨i',y,h1,h2,h3,h4⟩:=b2 j d hj;exact⟨i',y,by rw [Nat.add_comm j 1,Dy,eO];exact h1,by omega,h3,h4⟩
  ·by_cases e:q=p
   ·subst e;refine⟨x,ds,hx,by rw [←SD ho];exact ho,hk,fun j d hj=> ?_⟩;obtain⟨i',y,g1,g2,g3,g4⟩:=a2 j d hj;have u9:=(List.getElem?_eq_some_iff.1 hj).1;refine⟨i',y,⟨by rw [A9];exact l0,by rw [H8 hx,hk,toNat_natCast];exact u9,g1,?_⟩,g3,g4⟩;rw [A9];exact(List.getElem?_eq_some_iff.1 g3).1
   ·by_cases e2:q<p+1+a.flat.length
    ·exact a3 q (by omega) e2
    ·exact b3 q (by omega) (by omega)
theorem Ar2 {cs:List UInt8} {f:Fo} (h:kT cs f) (hl:f.flat.length<2^39):∀(n:Nat) (r:List Int),Oy n r->Oy (n+cs.length) (f.flat.map (·.kids)++r):=by
 induction h with
 |nil=>intro n r h;exact h
 |@cons c x ds cs a b ho ha hb nx m8=>
  intro n r h;have xU:(Fo.cons x a b).flat=x::(a.flat++b.flat):=rfl;rw [xU]at hl⊢;rw [length_cons,length_append]at hl;have RY:ds.length<=a.flat.length:=X5 ha;have hk:=GB ho (by omega);rw [length_cons,map_cons,List.map_append,List.cons_append,append_assoc,show n+(cs.length+1)=(n+cs.length)+1 by omega,Z5,hk,toNat_natCast];exact⟨by omega,nx (by omega) _ _ (m8 (by omega) _ _ h)⟩
structure Unit (l:List Ag):Prop where
 len:l.length<=100000
 pos:0<l.length
 root:∃x ds,Node l 0 x ds/\x.op=42
 node:∀q,q<l.length->∃x ds,Node l q x ds
 ex:Oy 1 (ks l)
theorem Au1 {l:List Ag} {f:Fo} (hf:f.flat=l) (hw:kT [85] f) (hl:l.length<=100000):Unit l:=by
 subst hf;have hp:=X5 hw;simp only [length_singleton]at hp;obtain⟨h1,h2,h3⟩:=Ar1 (l:=f.flat) (by omega) hw 0 [] (by simp);have he:=Ar2 hw (by omega) 0 [] (by rw [Z4]);rw [append_nil]at he;refine⟨hl,hp,?_,fun q hq=>h3 q (by omega) (by omega),he⟩;obtain⟨i',y,g1,g2,g3,g4⟩:=h2 0 85 rfl;rw [Cz]at g1;have:i'=0:=by
  have:=congrArg List.length g1;simp only [length_drop,A9]at this;omega
 subst this;obtain⟨x,ds,hn⟩:=h3 0 (by omega) (by omega);refine⟨x,ds,hn,?_⟩;have u_:x=y:=Option.some.inj (hn.at_.symm.trans g3);subst u_;have ho:=hn.ok;rw [g4]at ho;cases ho with
 |unit=>rfl
theorem Ar3 {l:List Ag} (hl:l.length<=100000) (fD:∀x∈l,x.name.length<2^63/\x.kids<=9223372036854775807) (K:C1->Prop) (h1:(∃f:Fo,f.flat=l/\kT [85] f)->K ⟨0,0⟩) (h2:∀a,K ⟨a,3⟩):Oi l K:=by
 refine Zm _ _ (Apu hl fD l.length 0 (by omega) 85 _ fun r hr=> ?_);refine⟨fun b=>b=true->∃f:Fo,f.flat=l/\kT [85] f,Aa (fun e e2=> ?_) fun _=>nofun,fun b hb=> ?_⟩
 ·obtain⟨f,j,h1,h2,h3,h4⟩:=hr.ok e;have:r.at_=(l.length:Int):=by simpa using e2
  have:j=l.length:=by omega
  subst this;rw [List.drop_length,append_nil,List.drop_zero]at h3;exact⟨f,h3.symm,h2⟩
 ·exact Aa (fun e=>h1 (hb e)) fun e=>h2 _
section
variable {l:List Ag} (U:Unit l)
theorem Au2 {q j i:Nat} {x y:Ag} {ds:List UInt8} (hn:Node l q x ds) (hk:bh (ks l) q j i) (hy:l[i]? =some y):ds[j]? =some (Ki y.op):=by
 have hj:j<ds.length:=by
  have:=hk.2.1;rw [H8 hn.at_,hn.kids,toNat_natCast]at this;exact this
 obtain⟨i',y',h1,h2,h3⟩:=hn.lz j _ (getElem?_eq_getElem hj);have hi:i=i':=by
  have e:=hk.2.2.1.symm.trans h1.2.2.1;exact D9 (by have:=hk.2.2.2;omega) (by have:=h1.2.2.2;omega) e
 subst hi;rw [h2]at hy;cases hy
 rw [getElem?_eq_getElem hj,h3]
include U
theorem xV {i:Nat} (hi:i<l.length) (h0:0<i):∃k j,bh (ks l) k j i:=Ark U.ex (by rw [A9];exact hi) h0
end
def Az (l:List Ag) (v:Nat):Int:=(l[v]?.map (·.op)).getD 0
def Di (l:List Ag) (v:Nat):List UInt8:=(l[v]?.map (·.name)).getD []
theorem Bb {l:List Ag} {v:Nat} {x:Ag} (h:l[v]? =some x):Az l v=x.op:=by simp [Az,h]
theorem G1 {l:List Ag} {v:Nat} {x:Ag} (h:l[v]? =some x):Di l v=x.name:=by simp [Di,h]
def bU (l:List Ag) (v:Nat):Prop:=Az l v=39\/Az l v=18
def iC (l:List Ag) (v:Nat):Prop:=Az l v=39
instance (l:List Ag):DecidablePred (bU l):=fun v=>by unfold bU;infer_instance
instance (l:List Ag):DecidablePred (iC l):=fun v=>by unfold iC;infer_instance
instance (l:List Int) (u x:Nat):Decidable (Tr.Sub l u x):=by unfold Tr.Sub;infer_instance
theorem Bt {α:Type} {l:List α} {d:Nat} {x:α} {A:α->Prop} (hd:l[d]? =some x) (h:A x):((0:Int)<=(d:Int)/\(d:Int)<(l.length:Int))/\∀y,l[(d:Int).toNat]? =some y->A y:=
 ⟨⟨by omega,by have:=(List.getElem?_eq_some_iff.1 hd).1;omega⟩,fun y hy=>by
   rw [toNat_natCast,hd]at hy;cases hy;exact h⟩
theorem SE {op:Int} (h:Ki op=69):op<=17:=by
 unfold Ki at h;split at h
 ·assumption
 ·exfalso;revert h
  repeat' split
  all_goals decide
theorem Azc {op:Int} (h:Ki op=68):38<=op/\op<=41/\op≠39:=by
 unfold Ki at h;by_cases h1:op<=17
 ·rw [if_pos h1]at h;exact absurd h (by decide)
 rw [if_neg h1]at h;by_cases h2:op<=31
 ·rw [if_pos h2]at h;exact absurd h (by decide)
 rw [if_neg h2]at h;by_cases h3:op=32
 ·rw [if_pos h3]at h;exact absurd h (by decide)
 rw [if_neg h3]at h;by_cases h4:op=33
 ·rw [if_pos h4]at h;exact absurd h (by decide)
 rw [if_neg h4]at h;by_cases h5:op<=37
 ·rw [if_pos h5]at h;exact absurd h (by decide)
 rw [if_neg h5]at h;by_cases h6:op=39
 ·rw [if_pos h6]at h;exact absurd h (by decide)
 rw [if_neg h6]at h;by_cases h7:op<=41
 ·omega
 ·rw [if_neg h7]at h;exact absurd h (by decide)
theorem GM {op:Int} (h:Ki op≠80/\Ki op≠68/\Ki op≠85):op<=37:=by
 unfold Ki at h;by_cases h5:op<=37
 ·exact h5
 exfalso;rw [if_neg (by omega),if_neg (by omega),if_neg (by omega),if_neg (by omega),if_neg h5]at h;by_cases h6:op=39
 ·rw [if_pos h6]at h;exact h.1 rfl
 rw [if_neg h6]at h;by_cases h7:op<=41
 ·rw [if_pos h7]at h;exact h.2.1 rfl
 ·rw [if_neg h7]at h;exact h.2.2 rfl
theorem Au3 {c:UInt8} {x:Ag} {ds:List UInt8} (h:dg c x ds) (hc:x.op<=18):∀d∈ds,d=69:=by
 cases h with
 |un=>intro d hd;simpa using hd
 |bin=>intro d hd;simpa using hd
 |set=>intro d hd;simpa using hd
 |num=>intro d hd;cases hd
 |name=>intro d hd;cases hd
 |one op a h=>rcases h with rfl|rfl|rfl<;>(simp at hc)
 |none op a h=>rcases h with rfl|rfl<;>(simp at hc)
 |clause op s a w ds h=>rcases h with⟨rfl,_⟩|⟨rfl,_⟩|⟨rfl,_⟩<;>(simp at hc)
 |_=>simp at hc
theorem SF {c:UInt8} {x:Ag} {ds:List UInt8} (h:dg c x ds) (hc:x.op<=37\/x.op=39):∀d∈ds,d≠80/\d≠68/\d≠85:=by
 have key:∀ {ds:List UInt8},(∀d∈ds,d=69\/d=83\/d=66\/d=82\/d=67)->∀d∈ds,d≠80/\d≠68/\d≠85:=by
  intro ds h d hd;rcases h d hd with rfl|rfl|rfl|rfl|rfl<;>decide
 cases h with
 |unit=>simp at hc
 |main=>simp at hc
 |proc=>simp at hc
 |chan=>simp at hc
 |clause op s a w ds h=>
  apply key;intro d hd;rcases mem_append.1 hd with hd|hd
  ·cases w<;>simp at hd
   exact .inl hd
  ·rcases h with⟨_,_,rfl⟩|⟨_,_,rfl⟩|⟨_,_,rfl⟩<;>(simp at hd;rcases hd with rfl|rfl|rfl<;>decide)
 |zY k a h=>exact key fun d hd=>by have:=List.eq_of_mem_replicate hd;subst this;decide
 |start s k a h=>exact key fun d hd=>by have:=List.eq_of_mem_replicate hd;subst this;decide
 |block k a=>exact key fun d hd=>by have:=List.eq_of_mem_replicate hd;subst this;decide
 |_=>exact key (by simp)
theorem Au4 {c:UInt8} {x:Ag} {ds:List UInt8} (h:dg c x ds) (hc:x.op=39):ds=[]:=by
 cases h with
 |param=>rfl
 |un op a h=>rcases h with rfl|rfl<;>(simp at hc)
 |bin op a h1 h2=>simp only at hc;omega
 |set op s a h=>rcases h with rfl|rfl|rfl<;>(simp at hc)
 |one op a h=>rcases h with rfl|rfl|rfl<;>(simp at hc)
 |none op a h=>rcases h with rfl|rfl<;>(simp at hc)
 |clause op s a w ds h=>rcases h with⟨rfl,_⟩|⟨rfl,_⟩|⟨rfl,_⟩<;>(simp at hc)
 |_=>simp at hc
section
variable {l:List Ag}
theorem GN (U:Unit l) {v:Nat} (P:Nat->Prop) (h0:∀j y,bh (ks l) v j y->P y) (h1:∀u j y,P u->bh (ks l) u j y->P y):∀y,Sub (ks l) v y->y≠v->P y:=by
 intro y
 induction y using Nat.strongRecOn with
 |_ y ih=>
  intro hs bA;have hy:y<l.length:=by have h1:=hs.2;have h2:=Cd (ks l) v;rw [A9]at h2;omega
  have h0y:0<y:=by have:=hs.1;omega
  obtain⟨u,j,hk⟩:=xV U hy h0y;have hu:=hs.up hk (Ne.symm bA);by_cases e:u=v
  ·subst e;exact h0 j y hk
  ·exact h1 u j y (ih u hk.ahead hu e) hk
theorem Oz (U:Unit l) {q j i:Nat} (hk:bh (ks l) q j i):∃x ds y,Node l q x ds/\l[i]? =some y/\ds[j]? =some (Ki y.op):=by
 have hq:=hk.1;have hi:=hk.2.2.2;rw [A9]at hq hi;obtain⟨x,ds,hn⟩:=U.node q hq;exact⟨x,ds,l[i],hn,getElem?_eq_getElem hi,Au2 hn hk (getElem?_eq_getElem hi)⟩
theorem Ar5 (U:Unit l) {v:Nat} (hv:Az l v<=18):∀y,Sub (ks l) v y->y≠v->Az l y<=17:=by
 have step:∀u j y,Az l u<=18->bh (ks l) u j y->Az l y<=17:=by
  intro u j y hu hk;obtain⟨x,ds,z,hn,hz,hd⟩:=Oz U hk;rw [Bb hn.at_]at hu;rw [Bb hz];exact SE (Au3 hn.ok hu _ (mem_of_getElem? hd))
 exact GN U (fun y=>Az l y<=17) (fun j y hk=>step v j y hv hk) fun u j y hu hk=>step u j y (by omega) hk
theorem SG (U:Unit l) {v:Nat} (hv:Az l v<=37\/Az l v=39):∀y,Sub (ks l) v y->y≠v->Az l y<=37:=by
 have step:∀u j y,(Az l u<=37\/Az l u=39)->bh (ks l) u j y->Az l y<=37:=by
  intro u j y hu hk;obtain⟨x,ds,z,hn,hz,hd⟩:=Oz U hk;rw [Bb hn.at_]at hu;rw [Bb hz];exact GM (SF hn.ok hu _ (mem_of_getElem? hd))
 exact GN U (fun y=>Az l y<=37) (fun j y hk=>step v j y hv hk) fun u j y hu hk=>step u j y (.inl hu) hk
theorem GQ (U:Unit l) {v:Nat} (hv:Az l v=39):Cf (ks l) v=v+1:=by
 have hl:v<l.length:=by
  rcases lt_or_ge v l.length with h|h
  ·exact h
  ·rw [Az,getElem?_eq_none h]at hv;exact absurd hv (by decide)
 obtain⟨x,ds,hn⟩:=U.node v hl;rw [Bb hn.at_]at hv;have hd:=Au4 hn.ok hv;refine Z9 (by rw [A9];exact hl) ?_;rw [H8 hn.at_,hn.kids,hd];rfl
theorem Th (U:Unit l):Decls (ks l) (bU l) (iC l):=by
 refine⟨fun v y hd hs bA hy=> ?_,fun v _ hp=>GQ U hp⟩;have hl:v<l.length:=by
  have h1:=hs.1;have h2:=hs.2;have h3:=Cd (ks l) v;rw [A9]at h3;omega
 rcases hd with hd|hd
 ·have:=GQ U hd;have h1:=hs.1;have h2:=hs.2;omega
 ·have:=Ar5 U (by omega) y hs bA;rcases hy with hy|hy<;>omega
theorem Ti {q j j' i i':Nat} (h:bh (ks l) q j i) (h':bh (ks l) q j' i') (hj:j<j'):i<i':=by
 have e:=h'.2.2.1;rw [show j'=j+(j'-j) by omega,Dy,h.2.2.1]at e;have h2:=zU ((ks l).drop i) (j'-j) (by intro e';have h1:=congrArg List.length e';have h3:=h.2.2.2;rw [length_drop,length_nil]at h1;omega) (by omega);rw [e,length_drop,length_drop]at h2;have:=h'.2.2.2;omega
theorem xW (U:Unit l) {q:Nat} {x:Ag} {ds:List UInt8} (hn:Node l q x ds):(Ar l q).length=ds.length/\∀j,j<ds.length->∃i:Nat,(Ar l q)[j]? =some (i:Int)/\bh (ks l) q j i:=by
 have hq:q<l.length:=(List.getElem?_eq_some_iff.1 hn.at_).1;have e:Ar l q=Ea (ks l) ds.length (q+1):=by
  unfold Ar M6;rw [if_pos (by omega),toNat_natCast,if_pos (by rw [A9];exact hq),H8 hn.at_,hn.kids,toNat_natCast]
 have hg:∀j,j<ds.length->∃i:Nat,(Ar l q)[j]? =some (i:Int)/\bh (ks l) q j i:=by
  intro j hj;obtain⟨i,y,hk,hy,_⟩:=hn.lz j _ (getElem?_eq_getElem hj);refine⟨i,?_,hk⟩;have hi:=hk.2.2.2;rw [e,Ve,hk.2.2.1,if_pos ⟨hj,by intro e';have:=congrArg List.length e';simp at this;omega⟩,length_drop];congr 2;omega
 refine⟨?_,hg⟩;apply Nat.le_antisymm
 ·rcases lt_or_ge ds.length (Ar l q).length with h|h
  ·have h1:(Ar l q)[ds.length]? =none:=by rw [e,Ve,if_neg (by omega)]
   rw [getElem?_eq_getElem h]at h1;cases h1
  ·exact h
 ·rcases lt_or_ge (Ar l q).length ds.length with h|h
  ·obtain⟨i,h1,_⟩:=hg _ h;rw [getElem?_eq_none (Nat.le_refl _)]at h1;cases h1
  ·exact h
theorem Gc (U:Unit l) {q:Nat} (hq:q<l.length) {j:Nat} (hj:j<(Ar l q).length):∃(i:Nat) (x:Ag),(Ar l q)[j]=(i:Int)/\bh (ks l) q j i/\l[i]? =some x:=by
 obtain⟨x,ds,hn⟩:=U.node q hq;obtain⟨h1,h2⟩:=xW U hn;obtain⟨i,h3,h4⟩:=h2 j (by omega);have hi:=h4.2.2.2;rw [A9]at hi;exact⟨i,l[i],Option.some.inj ((getElem?_eq_getElem hj).symm.trans h3),h4,getElem?_eq_getElem hi⟩
theorem Ec (U:Unit l) {q j i:Nat} (h:bh (ks l) q j i):∃hj:j<(Ar l q).length,(Ar l q)[j]=(i:Int):=by
 have hq:=h.1;rw [A9]at hq;obtain⟨x,ds,hn⟩:=U.node q hq;obtain⟨h1,h2⟩:=xW U hn;have hj:j<ds.length:=by
  have:=h.2.1;rw [H8 hn.at_,hn.kids,toNat_natCast]at this;exact this
 obtain⟨i',h3,h4⟩:=h2 j hj;have:i=i':=D9 (by have:=h.2.2.2;omega) (by have:=h4.2.2.2;omega) (h.2.2.1.symm.trans h4.2.2.1);subst this;exact⟨by omega,Option.some.inj ((getElem?_eq_getElem (by omega)).symm.trans h3)⟩
theorem O0 (U:Unit l) {j d:Nat} (h:bh (ks l) 0 j d):Az l d=38\/Az l d=40\/Az l d=41:=by
 obtain⟨x,ds,y,hn,hy,hd⟩:=Oz U h;obtain⟨x',bJ,jD,ho⟩:=U.root;have e1:x=x':=Option.some.inj (hn.at_.symm.trans jD.at_);subst e1;have eB:=hn.ok;rw [Bb hy];have h68:Ki y.op=68:=by
  have hm:=mem_of_getElem? hd
  revert eB
  generalize Ki x.op=c;intro eB;cases eB with
  |unit k a=>exact List.eq_of_mem_replicate hm
  |un op a h=>rcases h with rfl|rfl<;>(simp at ho)
  |bin op a h1 h2=>simp only at ho;omega
  |set op s a h=>rcases h with rfl|rfl|rfl<;>(simp at ho)
  |one op a h=>rcases h with rfl|rfl|rfl<;>(simp at ho)
  |none op a h=>rcases h with rfl|rfl<;>(simp at ho)
  |clause op s a w ds h=>rcases h with⟨rfl,_⟩|⟨rfl,_⟩|⟨rfl,_⟩<;>(simp at ho)
  |_=>simp at ho
 have:=Azc h68;omega
def tH (x:Ag):List UInt8:=if x.op=41 then [109,97,105,110]else x.name
def Cm (l:List Ag) (d:Nat):List UInt8:=if Az l d=41 then [109,97,105,110]else Di l d
theorem Tj {d:Nat} {x:Ag} (h:l[d]? =some x):Cm l d=tH x:=by unfold Cm tH;rw [Bb h,G1 h]
theorem X6 (x:Ag) (K:List UInt8->Prop) (h:K (tH x)):Hc x K:=by
 unfold tH at h;refine Ab9 _ _ (Aa (fun hc=> ?_) fun hc=> ?_)
 ·rwa [if_pos (by simpa using hc)]at h
 ·rwa [if_neg (by simpa using hc)]at h
theorem GR (x:Ag) (K:Bool->Prop) (h:K (decide (x.op=39\/x.op=18))):Fe x K:=by
 refine S7 _ _ (Aa (fun hc=> ?_) fun hc=> ?_)
 ·have hc:x.op=39:=by simpa using hc
  rwa [show decide (x.op=39\/x.op=18)=true by simp [hc]]at h
 ·have hc:¬x.op=39:=by simpa using hc
  rwa [show decide (x.op=39\/x.op=18)=(x.op==18) by rw [Bool.eq_iff_iff];simp [hc]]at h
theorem GU (hl:l.length<=100000) (r i:Nat) (hr:r<=i) (hi:i<=l.length) (K:Int->Prop) (h:K ((er (bU l) r i:Nat):Int)):Gu l r i K:=by
 refine Xn _ _ _ _ ⟨fun n v m=>∃a:Nat,v=a/\r<=a/\a<=i/\n=((er (bU l) r a:Nat):Int)/\i-a=m,⟨_,r,rfl,Nat.le_refl _,hr,by rw [z8 _ (Nat.le_refl _)];rfl,rfl⟩,?_⟩;rintro _ _ _ ⟨a,rfl,ha,hai,rfl,rfl⟩;have hle:=GL (de:=bU l) (r:=r) a;refine Aa (fun hc=> ?_) fun hc=> ?_
 ·have hc:a<i:=by simpa using hc
  have gU:a<l.length:=by omega
  have hx:=getElem?_eq_getElem gU;refine⟨fun n=>n=((er (bU l) r (a+1):Nat):Int),Bt hx (GR _ _ (Aa (fun hd=> ?_) fun hd=> ?_)),?_⟩
  ·have hd:=of_decide_eq_true hd;have:bU l a:=by unfold bU;rw [Bb hx];exact hd
   rw [er,if_pos ⟨ha,this⟩,Au (by omega) (by omega)];omega
  ·have hd:=of_decide_eq_false hd;have:¬bU l a:=by unfold bU;rw [Bb hx];exact hd
   rw [er,if_neg (fun h=>this h.2)];rfl
  rintro _ rfl;exact⟨i-(a+1),by omega,a+1,by rw [Au (by omega) (by omega)];omega,by omega,by omega,rfl,rfl⟩
 ·have:a=i:=by simp at hc;omega
  subst this;exact h
def SH (l:List Ag) (i:Nat) (r:Int):Prop:=(r= -1/\∀j d,bh (ks l) 0 j d->Az l d≠38->¬Sub (ks l) d i)\/∃j d:Nat,r=d/\bh (ks l) 0 j d/\Az l d≠38/\Sub (ks l) d i
theorem Tl {d:Nat} (h:d<l.length):Vg l (d:Int)=(Cf (ks l) d:Nat):=by
 unfold Vg;rw [if_pos ⟨by omega,by omega⟩,toNat_natCast]
theorem z9 (U:Unit l) (i:Nat) (K:Int->Prop) (h:∀r,SH l i r->K r):Es l i K:=by
 have hlen:=Eb l 0;have my:=U.len;refine U3 _ _ _ (We l 0 U.len _ ⟨fun k n=>At (Ar l 0).length (fun k=>∀j d,j<k->bh (ks l) 0 j d->Az l d≠38->¬Sub (ks l) d i) k n,⟨_,At.start (fun j d hj=>absurd hj (not_lt_zero _))⟩,?_⟩);rintro _ _ ⟨k,rfl,hk,rfl,bV⟩;refine At.cond hk (fun hk=> ?_) fun hk=> ?_
 ·obtain⟨d,x,he,cm,hx⟩:=Gc U U.pos hk;have cz:d<l.length:=(List.getElem?_eq_some_iff.1 hx).1;refine⟨fun b=>b=decide (Az l d≠38/\Sub (ks l) d i),?_,?_⟩
  ·refine Df hk ?_;have eY:(Ar l 0)[k]=((d:Nat):Int):=he;rw [eY];refine Bt hx (Aa (fun hc=> ?_) fun hc=> ?_)
   ·have hc:Az l d≠38:=by rw [Bb hx];simpa using hc
    refine Df hk ?_;rw [eY];refine Aa (fun hd=> ?_) fun hd=> ?_
    ·have hd:d<=i:=by simpa using hd
     refine Df hk ?_;rw [eY];refine xM l d U.len _ ?_;rw [Tl cz];show decide _=decide _
     rw [Bool.eq_iff_iff,decide_eq_true_eq,decide_eq_true_eq];unfold Tr.Sub;constructor
     ·intro h;exact⟨hc,hd,by omega⟩
     ·intro h;have:=h.2.2;omega
    ·have hd:¬d<=i:=by simpa using hd
     show false=decide _
     rw [decide_eq_false];rintro⟨_,h⟩;exact hd h.1
   ·have hc:Az l d=38:=by rw [Bb hx];simpa using hc
    show false=decide _
    rw [decide_eq_false];rintro⟨h,_⟩;exact h hc
  ·rintro _ rfl;refine Aa (fun hc=>Df hk ?_) fun hc=>At.next (by omega) hk ?_
   ·have eY:(Ar l 0)[k]=((d:Nat):Int):=he;rw [eY];have hc:=of_decide_eq_true hc;exact h _ (.inr ⟨k,d,rfl,cm,hc.1,hc.2⟩)
   ·have hc:=of_decide_eq_false hc;intro j d' hj gD ho hs;by_cases e:j=k
    ·subst e;have:d'=d:=D9 (by have:=gD.2.2.2;omega) (by have:=cm.2.2.2;omega) (gD.2.2.1.symm.trans cm.2.2.1);subst this;exact hc ⟨ho,hs⟩
    ·exact bV j d' (by omega) gD ho hs
 ·refine h _ (.inl ⟨rfl,fun j d gD=> ?_⟩);obtain⟨hj,_⟩:=Ec U gD;have hj:j<(Ar l 0).length:=hj;exact bV j d (by omega) gD
end
section
variable {l:List Ag}
def Rt (l:List Ag) (r:Nat):Prop:=∃j,bh (ks l) 0 j r/\Az l r≠38
abbrev F4 (l:List Ag) (r i v:Nat):Prop:=o5 (ks l) (bU l) (iC l) r i v
def xY (l:List Ag) (v i:Nat):Prop:=(iC l v/\v<i)\/(¬iC l v/\Cf (ks l) v<=i/\∃u j,bh (ks l) u j v/\i<Cf (ks l) u)
theorem Au5 {r i v:Nat} (h1:r<=v) (h2:v<i) (h3:bU l v):xY l v i↔F4 l r i v:=by
 constructor
 ·rintro(⟨h,_⟩|⟨_,h⟩)
  ·exact⟨h1,h2,h3,.inl h⟩
  ·exact⟨h1,h2,h3,.inr h⟩
 ·intro h;by_cases hp:iC l v
  ·exact .inl ⟨hp,h2⟩
  ·exact .inr ⟨hp,h.th.resolve_left hp⟩
theorem SI {v:Nat} (h:bU l v):v<l.length:=by
 rcases lt_or_ge v l.length with h1|h1
 ·exact h1
 ·unfold bU at h;rw [Az,getElem?_eq_none h1]at h;simp at h
theorem Au6 (U:Unit l) (v i:Nat) (hd:bU l v) (K:Bool->Prop) (h:∀b,(b=true↔xY l v i)->K b):Ol l v i K:=by
 have hl:=SI hd;have hx:=getElem?_eq_getElem hl;have ho:=Bb hx;refine Zp _ _ _ _ (Bt hx (Aa (fun hc=> ?_) fun hc=> ?_))
 ·have hc:iC l v:=by unfold iC;rw [ho];simpa using hc
  refine h _ ?_;unfold xY;rw [decide_eq_true_eq];constructor
  ·intro h;exact .inl ⟨hc,by omega⟩
  ·rintro(⟨_,h⟩|⟨h,_⟩)
   ·omega
   ·exact absurd hc h
 ·have hc:¬iC l v:=by unfold iC;rw [ho];simpa using hc
  refine xM l v U.len _ ?_;rw [Tl hl];refine Aa (fun he=> ?_) fun he=> ?_
  ·have he:Cf (ks l) v<=i:=by simpa using he
   refine RF l v U.len _ fun r hr=>xM l r U.len _ ?_
   have h0:0<v:=by
    rcases Nat.eq_zero_or_pos v with e|e
    ·exfalso;subst e;obtain⟨x,ds,hn,cF⟩:=U.root;have:Az l 0=42:=by rw [Bb hn.at_];exact cF
     unfold bU at hd;omega
    ·exact e
   obtain⟨u,j,hk⟩:=xV U hl h0;have GV:r=(u:Int):=hr.unique (.inl ⟨u,rfl,Hd.2 ⟨j,v,rfl,hk⟩⟩);subst GV;have jk:=hk.1;rw [A9]at jk;rw [Tl jk];refine h _ ?_;rw [decide_eq_true_eq];unfold xY;constructor
   ·intro aE;exact .inr ⟨hc,he,u,j,hk,by omega⟩
   ·rintro(⟨h,_⟩|⟨_,_,u',j',bZ,aE⟩)
    ·exact absurd h hc
    ·rw [hk.unique bZ];omega
  ·have he:¬Cf (ks l) v<=i:=by simpa using he
   refine h _ ?_;unfold xY;simp only [false_eq_true,false_iff];rintro(⟨h,_⟩|⟨_,h,_⟩)
   ·exact hc h
   ·exact he h
theorem SJ {q j j' d d' i:Nat} (h:bh (ks l) q j d) (h':bh (ks l) q j' d') (hs:Tr.Sub (ks l) d i) (ij:Tr.Sub (ks l) d' i):d=d':=by
 have key:∀ {j j' d d':Nat},bh (ks l) q j d->bh (ks l) q j' d'->Tr.Sub (ks l) d i->Tr.Sub (ks l) d' i->¬d<d':=by
  intro j j' d d' h h' hs ij aE;have h1:Tr.Sub (ks l) d d':=⟨by omega,by have:=hs.2;have:=ij.1;omega⟩
  have h2:=h1.up h' (by omega);have:=h2.1;have:=h.ahead;omega
 have h1:=key h h' hs ij;have h2:=key h' h ij hs;omega
theorem GX {r i:Nat} (hr:Rt l r) (hs:Tr.Sub (ks l) r i) {r':Int} (h:SH l i r'):r'=r:=by
 obtain⟨j,hk,ho⟩:=hr;rcases h with⟨_,h⟩|⟨j',d,rfl,bZ,_,ij⟩
 ·exact absurd hs (h j r hk ho)
 ·rw [SJ bZ hk ij hs]
theorem GY (U:Unit l) {r i:Nat} (hr:Rt l r) (hs:Tr.Sub (ks l) r i) (hi:i<l.length) (name:List UInt8) (K:Int->Prop) (h1:∀v,F4 l r i v->Di l v=name->(∀u,u<v->F4 l r i u->Di l u≠name)->K ((er (bU l) r v:Nat):Int)) (h2:(∀v,F4 l r i v->Di l v≠name)->K (-1)):Kd l i name K:=by
 have my:=U.len;refine Ace _ _ _ _ (z9 U i _ fun r' kW=> ?_);obtain rfl:=GX hr hs kW;have xZ:=hs.1;refine⟨fun v n=>∃a:Nat,v=a/\r<=a/\a<=i/\i-a=n/\∀u,u<a->F4 l r i u->Di l u≠name,⟨_,r,rfl,Nat.le_refl _,xZ,rfl,fun u hu hv=>by have:=hv.lo;omega⟩,?_⟩;rintro _ _ ⟨a,rfl,SK,hai,rfl,bV⟩;refine Aa (fun hc=> ?_) fun hc=> ?_
 ·have hc:a<i:=by simpa using hc
  have gU:a<l.length:=by omega
  have hx:=getElem?_eq_getElem gU;refine⟨fun b=>b=true↔(F4 l r i a/\Di l a=name),Bt hx (GR _ _ (Aa (fun hd=>Bt hx (Aa (fun hn=> ?_) fun hn=> ?_)) fun hd=> ?_)),?_⟩
  ·have hd:bU l a:=by unfold bU;rw [Bb hx];exact of_decide_eq_true hd
   have hn:Di l a=name:=by rw [G1 hx];simpa using hn
   refine Au6 U a i hd _ fun b hb=> ?_
   show b=true↔_
   rw [hb,Au5 SK hc hd];exact⟨fun h=>⟨h,hn⟩,fun h=>h.1⟩
  ·have hn:¬Di l a=name:=by rw [G1 hx];simpa using hn
   simp only [false_eq_true,false_iff];exact fun h=>hn h.2
  ·have hd:¬bU l a:=by unfold bU;rw [Bb hx];exact of_decide_eq_false hd
   simp only [false_eq_true,false_iff];exact fun h=>hd h.1.de
  rintro b hb;refine Aa (fun ht=> ?_) fun ht=> ?_
  ·obtain⟨g1,g2⟩:=hb.1 ht;exact GU U.len r a SK (by omega) _ (h1 a g1 g2 bV)
  ·have hn:¬(F4 l r i a/\Di l a=name):=fun h=>by rw [hb.2 h]at ht;cases ht
   refine⟨i-(a+1),by omega,a+1,by rw [Au (by omega) (by omega)];omega,by omega,by omega,rfl,fun u hu hv jD=> ?_⟩;by_cases e:u=a
   ·subst e;exact hn ⟨hv,jD⟩
   ·exact bV u (by omega) hv jD
 ·have:a=i:=by simp at hc;omega
  subst this;exact h2 fun v hv=>bV v hv.lt hv
theorem SL (U:Unit l) (s:List UInt8) (K:Int->Prop) (h1:∀j d:Nat,bh (ks l) 0 j d->Cm l d=s->(∀j' d',j'<j->bh (ks l) 0 j' d'->Cm l d'≠s)->K (d:Int)) (h2:(∀j d,bh (ks l) 0 j d->Cm l d≠s)->K (-1)):Jq l s K:=by
 have hlen:=Eb l 0;have my:=U.len;refine Xo _ _ _ (We l 0 U.len _ ⟨fun k n=>At (Ar l 0).length (fun k=>∀j d,j<k->bh (ks l) 0 j d->Cm l d≠s) k n,⟨_,At.start (fun j d hj=>absurd hj (not_lt_zero _))⟩,?_⟩);rintro _ _ ⟨k,rfl,hk,rfl,bV⟩;refine At.cond hk (fun hk=>Df hk ?_) fun hk=> ?_
 ·obtain⟨d,x,he,cm,hx⟩:=Gc U U.pos hk;have eY:(Ar l 0)[k]=((d:Nat):Int):=he;rw [eY];refine Bt hx (X6 _ _ (Aa (fun hc=>Df hk ?_) fun hc=>At.next (by omega) hk ?_))
  ·rw [eY];exact h1 k d cm (by rw [Tj hx];simpa using hc) bV
  ·intro j d' hj gD;by_cases e:j=k
   ·subst e;have:d'=d:=D9 (by have:=gD.2.2.2;omega) (by have:=cm.2.2.2;omega) (gD.2.2.1.symm.trans cm.2.2.1);subst this;rw [Tj hx];simpa using hc
   ·exact bV j d' (by omega) gD
 ·refine h2 fun j d gD=> ?_
  obtain⟨hj,_⟩:=Ec U gD;have hj:j<(Ar l 0).length:=hj;exact bV j d (by omega) gD
def Ce (l:List Ag) (c:Bool) (k:Nat):Nat:=((Ar l 0).take k).countP fun x=>decide (Az l x.toNat=38)==c
theorem P0 (c:Bool) (k:Nat):Ce l c k<=(Ar l 0).length:=by
 unfold Ce;have:=List.countP_le_length (p:=fun x:Int=>decide (Az l x.toNat=38)==c) (l:=(Ar l 0).take k);rw [length_take]at this;omega
theorem Gg (c:Bool) {k:Nat} (hk:k<(Ar l 0).length) {d:Nat} (he:(Ar l 0)[k]=(d:Int)):Ce l c (k+1)=Ce l c k+if(decide (Az l d=38)==c)=true then 1 else 0:=by
 unfold Ce;rw [L3 hk,List.countP_append,he];simp [List.countP_cons]
theorem SM (U:Unit l) {jd d:Nat} (hd:bh (ks l) 0 jd d) (K:Int->Prop) (h:K ((Ce l (decide (Az l d=38)) jd:Nat):Int)):K1 l d K:=by
 have hlen:=Eb l 0;have my:=U.len;obtain⟨SN,Bs5⟩:=Ec U hd;have SN:jd<(Ar l 0).length:=SN;have cz:d<l.length:=by have:=hd.2.2.2;rw [A9]at this;exact this
 have sd:=getElem?_eq_getElem cz;refine Zt _ _ _ (We l 0 U.len _ ⟨fun n k m=>∃a:Nat,k=a/\a<=jd/\n=((Ce l (decide (Az l d=38)) a:Nat):Int)/\jd-a=m,⟨_,0,rfl,zero_le _,by simp [Ce],rfl⟩,?_⟩);rintro _ _ _ ⟨a,rfl,ha,rfl,rfl⟩;have gU:a<(Ar l 0).length:=by omega
 obtain⟨e,x,he,cm,hx⟩:=Gc U U.pos gU;have eY:(Ar l 0)[a]=((e:Nat):Int):=he;refine⟨fun b=>b=decide (a<jd),Aa (fun hc=>Df gU ?_) fun hc=> ?_,?_⟩
 ·rw [eY];show decide _=decide _
  rw [Bool.eq_iff_iff,decide_eq_true_eq,decide_eq_true_eq];constructor
  ·intro aE;rcases lt_or_ge a jd with h1|h1
   ·exact h1
   ·have:a=jd:=by omega
    subst this;have:e=d:=D9 (by have:=cm.2.2.2;omega) (by have:=hd.2.2.2;omega) (cm.2.2.1.symm.trans hd.2.2.1);omega
  ·intro aE;have:=Ti cm hd aE;omega
 ·simp at hc;omega
 rintro _ rfl;refine Aa (fun hc=> ?_) fun hc=> ?_
 ·have hc:=of_decide_eq_true hc;have SO:=P0 (l:=l) (decide (Az l d=38)) a;refine⟨fun n=>n=((Ce l (decide (Az l d=38)) (a+1):Nat):Int),Df gU ?_,?_⟩
  ·rw [eY];refine Bt hx (Bt sd ?_);rw [Gg _ gU eY];have e1:(x.op==38)=decide (Az l e=38):=by rw [Bb hx,Bool.eq_iff_iff];simp
   have e2:(l[d].op==38)=decide (Az l d=38):=by rw [Bb sd,Bool.eq_iff_iff];simp
   rw [e1,e2];refine Aa (fun hq=> ?_) fun hq=> ?_
   ·rw [if_pos hq,Au (by omega) (by omega)];omega
   ·rw [if_neg (by rw [hq];decide)];rfl
  rintro _ rfl;exact⟨jd-(a+1),by omega,a+1,by rw [Au (by omega) (by omega)];omega,by omega,rfl,rfl⟩
 ·have:a=jd:=by have:=of_decide_eq_false hc;omega
  subst this;exact h
def K7 (x:Ag):Int:=if x.op≠38 then 0 else if 1>x.n then 1 else x.n
theorem SP (x:Ag) (K:Int->Prop) (h:K (K7 x)):Mw x K:=by
 unfold K7 at h;refine Aca _ _ (Aa (fun hc=> ?_) fun hc=> ?_)
 ·rwa [if_pos (by simpa using hc)]at h
 ·rwa [if_neg (by simpa using hc)]at h
def Dw (l:List Ag):Nat->Int
 |0=>0|k+1=>Dw l k+(match(Ar l 0)[k]? with|some d=>(match l[d.toNat]? with|some x=>K7 x|none=>0)|none=>0)
structure x_ (l:List Ag):Prop where
 dn:∀j d j' d',bh (ks l) 0 j d->bh (ks l) 0 j' d'->j<j'->Cm l d≠Cm l d'
 main:∃j d,bh (ks l) 0 j d/\Az l d=41
 rts:∀k,k<=(Ar l 0).length->Ce l false k<=32
 SQ:∀k,k<=(Ar l 0).length->Dw l k<=64
theorem GZ {c:UInt8} {x:Ag} {ds:List UInt8} (h:dg c x ds) (ho:x.op=38):0<=x.n/\x.n<=16/\ds=[]:=by
 cases h with
 |chan s n a h1 h2 h3=>exact⟨h2,h3,rfl⟩
 |un op a h=>rcases h with rfl|rfl<;>(simp at ho)
 |bin op a h1 h2=>simp only at ho;omega
 |set op s a h=>rcases h with rfl|rfl|rfl<;>(simp at ho)
 |one op a h=>rcases h with rfl|rfl|rfl<;>(simp at ho)
 |none op a h=>rcases h with rfl|rfl<;>(simp at ho)
 |clause op s a w ds h=>rcases h with⟨rfl,_⟩|⟨rfl,_⟩|⟨rfl,_⟩<;>(simp at ho)
 |_=>simp at ho
theorem G_ (U:Unit l) {d:Nat} {x:Ag} (hx:l[d]? =some x):0<=K7 x/\K7 x<=16:=by
 have hd:=(List.getElem?_eq_some_iff.1 hx).1;obtain⟨y,ds,hn⟩:=U.node d hd;have e:x=y:=Option.some.inj (hx.symm.trans hn.at_);subst e;unfold K7;split
 ·omega
 ·rename_i ho;have:=GZ hn.ok (by simpa using ho);split<;>omega
theorem P1 {k d:Nat} {x:Ag} (hk:(Ar l 0)[k]? =some (d:Int)) (hx:l[d]? =some x):Dw l (k+1)=Dw l k+K7 x:=by
 rw [Dw,hk];simp only [toNat_natCast,hx]
theorem Ar7 (U:Unit l) (K:Bc->Prop) (jE:∀g,g.e_≠0->K g) (eB:x_ l->∀p,K ⟨p,0,0⟩):Oj l K:=by
 have hlen:=Eb l 0;have my:=U.len;refine Zo _ _ (We l 0 U.len _ ⟨fun numbers ck main i pm at_ e n=>At (Ar l 0).length (fun k=>numbers=Dw l k/\ck=((Ce l false k:Nat):Int)/\0<=Dw l k/\Dw l k<=64/\(main=true->∃j d,bh (ks l) 0 j d/\Az l d=41)/\
  (∀j d j' d',bh (ks l) 0 j d->bh (ks l) 0 j' d'->j<j'->j'<k->Cm l d≠Cm l d')/\(∀k',k'<=k->Ce l false k'<=32)/\(∀k',k'<=k->Dw l k'<=64)) i n,
  ⟨_,At.start ⟨rfl,by simp [Ce],by simp [Dw],by simp [Dw],nofun,fun j d j' d' _ _ _ h=>absurd h (not_lt_zero _),fun k' bZ=>by rw [show k'=0 by omega];simp [Ce],fun k' bZ=>by rw [show k'=0 by omega];simp [Dw]⟩⟩,?_⟩)
 rintro _ _ main _ pm at_ e _ ⟨k,rfl,hk,rfl,rfl,rfl,tI,SR,SS,ya,yb,ny⟩;refine At.cond hk (fun hk=>Df hk ?_) fun hk=> ?_
 ·obtain⟨d,x,he,cm,hx⟩:=Gc U U.pos hk;have eY:(Ar l 0)[k]=((d:Nat):Int):=he;have tJ:(Ar l 0)[k]? =some (d:Int):=by rw [getElem?_eq_getElem hk,eY]
  rw [eY];refine Bt hx ⟨fun j pm' va e' n=>At k (fun j=>∀j' d',j'<j->bh (ks l) 0 j' d'->Cm l d'≠tH x) j n,⟨_,At.start (fun j d hj=>absurd hj (not_lt_zero _))⟩,?_⟩;rintro _ pm' va e' _ ⟨j,rfl,hj,rfl,bV⟩;refine At.cond hj (fun hj=> ?_) fun hj=> ?_
  ·have u9:j<(Ar l 0).length:=by omega
   obtain⟨d2,x2,fW,SU,jZ⟩:=Gc U U.pos u9;have HA:(Ar l 0)[j]=((d2:Nat):Int):=fW;refine⟨fun b=>b=(tH x2==tH x),Df u9 ?_,?_⟩
   ·rw [HA];exact Bt jZ (X6 _ _ (X6 _ _ rfl))
   rintro _ rfl;refine Aa (fun hc=>Df hk ?_) fun hc=>At.next (by omega) hj ?_
   ·exact jE _ (by show(8:Int)≠0;decide)
   ·intro j' d' iX gD;by_cases e:j'=j
    ·subst e;have:d'=d2:=D9 (by have:=gD.2.2.2;omega) (by have:=SU.2.2.2;omega) (gD.2.2.1.symm.trans SU.2.2.1);subst this;rw [Tj jZ];simpa using hc
    ·exact bV j' d' (by omega) gD
  ·have hmb:=G_ U hx;have o6:=P1 tJ hx;have SV:=Gg false hk eY;have SO:=P0 (l:=l) false k;refine SP _ _ ⟨fun n=>n=((Ce l false (k+1):Nat):Int),Aa (fun hc=> ?_) fun hc=> ?_,?_⟩
   ·have hc:Az l d≠38:=by rw [Bb hx];simpa using hc
    rw [SV,if_pos (by simp [hc]),Au (by omega) (by omega)];omega
   ·have hc:Az l d=38:=by rw [Bb hx];simpa using hc
    rw [SV,if_neg (by simp [hc])];rfl
   rintro _ rfl;refine⟨fun m=>m=true->∃j d,bh (ks l) 0 j d/\Az l d=41,Aa (fun hc _=>SS hc) fun hc z_=>⟨k,d,cm,by rw [Bb hx];simpa using z_⟩,?_⟩;intro Bsv Bm5;rw [Au (n:=Dw l k+K7 x) (by omega) (by omega)];refine Aa (fun hc=>Df hk (jE _ (by show(13:Int)≠0;decide))) fun hc=>At.next (by omega) hk ?_
   have hc:Dw l k+K7 x<=64/\Ce l false (k+1)<=32:=by simp at hc;omega
   refine⟨by rw [o6],rfl,by omega,by omega,Bm5,?_,?_,?_⟩
   ·intro j1 d1 j2 d2 g1 g2 aE h2;by_cases e:j2=k
    ·subst e;have:d2=d:=D9 (by have:=g2.2.2.2;omega) (by have:=cm.2.2.2;omega) (g2.2.2.1.symm.trans cm.2.2.1);subst this;rw [Tj hx];exact bV j1 d1 (by omega) g1
    ·exact ya j1 d1 j2 d2 g1 g2 aE (by omega)
   ·intro k' bZ;by_cases e:k'=k+1
    ·subst e;exact hc.2
    ·exact yb k' (by omega)
   ·intro k' bZ;by_cases e:k'=k+1
    ·subst e;omega
    ·exact ny k' (by omega)
 ·refine Aa (fun hc=>jE _ (by show(7:Int)≠0;decide)) fun hc=>eB ⟨fun j d j' d' g1 g2 aE=> ?_,SS (by simpa using hc),fun k' bZ=>yb k' (by omega),fun k' bZ=>ny k' (by omega)⟩ _
  obtain⟨hj,_⟩:=Ec U g2;have hj:j'<(Ar l 0).length:=hj;exact ya j d j' d' g1 g2 aE (by omega)
def Ed (op:Int):Prop:=op=2\/op=19\/op=20\/op=22\/op=34
structure AA (l:List Ag) (r i:Nat):Prop where
 de:bU l i->(∀u,F4 l r i u->Di l u≠Di l i)/\er (bU l) r i<16
 use:Ed (Az l i)->∃v,F4 l r i v/\Di l v=Di l i
 o7:Az l i=33\/Az l i=26->∃j d,bh (ks l) 0 j d/\Cm l d=Di l i/\(Az l d=38↔Az l i=33)
theorem Ar8 (U:Unit l) {r i:Nat} (hr:Rt l r) (hs:Tr.Sub (ks l) r i) (K:Int->Prop) (jE:∀e,e≠0->K e) (eB:AA l r i->K 0):Om l i K:=by
 have my:=U.len;have hi:i<l.length:=by have h1:=hs.2;have h2:=Cd (ks l) r;rw [A9]at h2;omega
 have hx:=getElem?_eq_getElem hi;have ho:=Bb hx;have fD:=G1 hx;have xZ:=hs.1;refine Zs _ _ _ (Bt hx ⟨fun b=>b=decide (bU l i),Aa (fun hc=> ?_) fun hc=> ?_,?_⟩)
 ·have hc:l[i].op=39:=by simpa using hc
  show(_==_)=decide _
  rw [Bool.eq_iff_iff];simp [bU,ho,hc]
 ·have hc:¬l[i].op=39:=by simpa using hc
  show(_==_)=decide _
  rw [Bool.eq_iff_iff];simp [bU,ho,hc]
 rintro _ rfl;refine Aa (fun hd=> ?_) fun hd=> ?_
 ·have hd:=of_decide_eq_true hd;have cF:l[i].op=39\/l[i].op=18:=by unfold bU at hd;rw [ho]at hd;exact hd
  refine GY U hr hs hi _ _ (fun v _ _ _=>B3 (by simp) (jE _ (by decide))) fun bV=>Ba (by simp) ?_
  refine z9 U i _ fun r' kW=> ?_
  obtain rfl:=GX hr hs kW;refine GU U.len r i xZ (by omega) _ (Aa (fun hc=>jE _ (by decide)) fun hc=>eB ⟨fun _=>⟨fun u hu=>by rw [fD];exact bV u hu,by simp at hc;omega⟩,fun hu=> ?_,fun hg=> ?_⟩)
  ·rw [ho]at hu;unfold Ed at hu;omega
  ·rw [ho]at hg;omega
 have hd:=of_decide_eq_false hd;refine⟨fun b=>b=true↔Ed (Az l i),?_,?_⟩
 ·rw [ho];unfold Ed;refine Aa (fun hc=> ?_) fun h2=>Aa (fun hc=> ?_) fun nz=>Aa (fun hc=> ?_) fun HB=>Aa (fun hc=> ?_) fun SW=> ?_
  all_goals simp at*
  all_goals simp [*]
 intro b hb;refine Aa (fun hc=> ?_) fun hc=> ?_
 ·have hu:=hb.1 hc;have AB:=hu;rw [ho]at AB;refine GY U hr hs hi _ _ (fun v hv hn _=>Ba (by simp) (eB ⟨fun h=>absurd h hd,fun _=>⟨v,hv,by rw [fD];exact hn⟩,fun hg=> ?_⟩)) fun bV=>B3 (by simp) (jE _ (by decide))
  rw [ho]at hg;unfold Ed at AB;omega
 have kE:¬Ed (Az l i):=fun h=>by rw [hb.2 h]at hc;cases hc
 refine⟨fun b=>b=true↔(Az l i=33\/Az l i=26),?_,?_⟩
 ·rw [ho];refine Aa (fun hc=> ?_) fun hc=> ?_
  all_goals simp at*
  all_goals simp [*]
 intro b2 dY;refine Aa (fun cr=> ?_) fun cr=> ?_
 ·have hg:=dY.1 cr;refine SL U _ _ (fun j d gD f_ _=>Ba (by simp) ?_) fun _=>B3 (by simp) (jE _ (by decide))
  have cz:d<l.length:=by have:=gD.2.2.2;rw [A9]at this;exact this
  have sd:=getElem?_eq_getElem cz;refine Bt sd (Aa (fun _=>jE _ (by decide)) fun hq=>eB ⟨fun h=>absurd h hd,fun h=>absurd h kE,fun _=>⟨j,d,gD,by rw [fD];exact f_,?_⟩⟩);rw [Bb sd,ho];simp only [Bool.not_eq_false',beq_iff_eq]at hq;rw [Bool.eq_iff_iff,beq_iff_eq,beq_iff_eq]at hq;exact hq
 ·have yd:¬(Az l i=33\/Az l i=26):=fun h=>by rw [dY.2 h]at cr;cases cr
  exact eB ⟨fun h=>absurd h hd,fun h=>absurd h kE,fun h=>absurd h yd⟩
end
section
variable {l:List Ag}
def mz (l:List Ag) (v:Nat):Int:=(l[v]?.map (·.n)).getD 0
def tK (l:List Ag) (v:Nat):Int:=(l[v]?.map (·.kids)).getD 0
theorem Rs {v:Nat} {x:Ag} (h:l[v]? =some x):mz l v=x.n:=by simp [mz,h]
theorem X7 {v:Nat} {x:Ag} (h:l[v]? =some x):tK l v=x.kids:=by simp [tK,h]
theorem Tn (U:Unit l):Az l 0=42:=by
 obtain⟨x,ds,hn,ho⟩:=U.root;rw [Bb hn.at_,ho]
theorem SX (U:Unit l):∀i,0<i->i<l.length->∃j d,bh (ks l) 0 j d/\Tr.Sub (ks l) d i:=by
 intro i
 induction i using Nat.strongRecOn with
 |_ i ih=>
  intro h0 hi;obtain⟨u,j,hk⟩:=xV U hi h0;by_cases e:u=0
  ·subst e;exact⟨j,i,hk,Nat.le_refl _,Fl _ _ (by rw [A9];exact hi)⟩
  ·have hu:=hk.ahead;obtain⟨j',d,h1,h2⟩:=ih u hu (by omega) (by omega);exact⟨j',d,h1,h2.lz hk⟩
theorem HC (U:Unit l) {v:Nat} (hv:Az l v=38) (hl:v<l.length):Cf (ks l) v=v+1:=by
 obtain⟨x,ds,hn⟩:=U.node v hl;rw [Bb hn.at_]at hv;have hd:=(GZ hn.ok hv).2.2;refine Z9 (by rw [A9];exact hl) ?_;rw [H8 hn.at_,hn.kids,hd];rfl
theorem Wf (U:Unit l) {i:Nat} (hi:i<l.length) (ho:Az l i≠38) (ho2:Az l i≠42):∃r,Rt l r/\Tr.Sub (ks l) r i:=by
 have h0:0<i:=by
  rcases Nat.eq_zero_or_pos i with e|e
  ·subst e;exact absurd (Tn U) ho2
  ·exact e
 obtain⟨j,d,h1,h2⟩:=SX U i h0 hi;refine⟨d,⟨j,h1,fun e=> ?_⟩,h2⟩;have hd:=h1.2.2.2;rw [A9]at hd;have h3:=HC U e hd;have:i=d:=by have:=h2.1;have:=h2.2;omega
 subst this;exact ho e
theorem SY {op:Int} (h:Ki op=80):op=39:=by
 by_cases h6:op=39
 ·exact h6
 exfalso
 revert h
 unfold Ki;rw [if_neg h6]
 repeat' split
 all_goals decide
theorem SZ {c:UInt8} {x:Ag} {ds:List UInt8} (h:dg c x ds) (ho:x.op=40\/x.op=41):∃k,ds=replicate k 80++[66]:=by
 cases h with
 |main=>exact⟨0,rfl⟩
 |proc s k=>exact⟨k,rfl⟩
 |un op a h=>rcases h with rfl|rfl<;>(simp at ho)
 |bin op a h1 h2=>simp only at ho;omega
 |set op s a h=>rcases h with rfl|rfl|rfl<;>(simp at ho)
 |one op a h=>rcases h with rfl|rfl|rfl<;>(simp at ho)
 |none op a h=>rcases h with rfl|rfl<;>(simp at ho)
 |clause op s a w ds h=>rcases h with⟨rfl,_⟩|⟨rfl,_⟩|⟨rfl,_⟩<;>(simp at ho)
 |_=>simp at ho
theorem S_ (U:Unit l) {d:Nat} (hd:Az l d=40\/Az l d=41):∀y,Tr.Sub (ks l) d y->y≠d->Az l y<=37\/Az l y=39:=by
 refine GN U (fun y=>Az l y<=37\/Az l y=39) (fun j y hk=> ?_) fun u j y hu hk=> ?_
 ·obtain⟨x,ds,z,hn,hz,he⟩:=Oz U hk;rw [Bb hn.at_]at hd;rw [Bb hz];obtain⟨k,rfl⟩:=SZ hn.ok hd;rcases mem_append.1 (mem_of_getElem? he)with h|h
  ·exact .inr (SY (List.eq_of_mem_replicate h))
  ·have h66:Ki z.op=66:=by simpa using h
   exact .inl (GM (by rw [h66];decide))
 ·obtain⟨x,ds,z,hn,hz,he⟩:=Oz U hk;rw [Bb hn.at_]at hu;rw [Bb hz];exact .inl (GM (SF hn.ok hu _ (mem_of_getElem? he)))
theorem Azd (U:Unit l) {i:Nat} (hi:i<l.length) (ho:Az l i=38\/Az l i=40\/Az l i=41):∃j,bh (ks l) 0 j i:=by
 have h0:0<i:=by
  rcases Nat.eq_zero_or_pos i with e|e
  ·subst e;have:=Tn U;omega
  ·exact e
 obtain⟨j,d,h1,h2⟩:=SX U i h0 hi;by_cases e:i=d
 ·subst e;exact⟨j,h1⟩
 exfalso;have hd:=h1.2.2.2;rw [A9]at hd;rcases O0 U h1 with h|h
 ·have h3:=HC U h hd;have:=h2.1;have:=h2.2;omega
 ·have:=S_ U h i h2 e;omega
theorem HD {q j j' i:Nat} (h:bh (ks l) q j i) (h':bh (ks l) q j' i):j=j':=by
 rcases lt_trichotomy j j' with e|e|e
 ·have:=Ti h h' e;omega
 ·exact e
 ·have:=Ti h' h e;omega
theorem Tp {q j i i':Nat} (h:bh (ks l) q j i) (h':bh (ks l) q j i'):i=i':=
 D9 (by have:=h.2.2.2;omega) (by have:=h'.2.2.2;omega) (h.2.2.1.symm.trans h'.2.2.1)
theorem x_.uniq (D:x_ l) {j d j' d':Nat} (h:bh (ks l) 0 j d) (h':bh (ks l) 0 j' d') (e:Cm l d=Cm l d'):j=j'/\d=d':=by
 have hj:j=j':=by
  rcases lt_trichotomy j j' with g|g|g
  ·exact absurd e (D.dn _ _ _ _ h h' g)
  ·exact g
  ·exact absurd e.symm (D.dn _ _ _ _ h' h g)
 subst hj;exact⟨rfl,Tp h h'⟩
structure G2 (l:List Ag):Prop where
 unit:Unit l
 fo:∃f:Fo,f.flat=l/\kT [85] f
 decl:x_ l
 wr:∀r i,Rt l r->Tr.Sub (ks l) r i->AA l r i
theorem G2.names (S:G2 l) {r i v1 v2:Nat} (hr:Rt l r) (hi:Tr.Sub (ks l) r i) (h1:F4 l r i v1) (h2:F4 l r i v2) (hn:Di l v1=Di l v2):v1=v2:=
 Apx (Th S.unit) (nm:=Di l) (fun v hv hd hrv u hu=>(S.wr r v hr ⟨hrv,by have:=hi.2;omega⟩).de hd|>.1 u hu) h1 h2 hn
structure Gi (l:List Ag) (i:Nat) (n:Int):Prop where
 top:∀j,bh (ks l) 0 j i->n=((Ce l (decide (Az l i=38)) j:Nat):Int)
 o7:Az l i=33\/Az l i=26->∀j d,bh (ks l) 0 j d->Cm l d=Di l i->n=((Ce l (decide (Az l d=38)) j:Nat):Int)
 de:bU l i->∀r,Rt l r->Tr.Sub (ks l) r i->n=((er (bU l) r i:Nat):Int)
 use:Ed (Az l i)->∀r,Rt l r->Tr.Sub (ks l) r i->∀v,F4 l r i v->Di l v=Di l i->n=((er (bU l) r v:Nat):Int)
theorem Tq {r r' i:Nat} (hr:Rt l r) (kW:Rt l r') (hs:Tr.Sub (ks l) r i) (ij:Tr.Sub (ks l) r' i):r=r':=by
 obtain⟨j,hk,_⟩:=hr;obtain⟨j',bZ,_⟩:=kW;exact SJ hk bZ hs ij
theorem Aze (S:G2 l) {i:Nat} (hi:i<l.length) (K:Int->Prop) (h:∀n,Gi l i n->K n):Uy l i K:=by
 have U:=S.unit;have my:=U.len;have hx:=getElem?_eq_getElem hi;have ho:=Bb hx;have fD:=G1 hx;refine Af0 _ _ _ (Bt hx ⟨fun b=>b=true↔(Az l i=38\/Az l i=40\/Az l i=41),?_,?_⟩)
 ·rw [ho];refine Aa (fun hc=> ?_) fun h1=>Aa (fun hc=> ?_) fun h2=> ?_
  all_goals simp at*
  all_goals simp [*]
 intro b hb;refine Aa (fun hc=> ?_) fun hc=> ?_
 ·have ht:=hb.1 hc;obtain⟨j,hk⟩:=Azd U hi ht;refine SM U hk _ (h _ ⟨fun j' bZ=> ?_,fun hg=>by omega,fun hd=>by unfold bU at hd;omega,fun hu=>by unfold Ed at hu;omega⟩);rw [HD hk bZ]
 have hnt:¬(Az l i=38\/Az l i=40\/Az l i=41):=fun h=>by rw [hb.2 h]at hc;cases hc
 have AD:∀j,bh (ks l) 0 j i->False:=fun j hk=>hnt (O0 U hk)
 refine⟨fun b=>b=true↔(Az l i=33\/Az l i=26),?_,?_⟩
 ·rw [ho];refine Aa (fun hc=> ?_) fun hc=> ?_
  all_goals simp at*
  all_goals simp [*]
 intro b2 dY;refine Aa (fun cr=> ?_) fun cr=> ?_
 ·have hg:=dY.1 cr;obtain⟨r,hr,hs⟩:=Wf U hi (by omega) (by omega);obtain⟨j0,d0,tA,tI,_⟩:=(S.wr r i hr hs).o7 hg;refine SL U _ _ (fun j d gD f_ _=>SM U gD _ (h _ ⟨fun j hk=>(AD j hk).elim,fun _ j' d' bZ jD=> ?_,fun hd=>by unfold bU at hd;omega,fun hu=>by unfold Ed at hu;omega⟩)) fun bV=>absurd (tI.trans fD) (bV j0 d0 tA)
  obtain⟨rfl,rfl⟩:=S.decl.uniq gD bZ (by rw [f_,jD,fD]);rfl
 have yd:¬(Az l i=33\/Az l i=26):=fun h=>by rw [dY.2 h]at cr;cases cr
 refine⟨fun b=>b=true↔bU l i,?_,?_⟩
 ·unfold bU;rw [ho];refine Aa (fun hc=> ?_) fun hc=> ?_
  all_goals simp at*
  all_goals simp [*]
 intro b3 fp;refine Aa (fun fX=> ?_) fun fX=> ?_
 ·have hd:=fp.1 fX;have d6:=hd;unfold bU at d6;obtain⟨r,hr,hs⟩:=Wf U hi (by omega) (by omega);have xZ:=hs.1;refine z9 U i _ fun r' kW=> ?_
  obtain rfl:=GX hr hs kW;refine GU U.len r i xZ (by omega) _ (h _ ⟨fun j hk=>(AD j hk).elim,fun hg=>absurd hg yd,fun _ r2 du kD=> ?_,fun hu=>by unfold Ed at hu;omega⟩);rw [Tq hr du hs kD]
 have f_:¬bU l i:=fun h=>by rw [fp.2 h]at fX;cases fX
 refine⟨fun b=>b=true↔Ed (Az l i),?_,?_⟩
 ·rw [ho];unfold Ed;refine Aa (fun hc=> ?_) fun h2=>Aa (fun hc=> ?_) fun nz=>Aa (fun hc=> ?_) fun HB=>Aa (fun hc=> ?_) fun SW=> ?_
  all_goals simp at*
  all_goals simp [*]
 intro b4 jB;refine Aa (fun jV=> ?_) fun jV=> ?_
 ·have hu:=jB.1 jV;have AB:=hu;unfold Ed at AB;obtain⟨r,hr,hs⟩:=Wf U hi (by omega) (by omega);obtain⟨v0,FX,tI⟩:=(S.wr r i hr hs).use hu;refine GY U hr hs hi _ _ (fun v hv hn _=>h _ ⟨fun j hk=>(AD j hk).elim,fun hg=>absurd hg yd,fun hd=>absurd hd f_,fun _ r2 du kD v2 iR tC=> ?_⟩) fun bV=>absurd (tI.trans fD) (bV v0 FX)
  obtain rfl:=Tq hr du hs kD;rw [S.names hr hs hv iR (by rw [hn,tC,fD])]
 have kE:¬Ed (Az l i):=fun h=>by rw [jB.2 h]at jV;cases jV
 exact h _ ⟨fun j hk=>(AD j hk).elim,fun hg=>absurd hg yd,fun hd=>absurd hd f_,fun hu=>absurd hu kE⟩
def Vk (l:List Ag) (d:Nat):Nat:=er (iC l) d (Cf (ks l) d)
structure G3 (l:List Ag) (k:Nat) (cs:List Co) (rs:List Bm):Prop where
 cl:cs.length=Ce l true k
 rl:rs.length=Ce l false k
 ch:∀j d,j<k->bh (ks l) 0 j d->Az l d=38->∃c,cs[Ce l true j]? =some c/\c.size=mz l d
 rt:∀j d,j<k->bh (ks l) 0 j d->Az l d≠38->∃r,rs[Ce l false j]? =some r/\r.params=((Vk l d:Nat):Int)
structure Fg (l:List Ag) (p:Bn):Prop where
 nl:p.A7.length=l.length
 nu:∀i,i<l.length->∃n,p.A7[i]? =some n/\Gi l i n
 de:G3 l (Ar l 0).length p.cH p.ck
theorem G3.chan {k d:Nat} {cs:List Co} {rs:List Bm} (h:G3 l k cs rs) (hk:k<(Ar l 0).length) (he:(Ar l 0)[k]=(d:Int)) (cm:bh (ks l) 0 k d) (ho:Az l d=38) (c:Co) (hc:c.size=mz l d):G3 l (k+1) (cs++[c]) rs:=by
 have e1:Ce l true (k+1)=Ce l true k+1:=by rw [Gg _ hk he,if_pos (by simp [ho])]
 have e2:Ce l false (k+1)=Ce l false k:=by rw [Gg _ hk he,if_neg (by simp [ho])];rfl
 refine⟨by rw [length_append,h.cl,e1];rfl,by rw [h.rl,e2],fun j d' hj bZ nD=> ?_,fun j d' hj bZ nD=> ?_⟩
 ·by_cases e:j=k
  ·subst e;rw [←Tp cm bZ];exact⟨c,by rw [←h.cl,List.getElem?_append_right (Nat.le_refl _),sub_self];rfl,hc⟩
  ·obtain⟨c',g1,g2⟩:=h.ch j d' (by omega) bZ nD;exact⟨c',by rw [List.getElem?_append_left (List.getElem?_eq_some_iff.1 g1).1];exact g1,g2⟩
 ·by_cases e:j=k
  ·subst e;rw [←Tp cm bZ]at nD;exact absurd ho nD
  ·exact h.rt j d' (by omega) bZ nD
theorem G3.AE {k d:Nat} {cs:List Co} {rs:List Bm} (h:G3 l k cs rs) (hk:k<(Ar l 0).length) (he:(Ar l 0)[k]=(d:Int)) (cm:bh (ks l) 0 k d) (ho:Az l d≠38) (r:Bm) (hc:r.params=((Vk l d:Nat):Int)):G3 l (k+1) cs (rs++[r]):=by
 have e1:Ce l false (k+1)=Ce l false k+1:=by rw [Gg _ hk he,if_pos (by simp [ho])]
 have e2:Ce l true (k+1)=Ce l true k:=by rw [Gg _ hk he,if_neg (by simp [ho])];rfl
 refine⟨by rw [h.cl,e2],by rw [length_append,h.rl,e1];rfl,fun j d' hj bZ nD=> ?_,fun j d' hj bZ nD=> ?_⟩
 ·by_cases e:j=k
  ·subst e;rw [←Tp cm bZ]at nD;exact absurd nD ho
  ·exact h.ch j d' (by omega) bZ nD
 ·by_cases e:j=k
  ·subst e;rw [←Tp cm bZ];exact⟨r,by rw [←h.rl,List.getElem?_append_right (Nat.le_refl _),sub_self];rfl,hc⟩
  ·obtain⟨c',g1,g2⟩:=h.rt j d' (by omega) bZ nD;exact⟨c',by rw [List.getElem?_append_left (List.getElem?_eq_some_iff.1 g1).1];exact g1,g2⟩
theorem Axu (S:G2 l) (K:Bn->Prop) (h:∀p,Fg l p->K p):Rb l K:=by
 have U:=S.unit;have my:=U.len;have hlen:=Eb l 0;refine Ach _ _ (We l 0 U.len _ ⟨fun base k cs rs mn n=>At (Ar l 0).length (fun k=>G3 l k cs rs) k n,⟨_,At.start ⟨by simp [Ce],by simp [Ce],fun j d hj=>absurd hj (not_lt_zero _),fun j d hj=>absurd hj (not_lt_zero _)⟩⟩,?_⟩);rintro base _ cs rs mn _ ⟨k,rfl,hk,rfl,hD⟩;have cE:=P0 (l:=l) true k;have cr:=P0 (l:=l) false k;refine At.cond hk (fun hk=> ?_) fun hk=> ?_
 ·obtain⟨d,x,he,cm,hx⟩:=Gc U U.pos hk;have eY:(Ar l 0)[k]=((d:Nat):Int):=he;have cz:=(List.getElem?_eq_some_iff.1 hx).1;refine⟨fun Bpc dr rm ye=>G3 l (k+1) dr rm,Df hk ?_,fun Bpc dr rm ye vc=>At.next (by omega) hk vc⟩;rw [eY];refine Bt hx (Aa (fun hc=> ?_) fun hc=> ?_)
  ·refine⟨by have:=hD.cl;simp only [length_singleton];omega,SP _ _ ?_⟩;exact hD.chan hk eY cm (by rw [Bb hx];simpa using hc) _ (Rs hx).symm
  ·have k_:Az l d≠38:=by rw [Bb hx];simpa using hc
   refine⟨fun dr rm ye=>dr=cs/\rm=rs,Aa (fun _=>⟨rfl,rfl⟩) fun _=>⟨rfl,rfl⟩,?_⟩;rintro _ _ mn2 ⟨rfl,rfl⟩;refine⟨fun nm nd pa=>pa=0,Df hk (X6 _ _ rfl),?_⟩;rintro nm nd _ rfl;refine Df hk ?_;rw [eY];have TA:=Fl (ks l) d (by rw [A9];exact cz);have hE2:=Cd (ks l) d;rw [A9]at hE2;refine⟨fun i nm' nd' pa vs m=>∃a:Nat,i=a/\d<=a/\a<=Cf (ks l) d/\pa=((er (iC l) d a:Nat):Int)/\vs.length<=a/\Cf (ks l) d-a=m,⟨_,d,rfl,Nat.le_refl _,by omega,by rw [z8 _ (Nat.le_refl _)];rfl,zero_le _,rfl⟩,?_⟩;rintro _ nm' nd' _ vs _ ⟨a,rfl,RS,haE,rfl,kF,rfl⟩;have tL:=GL (de:=iC l) (r:=d) a;refine Df hk ?_;rw [eY];refine xM l d U.len _ ?_;rw [Tl cz];refine Aa (fun hc=> ?_) fun hc=> ?_
   ·have aE:a<Cf (ks l) d:=by simpa using hc
    have j4:=getElem?_eq_getElem (l:=l) (i:=a) (by omega);refine⟨fun HE HF HG oa=>HG=((er (iC l) d (a+1):Nat):Int)/\oa.length<=a+1,⟨fun HE HF HG oa=>HG=((er (iC l) d a:Nat):Int)/\oa.length<=a+1,Bt j4 (GR _ _ (Aa (fun _=>Bt j4 ⟨by simp only [length_singleton];omega,rfl,by rw [length_append];simp only [length_singleton];omega⟩) fun _=>⟨rfl,by omega⟩)),?_⟩,?_⟩
    ·rintro HE HF _ oa ⟨rfl,iR⟩;refine Bt j4 (Aa (fun hp=> ?_) fun hp=> ?_)
     ·have hp:iC l a:=by unfold iC;rw [Bb j4];simpa using hp
      exact⟨by rw [er,if_pos ⟨RS,hp⟩,Au (by omega) (by omega)];omega,iR⟩
     ·have hp:¬iC l a:=by unfold iC;rw [Bb j4];simpa using hp
      exact⟨by rw [er,if_neg (fun h=>hp h.2)];rfl,iR⟩
    ·rintro HE HF _ oa ⟨rfl,iR⟩;exact⟨Cf (ks l) d-(a+1),by omega,a+1,by rw [Au (by omega) (by omega)];omega,by omega,by omega,rfl,iR,rfl⟩
   ·have:a=Cf (ks l) d:=by simp at hc;omega
    subst this;exact⟨by have:=hD.rl;simp only [length_singleton];omega,hD.AE hk eY cm k_ _ rfl⟩
 ·subst hk;refine⟨fun i dr rm ye ns n=>At l.length (fun i=>dr=cs/\rm=rs/\ns.length=i/\∀v,v<i->∃m,ns[v]? =some m/\Gi l v m) i n,⟨_,At.start ⟨rfl,rfl,rfl,fun v hv=>absurd hv (not_lt_zero _)⟩⟩,?_⟩;rintro _ kj rs2 mn3 ns _ ⟨i,rfl,hi,rfl,ir,TB,sb,AF⟩;refine At.cond hi (fun hi=> ?_) fun hi=> ?_
  ·refine⟨fun dr rm ye HH=>dr=cs/\rm=rs/\HH.length=i+1/\∀v,v<i+1->∃m,HH[v]? =some m/\Gi l v m,Aze S hi _ fun m hm=>⟨by simp only [length_singleton];omega,ir,TB,by rw [length_append,sb];rfl,fun v hv=> ?_⟩,fun dr rm ye HH hh=>At.next (by omega) hi hh⟩;by_cases e:v=i
   ·subst e;exact⟨m,by rw [←sb,List.getElem?_append_right (Nat.le_refl _),sub_self];rfl,hm⟩
   ·obtain⟨m',g1,g2⟩:=AF v (by omega);exact⟨m',by rw [List.getElem?_append_left (List.getElem?_eq_some_iff.1 g1).1];exact g1,g2⟩
  ·subst hi;subst ir;subst TB;exact h _ ⟨sb,AF,hD⟩
end
section
variable {l:List Ag}
theorem Azf (hl:l.length<=100000) (fD:∀x∈l,x.name.length<2^63/\x.kids<=9223372036854775807) (K:Bc->Prop) (jE:∀g,g.e_≠0->K g) (eB:G2 l->∀p,Fg l p->K ⟨p,0,0⟩):Ze l K:=by
 refine Aje _ _ (Ar3 hl fD _ ?_ ?_)
 ·rintro⟨f,hf,hw⟩;have U:=Au1 hf hw hl;refine⟨⟨by decide,by decide⟩,Ba rfl (Ar7 U _ (fun g hg=>B3 (by simpa using hg) (jE _ hg)) fun D p=>Ba rfl ?_)⟩;refine⟨fun i pm at_ e n=>At l.length (fun i=>∀r v,v<i->Rt l r->Tr.Sub (ks l) r v->AA l r v) i n,⟨_,At.start (fun r v hv=>absurd hv (not_lt_zero _))⟩,?_⟩;rintro _ pm at_ e _ ⟨i,rfl,hi,rfl,hW⟩;refine At.cond hi (fun hi=> ?_) fun hi=> ?_
  ·refine⟨fun pm at_ e=>∀r,Rt l r->Tr.Sub (ks l) r i->AA l r i,z9 U i _ fun r hr=> ?_,fun pm at_ e hw=>At.next (by omega) hi fun r v hv hr hs=> ?_⟩
   ·rcases hr with⟨rfl,bV⟩|⟨j,d,rfl,hk,ho,hs⟩
    ·refine Ba (by decide) fun r hr hs=> ?_
     obtain⟨j,hk,ho⟩:=hr;exact absurd hs (bV j r hk ho)
    ·refine B3 (by simp) (Ar8 U ⟨j,hk,ho⟩ hs _ (fun e he=>B3 (by simpa using he) (jE _ he)) fun hw=>Ba rfl fun r hr kD=> ?_)
     rwa [Tq hr ⟨j,hk,ho⟩ kD hs]
   ·by_cases e:v=i
    ·subst e;exact hw r hr hs
    ·exact hW r v (by omega) hr hs
  ·subst hi;have S:G2 l:=⟨U,⟨f,hf,hw⟩,D,fun r v hr hs=>hW r v (by have h1:=hs.2;have h2:=Cd (ks l) r;rw [A9]at h2;omega) hr hs⟩
   exact Axu S _ fun p hp=>eB S p hp
 ·intro a;exact⟨⟨by decide,by decide⟩,B3 rfl ⟨⟨by decide,by decide⟩,⟨by decide,by decide⟩,jE _ (by show(3:Int)≠0;decide)⟩⟩
structure o8 (l:List Ag) (i:Nat):Prop where
 ref:Az l i=33->∀j d,bh (ks l) 0 j d->Cm l d=Di l i->((mz l d=0/\tK l i=0)\/(0<mz l d/\tK l i=1))/\(0<mz l d->Az l (i+1)=1->mz l (i+1)<mz l d)
 start:Az l i=26->∀j d,bh (ks l) 0 j d->Cm l d=Di l i->tK l i=((Vk l d:Nat):Int)
 zZ:Az l i=37->∀u j k j',bh (ks l) u j i->bh (ks l) u j' k->k<i->Az l k≠37
theorem Asc {c:UInt8} {x:Ag} {ds:List UInt8} (h:dg c x ds) (ho:x.op=33):(x.kids=0/\ds=[])\/(x.kids=1/\ds=[69]):=by
 cases h with
 |z0=>exact .inl ⟨rfl,rfl⟩
 |z3=>exact .inr ⟨rfl,rfl⟩
 |un op a h=>rcases h with rfl|rfl<;>(simp at ho)
 |bin op a h1 h2=>simp only at ho;omega
 |set op s a h=>rcases h with rfl|rfl|rfl<;>(simp at ho)
 |one op a h=>rcases h with rfl|rfl|rfl<;>(simp at ho)
 |none op a h=>rcases h with rfl|rfl<;>(simp at ho)
 |clause op s a w ds h=>rcases h with⟨rfl,_⟩|⟨rfl,_⟩|⟨rfl,_⟩<;>(simp at ho)
 |_=>simp at ho
theorem TC {i u j:Nat} (hk:bh (ks l) u j i) {r:Int} (hr:uU l i r):r=(u:Int):=
 hr.unique (.inl ⟨u,rfl,Hd.2 ⟨j,i,rfl,hk⟩⟩)
theorem Axv (S:G2 l) {p:Bn} (P:Fg l p) {i:Nat} (hi:i<l.length) (K:Int->Prop) (jE:∀e,e≠0->K e) (eB:o8 l i->K 0):On l p i K:=by
 have U:=S.unit;have my:=U.len;have hx:=getElem?_eq_getElem hi;have ho:=Bb hx;have gD:=X7 hx;have aP:IntKind.i64.wrap ((i:Int)+1)=((i+1:Nat):Int):=by rw [Au (by omega) (by omega)];omega
 obtain⟨n,hn,kE⟩:=P.nu i hi;refine Zu _ _ _ _ (Bt hx (Aa (fun hc=> ?_) fun hc=> ?_))
 ·have iq:l[i].op=33:=by simpa using hc
  have HJ:Az l i=33:=by rw [ho];exact iq
  obtain⟨r,hr,hs⟩:=Wf U hi (by omega) (by omega);obtain⟨j,d,cm,f_,ny⟩:=(S.wr r i hr hs).o7 (.inl HJ);have j5:=ny.2 HJ;have bO:=kE.o7 (.inl HJ) j d cm f_;rw [j5]at bO;obtain⟨hj,_⟩:=Ec U cm;obtain⟨c,cE,cr⟩:=P.de.ch j d hj cm j5;have cz:d<l.length:=by have:=cm.2.2.2;rw [A9]at this;exact this
  obtain⟨y,dy,qx⟩:=U.node d cz;have tL:=GZ qx.ok (by rw [←Bb qx.at_];exact j5);rw [Rs qx.at_]at cr;obtain⟨x0,ds,pD⟩:=U.node i hi;have yf:l[i]=x0:=Option.some.inj (hx.symm.trans pD.at_);have vd:=Asc pD.ok (by rw [←yf];exact iq);rw [←yf]at vd;subst bO;have mk:((c.size=0/\l[i].kids=0)\/(0<c.size/\l[i].kids=1))->(0<c.size->Az l (i+1)=1->mz l (i+1)<c.size)->o8 l i:=fun a b=>
   ⟨fun _ j' d' bZ jD=>by obtain⟨rfl,rfl⟩:=S.decl.uniq cm bZ (by rw [f_,jD]);rw [Rs qx.at_,←cr,gD];exact⟨a,b⟩,fun h=>by omega,fun h=>by omega⟩
  refine Bt hn (Bt cE ⟨fun b=>b=true↔(c.size=0/\l[i].kids>0)\/(c.size>0/\l[i].kids=0),?_,?_⟩)
  ·have dY:¬(c.size=0/\l[i].kids>0)->cond (decide (c.size>0)) ((l[i].kids==0)=true↔(c.size=0/\l[i].kids>0)\/(c.size>0/\l[i].kids=0)) (false=true↔(c.size=0/\l[i].kids>0)\/(c.size>0/\l[i].kids=0)):=by
    intro bV;refine Aa (fun hg=> ?_) fun hg=> ?_
    ·have hg:=of_decide_eq_true hg;rw [beq_iff_eq];omega
    ·have hg:=of_decide_eq_false hg;simp only [false_eq_true,false_iff];omega
   refine Aa (fun h0=>Aa (fun hq=> ?_) fun hq=>dY (fun h=>of_decide_eq_false hq h.2)) fun h0=>dY (fun h=>by rw [h.1]at h0;simp at h0)
   have h0:c.size=0:=by simpa using h0
   have hq:=of_decide_eq_true hq;simp only [true_iff];exact .inl ⟨h0,hq⟩
  intro b hb;refine Aa (fun hbt=>jE _ (by decide)) fun TD=> ?_
  have qa:¬((c.size=0/\l[i].kids>0)\/(c.size>0/\l[i].kids=0)):=fun h=>by rw [hb.2 h]at TD;cases TD
  have Brm:(c.size=0/\l[i].kids=0)\/(0<c.size/\l[i].kids=1):=by
   have hy0:=tL.1;rw [←cr]at hy0;rcases vd with h|h<;>omega
  refine⟨fun b=>b=false->(0<c.size->Az l (i+1)=1->mz l (i+1)<c.size),Aa (fun hg=> ?_) fun hg _ h=>absurd h (of_decide_eq_false hg),?_⟩
  ·have hg:=of_decide_eq_true hg;have hds:ds=[69]:=by
    rcases vd with h|h
    ·omega
    ·exact h.2
   obtain⟨i',y',bZ,j3,_⟩:=pD.lz 0 69 (by rw [hds];rfl);have:=bZ.first;subst this;rw [aP];refine Bt j3 (Aa (fun h1=>Bt j3 fun hf _ _=> ?_) fun h1 _ _ h=> ?_)
   ·have hf:=of_decide_eq_false hf;rw [Rs j3];omega
   ·rw [Bb j3]at h;rw [h]at h1;simp at h1
  ·intro b2 dY;exact Aa (fun _=>jE _ (by decide)) fun hf=>eB (mk Brm (dY hf))
 have iq:¬Az l i=33:=by rw [ho];simpa using hc
 refine Aa (fun hc=> ?_) fun hc=> ?_
 ·have lB:Az l i=26:=by rw [ho];simpa using hc
  obtain⟨r,hr,hs⟩:=Wf U hi (by omega) (by omega);obtain⟨j,d,cm,f_,ny⟩:=(S.wr r i hr hs).o7 (.inr lB);have j5:Az l d≠38:=fun h=>iq (ny.1 h)
  have bO:=kE.o7 (.inr lB) j d cm f_;rw [show decide (Az l d=38)=false by simp [j5]]at bO;obtain⟨hj,_⟩:=Ec U cm;obtain⟨R,HK,HL⟩:=P.de.rt j d hj cm j5;subst bO;refine Bt hn (Bt HK (Aa (fun _=>jE _ (by decide)) fun hq=>eB ⟨fun h=>absurd h iq,fun _ j' d' bZ jD=> ?_,fun h=>by omega⟩));obtain⟨rfl,rfl⟩:=S.decl.uniq cm bZ (by rw [f_,jD]);rw [gD,←HL];simpa using hq
 have lB:¬Az l i=26:=by rw [ho];simpa using hc
 refine Aa (fun hc=> ?_) fun hc=> ?_
 ·have se:Az l i=37:=by rw [ho];simpa using hc
  have h0:0<i:=by
   rcases Nat.eq_zero_or_pos i with e|e
   ·subst e;have:=Tn U;omega
   ·exact e
  obtain⟨u,j,hk⟩:=xV U hi h0;have jk:u<l.length:=by have:=hk.1;rw [A9]at this;exact this
  refine RF l i U.len _ fun r hr=> ?_
  obtain rfl:=TC hk hr;have hlen:=Eb l u;refine We l u U.len _ ⟨fun k n=>At (Ar l u).length (fun k=>∀j' y,j'<k->bh (ks l) u j' y->Az l y≠37) k n,⟨_,At.start (fun j y hj=>absurd hj (not_lt_zero _))⟩,?_⟩;rintro _ _ ⟨k,rfl,gw,rfl,bV⟩;refine⟨fun b=>b=decide (k<(Ar l u).length/\∀h:k<(Ar l u).length,(Ar l u)[k]<(i:Int)),At.cond gw (fun h=>Df h ?_) fun h=> ?_,?_⟩
  ·show decide _=decide _
   rw [Bool.eq_iff_iff,decide_eq_true_eq,decide_eq_true_eq];exact⟨fun g=>⟨h,fun _=>g⟩,fun g=>g.2 h⟩
  ·exact(decide_eq_false (fun g=>absurd g.1 (by omega))).symm
  rintro _ rfl;refine Aa (fun hb=> ?_) fun hb=> ?_
  ·obtain⟨h1,h2⟩:=of_decide_eq_true hb;have h2:=h2 h1;obtain⟨y,z,he,tM,hz⟩:=Gc U jk h1;have eY:(Ar l u)[k]=((y:Nat):Int):=he;refine Df h1 ?_;rw [eY];refine Bt hz (Aa (fun _=>jE _ (by decide)) fun hq=>At.next (by omega) h1 fun j' y' iX j3=> ?_);by_cases e:j'=k
   ·subst e;rw [←Tp tM j3,Bb hz];simpa using hq
   ·exact bV j' y' (by omega) j3
  ·have hb:=of_decide_eq_false hb;refine eB ⟨fun h=>absurd h iq,fun h=>absurd h lB,fun _ u' jj y j' kh jC aE=> ?_⟩;obtain rfl:=hk.unique kh;refine bV j' y ?_ jC;obtain⟨iX,hje⟩:=Ec U jC;have iX:j'<(Ar l u).length:=iX;rcases lt_or_ge j' k with h|h
   ·exact h
   ·exfalso;have h1:k<(Ar l u).length:=by omega
    obtain⟨y2,z2,fW,TE,_⟩:=Gc U jk h1;have HA:(Ar l u)[k]=((y2:Nat):Int):=fW;refine hb ⟨h1,fun _=> ?_⟩;rw [HA];rcases lt_or_ge k j' with g|g
    ·have:=Ti TE jC g;omega
    ·have:k=j':=by omega
     subst this;have:=Tp TE jC;omega
 ·have se:¬Az l i=37:=by rw [ho];simpa using hc
  exact eB ⟨fun h=>absurd h iq,fun h=>absurd h lB,fun h=>absurd h se⟩
theorem Azg (hl:l.length<=100000) (fD:∀x∈l,x.name.length<2^63/\x.kids<=9223372036854775807) (K:Bc->Prop) (jE:∀g,g.e_≠0->K g) (eB:G2 l->(∀i,i<l.length->o8 l i)->∀p,Fg l p->K ⟨p,0,0⟩):PU l K:=by
 refine Ajf _ _ (Azf hl fD _ (fun g hg=>B3 (by simpa using hg) (jE g hg)) fun S p P=>Ba rfl ?_);refine⟨fun i pm at_ e n=>At l.length (fun i=>∀v,v<i->o8 l v) i n,⟨_,At.start (fun v hv=>absurd hv (not_lt_zero _))⟩,?_⟩;rintro _ pm at_ e _ ⟨i,rfl,hi,rfl,hF⟩;refine At.cond hi (fun hi=> ?_) fun hi=> ?_
 ·refine Axv S P hi _ (fun e he=>B3 (by simpa using he) (jE _ he)) fun hf=>Ba rfl (At.next (by omega) hi fun v hv=> ?_)
  by_cases e:v=i
  ·subst e;exact hf
  ·exact hF v (by omega)
 ·subst hi;exact eB S hF p P
end
end Go.Proofs.YtpdccfgpbkagcaaGreat
namespace Go.Vc
open Go.RowKit (Below)
variable {κ:Type} [BEq κ]
def Wg (E:Mo κ) (es:List MapEntry) (bF:List (κ×Value)):Prop:=es.map (fun e=>(e.key,e.val))=bF.map (fun p=>(E.enc p.1,p.2))
def Xu (E:Mo κ) (w:World) (b:Nat) (bF:List (κ×Value)):Prop:=∃es clock,w.heap[b]? =some (.map es clock)/\Wg E es.toList bF
theorem AG (E:Mo κ) (s:κ):∀(es:List MapEntry) (bF:List (κ×Value)) (i:Nat),Wg E es bF->
 (Hb bF s=none->Instr.findNow E.kd (E.enc s) es i=some none)/\
 (∀v,Hb bF s=some v->∃k,bF.findIdx? (·.1==s)=some k/\Instr.findNow E.kd (E.enc s) es i=some (some (i+k,v)))
 |[],[],_,_=>⟨fun _=>rfl,fun v h=>by cases h⟩
 |[],_::_,_,h=>by simp [Wg]at h
 |_::_,[],_,h=>by simp [Wg]at h
 |e::es,(a,b)::bF,i,h=>by
  unfold Wg at h;simp only [map_cons,List.cons.injEq,Prod.mk.injEq]at h;obtain⟨⟨hk,hv⟩,hr⟩:=h;unfold Instr.findNow;simp only [hk,E.same];unfold Hb;rw [List.find?_cons,List.findIdx?_cons];cases hc:(a==s)with
  |true=>exact⟨fun h=>(by cases h),fun v h=>⟨0,rfl,by simp at h;rw [hv,h];rfl⟩⟩
  |false=>
   obtain⟨h1,h2⟩:=AG E s es bF (i+1) hr;refine⟨h1,fun v h=> ?_⟩;obtain⟨k,kh,jC⟩:=h2 v h;refine⟨k+1,by simp [kh],?_⟩;rw [jC,show i+1+k=i+(k+1) by omega]
variable {E:Mo κ} {P:Program} {w:World} {b:Nat} {bF:List (κ×Value)} {t kt et:TypeId}
def rn (bF:List (κ×Value)) (s:κ) (v:Value):List (κ×Value):=
 match bF.findIdx? (·.1==s)with
 |some i=>bF.modify i fun p=>(p.1,v)
 |none=>bF++[(s,v)]
def Vl (bF:List (κ×Value)) (s:κ):List (κ×Value):=
 match bF.findIdx? (·.1==s)with
 |some i=>bF.eraseIdx i|none=>bF
theorem Xu.add (h:Xu E w b bF) (ht:P.underlying t=some (.map kt et)) (hk:P.underlying kt=some E.kd) {s:κ} {v:Value} (hs:Hb bF s=none) {K:Unit->World->Prop} (hK:∀w',Xu E w' b (bF++[(s,v)])->w.grownBy w' (some b)->K () w'):Bh P (Instr.mapUpdate t (.map (some b)) (E.enc s) v) K w:=by
 obtain⟨es,c,h,he⟩:=h;have hf:=(AG E s es.toList bF 0 he).1 hs;have hc:(Instr.checkKey false 10000 kt (E.enc s)).run P w= .ok () w:=MapKept.run_checkKey (k:=E.enc s) hk (E.key s) false 9999;refine⟨(),{ w with heap:=w.heap.setIfInBounds b (.map (es.push { key:=E.enc s,val:=v,born:=c }) (c+1)) },?_,hK _ ?_ ?_⟩
 ·simp [Instr.mapUpdate,run_underlying ht,MapKept.run_getObj_map h,hc,MapKept.run_findKey hk hf,MapKept.run_setObj_map _ h,Result.andThen]
 ·refine⟨_,_,(MapKept.heap_set h).1,?_⟩;unfold Wg at he⊢;simp [he]
 ·exact⟨rfl,rfl,rfl,by simp,fun k _ hr=>(MapKept.heap_set h).2 k (fun e=>hr (by rw [e]))⟩
theorem Xu.Brn (h:Xu E w b bF) (ht:P.underlying t=some (.map kt et)) (hk:P.underlying kt=some E.kd) {z:Value} (hz:(zeroValue et).run P w= .ok z w) (s:κ) {K:Value->World->Prop} (hK:K (.tuple #[(Hb bF s).getD z,.bool (Hb bF s).isSome]) w):Bh P (Instr.lookup t (.map (some b)) (E.enc s) true) K w:=by
 obtain⟨es,c,h,he⟩:=h;have hf:=AG E s es.toList bF 0 he;have hc:∀e,(Instr.checkKey e 10000 kt (E.enc s)).run P w= .ok () w:=fun e=>MapKept.run_checkKey (k:=E.enc s) hk (E.key s) e 9999
 refine⟨_,w,?_,hK⟩;cases hg:Hb bF s with
 |none=>
  have:=hf.1 hg;simp [Instr.lookup,run_underlying ht,MapKept.run_getObj_map h,hc,MapKept.run_findKey hk this,Result.andThen,hz]
 |some v=>
  obtain⟨k,_,this⟩:=hf.2 v hg;simp [Instr.lookup,run_underlying ht,MapKept.run_getObj_map h,hc,MapKept.run_findKey hk this,Result.andThen]
theorem Xu.del {ty:TypeId} (h:Xu E w b bF) (ht:P.underlying t=some (.map kt et)) (hk:P.underlying kt=some E.kd) {s:κ} {K:Value->World->Prop} (hK:∀w',Xu E w' b (Vl bF s)->w.grownBy w' (some b)->K (.tuple #[]) w'):Bh P (Builtin.delete_ #[t,kt] ty #[.map (some b),E.enc s]) K w:=by
 obtain⟨es,c,h,he⟩:=h;have hf:=AG E s es.toList bF 0 he;have hc:∀e,(Instr.checkKey e 10000 kt (E.enc s)).run P w= .ok () w:=fun e=>MapKept.run_checkKey (k:=E.enc s) hk (E.key s) e 9999
 cases hg:Hb bF s with
 |none=>
  have hn:=hf.1 hg;refine⟨_,{ w with heap:=w.heap.setIfInBounds b (.map es c) },?_,hK _ ?_ ?_⟩
  ·simp [Builtin.delete_,run_underlying ht,MapKept.run_getObj_map h,hc,MapKept.run_findKey hk hn,MapKept.run_setObj_map _ h,Result.andThen]
  ·refine⟨_,_,(MapKept.heap_set h).1,?_⟩;have:bF.findIdx? (·.1==s)=none:=by
    unfold Hb at hg;simp only [map_eq_none_iff,List.find?_eq_none]at hg;rw [List.findIdx?_eq_none_iff];intro x hx;simpa using hg x hx
   unfold Vl;rw [this];exact he
  ·exact⟨rfl,rfl,rfl,by simp,fun k _ hr=>(MapKept.heap_set h).2 k (fun e=>hr (by rw [e]))⟩
 |some v=>
  obtain⟨k,hi,hn⟩:=hf.2 v hg;rw [Nat.zero_add]at hn;refine⟨_,{ w with heap:=w.heap.setIfInBounds b (.map (es.eraseIdxIfInBounds k) c) },?_,hK _ ?_ ?_⟩
  ·simp [Builtin.delete_,run_underlying ht,MapKept.run_getObj_map h,hc,MapKept.run_findKey hk hn,MapKept.run_setObj_map _ h,Result.andThen]
  ·refine⟨_,_,(MapKept.heap_set h).1,?_⟩;unfold Vl;rw [hi];unfold Wg at he⊢;have hl:es.toList.length=bF.length:=by simpa using congrArg List.length he
   have jC:k<bF.length:=(List.findIdx?_eq_some_iff_getElem.1 hi).1;have TF:k<es.size:=by simpa using(hl▸jC:k<es.toList.length)
   rw [show(es.eraseIdxIfInBounds k).toList=es.toList.eraseIdx k by simp [Array.eraseIdxIfInBounds,TF]];simp only [List.eraseIdx_eq_take_drop_succ,List.map_append,List.map_take,List.map_drop,he]
  ·exact⟨rfl,rfl,rfl,by simp,fun k _ hr=>(MapKept.heap_set h).2 k (fun e=>hr (by rw [e]))⟩
end Go.Vc
namespace Go.Lv
open Go.Vc
section
variable {n0:Nat} {rs m0:List Nat} {fr:List (List Nat×Nat×World)} {ds:List Nat} {w w':World} {ps qs L:List Pc}
def sf (w:World) (ps:List Pc):Prop:=(∀p∈ps,p.holds w)/\ps.Pairwise fun p q=>∀b,p.aY=some b->q.aY≠some b
def cD (ps:List Pc):List Nat:=ms ps []
theorem E0 {k:Nat} :k∈cD ps↔∃p∈ps,p.aY=some k:=by simp [cD,Bj]
theorem Mem.o9 (hm:∀b∈m0,b<w.heap.size) (h:sf w ps):Mem w.heap.size (cD ps) m0 [(cD ps,w.heap.size,w)] [] w ps:=
 ⟨Nat.le_refl _,hm,fun f hf=>by simp at hf;subst hf;exact Lr.refl _ _ _,fun f hf=>by simp at hf;subst hf;exact⟨Nat.le_refl _,fun p hp b hb=> .inl (E0.2 ⟨p,hp,hb⟩)⟩,h.1,fun p hp b hb=> .inl (E0.2 ⟨p,hp,hb⟩),h.2,Lt _ _⟩
theorem Mem.tN (hi:∀b∈cD ps,b∈m0):Step m0 w (ms ps m0) w:=Step.drop w fun k hk=>by
 rcases Bj.1 hk with⟨p,hp,h⟩|h
 ·exact hi _ (E0.2 ⟨p,hp,h⟩)
 ·exact h
structure sg (w:World) (ps:List Pc) (w':World) (qs:List Pc):Prop where
 iy:sf w' qs
 old:∀k∈cD qs,k∈cD ps\/w.heap.size<=k
 aW:Ao (cD ps) w w'
theorem Mem.back {w0:World} (o:Mem w0.heap.size (cD ps) m0 [(cD ps,w0.heap.size,w0)] ds w (L++qs)):sg w0 ps w qs:=
 ⟨⟨fun p hp=>o.holds p (mem_append_right _ hp),(List.pairwise_append.1 o.ew).2.1⟩,fun k hk=>by
   obtain⟨p,hp,hb⟩:=E0.1 hk;exact o.iw p (mem_append_right _ hp) k hb,o.done⟩
theorem Mem.HM {w0:World} (o:Mem w0.heap.size (cD ps) m0 [(cD ps,w0.heap.size,w0)] ds w (L++qs)):sg w0 ps (shut ds w) qs:=
 Mem.back (ds:=[]) (o.D_.grow (Kb _ ds w o.marks.1 o.marks.2) (fun f hf=>by rw [List.mem_singleton.1 hf];exact Nat.le_refl _) (by simp))
theorem Mem.swap (o:Mem n0 rs m0 fr ds w (L++ps)) (h:sg w ps w' qs):Mem n0 rs m0 fr ds w' (L++qs):=by
 have dK:∀b∈cD ps,∃p∈L++ps,p.aY=some b:=fun b hb=>by
  obtain⟨p,hp,e⟩:=E0.1 hb;exact⟨p,mem_append_right _ hp,e⟩
 have lg:∀b∈cD ps,∃o,w.heap[b]? =some o/\F9 o=true:=fun b hb=>by
  obtain⟨p,hp,e⟩:=dK b hb;exact(o.holds p hp).cells e
 have hd:=List.pairwise_append.1 o.ew;have hL:∀p∈L,∀b,p.aY=some b->b∉cD ps:=fun p hp b hb hk=>by
  obtain⟨q,hq,e⟩:=E0.1 hk;exact hd.2.2 p hp q hq b hb e
 refine⟨Nat.le_trans o.le h.aW.size,o.lt,fun f hf=>Q4 (o.aW f hf) (o.eN f hf).1 h.aW fun b hb=>⟨?_,lg b hb⟩,fun f hf=>⟨(o.eN f hf).1,fun p hp b hb=> ?_⟩,fun p hp=> ?_,fun p hp b hb=> ?_,?_,Q5 o.marks.1 h.aW lg,o.marks.2⟩
 ·obtain⟨p,hp,e⟩:=dK b hb;exact(o.eN f hf).2 p hp b e
 ·rcases mem_append.1 hp with hp|hp
  ·exact(o.eN f hf).2 p (mem_append_left _ hp) b hb
  ·rcases h.old b (E0.2 ⟨p,hp,hb⟩)with h1|h1
   ·obtain⟨q,hq,e⟩:=dK b h1;exact(o.eN f hf).2 q hq b e
   ·have h2:=(o.aW f hf).kp.size;have h3:=(o.eN f hf).1;exact .inr (by omega)
 ·rcases mem_append.1 hp with hp|hp
  ·have hh:=o.holds p (mem_append_left _ hp);exact hh.kept fun b hb=>h.aW.block b (hh.lt hb) (hL p hp b hb)
  ·exact h.iy.1 p hp
 ·rcases mem_append.1 hp with hp|hp
  ·exact o.iw p (mem_append_left _ hp) b hb
  ·rcases h.old b (E0.2 ⟨p,hp,hb⟩)with h1|h1
   ·obtain⟨q,hq,e⟩:=dK b h1;exact o.iw q hq b e
   ·exact .inr (Nat.le_trans o.le h1)
 ·refine List.pairwise_append.2 ⟨hd.1,h.iy.2,fun p hp q hq b hb qD=> ?_⟩;rcases h.old b (E0.2 ⟨q,hq,qD⟩)with h1|h1
  ·exact hL p hp b hb h1
  ·have:=(o.holds p (mem_append_left _ hp)).lt hb;omega
theorem Mem.HN (h:sg w ps w' qs):Step (ms (L++ps) m0) w (ms (L++qs) m0) w':=by
 refine⟨(h.aW.mono fun k hk=> ?_).d,fun k hk=> ?_⟩
 ·obtain⟨p,hp,e⟩:=E0.1 hk;exact Bj.2 (.inl ⟨p,mem_append_right _ hp,e⟩)
 ·rcases Bj.1 hk with⟨p,hp,hb⟩|hk
  ·rcases mem_append.1 hp with hp|hp
   ·exact .inl (Bj.2 (.inl ⟨p,mem_append_left _ hp,hb⟩))
   ·rcases h.old k (E0.2 ⟨p,hp,hb⟩)with h1|h1
    ·obtain⟨q,hq,e⟩:=E0.1 h1;exact .inl (Bj.2 (.inl ⟨q,mem_append_right _ hq,e⟩))
    ·exact .inr h1
  ·exact .inl (Bj.2 (.inr hk))
theorem Mem.iy (o:Mem n0 rs m0 fr ds w (L++ps)):sf w ps:=⟨fun p hp=>o.holds p (mem_append_right _ hp),(List.pairwise_append.1 o.ew).2.1⟩
theorem Mem.HO:∀b∈cD ps,b∈ms (L++ps) m0:=fun b hb=>by
 obtain⟨p,hp,e⟩:=E0.1 hb;exact Bj.2 (.inl ⟨p,mem_append_right _ hp,e⟩)
theorem Asd (l:List Value) (i:Nat) (v:Value):over l i [v]=l.set i v:=rfl
theorem Mem.TG (o:Mem n0 rs m0 fr ds w ps) (k:Nat) {e size n c:Nat} {p:Addr} {xs:List Value} (hk:ps[k]? =some (.row e size (some p) n c xs)) {j:Nat} (v:Value) (hj:j<xs.length): Af w (p.add j) 1/\∀w',w'=w.setCell (p.add j) v->Mem n0 rs m0 fr ds w' (ps.set k (.row e size (some p) n c (xs.set j v)))/\Step (ms ps m0) w (ms (ps.set k (.row e size (some p) n c (xs.set j v))) m0) w':=by
 obtain⟨rest,hw,yg⟩:=(o.rowAt k hk).gm;obtain⟨h1,h2⟩:=hw.store (j:=j) (vs:=[v]) (by simp;omega);refine⟨h1,fun w' j9=> ?_⟩;obtain⟨h3,h4⟩:=h2 w' (by rw [j9];exact(Md _ _ _).symm);rw [Asd]at h3;have h5:=yg w' _ h3 (by simp);exact⟨o.kL k hk (Ao.grown h4) h5 fun _ hb=> .inl hb,Mem.pL (p':= .row e size (some p) n c (xs.set j v)) k hk (Ao.grown h4) fun _ hb=> .inl hb⟩
variable {κ:Type} [BEq κ]
def qd (E:Mo κ) (ob:Obj) (bF:List (κ×Value)):Prop:=∃es c,ob= .map es c/\Wg E es.toList bF
theorem qd.nil (E:Mo κ):qd E (.map #[] 0) []:=⟨_,_,rfl,rfl⟩
theorem qd.map {E:Mo κ} {ob:Obj} {bF:List (κ×Value)} {b:Nat} (h:qd E ob bF) (hb:w.heap[b]? =some ob):Xu E w b bF:=by
 obtain⟨es,c,rfl,h2⟩:=h;exact⟨es,c,hb,h2⟩
theorem Mem.raw (o:Mem n0 rs m0 fr ds w ps) (k:Nat) {b:Nat} {ob:Obj} (hk:ps[k]? =some (.raw b ob)):w.heap[b]? =some ob:=(o.holds _ (mem_of_getElem? hk)).1
theorem Mem.HP (o:Mem n0 rs m0 fr ds w ps) {b:Nat} (hb:b=w.heap.size) (e:w'=w.alloc (.map #[] 0)):Mem n0 rs m0 fr ds w' (.raw b (.map #[] 0)::ps):=
 o.push hb e (.raw b (.map #[] 0)) rfl ⟨by subst hb e;show(w.heap.push _)[w.heap.size]? =_;simp,rfl⟩
theorem Mem.HQ {b:Nat} (hb:b=w.heap.size) (e:w'=w.alloc (.map #[] 0)):Step (ms ps m0) w (ms (.raw b (.map #[] 0)::ps) m0) w':=
 Mem.DZ (Bd e) (.raw b (.map #[] 0)) (by rw [hb];rfl)
theorem Mem.TH (o:Mem n0 rs m0 fr ds w ps) (k:Nat) {b:Nat} {ob gE:Obj} (hk:ps[k]? =some (.raw b ob)) (hg:w.grownBy w' (some b)) (hm:w'.heap[b]? =some gE) (hp:F9 gE=true): Mem n0 rs m0 fr ds w' (ps.set k (.raw b gE))/\Step (ms ps m0) w (ms (ps.set k (.raw b gE)) m0) w':=
 ⟨o.kL k hk (Ao.grown hg) ⟨hm,hp⟩ fun _ hb=> .inl hb,Mem.pL (p':= .raw b gE) k hk (Ao.grown hg) fun _ hb=> .inl hb⟩
variable {E:Mo κ} {P:Program} {t kt et:TypeId}
theorem Mem.Bm7 (o:Mem n0 rs m0 fr ds w ps) (k:Nat) {b:Nat} {ob:Obj} {bF:List (κ×Value)} (hk:ps[k]? =some (.raw b ob)) (he:qd E ob bF) (ht:P.underlying t=some (.map kt et)) (HR:P.underlying kt=some E.kd) {s:κ} {v:Value} (hs:Hb bF s=none) {K:Unit->World->Prop} (hK:∀w' gE,qd E gE (bF++[(s,v)])->Mem n0 rs m0 fr ds w' (ps.set k (.raw b gE))->Step (ms ps m0) w (ms (ps.set k (.raw b gE)) m0) w'->K () w'):Bh P (Instr.mapUpdate t (.map (some b)) (E.enc s) v) K w:=
 Xu.add (he.map (o.raw k hk)) ht HR hs fun w' h1 h2=>by
  obtain⟨es,c,h3,h4⟩:=h1;obtain⟨h5,h6⟩:=o.TH k hk h2 h3 rfl;exact hK w' _ ⟨es,c,rfl,h4⟩ h5 h6
theorem Mem.Bm8 (o:Mem n0 rs m0 fr ds w ps) (k:Nat) {b:Nat} {ob:Obj} {bF:List (κ×Value)} {ty:TypeId} (hk:ps[k]? =some (.raw b ob)) (he:qd E ob bF) (ht:P.underlying t=some (.map kt et)) (HR:P.underlying kt=some E.kd) {s:κ} {K:Value->World->Prop} (hK:∀w' gE,qd E gE (Vl bF s)->Mem n0 rs m0 fr ds w' (ps.set k (.raw b gE))->Step (ms ps m0) w (ms (ps.set k (.raw b gE)) m0) w'->K (.tuple #[]) w'):Bh P (Builtin.delete_ #[t,kt] ty #[.map (some b),E.enc s]) K w:=
 Xu.del (he.map (o.raw k hk)) ht HR fun w' h1 h2=>by
  obtain⟨es,c,h3,h4⟩:=h1;obtain⟨h5,h6⟩:=o.TH k hk h2 h3 rfl;exact hK w' _ ⟨es,c,rfl,h4⟩ h5 h6
theorem Apy (bF:List (List UInt8×Value)) (s t:List UInt8) (v:Value) (hs:Hb bF s=none):Hb (bF++[(s,v)]) t=if t=s then some v else Hb bF t:=by
 unfold Hb at hs⊢;rw [List.find?_append];by_cases e:t=s
 ·subst e;rw [if_pos rfl];simp only [map_eq_none_iff]at hs;rw [hs];simp
 ·rw [if_neg e];cases hf:bF.find? (fun p=>p.1==t)with
  |some p=>simp
  |none=>simp [Ne.symm e]
def o_ (bF:List (List UInt8×Value)):Prop:=(bF.map (·.1)).Nodup
theorem o_.snoc {bF:List (List UInt8×Value)} (h:o_ bF) {s:List UInt8} {v:Value} (hs:Hb bF s=none):o_ (bF++[(s,v)]):=by
 unfold o_ at h⊢;rw [List.map_append];refine List.nodup_append.2 ⟨h,by simp,fun a ha b hb=> ?_⟩;simp at hb;subst hb;intro e;subst e;obtain⟨p,hp,rfl⟩:=mem_map.1 ha;unfold Hb at hs;simp only [map_eq_none_iff,List.find?_eq_none]at hs;exact hs p hp (by simp)
theorem Ase {bF:List (List UInt8×Value)} (h:o_ bF) (s:List UInt8):o_ (Vl bF s):=by
 unfold Vl;split
 ·unfold o_ at h⊢;exact h.sublist ((List.eraseIdx_sublist _ _).map _)
 ·exact h
theorem Asf {bF:List (List UInt8×Value)} (h:o_ bF) (s t:List UInt8):Hb (Vl bF s) t=if t=s then none else Hb bF t:=by
 induction bF with
 |nil=>simp [Vl,Hb]
 |cons p bF ih=>
  obtain⟨a,v⟩:=p;have h':a∉bF.map (·.1)/\o_ bF:=by
   unfold o_ at h;rw [map_cons,List.nodup_cons]at h;exact h
  have ih:=ih h'.2;by_cases e:a=s
  ·subst e;have h1:Vl ((a,v)::bF) a=bF:=by simp [Vl,List.findIdx?_cons]
   rw [h1];by_cases e2:t=a
   ·subst e2;rw [if_pos rfl];unfold Hb;rw [map_eq_none_iff,List.find?_eq_none];intro p hp hpt;exact h'.1 (mem_map.2 ⟨p,hp,by simpa using hpt⟩)
   ·rw [if_neg e2];unfold Hb;rw [List.find?_cons_of_neg (by simpa using Ne.symm e2)]
  ·have h1:Vl ((a,v)::bF) s=(a,v)::Vl bF s:=by
    unfold Vl;rw [List.findIdx?_cons];simp only [beq_eq_false_iff_ne.2 e];cases hf:bF.findIdx? (fun p=>p.1==s)with
    |none=>simp
    |some i=>simp
   rw [h1];by_cases e2:a=t
   ·subst e2;rw [if_neg e];simp [Hb]
   ·have h2:∀r:List (List UInt8×Value),Hb ((a,v)::r) t=Hb r t:=fun r=>by
     unfold Hb;rw [List.find?_cons_of_neg (by simpa using e2)]
    rw [h2,h2];exact ih
end
end Go.Lv
