/- A part of the proof: conditions of the code, contracts, the plain law. -/
import Derived.Test.YtcakelelfklhdaaGreatDoorM9
import Derived.Test.YtcakelelfklhdaaGreatDoorM6
import Derived.Test.YtcakelelfklhdaaGreatDoorM7
import Derived.Test.YtcakelelfklhdaaGreatDoorM2
import Derived.Test.YtcakelelfklhdaaGreatDoorRows
import Derived.Test.YtcakelelfklhdaaGreatDoorOpenLv
namespace Go.Proofs.YtcakelelfklhdaaGreatDoor
open Go.Vc Go.Lv Go.Ty Go.Tr Go.Tk Go.Tm
theorem Awd (xs:List Int) (hn:xs.length<2^40) (K:List Int->Prop) (h:K xs.reverse):Ef xs K:=by
 refine Kc _ _ ?_
 unfold F7
 refine⟨fun i j l n=>∃k:Nat,i=k/\j=(xs.length:Int)-1-k/\2*k<=xs.length+1/\l.length=xs.length/\(∀t,t<xs.length->l[t]? =if t<k\/xs.length-k<=t then xs[xs.length-1-t]? else xs[t]?)/\n=xs.length-k,
  ⟨_,0,rfl,by rw [Ax (by omega) (by omega)];omega,by omega,rfl,fun t ht=>by rw [if_neg (by omega)],rfl⟩,?_⟩
 rintro _ _ l _ ⟨k,rfl,rfl,hk,hl,hg,rfl⟩
 refine Ab (fun e=> ?_) fun e=> ?_
 ·have e:(k:Int)<(xs.length:Int)-1-k:=by simpa using e
  have hj:((xs.length:Int)-1-k).toNat=xs.length-1-k:=by omega
  rw [hj,Int.toNat_natCast]
  have g1:=hg (xs.length-1-k) (by omega)
  have g2:=hg k (by omega)
  rw [if_neg (by omega)]at g1 g2
  refine⟨fun l1=>l1=(l.set k (xs[xs.length-1-k]'(by omega))).set (xs.length-1-k) (xs[k]'(by omega)),⟨⟨by omega,by omega⟩,fun x hx=>⟨⟨by omega,by omega⟩,fun x1 hx1=>⟨⟨by omega,by omega⟩,fun x2 hx2=>⟨⟨by omega,by omega⟩,fun x3 hx3=> ?_⟩⟩⟩⟩,?_⟩
  ·rw [g1,List.getElem?_eq_getElem (by omega)]at hx
   rw [g2,List.getElem?_eq_getElem (by omega)]at hx1
   cases hx
   cases hx1
   rfl
  rintro _ rfl
  refine⟨xs.length-(k+1),by omega,k+1,by rw [Ax (by omega) (by omega)];omega,by rw [Ax (by omega) (by omega)];omega,by omega,by simp [hl],fun t ht=> ?_,rfl⟩
  rw [List.getElem?_set,List.length_set]
  by_cases h1:xs.length-1-k=t
  ·rw [if_pos h1,if_pos (by omega),if_pos (by omega),←h1,show xs.length-1-(xs.length-1-k)=k by omega,List.getElem?_eq_getElem (by omega)]
  rw [if_neg h1,List.getElem?_set]
  by_cases h2:k=t
  ·subst h2
   rw [if_pos rfl,if_pos (by omega),if_pos (by omega),List.getElem?_eq_getElem (by omega)]
  rw [if_neg h2,hg t ht]
  by_cases h3:t<k\/xs.length-k<=t
  ·rw [if_pos h3,if_pos (by omega)]
  ·rw [if_neg h3,if_neg (by omega)]
 ·have e:¬(k:Int)<(xs.length:Int)-1-k:=by simpa using e
  have:l=xs.reverse:=by
   apply List.ext_getElem?
   intro t
   by_cases ht:t<xs.length
   ·rw [hg t ht,List.getElem?_reverse ht]
    split
    ·rfl
    ·rw [show xs.length-1-t=t by omega]
   ·rw [List.getElem?_eq_none (by omega),List.getElem?_eq_none (by simp;omega)]
  rw [this];exact h
def Fu (x:Ai):Bool:=x.n==1&&(x.op==34||(x.op==35||x.op==36))
theorem Atr (x:Ai) (K:Bool->Prop) (h:K (Fu x)):F5 x K:=by
 refine T7 _ _ ?_
 unfold Ns
 unfold Fu at h
 refine Ab (fun e=> ?_) fun e=> ?_
 ·rw [e]at h
  refine Ab (fun e1=> ?_) fun e1=> ?_
  ·rw [e1]at h;exact h
  rw [e1]at h
  refine Ab (fun e2=> ?_) fun e2=> ?_
  ·rw [e2]at h;exact h
  ·rw [e2]at h;exact h
 ·rw [e]at h;exact h
theorem Aaa (n most:Int) (a b:List UInt8) (c:UInt8) (k:Nat) (hn:n=((a.length+k+b.length:Nat):Int)) (hm:n<=most) (hk:n<2^31) (K:List UInt8->Bool->Prop) (h:K (a++List.replicate k c++b) true):Hg n most a (c.toNat:Int) b K:=by
 refine Zi _ _ _ _ _ _ ?_
 unfold R5
 rw [if_neg (by omega),Ax (n:=n-_) (by omega) (by omega),Ax (by omega) (by omega)]
 have e:n-(a.length:Int)-(b.length:Int)=(k:Int):=by omega
 rw [e]
 refine A8 (by simp) (Avc _ _ (by omega) (by omega) _ ?_)
 have e2:strOf (List.replicate (k:Int).toNat (c.toNat:Int))=List.replicate k c:=by
  unfold strOf
  rw [Int.toNat_natCast,List.map_replicate,Int.toNat_natCast,UInt8.ofNat_toNat]
 rw [e2,Qr]
 refine⟨by rw [List.length_replicate];omega,by rw [List.length_append,List.length_replicate];omega,h⟩
theorem As7 (x:Ai) (want:List UInt8) (hw:want.length<=10) (K:List UInt8->Bool->Prop) (w2:List UInt8) (hw2:w2=if Fu x then 69::(if 5<=x.op/\x.op<=17 then [69,69]else want)else(if 5<=x.op/\x.op<=17 then [69,69]else want)) (h:K w2 ((w2.length:Int)==x.kids)):
 ∃(J4:(List UInt8)->Prop),(∃(J5:Bool->Prop),(cond (decide (x.op>=5)) (J5 (decide (x.op<=17))) (J5 false))/\∀(x13:Bool),J5 x13->cond (x13) (J4 [69,69]) (J4 want))/\
 ∀(Bbe:List UInt8),J4 Bbe->∃(J6:(List UInt8)->Prop),(F5 x (fun x14=>cond (x14) ((([69].length+Bbe.length:Nat):Int)<=IntKind.i64.max/\J6 ([69]++Bbe)) (J6 Bbe)))/\
 ∀(Bc0:List UInt8),J6 Bc0->K Bc0 ((Bc0.length:Int)==x.kids):=by
 refine⟨(·=if 5<=x.op/\x.op<=17 then [69,69]else want),⟨(·=decide (5<=x.op/\x.op<=17)),?_,?_⟩,?_⟩
 ·refine Ab (fun e=> ?_) fun e=> ?_
  ·have e:x.op>=5:=by simpa using e
   show decide (x.op<=17)=_
   by_cases h2:x.op<=17
   ·rw [decide_eq_true h2,decide_eq_true ⟨e,h2⟩]
   ·rw [decide_eq_false h2,decide_eq_false (fun hh=>h2 hh.2)]
  ·have e:¬x.op>=5:=by simpa using e
   show false=_
   rw [decide_eq_false (fun hh=>e hh.1)]
 ·rintro _ rfl
  refine Ab (fun e=> ?_) fun e=> ?_
  ·have e:=of_decide_eq_true e
   show _=_
   rw [if_pos e]
  ·have e:=of_decide_eq_false e
   show _=_
   rw [if_neg e]
 rintro _ rfl
 have hl:(if 5<=x.op/\x.op<=17 then [69,69]else want).length<=10:=by
  split
  ·decide
  ·exact hw
 refine⟨(·=w2),Atr _ _ (Ab (fun e=>⟨?_,?_⟩) fun e=> ?_),?_⟩
 ·rw [Qr,List.length_singleton];omega
 ·rw [e,if_pos rfl]at hw2;exact hw2.symm
 ·rw [e,if_neg (by simp)]at hw2;exact hw2.symm
 ·rintro _ rfl;exact h
end Go.Proofs.YtcakelelfklhdaaGreatDoor
namespace Go.Proofs.YtcakelelfklhdaaGreatDoor
open Go.Vc Go.Lv Go.Ty Go.Tk
namespace Nv
def Aqr (s:List UInt8):Bool:=
 match s with
 |[]=>false
 |c::l=>decide ((c::l).length<=16)&&(Hy c&&((c::l).all Tk.Bj&& !decide ((c::l)∈words)))
theorem Akz (c:UInt8) (l:List UInt8):Aqr (c::l)=(decide ((c::l).length<=16)&&(Hy c&&((c::l).all Tk.Bj&& !decide ((c::l)∈words)))):=rfl
theorem Aab {α:Type} [BEq α] [LawfulBEq α] (p:α->Bool):∀(l:List α),(l.takeWhile p==l)=l.all p
 |[]=>by simp
 |a::l=>by
  rw [List.takeWhile_cons,List.all_cons]
  cases h:p a with
  |true=>simp only [if_true,Bool.true_and];rw [←Aab p l];rw [Bool.eq_iff_iff];simp
  |false=>simp
theorem Ai7 (n:Nat) (h:n<256) (K:Bool->Prop) (hk:K (Za n)):Jv n K:=by
 refine T8 _ _ ?_
 have:=Aj6 n h
 unfold Ad4 at this
 unfold Nt
 rw [this];exact hk
theorem As8 (n:Nat) (K:Bool->Prop) (hk:K (T1 n)):M4 n K:=by
 refine Vi _ _ ?_
 have:T1 n=(decide ((n:Int)>=48)&&decide ((n:Int)<=57)):=by
  unfold T1;rw [Bool.eq_iff_iff];simp;omega
 unfold O7
 rw [←this];exact hk
theorem Aqs (n:Nat) (h:n<256) (K:Bool->Prop) (hk:K (O6 n)):L6 n K:=by
 refine T9 _ _ (Ai7 n h _ (Ab (fun hc=> ?_) fun hc=>As8 n _ ?_))
 ·unfold O6 at hk;rw [hc]at hk;exact hk
 ·unfold O6 at hk;rw [hc]at hk;exact hk
theorem Avd (s:List UInt8) (hs:s.length<2^40) (K:List UInt8->Prop) (hk:K (s.takeWhile Tk.Bj)):Fs s K:=by
 refine Lw _ _ ⟨fun x n=>∃k:Nat,x=k/\k<=s.length/\n=s.length-k/\∀i (h:i<s.length),i<k->Tk.Bj s[i]=true,⟨_,0,rfl,by omega,rfl,by omega⟩,?_⟩
 rintro _ _ ⟨k,rfl,hkl,rfl,Aw4⟩
 refine Ab (fun hc=>⟨by simp at hc;omega,?_⟩) fun hc=> ?_
 ·have hlt:k<s.length:=by simp at hc;omega
  rw [Int.toNat_natCast,getD_eq s k hlt]
  refine Aqs _ (UInt8.toNat_lt _) _ (Ab (fun hd=>⟨by omega,?_⟩) fun hd=> ?_)
  ·have hd':Tk.Bj s[k]=false:=by simpa [Tk.Bj] using hd
   rw [←Hh Tk.Bj s k Aw4 (fun _=>hd')]
   exact hk
  ·have hd':Tk.Bj s[k]=true:=by simpa [Tk.Bj] using hd
   refine⟨s.length-(k+1),by omega,k+1,by rw [Ax (by omega) (by omega)];omega,by omega,rfl,fun i h hi=> ?_⟩
   by_cases hik:i=k
   ·subst hik;exact hd'
   ·exact Aw4 i h (by omega)
 ·have hkk:k=s.length:=by simp at hc;omega
  rw [Hh Tk.Bj s k Aw4 (fun h=>by omega),hkk,List.take_length]at hk
  exact hk
def Af0 (i j:Nat):Nat:=(i+j)/2
theorem As9 (i j:Nat) (h:i+j<2^40):IntKind.i64.wrap ((IntKind.u64.wrap (IntKind.i64.wrap ((i:Int)+(j:Int)))).fdiv (2^(min 1 IntKind.u64.bits)))=(Af0 i j:Nat):=by
 have e0:IntKind.i64.wrap ((i:Int)+(j:Int))=(i:Int)+j:=Ax (by omega) (by omega)
 have e:IntKind.u64.wrap ((i:Int)+(j:Int))=(i:Int)+j:=by rw [IntKind.wrap_u64];omega
 have e2:(min 1 IntKind.u64.bits)=1:=by decide
 have e3:((i:Int)+(j:Int)).fdiv (2^1)=(Af0 i j:Nat):=by
  rw [Int.fdiv_eq_ediv_of_nonneg _ (by decide)];unfold Af0;omega
 rw [e0,e,e2,e3]
 exact Ax (by omega) (by unfold Af0;omega)
theorem Awe (s:List UInt8) (K:Bool->Prop) (hk:K false):Gj s K:=by
 refine Pk _ _ ?_
 unfold K7
 rw [beq_self_eq_true];exact hk
theorem Ave (s:List UInt8) (K:Bool->Prop) (hk:K false):E6 s K:=by
 refine M5 _ _ ?_
 unfold Ji
 rw [beq_self_eq_true];exact hk
theorem Avf (x y:List UInt8) (K:Bool->Prop) (hk:K (Op.bytesLess x y)):Jw x y K:=
 Qk _ _ _ (Awe _ _ hk)
theorem Aqt (l:List (List UInt8)) (hl:Aoq l) (hn:l.length<1000) (t:List UInt8) (K:Int->Bool->Prop) (hk:∀i,K i (decide (t∈l))):Cx l t K:=by
 refine Gx _ _ _ ⟨fun i j n=>∃i' j':Nat,i=i'/\j=j'/\i'<=j'/\j'<=l.length/\n=j'-i'/\(∀k (h:k<l.length),k<i'->Op.bytesLess l[k] t=true)/\(∀k (h:k<l.length),j'<=k->Op.bytesLess l[k] t=false),
  ⟨_,0,l.length,rfl,rfl,Nat.zero_le _,Nat.le_refl _,rfl,fun _ _ h=>absurd h (Nat.not_lt_zero _),fun k h h'=>by omega⟩,?_⟩
 rintro _ _ _ ⟨i,j,rfl,rfl,hij,hj,rfl,hlo,hhi⟩
 refine Ab (fun hx=> ?_) fun hx=> ?_
 ·have hlt:i<j:=by simpa using hx
  rw [As9 i j (by omega)]
  have hm1:i<=Af0 i j:=by unfold Af0;omega
  have hm2:Af0 i j<j:=by unfold Af0;omega
  generalize Af0 i j=m at hm1 hm2
  have hml:m<l.length:=by omega
  refine⟨by omega,by omega,fun x hx=> ?_⟩
  rw [Int.toNat_natCast,List.getElem?_eq_getElem hml]at hx
  cases hx
  refine Avf _ _ _ (Ab (fun hb=> ?_) fun hb=> ?_)
  ·rw [Ax (by omega) (by omega)]
   refine⟨_,?_,m+1,j,by omega,rfl,by omega,hj,rfl,fun k h hk=> ?_,hhi⟩
   ·omega
   ·rcases Nat.lt_or_ge k m with h'|h'
    ·exact Sr _ _ _ (hl k m h hml h') hb
    ·obtain rfl:k=m:=by omega
     exact hb
  ·refine⟨_,?_,i,m,rfl,rfl,hm1,by omega,rfl,hlo,fun k h hk=> ?_⟩
   ·omega
   ·rcases Nat.lt_or_ge m k with h'|h'
    ·cases hh:Op.bytesLess l[k] t with
     |false=>rfl
     |true=>rw [Sr _ _ _ (hl m k hml h h') hh]at hb;cases hb
    ·obtain rfl:k=m:=by omega
     exact hb
 ·have hge:i=j:=by have:¬i<j:=by simpa using hx
                   omega
  subst hge
  refine Ab (fun hx2=> ?_) fun hx2=> ?_
  ·have hil:i<l.length:=by simpa using hx2
   have gl:=List.getElem?_eq_getElem hil
   refine⟨by omega,fun x hx=> ?_⟩
   rw [Int.toNat_natCast,gl]at hx
   cases hx
   refine Ab (fun hb=> ?_) fun hb=>⟨by omega,fun x hx=> ?_⟩
   ·have:l[i]=t:=by simpa using hb
    have:=hk i
    rwa [decide_eq_true (by rw [←‹l[i]=t›];exact List.getElem_mem hil)]at this
   ·have hne:l[i]≠t:=by simpa using hb
    refine Ave _ _ ?_
    have Bb2:t∉l:=by
     intro hm
     obtain⟨p,hp,rfl⟩:=List.getElem_of_mem hm
     rcases Nat.lt_trichotomy p i with h'|h'|h'
     ·have:=hlo p hp h';rw [Qd]at this;cases this
     ·subst h';exact hne rfl
     ·have:=hl i p hil hp h'
      rw [hhi i hil (Nat.le_refl _)]at this;cases this
    have:=hk i
    rwa [decide_eq_false Bb2]at this
  ·have hil:¬i<l.length:=by simpa using hx2
   have Bb2:t∉l:=by
    intro hm
    obtain⟨p,hp,rfl⟩:=List.getElem_of_mem hm
    have:=hlo p hp (by omega);rw [Qd]at this;cases this
   have:=hk i
   rwa [decide_eq_false Bb2]at this
theorem Avg (s:List UInt8) (K:Bool->Prop) (hk:K (decide (s∈words))):Oi s K:=
 Xo _ _ (Vk _ (Aqt words Ad5 (by decide) s _ fun _=>hk))
theorem M6 (s:List UInt8) (K:Bool->Prop) (hk:K (Aqr s)):Oh s K:=by
 refine Xn _ _ ?_
 cases s with
 |nil=>exact A8 rfl hk
 |cons c l=>
  rw [Akz]at hk
  refine Dt rfl (Ab (fun h16=> ?_) fun h16=> ?_)
  ·have Ci4:(c::l).length<=16:=by simp at h16;simp;omega
   rw [decide_eq_true Ci4,Bool.true_and]at hk
   refine⟨⟨by omega,by simp⟩,Ai7 _ (UInt8.toNat_lt _) _ ?_⟩
   have e0:(c::l).getD 0 0=c:=rfl
   rw [e0]
   refine Ab (fun hl=> ?_) fun hl=> ?_
   ·have hl':Hy c=true:=hl
    rw [hl',Bool.true_and]at hk
    refine Avd _ (by omega) _ ?_
    rw [Aab]
    refine Ab (fun ha=>Avg _ _ ?_) fun ha=> ?_
    ·rw [ha,Bool.true_and]at hk;exact hk
    ·rw [ha,Bool.false_and]at hk;exact hk
   ·have hl':Hy c=false:=hl
    rw [hl',Bool.false_and]at hk;exact hk
  ·rw [decide_eq_false (by simp at h16;simp;omega),Bool.false_and]at hk
   exact hk
end Nv
end Go.Proofs.YtcakelelfklhdaaGreatDoor
namespace Go.Proofs.YtcakelelfklhdaaGreatDoor
open Go.Vc Go.Lv Go.Ty Go.Tr Go.Tk Go.Tm
theorem Ak0 {op:Int} (h1:5<=op) (h2:op<=17):op=5\/op=6\/op=7\/op=8\/op=9\/op=10\/op=11\/op=12\/op=13\/op=14\/op=15\/op=16\/op=17:=by omega
theorem Fe (x:Ai) (want ds:List UInt8) (hw:want.length<=10) (hk:x.kids=(ds.length:Int)) (hw2:ds=if Fu x then 69::(if 5<=x.op/\x.op<=17 then [69,69]else want)else(if 5<=x.op/\x.op<=17 then [69,69]else want)) (K:List UInt8->Bool->Prop) (h:K ds true):
 ∃(J4:(List UInt8)->Prop),(∃(J5:Bool->Prop),(cond (decide (x.op>=5)) (J5 (decide (x.op<=17))) (J5 false))/\∀(x13:Bool),J5 x13->cond (x13) (J4 [69,69]) (J4 want))/\
 ∀(Bbe:List UInt8),J4 Bbe->∃(J6:(List UInt8)->Prop),(F5 x (fun x14=>cond (x14) ((([69].length+Bbe.length:Nat):Int)<=IntKind.i64.max/\J6 ([69]++Bbe)) (J6 Bbe)))/\
 ∀(Bc0:List UInt8),J6 Bc0->K Bc0 ((Bc0.length:Int)==x.kids):=by
 refine As7 x want hw K ds hw2 ?_
 rw [hk,beq_self_eq_true];exact h
theorem Aqu {c:UInt8} {x:Ai} {ds:List UInt8} (ho:OkN c x ds) (hd:ds.length<2^30) (most:Int) (hm:(ds.length:Int)<=most) (K:List UInt8->Bool->Prop) (h:K ds true):Qb x most K:=by
 have hkk:=Un ho (by omega)
 refine Zg _ _ _ ?_
 cases ho with
 |num n a h1 h2=>
  exact⟨(·=[]),⟨(·=false),rfl,fun _ e=>by cases e;exact⟨(·=false),rfl,fun _ e=>by cases e;exact⟨(·=false),rfl,fun _ e=>by cases e;exact rfl⟩⟩⟩,fun _ e=>by cases e;exact Fe _ [] _ (by decide) hkk (by simp [Fu]) K h⟩
 |name s a hn=>
  exact⟨(·=[]),⟨(·=false),rfl,fun _ e=>by cases e;exact⟨(·=false),rfl,fun _ e=>by cases e;exact⟨(·=false),rfl,fun _ e=>by cases e;exact rfl⟩⟩⟩,fun _ e=>by cases e;exact Fe _ [] _ (by decide) hkk (by simp [Fu]) K h⟩
 |un op a hop=>
  rcases hop with rfl|rfl
  ·exact⟨(·=[69]),⟨(·=true),rfl,fun _ e=>by cases e;exact rfl⟩,fun _ e=>by cases e;exact Fe _ [69] _ (by decide) hkk (by simp [Fu]) K h⟩
  ·exact⟨(·=[69]),⟨(·=true),rfl,fun _ e=>by cases e;exact rfl⟩,fun _ e=>by cases e;exact Fe _ [69] _ (by decide) hkk (by simp [Fu]) K h⟩
 |bin op a h1 h2=>
  rcases Ak0 h1 h2 with rfl|rfl|rfl|rfl|rfl|rfl|rfl|rfl|rfl|rfl|rfl|rfl|rfl<;>
  exact⟨(·=[]),⟨(·=false),rfl,fun _ e=>by cases e;exact⟨(·=false),rfl,fun _ e=>by cases e;exact⟨(·=false),rfl,fun _ e=>by cases e;exact rfl⟩⟩⟩,fun _ e=>by cases e;exact Fe _ [] _ (by decide) hkk (by simp [Fu]) K h⟩
 |set op s a hop hn=>
  rcases hop with rfl|rfl|rfl<;>
  exact⟨(·=[69]),⟨(·=true),rfl,fun _ e=>by cases e;exact rfl⟩,fun _ e=>by cases e;exact Fe _ [69] _ (by decide) hkk (by simp [Fu]) K h⟩
 |send a=>exact⟨(·=[82,69]),⟨(·=false),rfl,fun _ e=>by cases e;exact rfl⟩,fun _ e=>by cases e;exact Fe _ [82,69] _ (by decide) hkk (by simp [Fu]) K h⟩
 |recv s a hn=>exact⟨(·=[82]),⟨(·=false),rfl,fun _ e=>by cases e;exact rfl⟩,fun _ e=>by cases e;exact Fe _ [82] _ (by decide) hkk (by simp [Fu]) K h⟩
 |if2 a=>exact⟨(·=[69,66]),⟨(·=false),rfl,fun _ e=>by cases e;exact rfl⟩,fun _ e=>by cases e;exact Fe _ [69,66] _ (by decide) hkk (by simp [Fu]) K h⟩
 |if3 a=>exact⟨(·=[69,66,66]),⟨(·=false),rfl,fun _ e=>by cases e;exact rfl⟩,fun _ e=>by cases e;exact Fe _ [69,66,66] _ (by decide) hkk (by simp [Fu]) K h⟩
 |Bfz a=>exact⟨(·=[69,66]),⟨(·=false),rfl,fun _ e=>by cases e;exact⟨(·=true),rfl,fun _ e=>by cases e;exact rfl⟩⟩,fun _ e=>by cases e;exact Fe _ [69,66] _ (by decide) hkk (by simp [Fu]) K h⟩
 |sel k a h1=>
  rw [List.length_replicate]at hkk hd hm
  refine⟨fun _=>False,⟨(·=false),rfl,?_⟩,fun _ h=>h.elim⟩
  rintro _ rfl
  refine⟨(·=false),rfl,?_⟩
  rintro _ rfl
  refine Aaa _ _ [67] [] 67 (k-1) (by rw [hkk];simp only [List.length_cons,List.length_nil];omega) (by rw [hkk];exact hm) (by rw [hkk];omega) _ ?_
  rw [List.append_nil,show [67]++List.replicate (k-1) (67:UInt8)=List.replicate k 67 by rw [show k=(k-1)+1 by omega,List.replicate_succ,Nat.add_sub_cancel];rfl];exact h
 |start s k a hn=>
  rw [List.length_replicate]at hkk hd hm
  refine⟨fun _=>False,⟨(·=false),rfl,?_⟩,fun _ h=>h.elim⟩
  rintro _ rfl
  refine⟨(·=false),rfl,?_⟩
  rintro _ rfl
  refine Aaa _ _ [] [] 69 k (by rw [hkk];simp only [List.length_nil];omega) (by rw [hkk];exact hm) (by rw [hkk];omega) _ ?_
  rw [List.append_nil,List.nil_append];exact h
 |one op a hop=>
  rcases hop with rfl|rfl|rfl<;>
  exact⟨(·=[69]),⟨(·=true),rfl,fun _ e=>by cases e;exact rfl⟩,fun _ e=>by cases e;exact Fe _ [69] _ (by decide) hkk (by simp [Fu]) K h⟩
 |none op a hop=>
  rcases hop with rfl|rfl<;>
  exact⟨(·=[]),⟨(·=false),rfl,fun _ e=>by cases e;exact⟨(·=false),rfl,fun _ e=>by cases e;exact⟨(·=false),rfl,fun _ e=>by cases e;exact rfl⟩⟩⟩,fun _ e=>by cases e;exact Fe _ [] _ (by decide) hkk (by simp [Fu]) K h⟩
 |els a=>exact⟨(·=[66]),⟨(·=false),rfl,fun _ e=>by cases e;exact⟨(·=false),rfl,fun _ e=>by cases e;exact⟨(·=true),rfl,fun _ e=>by cases e;exact rfl⟩⟩⟩,fun _ e=>by cases e;exact Fe _ [66] _ (by decide) hkk (by simp [Fu]) K h⟩
 |clause op s a w ds hc=>
  rcases hc with⟨rfl,hn,rfl⟩|⟨rfl,rfl,rfl⟩|⟨rfl,rfl,rfl⟩
  ·exact⟨(·=[82,66]),⟨(·=false),rfl,fun _ e=>by cases e;exact⟨(·=false),rfl,fun _ e=>by cases e;exact rfl⟩⟩,fun _ e=>by cases e;exact Fe _ [82,66] _ (by decide) hkk (by cases w<;>simp [Fu]) K h⟩
  ·exact⟨(·=[82,69,66]),⟨(·=false),rfl,fun _ e=>by cases e;exact⟨(·=false),rfl,fun _ e=>by cases e;exact rfl⟩⟩,fun _ e=>by cases e;exact Fe _ [82,69,66] _ (by decide) hkk (by cases w<;>simp [Fu]) K h⟩
  ·exact⟨(·=[69,66]),⟨(·=false),rfl,fun _ e=>by cases e;exact⟨(·=true),rfl,fun _ e=>by cases e;exact rfl⟩⟩,fun _ e=>by cases e;exact Fe _ [69,66] _ (by decide) hkk (by cases w<;>simp [Fu]) K h⟩
 |Bc9 s a hn=>exact⟨(·=[]),⟨(·=false),rfl,fun _ e=>by cases e;exact⟨(·=false),rfl,fun _ e=>by cases e;exact rfl⟩⟩,fun _ e=>by cases e;exact Fe _ [] _ (by decide) hkk (by simp [Fu]) K h⟩
 |Bda s a hn=>exact⟨(·=[69]),⟨(·=false),rfl,fun _ e=>by cases e;exact⟨(·=false),rfl,fun _ e=>by cases e;exact rfl⟩⟩,fun _ e=>by cases e;exact Fe _ [69] _ (by decide) hkk (by simp [Fu]) K h⟩
 |block k a=>
  rw [List.length_replicate]at hkk hd hm
  refine⟨fun _=>False,⟨(·=false),rfl,?_⟩,fun _ h=>h.elim⟩
  rintro _ rfl
  refine⟨(·=false),rfl,?_⟩
  rintro _ rfl
  refine Aaa _ _ [] [] 83 k (by rw [hkk];simp only [List.length_nil];omega) (by rw [hkk];exact hm) (by rw [hkk];omega) _ ?_
  rw [List.append_nil,List.nil_append];exact h
 |param s a hn=>
  exact⟨(·=[]),⟨(·=false),rfl,fun _ e=>by cases e;exact⟨(·=false),rfl,fun _ e=>by cases e;exact⟨(·=false),rfl,fun _ e=>by cases e;exact rfl⟩⟩⟩,fun _ e=>by cases e;exact Fe _ [] _ (by decide) hkk (by simp [Fu]) K h⟩
 |unit k a=>
  rw [List.length_replicate]at hkk hd hm
  refine⟨fun _=>False,⟨(·=false),rfl,?_⟩,fun _ h=>h.elim⟩
  rintro _ rfl
  refine⟨(·=false),rfl,?_⟩
  rintro _ rfl
  refine⟨(·=false),rfl,?_⟩
  rintro _ rfl
  refine Aaa _ _ [] [] 68 k (by rw [hkk];simp only [List.length_nil];omega) (by rw [hkk];exact hm) (by rw [hkk];omega) _ ?_
  rw [List.append_nil,List.nil_append];exact h
 |chan s n a hn h1 h2=>
  exact⟨(·=[]),⟨(·=false),rfl,fun _ e=>by cases e;exact⟨(·=false),rfl,fun _ e=>by cases e;exact⟨(·=false),rfl,fun _ e=>by cases e;exact rfl⟩⟩⟩,fun _ e=>by cases e;exact Fe _ [] _ (by decide) hkk (by simp [Fu]) K h⟩
 |main a=>exact⟨(·=[66]),⟨(·=false),rfl,fun _ e=>by cases e;exact⟨(·=false),rfl,fun _ e=>by cases e;exact⟨(·=true),rfl,fun _ e=>by cases e;exact rfl⟩⟩⟩,fun _ e=>by cases e;exact Fe _ [66] _ (by decide) hkk (by simp [Fu]) K h⟩
 |proc s k a hn=>
  rw [List.length_append,List.length_replicate,List.length_singleton]at hkk hd hm
  refine⟨fun _=>False,⟨(·=false),rfl,?_⟩,fun _ h=>h.elim⟩
  rintro _ rfl
  refine⟨(·=false),rfl,?_⟩
  rintro _ rfl
  refine⟨(·=false),rfl,?_⟩
  rintro _ rfl
  refine Aaa _ _ [] [66] 80 k (by rw [hkk];simp only [List.length_nil,List.length_singleton];omega) (by rw [hkk];exact hm) (by rw [hkk];omega) _ ?_
  rw [List.nil_append];exact h
theorem Anx {c:UInt8} {x:Ai} {ds:List UInt8} (ho:OkN c x ds) (K:Int->Prop) (h:K (c.toNat:Int)):Og x.op K:=by
 refine Xk _ _ ?_
 cases ho with
 |un op a hop=>rcases hop with rfl|rfl<;>exact h
 |bin op a h1 h2=>rcases Ak0 h1 h2 with rfl|rfl|rfl|rfl|rfl|rfl|rfl|rfl|rfl|rfl|rfl|rfl|rfl<;>exact h
 |set op s a hop hn=>rcases hop with rfl|rfl|rfl<;>exact h
 |one op a hop=>rcases hop with rfl|rfl|rfl<;>exact h
 |none op a hop=>rcases hop with rfl|rfl<;>exact h
 |clause op s a w ds hc=>rcases hc with⟨rfl,hn,rfl⟩|⟨rfl,rfl,rfl⟩|⟨rfl,rfl,rfl⟩<;>exact h
 |chan s n a hn h1 h2=>exact⟨(·=true),rfl,fun _ e=>by cases e;exact h⟩
 |main a=>exact⟨(·=true),rfl,fun _ e=>by cases e;exact h⟩
 |proc s k a hn=>exact⟨(·=true),rfl,fun _ e=>by cases e;exact h⟩
 |param s a hn=>exact⟨(·=false),rfl,fun _ e=>by cases e;exact h⟩
 |unit k a=>exact⟨(·=false),rfl,fun _ e=>by cases e;exact h⟩
 |_=>exact h
theorem Ata (s:List UInt8):Nv.Aqr s=Tk.Be s:=by cases s<;>rfl
theorem G0 (x:Ai) (nm:Bool) (hnm:∀K:Bool->Prop,K nm->Ju x.op K) (hs:nm=true->Tk.Be x.name=true) (hs0:nm=false->x.name=[]) (most:Int)
 (Az8:cond (x.op==1) (999999999999999999=most) (cond (x.op==38) (16=most) ((if Fu x then 1 else 0)=most))) (h0:0<=x.n) (h1:x.n<=most) {K:Bool->Prop} (h:K true):Kw x K:=by
 refine Vh _ _ ⟨(·=most),?_,?_⟩
 ·refine Ab (fun e=> ?_) fun e=> ?_
  ·rw [e]at Az8;exact Az8
  rw [e]at Az8
  refine Ab (fun e=> ?_) fun e=> ?_
  ·rw [e]at Az8;exact Az8
  rw [e]at Az8
  refine Atr _ _ (Ab (fun e=> ?_) fun e=> ?_)
  ·rw [e]at Az8;exact Az8
  ·rw [e]at Az8;exact Az8
 rintro _ rfl
 refine⟨(·=false),hnm _ ?_,?_⟩
 ·cases nm with
  |false=>
   rw [hs0 rfl]
   exact A8 rfl (hnm _ rfl)
  |true=>
   have hn:=hs rfl
   have hne:(x.name==[])=false:=by
    cases hx:x.name with
    |nil=>rw [hx]at hn;cases hn
    |cons=>rfl
   rw [hne]
   refine A8 rfl (hnm _ (Dt rfl (Nv.M6 _ _ ?_)))
   rw [Ata,hn];rfl
 ·rintro _ rfl
  refine A8 rfl (Dt (by simpa using h0) ?_)
  rw [decide_eq_true h1];exact h
theorem nmd {op:Int} (b:Bool) (h:∀K:Bool->Prop,K b->Qj op K):∀K:Bool->Prop,K b->Ju op K:=fun K hK=>Xm _ _ (h K hK)
theorem Ak1 {c:UInt8} {x:Ai} {ds:List UInt8} (ho:OkN c x ds) (K:Bool->Prop) (h:K true):Kw x K:=by
 cases ho with
 |num n a h1 h2=>exact G0 _ false (nmd false fun K hK=>by exact⟨(·=false),rfl,fun _ e=>by cases e;exact hK⟩) (by nofun) (fun _=>by rfl) 999999999999999999 (by rfl) h1 h2 h
 |name s a hn=>exact G0 _ true (nmd true fun K hK=>by exact⟨(·=true),rfl,fun _ e=>by cases e;exact hK⟩) (fun _=>by exact hn) (by nofun) 0 (by simp [Fu]) (by exact Int.le_refl _) (by exact Int.le_refl _) h
 |un op a hop=>
  rcases hop with rfl|rfl<;>exact G0 _ false (nmd false fun K hK=>by exact⟨(·=false),rfl,fun _ e=>by cases e;exact hK⟩) (by nofun) (fun _=>by rfl) 0 (by simp [Fu]) (by exact Int.le_refl _) (by exact Int.le_refl _) h
 |bin op a h1 h2=>
  rcases Ak0 h1 h2 with rfl|rfl|rfl|rfl|rfl|rfl|rfl|rfl|rfl|rfl|rfl|rfl|rfl<;>exact G0 _ false (nmd false fun K hK=>by exact⟨(·=false),rfl,fun _ e=>by cases e;exact hK⟩) (by nofun) (fun _=>by rfl) 0 (by simp [Fu]) (by exact Int.le_refl _) (by exact Int.le_refl _) h
 |set op s a hop hn=>
  rcases hop with rfl|rfl|rfl<;>exact G0 _ true (nmd true fun K hK=>by exact⟨(·=true),rfl,fun _ e=>by cases e;exact hK⟩) (fun _=>by exact hn) (by nofun) 0 (by simp [Fu]) (by exact Int.le_refl _) (by exact Int.le_refl _) h
 |recv s a hn=>exact G0 _ true (nmd true fun K hK=>by exact⟨(·=true),rfl,fun _ e=>by cases e;exact hK⟩) (fun _=>by exact hn) (by nofun) 0 (by simp [Fu]) (by exact Int.le_refl _) (by exact Int.le_refl _) h
 |start s k a hn=>exact G0 _ true (nmd true fun K hK=>by exact⟨(·=true),rfl,fun _ e=>by cases e;exact hK⟩) (fun _=>by exact hn) (by nofun) 0 (by simp [Fu]) (by exact Int.le_refl _) (by exact Int.le_refl _) h
 |one op a hop=>
  rcases hop with rfl|rfl|rfl<;>exact G0 _ false (nmd false fun K hK=>by exact⟨(·=false),rfl,fun _ e=>by cases e;exact hK⟩) (by nofun) (fun _=>by rfl) 0 (by simp [Fu]) (by exact Int.le_refl _) (by exact Int.le_refl _) h
 |none op a hop=>
  rcases hop with rfl|rfl<;>exact G0 _ false (nmd false fun K hK=>by exact⟨(·=false),rfl,fun _ e=>by cases e;exact hK⟩) (by nofun) (fun _=>by rfl) 0 (by simp [Fu]) (by exact Int.le_refl _) (by exact Int.le_refl _) h
 |clause op s a w ds hc=>
  rcases hc with⟨rfl,hn,rfl⟩|⟨rfl,rfl,rfl⟩|⟨rfl,rfl,rfl⟩
  ·exact G0 _ true (nmd true fun K hK=>by exact⟨(·=true),rfl,fun _ e=>by cases e;exact hK⟩) (fun _=>by exact hn) (by nofun) (if w then 1 else 0) (by cases w<;>simp [Fu]) (by cases w<;>simp) (by exact Int.le_refl _) h
  ·exact G0 _ false (nmd false fun K hK=>by exact⟨(·=false),rfl,fun _ e=>by cases e;exact hK⟩) (by nofun) (fun _=>by rfl) (if w then 1 else 0) (by cases w<;>simp [Fu]) (by cases w<;>simp) (by exact Int.le_refl _) h
  ·exact G0 _ false (nmd false fun K hK=>by exact⟨(·=false),rfl,fun _ e=>by cases e;exact hK⟩) (by nofun) (fun _=>by rfl) (if w then 1 else 0) (by cases w<;>simp [Fu]) (by cases w<;>simp) (by exact Int.le_refl _) h
 |Bc9 s a hn=>exact G0 _ true (nmd true fun K hK=>by exact⟨(·=true),rfl,fun _ e=>by cases e;exact hK⟩) (fun _=>by exact hn) (by nofun) 0 (by simp [Fu]) (by exact Int.le_refl _) (by exact Int.le_refl _) h
 |Bda s a hn=>exact G0 _ true (nmd true fun K hK=>by exact⟨(·=true),rfl,fun _ e=>by cases e;exact hK⟩) (fun _=>by exact hn) (by nofun) 0 (by simp [Fu]) (by exact Int.le_refl _) (by exact Int.le_refl _) h
 |param s a hn=>exact G0 _ true (nmd true fun K hK=>by exact⟨(·=true),rfl,fun _ e=>by cases e;exact hK⟩) (fun _=>by exact hn) (by nofun) 0 (by simp [Fu]) (by exact Int.le_refl _) (by exact Int.le_refl _) h
 |chan s n a hn h1 h2=>exact G0 _ true (nmd true fun K hK=>by exact⟨(·=true),rfl,fun _ e=>by cases e;exact hK⟩) (fun _=>by exact hn) (by nofun) 16 (by rfl) h1 h2 h
 |proc s k a hn=>exact G0 _ true (nmd true fun K hK=>by exact⟨(·=true),rfl,fun _ e=>by cases e;exact hK⟩) (fun _=>by exact hn) (by nofun) 0 (by simp [Fu]) (by exact Int.le_refl _) (by exact Int.le_refl _) h
 |_=>exact G0 _ false (nmd false fun K hK=>by exact⟨(·=false),rfl,fun _ e=>by cases e;exact hK⟩) (by nofun) (fun _=>by rfl) 0 (by simp [Fu]) (by exact Int.le_refl _) (by exact Int.le_refl _) h
theorem Ai8 (l:List UInt8):(B8 l).reverse=B8 l.reverse:=by simp [B8]
theorem Aac {f:Fo} (hf:WfF [85] f) (hl:f.flat.length<=100000) (K:Int->Int->Prop) (h:K 0 0):Jr f.flat K:=by
 refine Xj _ _ ?_
 unfold Qi
 have Bn8:∀ {cs:List UInt8} {f:Fo},WfF cs f->cs.length<=f.flat.length:=by
  intro cs f h
  induction h with
  |nil=>exact Nat.le_refl _
  |cons _ _ _ _ ih2=>simp only [Fo.flat,List.length_cons,List.length_append];omega
 refine⟨fun todo x n=>∃(i:Nat) (cs:List UInt8) (g:Fo),x=i/\todo=B8 cs.reverse/\WfF cs g/\f.flat.drop i=g.flat/\i<=f.flat.length/\n=f.flat.length-i,⟨_,0,[85],f,rfl,rfl,hf,rfl,Nat.zero_le _,rfl⟩,?_⟩
 rintro _ _ _ ⟨i,cs,g,rfl,rfl,hg,hd,hi,rfl⟩
 have hgl:=congrArg List.length hd
 rw [List.length_drop]at hgl
 have hcl:=Bn8 hg
 refine Ab (fun e=> ?_) fun e=> ?_
 ·have e:i<f.flat.length:=by simpa using e
  cases hg with
  |nil=>simp [Fo.flat]at hgl;omega
  |@cons c x ds cs a b ho ha hb=>
   have hx:f.flat[i]? =some x:=by
    have:(f.flat.drop i)[0]? =some x:=by rw [hd];rfl
    rwa [List.getElem?_drop,Nat.add_zero]at this
   have hda:=Bn8 ha
   have hdb:=Bn8 hb
   simp only [Fo.flat,List.length_cons,List.length_append]at hgl hcl
   have hnl:(B8 (c::cs).reverse).length=cs.length+1:=by simp [B8]
   have hwr:IntKind.i64.wrap (((B8 (c::cs).reverse).length:Int)-1)=(cs.length:Int):=by rw [hnl,Ax (by omega) (by omega)];omega
   have Ca7:B8 (c::cs).reverse=B8 cs.reverse++[(c.toNat:Int)]:=by simp [B8]
   have hnr:(B8 cs.reverse).length=cs.length:=by simp [B8]
   refine⟨⟨by omega,by omega⟩,fun y hy=> ?_⟩
   rw [Int.toNat_natCast,hx]at hy
   cases hy
   rw [hwr,hnl,Int.toNat_natCast]
   refine A8 (by simp;omega) ⟨⟨by omega,by omega⟩,fun z hz=> ?_⟩
   rw [Ca7,List.getElem?_append_right (by omega),hnr,Nat.sub_self]at hz
   cases hz
   refine Aqu ho (by omega) _ (by rw [Ax (by omega) (by omega)];omega) _ ⟨(·=false),Anx ho _ (A8 (by simp) (A8 rfl (Ak1 ho _ rfl))),?_⟩
   rintro _ rfl
   refine A8 rfl (Awd _ (by simp [B8];omega) _ ⟨⟨by omega,by omega⟩,?_,?_⟩)
   ·rw [Ai8,List.length_take];simp [B8];omega
   ·rw [Ca7,List.take_append_of_le_length (by omega),List.take_of_length_le (by omega),Ai8]
    refine⟨f.flat.length-(i+1),by omega,i+1,ds++cs,a.app b,by rw [Ax (by omega) (by omega)];omega,?_,Ac2 ha hb,?_,by omega,rfl⟩
    ·simp [B8]
    ·rw [←List.drop_drop,hd,My];rfl
 ·have e:¬i<f.flat.length:=by simpa using e
  cases hg with
  |nil=>exact A8 rfl h
  |cons=>simp [Fo.flat]at hgl;omega
end Go.Proofs.YtcakelelfklhdaaGreatDoor
namespace Go.Proofs.YtcakelelfklhdaaGreatDoor
open Go.Vc Go.Lv Go.Ty Go.Tr Go.Tk Go.Tm
section
variable {l:List Ai}
structure Got (l:List Ai) (i:Nat) (cs:List UInt8) (r:Am):Prop where
 at_:∃j:Nat,r.at_=j/\j<=l.length
 ok:r.ok=true->∃(f:Fo) (j:Nat),r.at_=j/\WfF cs f/\l.drop i=f.flat++l.drop j/\j=i+f.flat.length
theorem Atb {cs:List UInt8} {f:Fo} (h:WfF cs f):cs.length<=f.flat.length:=by
 induction h with
 |nil=>exact Nat.le_refl _
 |cons _ _ _ _ ih2=>simp only [Fo.flat,List.length_cons,List.length_append];omega
theorem Got.len {i:Nat} {cs:List UInt8} {r:Am} (h:Got l i cs r) (ho:r.ok=true):i+cs.length<=l.length/\∃j:Nat,r.at_=j/\i+cs.length<=j:=by
 obtain⟨f,j,h1,h2,h3,h4⟩:=h.ok ho
 obtain⟨j',e1,e2⟩:=h.at_
 have:=Atb h2
 have:j'=j:=by omega
 exact⟨by omega,j,h1,by omega⟩
theorem Got.start {i:Nat} (hi:i<=l.length):Got l i [] ⟨(i:Int),true⟩:=⟨⟨i,rfl,hi⟩,fun _=>⟨.nil,i,rfl,.nil,rfl,rfl⟩⟩
theorem Got.no {i:Nat} (hi:i<=l.length) (k:Nat) (cs:List UInt8):Got l k cs ⟨(i:Int),false⟩:=⟨⟨i,rfl,hi⟩,nofun⟩
theorem Got.app {i k:Nat} {cs ds:List UInt8} {c r:Am} (h:Got l i cs c) (hk:c.at_=k) (ho:c.ok=true) (g:Got l k ds r):Got l i (cs++ds) r:=by
 refine⟨g.at_,fun hr=> ?_⟩
 obtain⟨f,j,h1,h2,h3,h4⟩:=h.ok ho
 obtain⟨f',j',g1,g2,g3,g4⟩:=g.ok hr
 have:j=k:=by omega
 subst this
 exact⟨f.app f',j',g1,Ac2 h2 g2,by rw [h3,g3,My,List.append_assoc],by rw [My,List.length_append];omega⟩
def PA (l:List Ai) (i:Nat):Prop:=∀(c:UInt8) (K:Am->Prop),(∀r,Got l i [c] r->K r)->K1 l i [c] K
theorem Ux {i1:Nat} (hl:l.length<=100000) (hIH:∀j,i1<=j->PA l j) {i0:Nat} {cs0:List UInt8} (c0:Am) (h0:Got l i0 cs0 c0) (h1:c0.ok=true->(i1:Int)<=c0.at_) (cs:List UInt8) (hcs:cs.length<=1000) (K:Am->Prop) (hK:∀r,Got l i0 (cs0++cs) r->K r):Cy l c0 cs K:=by
 refine Aer _ _ _ _ ⟨fun k At Ok n=>∃k':Nat,k=k'/\k'<=cs.length/\n=cs.length-k'/\Got l i0 (cs0++cs.take k') ⟨At,Ok⟩/\(Ok=true->(i1:Int)<=At),⟨_,0,rfl,Nat.zero_le _,rfl,by rw [List.take_zero,List.append_nil];exact h0,h1⟩,?_⟩
 rintro _ At Ok _ ⟨k,rfl,hk,rfl,hg,hi1⟩
 refine⟨fun b=>b=(decide (k<cs.length)&&Ok),Ab (fun hc=> ?_) (fun hc=> ?_),?_⟩
 ·show Ok=_
  rw [decide_eq_true (by have:=of_decide_eq_true hc;omega)];rfl
 ·show false=_
  rw [decide_eq_false (by have:=of_decide_eq_false hc;omega)];rfl
 rintro _ rfl
 refine Ab (fun hc=> ?_) fun hc=> ?_
 ·have hcc:k<cs.length/\Ok=true:=by simpa using hc
  clear hc
  obtain⟨hc,rfl⟩:=hcc
  have hw:IntKind.i64.wrap ((k:Int)+1)=((k+1:Nat):Int):=by rw [Ax (by omega) (by omega)];omega
  rw [hw,Int.toNat_natCast,Int.toNat_natCast]
  have hcl:(cs.take (k+1)).drop k=[cs[k]]:=by
   rw [List.take_succ_eq_append_getElem hc,List.drop_append,List.drop_of_length_le (by rw [List.length_take];exact Nat.min_le_left _ _),List.length_take,Nat.min_eq_left (by omega)];simp
  rw [hcl]
  obtain⟨a,ha,_⟩:=hg.at_
  have ha:At=(a:Int):=ha
  subst ha
  have hge:=hi1 rfl
  refine⟨fun At1 Ok1=>Got l a [cs[k]] ⟨At1,Ok1⟩,⟨⟨⟨by omega,by omega⟩,by omega,by omega⟩,hIH a (by omega) _ _ fun r hr=>hr⟩,?_⟩
  intro At1 Ok1 hr
  refine⟨_,by omega,k+1,rfl,by omega,rfl,?_,fun ho=> ?_⟩
  ·rw [List.take_succ_eq_append_getElem hc,←List.append_assoc]
   exact hg.app rfl rfl hr
  ·subst ho
   obtain⟨_,j,hj,hj2⟩:=hr.len rfl
   have hj:At1=(j:Int):=hj
   omega
 ·refine hK _ ?_
  cases Ok with
  |false=>exact⟨hg.at_,nofun⟩
  |true=>
   have hc:¬k<cs.length:=by simpa using hc
   rw [List.take_of_length_le (by omega)]at hg
   exact hg
theorem Af1 {i1:Nat} (hl:l.length<=100000) (hIH:∀j,i1<=j->PA l j) {i0:Nat} {cs0:List UInt8} (c0:Am) (h0:Got l i0 cs0 c0) (h1:c0.ok=true->(i1:Int)<=c0.at_) (c:UInt8) (n:Int) (hn:0<=n) (K:Am->Prop) (hK:∀r,Got l i0 (cs0++List.replicate n.toNat c) r->K r):F6 l c0 [c] n K:=by
 refine Aeq _ _ _ _ _ ⟨fun k At Ok r=>∃k':Nat,k=k'/\k'<=n.toNat/\r=n.toNat-k'/\(Ok=false\/Got l i0 (cs0++List.replicate k' c) ⟨At,Ok⟩)/\(∃j:Nat,At=j/\j<=l.length)/\(Ok=true->(i1:Int)<=At),⟨_,0,rfl,Nat.zero_le _,rfl,.inr (by rw [List.replicate_zero,List.append_nil];exact h0),h0.at_,h1⟩,?_⟩
 rintro _ At Ok _ ⟨k,rfl,hk,rfl,hg,hat,hi1⟩
 refine⟨fun b=>b=(decide ((k:Int)<n)&&Ok),Ab (fun hc=> ?_) (fun hc=> ?_),?_⟩
 ·show Ok=_
  rw [hc];rfl
 ·show false=_
  rw [hc];rfl
 rintro _ rfl
 refine Ab (fun hc=> ?_) fun hc=> ?_
 ·have hcc:(k:Int)<n/\Ok=true:=by simpa using hc
  clear hc
  obtain⟨hc,rfl⟩:=hcc
  rcases hg with hg|hg
  ·cases hg
  obtain⟨hlen,_⟩:=hg.len rfl
  simp only [List.length_append,List.length_replicate]at hlen
  have hw:IntKind.i64.wrap ((k:Int)+1)=((k+1:Nat):Int):=by rw [Ax (by omega) (by omega)];omega
  rw [hw]
  obtain⟨a,ha,_⟩:=hat
  subst ha
  have hge:=hi1 rfl
  refine hIH a (by omega) _ _ fun r hr=>⟨n.toNat-(k+1),by omega,k+1,rfl,by omega,rfl,.inr ?_,hr.at_,fun ho=> ?_⟩
  ·rw [List.replicate_succ',←List.append_assoc]
   exact hg.app rfl rfl hr
  ·obtain⟨_,j,hj,hj2⟩:=hr.len ho
   omega
 ·refine hK _ ?_
  cases Ok with
  |false=>exact⟨hat,nofun⟩
  |true=>
   have hc:¬(k:Int)<n:=by simpa using hc
   rcases hg with hg|hg
   ·cases hg
   have:k=n.toNat:=by omega
   subst this
   exact hg
theorem Aad {c:UInt8} {x:Ai} {i:Nat} {r:Am} (hx:l[i]? =some x) (ha:∃j:Nat,r.at_=j/\j<=l.length) (h:r.ok=true->∃ds,OkN c x ds/\Got l (i+1) ds r):Got l i [c] r:=by
 refine⟨ha,fun ho=> ?_⟩
 obtain⟨ds,hk,hg⟩:=h ho
 obtain⟨f,j,h1,h2,h3,h4⟩:=hg.ok ho
 obtain⟨hlt,hxe⟩:=List.getElem?_eq_some_iff.1 hx
 refine⟨.cons x f .nil,j,h1,.cons hk h2 .nil,?_,?_⟩
 ·rw [List.drop_eq_getElem_cons hlt,hxe,h3]
  simp [Fo.flat]
 ·simp [Fo.flat];omega
theorem J9 {c:UInt8} {x:Ai} {ds:List UInt8} {i:Nat} {r:Am} (hx:l[i]? =some x) (hk:OkN c x ds) (hg:Got l (i+1) ([]++ds) r):Got l i [c] r:=
 Aad hx hg.at_ fun _=>⟨ds,hk,hg⟩
theorem Ai9 {c d:UInt8} {x:Ai} {n:Int} {i:Nat} {r:Am} (hl:l.length<=100000) (hx:l[i]? =some x) (hk:wr n.toNat=n->OkN c x (List.replicate n.toNat d)) (hn:0<=n) (hg:Got l (i+1) ([]++List.replicate n.toNat d) r):Got l i [c] r:=by
 refine Aad hx hg.at_ fun ho=>⟨_,hk ?_,hg⟩
 obtain⟨h1,_⟩:=hg.len ho
 simp only [List.nil_append,List.length_replicate]at h1
 rw [Mh (by omega)];omega
theorem Mz {x:Ai} {k:Int} (h:(Tk.Be x.name&&(x.n==0&&x.kids==k))=true):Tk.Be x.name=true/\x.n=0/\x.kids=k:=by simpa using h
theorem G6 {x:Ai} {k:Int} (h:(x.name==[]&&(x.n==0&&x.kids==k))=true):x.name=[]/\x.n=0/\x.kids=k:=by simpa using h
theorem Aqv (hl:l.length<=100000) {i:Nat} {x:Ai} (hx:l[i]? =some x) (hnm:x.name.length<2^62) (hIH:∀j,i+1<=j->PA l j) (K:Am->Prop) (hK:∀r,Got l i [69] r->K r):So l x ⟨(i:Int),false⟩ ⟨((i+1:Nat):Int),true⟩ K:=by
 have hlt:=(List.getElem?_eq_some_iff.1 hx).1
 have hs:=Got.start (l:=l) (i:=i+1) (by omega)
 have Azw:∀ds:List UInt8,ds.length<=1000->OkN 69 x ds->Cy l ⟨((i+1:Nat):Int),true⟩ ds K:=fun ds hd hk=>Ux hl hIH _ hs (fun _=>Int.le_refl _) ds hd K fun r hr=>hK r (J9 hx hk hr)
 obtain⟨op,name,n,kids,a⟩:=x
 refine Abh _ _ _ _ _ ⟨fun b=>b=true->OkN 69 ⟨op,name,n,kids,a⟩ [],?_,?_⟩
 ·refine Ab (fun e1=> ?_) fun _=>nofun
  refine Ab (fun e2=> ?_) fun _=>nofun
  refine Ab (fun e3=> ?_) fun _=>nofun
  refine Ab (fun e4=> ?_) fun _=>nofun
  intro e5
  simp at e1 e2 e3 e4 e5
  subst e1;subst e2;subst e3
  exact .num n a e4 e5
 intro b hb
 refine Ab (fun e=> ?_) fun _=> ?_
 ·exact hK _ (J9 hx (hb e) hs)
 refine⟨fun b=>b=true->OkN 69 ⟨op,name,n,kids,a⟩ [],?_,?_⟩
 ·refine Ab (fun e1=> ?_) fun _=>nofun
  refine M6 _ _ hnm _ fun e=> ?_
  obtain⟨h1,h2,h3⟩:=Mz e
  simp at e1 h1 h2 h3
  subst e1;subst h2;subst h3
  exact .name name a h1
 intro b hb
 refine Ab (fun e=> ?_) fun _=> ?_
 ·exact hK _ (J9 hx (hb e) hs)
 refine⟨fun b=>b=true->OkN 69 ⟨op,name,n,kids,a⟩ [69],?_,?_⟩
 ·refine Ab (fun e1=> ?_) fun _=>Ab (fun e1=> ?_) fun _=>nofun
  ·refine J0 _ _ _ fun e=> ?_
   obtain⟨h1,h2,h3⟩:=G6 e
   simp at e1 h1 h2 h3
   subst e1;subst h1;subst h2;subst h3
   exact .un 3 a (.inl rfl)
  ·refine J0 _ _ _ fun e=> ?_
   obtain⟨h1,h2,h3⟩:=G6 e
   simp at e1 h1 h2 h3
   subst e1;subst h1;subst h2;subst h3
   exact .un 4 a (.inr rfl)
 intro b hb
 refine Ab (fun e=> ?_) fun _=> ?_
 ·exact Azw _ (by decide) (hb e)
 refine⟨fun b=>b=true->OkN 69 ⟨op,name,n,kids,a⟩ [69,69],?_,?_⟩
 ·refine Ab (fun e1=> ?_) fun _=>nofun
  refine Ab (fun e2=> ?_) fun _=>nofun
  refine J0 _ _ _ fun e=> ?_
  obtain⟨h1,h2,h3⟩:=G6 e
  simp at e1 e2 h1 h2 h3
  subst h1;subst h2;subst h3
  exact .bin op a e1 e2
 intro b hb
 refine Ab (fun e=> ?_) fun _=> ?_
 ·exact Azw _ (by decide) (hb e)
 exact hK _ (Got.no (by omega) _ _)
theorem Aqw (hl:l.length<=100000) {i:Nat} {x:Ai} (hx:l[i]? =some x) (hnm:x.name.length<2^62) (hIH:∀j,i+1<=j->PA l j) (K:Am->Prop) (hK:∀r,Got l i [83] r->K r):Sp l x ⟨(i:Int),false⟩ ⟨((i+1:Nat):Int),true⟩ K:=by
 have hlt:=(List.getElem?_eq_some_iff.1 hx).1
 have hs:=Got.start (l:=l) (i:=i+1) (by omega)
 have Azw:∀ds:List UInt8,ds.length<=1000->OkN 83 x ds->Cy l ⟨((i+1:Nat):Int),true⟩ ds K:=fun ds hd hk=>Ux hl hIH _ hs (fun _=>Int.le_refl _) ds hd K fun r hr=>hK r (J9 hx hk hr)
 have Aw4:∀(d:UInt8) (n:Int),0<=n->(wr n.toNat=n->OkN 83 x (List.replicate n.toNat d))->F6 l ⟨((i+1:Nat):Int),true⟩ [d] n K:=fun d n hn hk=>Af1 hl hIH _ hs (fun _=>Int.le_refl _) d n hn K fun r hr=>hK r (Ai9 hl hx hk hn hr)
 obtain⟨op,name,n,kids,a⟩:=x
 refine Abi _ _ _ _ _ ⟨fun _ _=>True,?_,fun _ _ _=>hK _ (Got.no (by omega) _ _)⟩
 refine⟨fun b=>b=true->op=18\/op=19\/op=20,?_,?_⟩
 ·refine Ab (fun e _=> ?_) fun _=>Ab (fun e _=> ?_) fun _ e=> ?_
  ·simp at e;omega
  ·simp at e;omega
  ·simp at e;omega
 intro b hb
 refine Ab (fun e=> ?_) fun _=> ?_
 ·have hop:=hb e
  refine M6 _ _ hnm _ (Ab (fun e=>Azw _ (by decide) ?_) fun _=>trivial)
  obtain⟨h1,h2,h3⟩:=Mz e
  simp at h1 h2 h3
  subst h2;subst h3
  exact .set op name a hop h1
 refine Ab (fun e1=> ?_) fun _=> ?_
 ·refine J0 _ _ _ (Ab (fun e=>Azw _ (by decide) ?_) fun _=>trivial)
  obtain⟨h1,h2,h3⟩:=G6 e
  simp at e1 h1 h2 h3
  subst e1;subst h1;subst h2;subst h3
  exact .send a
 refine Ab (fun e1=> ?_) fun _=> ?_
 ·refine M6 _ _ hnm _ (Ab (fun e=>Azw _ (by decide) ?_) fun _=>trivial)
  obtain⟨h1,h2,h3⟩:=Mz e
  simp at e1 h1 h2 h3
  subst e1;subst h2;subst h3
  exact .recv name a h1
 refine Ab (fun e1=> ?_) fun _=> ?_
 ·refine J0 _ _ _ (Ab (fun e=>Azw _ (by decide) ?_) fun _=>J0 _ _ _ (Ab (fun e=>Azw _ (by decide) ?_) fun _=>trivial))
  ·obtain⟨h1,h2,h3⟩:=G6 e
   simp at e1 h1 h2 h3
   subst e1;subst h1;subst h2;subst h3
   exact .if2 a
  ·obtain⟨h1,h2,h3⟩:=G6 e
   simp at e1 h1 h2 h3
   subst e1;subst h1;subst h2;subst h3
   exact .if3 a
 refine Ab (fun e1=> ?_) fun _=> ?_
 ·refine J0 _ _ _ (Ab (fun e=>Azw _ (by decide) ?_) fun _=>trivial)
  obtain⟨h1,h2,h3⟩:=G6 e
  simp at e1 h1 h2 h3
  subst e1;subst h1;subst h2;subst h3
  exact .Bfz a
 refine Ab (fun e1=> ?_) fun _=> ?_
 ·refine⟨fun b=>b=true->name=[]/\n=0/\1<=kids,Ab (fun e2=>J0 _ _ _ fun e=> ?_) fun _=>nofun,fun b hb=>Ab (fun e=> ?_) fun _=>trivial⟩
  ·obtain⟨h1,h2,h3⟩:=G6 e
   exact⟨h1,h2,by simpa using e2⟩
  ·obtain⟨h1,h2,h3⟩:=hb e
   simp at e1
   subst e1;subst h1;subst h2
   refine Aw4 67 kids (by omega) fun hw=> ?_
   have:=OkN.sel kids.toNat a (by omega)
   rwa [hw]at this
 refine Ab (fun e1=> ?_) fun _=> ?_
 ·refine⟨fun b=>b=true->Tk.Be name=true/\n=0/\0<=kids,Ab (fun e2=>M6 _ _ hnm _ fun e=> ?_) fun _=>nofun,fun b hb=>Ab (fun e=> ?_) fun _=>trivial⟩
  ·obtain⟨h1,h2,h3⟩:=Mz e
   exact⟨h1,h2,by simpa using e2⟩
  ·obtain⟨h1,h2,h3⟩:=hb e
   simp at e1
   subst e1;subst h2
   refine Aw4 69 kids h3 fun hw=> ?_
   have:=OkN.start name kids.toNat a h1
   rwa [hw]at this
 refine⟨fun b=>b=true->op=27\/op=28\/op=29,?_,?_⟩
 ·refine Ab (fun e _=> ?_) fun _=>Ab (fun e _=> ?_) fun _ e=> ?_
  ·simp at e;omega
  ·simp at e;omega
  ·simp at e;omega
 intro b hb
 refine Ab (fun e=> ?_) fun _=> ?_
 ·have hop:=hb e
  refine J0 _ _ _ (Ab (fun e=>Azw _ (by decide) ?_) fun _=>trivial)
  obtain⟨h1,h2,h3⟩:=G6 e
  simp at h1 h2 h3
  subst h1;subst h2;subst h3
  exact .one op a hop
 refine⟨fun b=>b=true->op=30\/op=31,?_,?_⟩
 ·refine Ab (fun e _=> ?_) fun _ e=> ?_
  ·simp at e;omega
  ·simp at e;omega
 intro b hb
 refine Ab (fun e=> ?_) fun _=>trivial
 have hop:=hb e
 refine J0 _ _ _ (Ab (fun e=> ?_) fun _=>trivial)
 obtain⟨h1,h2,h3⟩:=G6 e
 simp at h1 h2 h3
 subst h1;subst h2;subst h3
 exact hK _ (J9 hx (.none op a hop) hs)
theorem Ak2 (hl:l.length<=100000) {i:Nat} {x:Ai} (hx:l[i]? =some x) (hnm:x.name.length<2^62) (hIH:∀j,i+1<=j->PA l j) (K:Am->Prop) (hK:∀r,Got l i [67] r->K r):Oj l x ⟨(i:Int),false⟩ ⟨((i+1:Nat):Int),true⟩ K:=by
 have hlt:=(List.getElem?_eq_some_iff.1 hx).1
 have hs:=Got.start (l:=l) (i:=i+1) (by omega)
 have hno:K ⟨(i:Int),false⟩:=hK _ (Got.no (by omega) _ _)
 have Azw:∀ds:List UInt8,ds.length<=1000->OkN 67 x ds->Cy l ⟨((i+1:Nat):Int),true⟩ ds K:=fun ds hd hk=>Ux hl hIH _ hs (fun _=>Int.le_refl _) ds hd K fun r hr=>hK r (J9 hx hk hr)
 obtain⟨op,name,n,kids,a⟩:=x
 refine Xs _ _ _ _ _ (Ab (fun e1=> ?_) fun _=> ?_)
 ·refine J0 _ _ _ (Ab (fun e=>Azw _ (by decide) ?_) fun _=>hno)
  obtain⟨h1,h2,h3⟩:=G6 e
  simp at e1 h1 h2 h3
  subst e1;subst h1;subst h2;subst h3
  exact .els a
 refine⟨fun want _ _=>(op=34/\want=[82,66])\/(op=35/\want=[82,69,66])\/(op=36/\want=[69,66]),?_,?_⟩
 ·refine Ab (fun e=> ?_) fun _=>Ab (fun e=> ?_) fun _=>Ab (fun e=> ?_) fun _=>hno
  ·exact .inl ⟨by simpa using e,rfl⟩
  ·exact .inr (.inl ⟨by simpa using e,rfl⟩)
  ·exact .inr (.inr ⟨by simpa using e,rfl⟩)
 intro want _ _ hw
 have hwl:want.length<=3:=by rcases hw with⟨_,rfl⟩|⟨_,rfl⟩|⟨_,rfl⟩<;>decide
 refine⟨fun w1=>w1=(if n=1 then [69]else [])++want,?_,?_⟩
 ·refine Ab (fun e=>⟨?_,?_⟩) fun e=> ?_
  ·rw [Qr,List.length_singleton];omega
  ·have e:n=1:=by simpa using e
   show _=_
   rw [if_pos e]
  ·have e:¬n=1:=by simpa using e
   show _=_
   rw [if_neg e];rfl
 rintro _ rfl
 refine⟨fun b=>b=false->(n=0\/n=1)/\kids=(((if n=1 then [69]else [])++want).length:Int)/\(op=34->Tk.Be name=true)/\(op≠34->name=[]),?_,?_⟩
 ·refine Ab (fun _=>nofun) fun e1=>Ab (fun _=>nofun) fun e2=>Ab (fun _=>nofun) fun e3=> ?_
  refine Auf _ hnm _ (Ab (fun _=>nofun) fun e4=> ?_)
  have e1:¬n<0:=by simpa using e1
  have e2:¬n>1:=by simpa using e2
  have e3:kids=(((if n=1 then [69]else [])++want).length:Int):=by simpa using e3
  have e4:(op==34)=Tk.Be name:=by simpa using e4
  refine Ab (fun e5=> ?_) fun e5=> ?_
  ·intro e6
   have e5:op≠34:=by simpa using e5
   exact⟨by omega,e3,fun h=>absurd h e5,fun _=>by simpa using e6⟩
  ·intro _
   have e5:op=34:=by simpa using e5
   exact⟨by omega,e3,fun _=>by rw [←e4,e5];rfl,fun h=>absurd e5 h⟩
 intro b hb
 refine Ab (fun _=>hno) fun e=> ?_
 obtain⟨h1,h2,h3,h4⟩:=hb e
 refine Azw _ (by rw [List.length_append];split<;>simp<;>omega) ?_
 have hc:(op=34/\Tk.Be name=true/\want=[82,66])\/(op=35/\name=[]/\want=[82,69,66])\/(op=36/\name=[]/\want=[69,66]):=by
  rcases hw with⟨h,hw⟩|⟨h,hw⟩|⟨h,hw⟩
  ·exact .inl ⟨h,h3 h,hw⟩
  ·exact .inr (.inl ⟨h,h4 (by omega),hw⟩)
  ·exact .inr (.inr ⟨h,h4 (by omega),hw⟩)
 rcases h1 with rfl|rfl
 ·have:=OkN.clause op name a false want hc
  rw [Mh (by simp;omega)]at this
  rw [h2];exact this
 ·have:=OkN.clause op name a true want hc
  rw [Mh (by simp;omega)]at this
  rw [h2];exact this
theorem Anz (hl:l.length<=100000) (hnm:∀x∈l,x.name.length<2^62/\x.kids<=9223372036854775807):∀(m i:Nat),l.length-i<=m->PA l i:=by
 intro m
 induction m with
 |zero=>
  intro i hi c K hK
  refine Me _ _ _ _ (Dt (by simp;omega) (hK _ (Got.no (Nat.le_refl _) _ _)))
 |succ m ih=>
  intro i hi c K hK
  rcases Nat.lt_or_ge i l.length with hlt|hlt
  rotate_left
  ·exact Me _ _ _ _ (Dt (by simp;omega) (hK _ (Got.no (Nat.le_refl _) _ _)))
  have hIH:∀j,i+1<=j->PA l j:=fun j hj=>ih j (by omega)
  have hs:=Got.start (l:=l) (i:=i+1) (by omega)
  have hw:IntKind.i64.wrap ((i:Int)+1)=((i+1:Nat):Int):=by rw [Ax (by omega) (by omega)];omega
  refine Me _ _ _ _ (A8 (by simp;omega) ⟨⟨by omega,by omega⟩,fun x hx=> ?_⟩)
  rw [Int.toNat_natCast]at hx
  rw [hw]
  obtain⟨hn,hkr⟩:=hnm x (List.mem_of_getElem? hx)
  refine⟨fun _ _=>True,?_,fun _ _ _=>hK _ (Got.no (by omega) _ _)⟩
  refine Ab (fun e=> ?_) fun _=> ?_
  ·have e:c=69:=by simpa using e
   subst e;exact Aqv hl hx hn hIH _ hK
  refine Ab (fun e=> ?_) fun _=> ?_
  ·have e:c=83:=by simpa using e
   subst e;exact Aqw hl hx hn hIH _ hK
  refine Ab (fun e=> ?_) fun _=> ?_
  ·have e:c=67:=by simpa using e
   subst e;exact Ak2 hl hx hn hIH _ hK
  have Azw:∀ds:List UInt8,ds.length<=1000->OkN c x ds->Cy l ⟨((i+1:Nat):Int),true⟩ ds K:=fun ds hd hk=>Ux hl hIH _ hs (fun _=>Int.le_refl _) ds hd K fun r hr=>hK r (J9 hx hk hr)
  have Aw4:∀(d:UInt8) (n:Int),0<=n->(wr n.toNat=n->OkN c x (List.replicate n.toNat d))->F6 l ⟨((i+1:Nat):Int),true⟩ [d] n K:=fun d n hn hk=>Af1 hl hIH _ hs (fun _=>Int.le_refl _) d n hn K fun r hr=>hK r (Ai9 hl hx hk hn hr)
  obtain⟨op,name,n,kids,a⟩:=x
  refine Ab (fun e=> ?_) fun _=> ?_
  ·have e:c=82:=by simpa using e
   subst e
   refine⟨fun b=>b=true->op=33/\Tk.Be name=true/\n=0/\(kids=0\/kids=1),Ab (fun e1=> ?_) fun _=>nofun,fun b hb=>Ab (fun e=> ?_) fun _=>trivial⟩
   ·have e1:op=33:=by simpa using e1
    refine M6 _ _ hn _ (Ab (fun e _=> ?_) fun _=>M6 _ _ hn _ fun e=> ?_)
    ·obtain⟨h1,h2,h3⟩:=Mz e
     exact⟨e1,h1,h2,.inl h3⟩
    ·obtain⟨h1,h2,h3⟩:=Mz e
     exact⟨e1,h1,h2,.inr h3⟩
   ·obtain⟨rfl,h1,rfl,h3⟩:=hb e
    refine Aw4 69 kids (by rcases h3 with h|h<;>(rw [h];decide)) fun _=> ?_
    rcases h3 with rfl|rfl
    ·exact .Bc9 name a h1
    ·exact .Bda name a h1
  refine Ab (fun e=> ?_) fun _=> ?_
  ·have e:c=66:=by simpa using e
   subst e
   refine⟨fun b=>b=true->op=32/\name=[]/\n=0/\0<=kids,Ab (fun e1=>Ab (fun e2=>J0 _ _ _ fun e=> ?_) fun _=>nofun) fun _=>nofun,fun b hb=>Ab (fun e=> ?_) fun _=>trivial⟩
   ·obtain⟨h1,h2,h3⟩:=G6 e
    exact⟨by simpa using e1,h1,h2,by simpa using e2⟩
   ·obtain⟨rfl,rfl,rfl,h3⟩:=hb e
    refine Aw4 83 kids h3 fun hw=> ?_
    have:=OkN.block kids.toNat a
    rwa [hw]at this
  refine Ab (fun e=> ?_) fun _=> ?_
  ·have e:c=80:=by simpa using e
   subst e
   refine⟨fun b=>b=true->op=39/\Tk.Be name=true/\n=0/\kids=0,Ab (fun e1=>M6 _ _ hn _ fun e=> ?_) fun _=>nofun,fun b hb=>Ab (fun e=> ?_) fun _=>trivial⟩
   ·obtain⟨h1,h2,h3⟩:=Mz e
    exact⟨by simpa using e1,h1,h2,h3⟩
   ·obtain⟨rfl,h1,rfl,rfl⟩:=hb e
    exact hK _ (J9 hx (.param name a h1) hs)
  refine Ab (fun e=> ?_) fun _=> ?_
  ·have e:c=85:=by simpa using e
   subst e
   refine⟨fun b=>b=true->op=42/\name=[]/\n=0/\0<=kids,Ab (fun e1=>Ab (fun e2=>J0 _ _ _ fun e=> ?_) fun _=>nofun) fun _=>nofun,fun b hb=>Ab (fun e=> ?_) fun _=>trivial⟩
   ·obtain⟨h1,h2,h3⟩:=G6 e
    exact⟨by simpa using e1,h1,h2,by simpa using e2⟩
   ·obtain⟨rfl,rfl,rfl,h3⟩:=hb e
    refine Aw4 68 kids h3 fun hw=> ?_
    have:=OkN.unit kids.toNat a
    rwa [hw]at this
  refine Ab (fun e=> ?_) fun _=>trivial
  have e:c=68:=by simpa using e
  subst e
  refine Ab (fun e1=> ?_) fun _=> ?_
  ·have e1:op=38:=by simpa using e1
   subst e1
   refine⟨fun b=>b=true->Tk.Be name=true/\kids=0/\0<=n/\n<=16,Auf _ hn _ (Ab (fun e=>Ab (fun e2=>Ab (fun e3 e4=> ?_) fun _=>nofun) fun _=>nofun) fun _=>nofun),fun b hb=>Ab (fun e=> ?_) fun _=>trivial⟩
   ·exact⟨e,by simpa using e2,by simpa using e3,by simpa using e4⟩
   ·obtain⟨h1,rfl,h2,h3⟩:=hb e
    exact hK _ (J9 hx (.chan name n a h1 h2 h3) hs)
  refine Ab (fun e1=> ?_) fun _=> ?_
  ·have e1:op=41:=by simpa using e1
   subst e1
   refine J0 _ _ _ (Ab (fun e=>Azw _ (by decide) ?_) fun _=>trivial)
   obtain⟨h1,h2,h3⟩:=G6 e
   simp at h1 h2 h3
   subst h1;subst h2;subst h3
   exact .main a
  refine Ab (fun e1=> ?_) fun _=>trivial
  have e1:op=40:=by simpa using e1
  subst e1
  refine⟨fun b=>b=true->Tk.Be name=true/\n=0/\1<=kids,Ab (fun e2=>M6 _ _ hn _ fun e=> ?_) fun _=>nofun,fun b hb=>Ab (fun e=> ?_) fun _=>trivial⟩
  ·obtain⟨h1,h2,h3⟩:=Mz e
   exact⟨h1,h2,by simpa using e2⟩
  ·obtain⟨h1,rfl,h3⟩:=hb e
   have hkm:kids<=9223372036854775807:=hkr
   have hwk:IntKind.i64.wrap (kids-1)=kids-1:=Ax (by omega) (by omega)
   show F6 l _ [80] (IntKind.i64.wrap (kids-1)) _
   rw [hwk]
   refine Af1 hl hIH _ hs (fun _=>Int.le_refl _) 80 (kids-1) (by omega) _ fun r hr=> ?_
   refine Ux hl hIH r hr (fun ho=> ?_) [66] (by decide) K fun r2 hr2=>hK r2 (Aad hx hr2.at_ fun ho=>⟨List.replicate (kids-1).toNat 80++[66],?_,?_⟩)
   ·obtain⟨_,j,hj,hj2⟩:=hr.len ho
    omega
   ·obtain⟨h5,_⟩:=hr2.len ho
    simp only [List.nil_append,List.length_append,List.length_replicate,List.length_singleton]at h5
    have:=OkN.proc name (kids-1).toNat a h1
    rw [Mh (by omega),show(((kids-1).toNat+1:Nat):Int)=kids by omega]at this
    exact this
   ·rw [List.nil_append]at hr2
    exact hr2
theorem Avh (hl:l.length<=100000) (hnm:∀x∈l,x.name.length<2^62/\x.kids<=9223372036854775807) (K:Bool->Prop) (hK:∀b:Bool,(b=true->∃f:Fo,f.flat=l/\WfF [85] f)->K b):Y8 l K:=by
 refine Ah2 _ _ (Zm _ _ (Anz hl hnm l.length 0 (by omega) 85 _ fun r hr=> ?_))
 refine⟨fun b=>b=true->∃f:Fo,f.flat=l/\WfF [85] f,Ab (fun e e2=> ?_) fun _=>nofun,fun b hb=> ?_⟩
 ·obtain⟨f,j,h1,h2,h3,h4⟩:=hr.ok e
  have:r.at_=(l.length:Int):=by simpa using e2
  have:j=l.length:=by omega
  subst this
  rw [List.drop_length,List.append_nil,List.drop_zero]at h3
  exact⟨f,h3.symm,h2⟩
 ·refine Ab (fun e=>hK _ fun _=>hb e) fun e=> ?_
  refine hK _ fun e2=> ?_
  simp at e2
end
end Go.Proofs.YtcakelelfklhdaaGreatDoor
namespace Go.Proofs.YtcakelelfklhdaaGreatDoor
open Go.Vc Go.Lv Go.Ty Go.Tr Go.Tk Go.Tm
inductive Anc (l:List Ai):Int->Nat->Prop
 |top {i:Int} :Aib l i (-1)->Anc l i 0
 |up {i:Int} {k n:Nat} :Aib l i k->Anc l k n->Anc l i (n+1)
theorem Anc.unique {l:List Ai} {i:Int} {n m:Nat} (h:Anc l i n) (g:Anc l i m):n=m:=by
 induction h generalizing m with
 |top h=>
  cases g with
  |top _=>rfl
  |up g _=>have:=h.unique g;omega
 |@up i k n h _ ih=>
  cases g with
  |top g=>have:=h.unique g;omega
  |@up _ k2 n2 g g2=>
   have e:=h.unique g
   have e:k=k2:=by omega
   subst e
   rw [ih g2]
theorem Avi {l:List Ai} (hl:l.length<=100000) (i:Nat) (K:Int->Prop) (h:∀n:Nat,Anc l i n->K n):Sn l i K:=by
 have hup:∀(a:Int) (r:Int),Aib l a r->(r= -1)\/∃k:Nat,r=k/\(k:Int)<a/\k<l.length:=by
  intro a r hr
  rcases hr with⟨k,rfl,hk⟩|⟨rfl,_⟩
  ·obtain⟨j,b,rfl,hb⟩:=Nu.1 hk
   have h1:=hb.ahead
   have h2:=hb.1
   rw [D6]at h2
   exact .inr ⟨k,rfl,by omega,h2⟩
  ·exact .inl rfl
 refine Abe _ _ _ (Atj l i hl _ fun r hr=> ?_)
 refine⟨fun i2 n n1=>∃m:Nat,n=m/\n1=(i2+1).toNat/\((i2= -1/\Anc l i m)\/∃k:Nat,i2=k/\m+k+1<=l.length/\∀t,Anc l k t->Anc l i (m+1+t)),⟨_,0,rfl,rfl,?_⟩,?_⟩
 ·rcases hup _ _ hr with rfl|⟨k,rfl,_,hk⟩
  ·exact .inl ⟨rfl,.top hr⟩
  ·refine .inr ⟨k,rfl,by omega,fun t ht=> ?_⟩
   rw [show 0+1+t=t+1 by omega]
   exact .up hr ht
 rintro i2 n n1 ⟨m,rfl,rfl,hc⟩
 rcases hc with⟨rfl,ha⟩|⟨k,rfl,hb,ha⟩
 ·exact A8 rfl (h _ ha)
 ·refine Dt (by simp) (Atj l k hl _ fun r hr=>⟨(r+1).toNat,?_,m+1,?_,rfl,?_⟩)
  ·rcases hup _ _ hr with rfl|⟨k2,rfl,h1,_⟩<;>omega
  ·rw [Ax (by omega) (by omega)];omega
  ·rcases hup _ _ hr with rfl|⟨k2,rfl,h1,h2⟩
   ·refine .inl ⟨rfl,?_⟩
    have:=ha 0 (.top hr)
    exact this
   ·refine .inr ⟨k2,rfl,by omega,fun t ht=> ?_⟩
    have:=ha (t+1) (.up hr ht)
    rwa [show m+1+(t+1)=m+1+1+t by omega]at this
def Avj (l:List Ai) (_c:UInt8) (r:R):Prop:=r.fl.length<2^39->Sy r/\∀(p:Nat),AtR l p r->∀n0,Anc l p n0->∃i:Nat,i<l.length/\Anc l i (n0+r.ht)
theorem Aqx:∀(rs:List R),(rs.map fun k=>k.ht+1).foldr max 0=0\/∃(j:Nat) (r:R),rs[j]? =some r/\(rs.map fun k=>k.ht+1).foldr max 0=r.ht+1
 |[]=> .inl rfl
 |r::rs=>by
  right
  simp only [List.map_cons,List.foldr_cons]
  rcases Aqx rs with h|⟨j,q,h1,h2⟩
  ·exact⟨0,r,rfl,by rw [h];omega⟩
  ·rw [h2]
   by_cases hh:r.ht<q.ht
   ·exact⟨j+1,q,by simpa using h1,by omega⟩
   ·exact⟨0,r,rfl,by omega⟩
theorem Ac3 {l:List Ai} :∀ {ds:List UInt8} {rs:List R},F2 (Avj l) ds rs->(rs.flatMap R.fl).length<2^39->∀r∈rs,Sy r
 |[],_,h,_=>by cases F2.nil h;simp
 |_::ds,[],_,_=>by simp
 |_::ds,r::rs,h,hn=>fun q hq=>by
  rw [List.flatMap_cons,List.length_append]at hn
  rcases List.mem_cons.1 hq with rfl|hq
  ·exact(h.1 (by omega)).1
  ·exact Ac3 h.2 (by omega) q hq
theorem Aqy {Q:UInt8->R->Prop} :∀ {ds:List UInt8} {rs:List R},F2 Q ds rs->∀(j:Nat) (r:R),rs[j]? =some r->∃c,Q c r
 |[],_,h,j,r,hj=>by cases F2.nil h;simp at hj
 |_::_,[],h,_,_,_=>h.elim
 |c::_,q::_,h,0,r,hj=>by cases hj;exact⟨c,h.1⟩
 |_::_,_::_,h,j+1,r,hj=>Aqy h.2 j r hj
theorem An0 (l:List Ai) (c:UInt8) (x:Ai) (ds:List UInt8) (rs:List R) (ho:OkN c x ds) (hk:F2 (Avj l) ds rs):Avj l c (Ar x rs):=by
 intro hN
 rw [Q9]at hN
 have hea:=Ac3 hk (by omega)
 have hl:=Oz hea
 have hd:ds.length<2^39:=by rw [F2.len hk];omega
 have hkk:x.kids=(rs.length:Int):=by rw [←F2.len hk];exact Un ho hd
 refine⟨Acq hkk hea,fun p ha n0 hn0=> ?_⟩
 obtain⟨hi,hx,post,hdr⟩:=ha.node
 obtain⟨po,hpo⟩:=ha
 have hht:(Ar x rs).ht=(rs.map fun k=>k.ht+1).foldr max 0:=rfl
 rcases Aqx rs with h|⟨j,r,h1,h2⟩
 ·rw [hht,h]
  exact⟨p,hi,hn0⟩
 ·obtain⟨q,hq,hat⟩:=C1 l rs (p+1) post hdr j r h1
  obtain⟨c',hc'⟩:=Aqy hk j r h1
  have hmf:=Z0 (List.mem_of_getElem? h1)
  have hkz:=Dd hkk hea hpo
  have hup:Aib l q p:= .inl ⟨p,rfl,by rw [hkz];exact List.mem_of_getElem? hq⟩
  obtain⟨i,hil,hia⟩:=(hc' (by omega)).2 q hat (n0+1) (.up hup hn0)
  refine⟨i,hil,?_⟩
  rw [hht,h2,show n0+(r.ht+1)=n0+1+r.ht by omega]
  exact hia
theorem Avk {f:Fo} (hf:WfF [85] f) (hl:f.flat.length<=100000):∃i:Nat,i<f.flat.length/\Anc f.flat i (Tb f).ht:=by
 have h:=Oy _ (An0 f.flat) hf
 have ht:=Uv hf
 obtain⟨k,a,ks,e,_⟩:=Qy hf
 rw [e]at h
 have e2:Tb f=Ar ⟨42,[],0,wr k,a⟩ ks:=by unfold Tb;rw [e];rfl
 rw [e2]at ht⊢
 obtain⟨h2,h3⟩:=h.1 (by rw [←ht];omega)
 have:=h3 0 ⟨[],by rw [List.append_nil,List.drop_zero];exact ht⟩ 0 (.top (.inr ⟨rfl,fun k hk=> ?_⟩))
 ·rwa [Nat.zero_add]at this
 ·obtain⟨j,b,hb,hq⟩:=Nu.1 hk
  have:=hq.ahead
  omega
end Go.Proofs.YtcakelelfklhdaaGreatDoor
namespace Go.Proofs.YtcakelelfklhdaaGreatDoor
open Go.Vc Go.Lv Go.Ty Go.Tr Go.Tk Go.Tm
def exA:Fo:= .cons ⟨6,[],0,2,15⟩ (.cons ⟨2,[97],0,0,13⟩ .nil (.cons ⟨6,[],0,2,20⟩ (.cons ⟨2,[98],0,0,18⟩ .nil (.cons ⟨1,[],1,0,22⟩ .nil .nil)) .nil)) .nil
def exB:Fo:= .cons ⟨3,[],0,1,33⟩ (.cons ⟨5,[],0,2,36⟩ (.cons ⟨2,[97],0,0,35⟩ .nil (.cons ⟨2,[98],0,0,37⟩ .nil .nil)) .nil) .nil
def exF:Fo:= .cons ⟨42,[],0,1,0⟩ (.cons ⟨41,[],0,1,0⟩ (.cons ⟨32,[],0,2,5⟩ (.cons ⟨28,[],0,1,7⟩ exA (.cons ⟨28,[],0,1,27⟩ exB .nil)) .nil) .nil) .nil
def exT:Str:=[109,97,105,110,32,123,32,112,114,105,110,116,32,97,32,45,32,40,98,32,45,32,49,41,32,59,32,112,114,105,110,116,32,45,40,97,43,98,41,59,32,125]
theorem Avl:Wq exT=⟨exF.flat,0,0⟩:=by kernel_rfl
theorem Aqz:Pa exF=[109,97,105,110,32,123,10,9,112,114,105,110,116,32,97,32,45,32,40,98,32,45,32,49,41,59,10,9,112,114,105,110,116,32,45,40,97,32,43,32,98,41,59,10,125,10]:=by kernel_rfl
theorem Aq0:WfF [69] exA:= .cons (.bin 6 15 (by decide) (by decide)) (.cons (.name _ _ (by kernel_rfl)) .nil (.cons (.bin 6 20 (by decide) (by decide)) (.cons (.name _ _ (by kernel_rfl)) .nil (.cons (.num 1 22 (by decide) (by decide)) .nil .nil)) .nil)) .nil
theorem Avm:WfF [69] exB:= .cons (.un 3 33 (.inl rfl)) (.cons (.bin 5 36 (by decide) (by decide)) (.cons (.name _ _ (by kernel_rfl)) .nil (.cons (.name _ _ (by kernel_rfl)) .nil .nil)) .nil) .nil
theorem Ak3:WfF [85] exF:=
 .cons (.unit 1 0) (.cons (.main 0) (.cons (.block 2 5) (.cons (.one 28 7 (.inr (.inl rfl))) Aq0 (.cons (.one 28 27 (.inr (.inl rfl))) Avm .nil)) .nil) .nil) .nil
theorem Avn:∃x rs,Lg exA=[Ar x rs]/\x.op=6/\tx (Ar x rs).tm=[97,32,45,32,40,98,32,45,32,49,41]/\TmW (Ar x rs)/\AtR exF.flat 4 (Ar x rs):=by
 have h:=Oy _ Afy Aq0
 have e:Lg exA=[Ar ⟨6,[],0,2,15⟩ (Lg (.cons ⟨2,[97],0,0,13⟩ .nil (.cons ⟨6,[],0,2,20⟩ (.cons ⟨2,[98],0,0,18⟩ .nil (.cons ⟨1,[],1,0,22⟩ .nil .nil)) .nil)))]:=rfl
 rw [e]at h
 refine⟨_,_,e,rfl,by kernel_rfl,(h.1 (by decide)).wt.term rfl,exF.flat.drop 9,by kernel_rfl⟩
theorem Aae (K:Bool->Prop) (h:K true):Ma K:=by
 refine Abt _ (Alq exT _ ?_)
 rw [Avl]
 refine Al6 Ak3 (by decide) (by rw [Aqz];decide) _ ?_ (fun K hK=>Aac Ak3 (by decide) K hK)
 refine Zf _ _ _ (Aac Ak3 (by decide) _ ?_)
 obtain⟨x,rs,_,hop,htx,htm,hat⟩:=Avn
 obtain⟨hi,hx,_⟩:=hat.node
 refine⟨fun b=>b=false,A8 rfl (A8 rfl (A8 (by decide) ⟨⟨by decide,by decide⟩,fun y hy=> ?_⟩)),?_⟩
 ·have gy:=hx.symm.trans hy
  cases gy
  rw [hop]
  exact plv 6 _ rfl
 rintro _ rfl
 refine A8 rfl (htm ⟨exF.flat,_,_⟩ 4 (by decide) hat (by rw [htx];decide) _ ?_)
 rw [htx,Aqz]
 exact h
theorem Al7:∀(a b:List Ai),a.map erG=b.map erG->Qn a b=true
 |[],[],_=>rfl
 |[],_::_,h=>by simp at h
 |_::_,[],h=>by simp at h
 |x::a,y::b,h=>by
  simp only [List.map_cons,List.cons.injEq,erG,Prod.mk.injEq]at h
  obtain⟨⟨h1,h2,h3,h4⟩,h5⟩:=h
  rw [Qn,Al7 a b h5,Bool.and_true]
  simp [alike,h1,h2,h3,h4]
theorem Awf {c:UInt8} {x:Ai} {ds:List UInt8} {rs:List R} (_:OkN c x ds) (h:F2 (fun _ r=>r.nb<=r.fl.length) ds rs):(Ar x rs).nb<=(Ar x rs).fl.length:=by
 have h2:∀ {ds:List UInt8} {rs:List R},F2 (fun _ r=>r.nb<=r.fl.length) ds rs->(rs.map R.nb).foldr max 0<=(rs.flatMap R.fl).length:=by
  intro ds
  induction ds with
  |nil=>intro rs h;cases F2.nil h;exact Nat.le_refl _
  |cons d ds ih=>
   intro rs h
   cases rs with
   |nil=>exact h.elim
   |cons r rs=>
    have h1:=h.1
    have h3:=ih h.2
    simp only [List.map_cons,List.foldr_cons,List.flatMap_cons,List.length_append]
    omega
 have h3:=h2 h
 show nbN x rs<=_
 rw [Q9]
 unfold nbN
 split<;>omega
theorem Aq1 (x:Ai):Uw 240 x<=494:=by unfold Uw;split<;>(try split)<;>(try split)<;>(try split)<;>omega
theorem Aja:∀l:List Ai,Ca 240 l<=494*l.length
 |[]=>Nat.le_refl _
 |x::l=>by
  have:=Aq1 x
  have:=Aja l
  rw [V6,List.length_cons];omega
theorem Ak4 {f:Fo} (hf:WfF [85] f) (hl:f.flat.length<=120):(Pa f).length<=65536:=by
 have h:=Oy (fun _ r=>r.nb<=r.fl.length) (fun c x ds ks ho hk=>Awf ho hk) hf
 obtain⟨k,a,ks,e,_⟩:=Qy hf
 have ht:=Uv hf
 rw [e]at h
 have e2:Tb f=Ar ⟨42,[],0,wr k,a⟩ ks:=by unfold Tb;rw [e];rfl
 rw [e2]at ht
 have h1:(Ar ⟨42,[],0,wr k,a⟩ ks).nb<=(Ar ⟨42,[],0,wr k,a⟩ ks).fl.length:=h.1
 rw [←ht]at h1
 have:=Aqq hf (D:=240) (by rw [e2];omega)
 have:=Aja f.flat
 omega
theorem Ak5 (l:List Ai) (hnm:∀x∈l,x.name.length<2^62/\x.kids<=9223372036854775807) (K:Bool->Prop) (h:K true):Qc l K:=by
 refine Ui _ _ ⟨fun b=>b=true\/(l.length<=120/\∃f:Fo,f.flat=l/\WfF [85] f),Ab (fun _=> .inl rfl) fun hc=> ?_,?_⟩
 ·have hl:l.length<=120:=by simp at hc;omega
  refine Avh (by omega) hnm _ fun b hb=> ?_
  cases b with
  |false=>exact .inl rfl
  |true=>exact .inr ⟨hl,hb rfl⟩
 intro b hb
 refine Ab (fun _=>Aae _ h) fun e=> ?_
 obtain⟨hl,f,rfl,hf⟩:l.length<=120/\∃f:Fo,f.flat=l/\WfF [85] f:=by
  rcases hb with hb|hb
  ·rw [hb]at e;cases e
  ·exact hb
 have hs:=Ak4 hf hl
 refine Al6 hf (by omega) (by omega) _ (Alq _ _ ?_) (fun K hK=>Aac hf (by omega) K hK)
 obtain⟨ha,hb2⟩:=Akx hf hs
 by_cases hk:okF f
 ·obtain⟨h1,h2⟩:=ha hk
  rw [h1]
  refine A8 rfl (Dt rfl (Dt rfl (Arl _ _ ?_ _ ?_)))
  ·have:=congrArg List.length h2
   rw [List.length_map,List.length_map]at this
   omega
  ·rw [Al7 _ _ h2]
   exact Dt rfl (Aae _ h)
 ·rw [hb2 hk]
  obtain⟨i,hi,hai⟩:=Avk hf (by omega)
  have hht:=As2 hf hk
  refine Dt rfl ⟨fun deep x n=>∃k:Nat,x=k/\k<=f.flat.length/\n=f.flat.length-k/\(k<=i\/deep=true),⟨_,0,rfl,Nat.zero_le _,rfl,.inl (Nat.zero_le _)⟩,?_⟩
  rintro deep _ _ ⟨k,rfl,hkl,rfl,hd⟩
  refine Ab (fun hc=> ?_) fun hc=> ?_
  ·have hc:k<f.flat.length:=by simpa using hc
   refine⟨fun b=>(deep=true->b=true)/\(k=i->b=true),Ab (fun _=>⟨fun _=>rfl,fun _=>rfl⟩) fun e=> ?_,?_⟩
   ·refine Avi (by omega) k _ fun n hn=>⟨fun hh=>(by rw [hh]at e;cases e),fun hki=> ?_⟩
    subst hki
    have:=hn.unique hai
    rw [decide_eq_true (by omega)]
   ·rintro b ⟨hb1,hb3⟩
    refine⟨_,by omega,k+1,by rw [Ax (by omega) (by omega)];omega,by omega,rfl,?_⟩
    rcases hd with hd|hd
    ·by_cases hki:k=i
     ·exact .inr (hb3 hki)
     ·exact .inl (by omega)
    ·exact .inr (hb1 hd)
  ·have hc:¬k<f.flat.length:=by simpa using hc
   have:deep=true:=by
    rcases hd with hd|hd
    ·omega
    ·exact hd
   subst this
   exact Dt rfl (Aae _ h)
theorem Abw (l:List Ai) (hnm:∀x∈l,x.name.length<2^62/\x.kids<=9223372036854775807) (w:World) (hh:Go.Lv.held.T w) (lA:Option Addr) (lC:Nat) (hC:l.length<=lC) (hl:SlR Ay [] w lA l):
 Calls Tryz.prog 3 #[.slice lA l.length lC] w (Ret fun v w'=>v= .bool true/\Ext w w'):=by
 refine Aa (Ak5 l hnm (·=true) rfl [] w (MOk.nil hh) lA lC hC hl) ?_
 rintro _ _ ⟨_,rfl,rfl,k⟩
 exact⟨rfl,k.ext⟩
end Go.Proofs.YtcakelelfklhdaaGreatDoor
namespace Go.Proofs.YtcakelelfklhdaaGreatDoor
open Go.Vc Go.Lv Go.Ty
def Al8 (x:Ai):Prop:=(IntKind.i64.min<=x.op/\x.op<=IntKind.i64.max)/\(x.name).length<=lim/\(IntKind.i64.min<=x.n/\x.n<=IntKind.i64.max)/\(IntKind.i64.min<=x.kids/\x.kids<=IntKind.i64.max)/\(IntKind.i64.min<=x.at_/\x.at_<=IntKind.i64.max)
theorem Ak6 {w:World} :Opn Tryz.prog w 59 Ay Al8:=by
 intro m cs h
 obtain⟨m',rfl,hl,hx⟩:=h.struct Tryz.underlying59
 have hl':cs.length=5:=hl.trans (by kernel_rfl)
 have k0:Tryz.prog.cellsOf 3=1:=by kernel_rfl
 have g0:Trd Tryz.prog w m' 3 ((cs.drop 0).take (Tryz.prog.cellsOf 3)):=hx 0 _ rfl
 rw [k0]at g0
 obtain⟨x0,r0,q0⟩:=(Ya Tryz.underlying3) m' _ g0
 have k1:Tryz.prog.cellsOf 9=1:=by kernel_rfl
 have g1:Trd Tryz.prog w m' 9 ((cs.drop 1).take (Tryz.prog.cellsOf 9)):=hx 1 _ rfl
 rw [k1]at g1
 obtain⟨x1,r1,q1⟩:=(As6 Tryz.underlying9) m' _ g1
 have k2:Tryz.prog.cellsOf 3=1:=by kernel_rfl
 have g2:Trd Tryz.prog w m' 3 ((cs.drop 2).take (Tryz.prog.cellsOf 3)):=hx 2 _ rfl
 rw [k2]at g2
 obtain⟨x2,r2,q2⟩:=(Ya Tryz.underlying3) m' _ g2
 have k3:Tryz.prog.cellsOf 3=1:=by kernel_rfl
 have g3:Trd Tryz.prog w m' 3 ((cs.drop 3).take (Tryz.prog.cellsOf 3)):=hx 3 _ rfl
 rw [k3]at g3
 obtain⟨x3,r3,q3⟩:=(Ya Tryz.underlying3) m' _ g3
 have k4:Tryz.prog.cellsOf 3=1:=by kernel_rfl
 have g4:Trd Tryz.prog w m' 3 ((cs.drop 4).take (Tryz.prog.cellsOf 3)):=hx 4 _ rfl
 rw [k4]at g4
 obtain⟨x4,r4,q4⟩:=(Ya Tryz.underlying3) m' _ g4
 exact⟨⟨x0,x1,x2,x3,x4⟩,Rc r0 (Rc r1 (Rc r2 (Rc r3 (Anw (by omega) r4)))),q0,q1,q2,q3,q4⟩
end Go.Proofs.YtcakelelfklhdaaGreatDoor
