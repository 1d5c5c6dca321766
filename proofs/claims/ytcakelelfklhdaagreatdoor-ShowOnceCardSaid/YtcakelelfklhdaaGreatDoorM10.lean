/- A part of the proof: conditions of the code, contracts, the plain law. -/
import Derived.Test.YtcakelelfklhdaaGreatDoorM6
import Derived.Test.YtcakelelfklhdaaGreatDoorM9
import Derived.Test.YtcakelelfklhdaaGreatDoorM7
import Derived.Laws.CopyRow
import Derived.Laws.IdiomCopy
namespace Go.Proofs.YtcakelelfklhdaaGreatDoor
open Go.Vc Go.Lv Go.Ty
theorem wrap_u64 {n:Int} (h0:0<=n) (h:n<18446744073709551616):IntKind.u64.wrap n=n:=by
 simp [IntKind.wrap,IntKind.signed,IntKind.bits];omega
theorem Ar3 (n:Int) (h0:0<=n) (h:n<4294967296):H7 .u64 n 4294967295=n:=by
 obtain⟨m,rfl⟩:∃m:Nat,n=m:=⟨n.toNat,by omega⟩
 unfold H7
 have e:(BitVec.ofInt (IntKind.u64.bits) (m:Int)&&&BitVec.ofInt (IntKind.u64.bits) 4294967295).toNat=m:=by
  have h1:(BitVec.ofInt (IntKind.u64.bits) (m:Int)).toNat=m:=by
   show(BitVec.ofInt 64 (m:Int)).toNat=m
   rw [BitVec.toNat_ofInt];omega
  have h2:(BitVec.ofInt (IntKind.u64.bits) (4294967295:Int)).toNat=2^32-1:=by decide
  rw [BitVec.toNat_and,h1,h2,Nat.and_two_pow_sub_one_eq_mod]
  omega
 rw [e]
 have e2:IntKind.u64.wrap (m:Int)=(m:Int):=wrap_u64 (by omega) (by omega)
 exact e2
theorem Ae1 (n:Int) (h0:0<=n) (h:n<4294967296) (w:World):Calls Tryz.prog 84 #[.int .u64 1,.int .u64 n] w (Ret fun v w'=>v= .tuple #[.int .u64 0,.int .u64 n]/\w=w'):=by
 refine Vy _ _ _ _ ?_
 refine Sw _ _ _ _ ⟨by decide,by decide,by decide,by decide,by decide,?_⟩
 have hb:(2^(min 32 IntKind.u64.bits):Int)=4294967296:=by decide
 rw [hb,Ar3 n h0 h,show(H7 .u64 1 4294967295)=1 by decide,show Int.fdiv 1 4294967296=0 by decide,show Int.fdiv n 4294967296=0 by rw [Int.fdiv_eq_ediv_of_nonneg _ (by omega)];omega]
 have w0:IntKind.u64.wrap 0=0:=by decide
 have wn:IntKind.u64.wrap n=n:=wrap_u64 (by omega) (by omega)
 simp only [Int.zero_mul,Int.one_mul,Int.mul_zero,w0,wn]
 rw [show Int.fdiv n 4294967296=0 by rw [Int.fdiv_eq_ediv_of_nonneg _ (by omega)];omega]
 simp only [w0,Int.zero_fdiv,show(H7 .u64 0 4294967295)=0 by decide,Int.add_zero]
 exact⟨_,_,rfl,rfl,trivial⟩
theorem Ahw {w0 w:World} {g:Nat} {xs:Array Value} (h:Am [] w0 w) (hg:w0.heap.size<=g):Am [] w0 (w.setRow g xs):=
 ⟨h.os,h.tape,h.output,by simpa [World.setRow] using h.size,fun j hj hm=>by
  rw [←h.block j hj hm]
  simp only [World.setRow,Array.getElem?_modify]
  rw [if_neg (by omega)]⟩
theorem Aui (a n:Int) (hn:0<=n) (hn2:n<4294967296) (K:List Int->Prop) (h:K (List.replicate n.toNat a)):G9 [a] n K:=by
 intro m w hm xA xC hxc hx
 obtain⟨N,rfl⟩:∃N:Nat,n=N:=⟨n.toNat,by omega⟩
 rw [Int.toNat_natCast]at h
 refine Lj _ _ _ _ _ _ ⟨fun w'=>w=w',A7 (by simp) rfl,?_⟩
 rintro _ _ rfl
 have wn:IntKind.u64.wrap (N:Int)=N:=wrap_u64 (by omega) (by omega)
 rw [wn,show IntKind.u64.wrap (([a].length:Nat):Int)=1 from wrap_u64 (n:=1) (by omega) (by omega)]
 refine Aa (Ae1 N hn hn2 _) ?_
 rintro _ _ ⟨rfl,rfl⟩
 refine⟨_,_,rfl,fun w'=>w=w',fun _=>A7 (by simp;omega) rfl,?_⟩
 rintro _ _ rfl
 have hT:=Asu
 obtain⟨i,z,ht,hi,hz,hsz,hb,hzs,Azk⟩:=hT
 have hz0:z= .int .u8 0:=by
  have:Tryz.prog.info? 5=some Tryz.t5:=by kernel_rfl
  rw [this]at hi
  cases hi
  have h2:Tryz.t5.zero=some (.int .u8 0):=by kernel_rfl
  rw [h2]at hz
  exact(Option.some.inj hz).symm
 subst hz0
 rw [A1 (n:=(N:Int)) (by omega) (by omega)]
 refine⟨_,_,run_make w (P:=Tryz.prog) 42 5 i (.int .u8 0) ht hi hz .i64 .i64 N N (by omega) (by omega) (by rw [hb];omega) (by omega),?_⟩
 refine⟨_,_,_,rfl,?_⟩
 rw [Int.toNat_natCast]
 have Awy:(madeCells (Value.int .u8 0).cells (N*i.size))=⟨List.replicate N (.int .u8 0)⟩:=by
  rw [hsz,Nat.mul_one]
  apply Array.ext'
  apply List.ext_getElem
  ·simp [madeCells]
  ·intro j h1 h2
   simp [madeCells,Value.cells,Nat.mod_one]
 rw [Awy]
 have Ban:(Tryz.prog.info? 5).map (·.size)=some 1:=by rw [hi];simp [hsz]
 generalize hw1:w.alloc (.cells ⟨List.replicate N (.int .u8 0)⟩ 5)=w1
 have hg1:w1.heap[w.heap.size]? =some (.cells ⟨List.replicate N (.int .u8 0)⟩ 5 (0,0)):=by rw [←hw1];show(w.heap.push _)[w.heap.size]? =_;simp
 have hk1:Am [] w w1:=Be hw1.symm
 have Bbo:∀(w8:World),Am [] w w8->w8.heap[w.heap.size]? =some (.cells ⟨List.replicate N (.int .u8 a)⟩ 5 (0,0))->
  (∃r0:List Int,K r0/\(∃(a0:Option Addr) (c0:Nat),(Value.slice (some ⟨w.heap.size,0,none⟩) N N)= .slice a0 r0.length c0/\r0.length<=c0/\SlR (Cu .u8) m w8 a0 r0)/\Am [] w w8):=by
  intro w8 hk hg
  refine⟨_,h,⟨some ⟨w.heap.size,0,none⟩,N,by simp,by simp,.inr ⟨_,_,rfl,fun hmm=>Nat.lt_irrefl _ (hm.lt _ hmm),?_,Tp _ _ _⟩⟩,hk⟩
  intro j hj
  rw [F6,Nat.zero_add]
  have hj':j<N:=by simpa using hj
  simp [World.cell?,hg,hj']
 by_cases hN:N=0
 ·subst hN
  refine⟨_,_,run_copy_none (P:=Tryz.prog) w1 _ _ _ _ _ _ _ _ _ _ ht Ban (by simp),⟨_,rfl,fun n1 w8=>n1=0/\w1=w8,fun _ _=>0,⟨rfl,rfl⟩,?_⟩⟩
  rintro _ _ _ ⟨rfl,rfl⟩
  exact A7 (by simp) (Bbo _ hk1 hg1)
 ·obtain⟨p,x,cs,rfl,hx0,hat,Ba1⟩:=hx.elem (i:=0) (by simp)
  simp at hx0
  subst hx0
  have hcs:cs=[.int .u8 a]:=Ba1
  subst hcs
  have Bbc:Ae w1 (p.add 0) [.int .u8 a]:=hat.held hk1 (by simp)
  refine⟨_,_,run_copy_row Tryz.prog w1 _ _ _ _ w.heap.size 0 N N p 1 xC ⟨List.replicate N (.int .u8 0)⟩ 5 [.int .u8 a] ht Ban hg1 (by show 1=min 1 N;omega) (fun j v hj=> ?_) (by simp;omega) (by simp [Value.oneCell']),?_⟩
  ·cases j with
   |zero=>
    simp at hj
    subst hj
    have:=Bbc 0 (by simp)
    simpa [Addr.add] using this
   |succ j=>simp at hj
  ·refine⟨_,rfl,fun n1 w8=>∃q:Nat,n1=q/\1<=q/\q<=N/\Am [] w w8/\w8.heap[w.heap.size]? =some (.cells ⟨List.replicate q (.int .u8 a)++List.replicate (N-q) (.int .u8 0)⟩ 5 (0,0)),fun n1 _=>N-n1.toNat,⟨1,rfl,by omega,by omega,Ahw hk1 (Nat.le_refl _),?_⟩,?_⟩
   ·rw [setRow_heap _ _ _ _ _ _ hg1]
    simp
   ·rintro _ _ w8 ⟨q,rfl,hq1,hqN,hk,hg⟩
    refine Ag (fun hc=> ?_) fun hc=> ?_
    ·have Cjw:q<N:=by simp at hc;omega
     intro w9 hw9
     refine⟨by omega,by omega,?_⟩
     have hk9:Am [] w w9:=hk.trans (Abr hw9)
     have hg9:w9.heap[w.heap.size]? =some (.cells ⟨List.replicate q (.int .u8 a)++List.replicate (N-q) (.int .u8 0)⟩ 5 (0,0)):=by rw [hw9];exact hg
     rw [Int.toNat_natCast,Tn]
     have Bc7:Hr (some ⟨w.heap.size,0,none⟩) q N 1=some ⟨w.heap.size,q,none⟩:=by
      unfold Hr
      rw [if_neg (by omega)]
      simp [F6]
     rw [Bc7]
     obtain⟨c,hc1,hc2,hc3,hc4⟩:∃c:Nat,min q (N-q)=c/\1<=c/\c<=q/\c<=N-q:=⟨_,rfl,by omega,by omega,by omega⟩
     refine⟨_,_,run_copy_row Tryz.prog w9 _ _ _ _ w.heap.size q (N-q) (N-q) ⟨w.heap.size,0,none⟩ (q-0) (N-0) _ 5 (List.replicate c (.int .u8 a)) ht Ban hg9 (by rw [List.length_replicate];show c=min q (N-q);omega) (fun j v hj=> ?_) (by simp;omega) (fun v hv=>by rw [List.eq_of_mem_replicate hv];rfl),?_⟩
     ·have hj':=(List.getElem?_eq_some_iff.1 hj).1
      have hv:=(List.getElem?_eq_some_iff.1 hj).2
      simp at hj' hv
      rw [F6,Nat.zero_add]
      have hjq:j<q:=by omega
      simp only [World.cell?,hg9,Option.isSome_none,Bool.false_eq_true,if_false]
      rw [List.getElem?_toArray]
      show(List.replicate q (Value.int .u8 a)++List.replicate (N-q) (Value.int .u8 0))[j]? =some v
      rw [List.getElem?_append_left (by simp;omega),←hv]
      simp [hjq]
     ·refine⟨_,rfl,?_⟩
      rw [List.length_replicate]
      rw [A1 (by omega) (by omega)]
      refine⟨⟨q+c,by omega,by omega,by omega,Ahw hk9 (Nat.le_refl _),?_⟩,by show N-((q:Int)+(c:Int)).toNat<N-(q:Int).toNat;omega⟩
      have hl:(List.replicate q (Value.int .u8 a)++List.replicate (N-q) (Value.int .u8 0)).take q++List.replicate c (Value.int .u8 a)++(List.replicate q (Value.int .u8 a)++List.replicate (N-q) (Value.int .u8 0)).drop (q+c)=List.replicate (q+c) (Value.int .u8 a)++List.replicate (N-(q+c)) (Value.int .u8 0):=by
       rw [List.take_append_of_le_length (by simp),List.take_of_length_le (by simp),List.drop_append,List.drop_of_length_le (by simp),List.nil_append,List.drop_replicate,List.length_replicate,List.replicate_append_replicate,show N-q-(q+c-q)=N-(q+c) by omega]
      refine(setRow_heap _ _ _ _ _ _ hg9).trans ?_
      rw [←hl]
    ·have hq:q=N:=by simp at hc;omega
     subst hq
     rw [Nat.sub_self,List.replicate_zero,List.append_nil]at hg
     exact Bbo _ hk hg
end Go.Proofs.YtcakelelfklhdaaGreatDoor
namespace Go.Proofs.YtcakelelfklhdaaGreatDoor
open Go.Vc Go.Lv Go.Ty Go.Tr Go.Tk Go.Tm
theorem Ave (xs:List Int) (hn:xs.length<2^40) (K:List Int->Prop) (h:K xs.reverse):En xs K:=by
 refine Ke _ _ ?_
 unfold F8
 refine⟨fun i j l n=>∃k:Nat,i=k/\j=(xs.length:Int)-1-k/\2*k<=xs.length+1/\l.length=xs.length/\(∀t,t<xs.length->l[t]? =if t<k\/xs.length-k<=t then xs[xs.length-1-t]? else xs[t]?)/\n=xs.length-k,
  ⟨_,0,rfl,by rw [A1 (by omega) (by omega)];omega,by omega,rfl,fun t ht=>by rw [if_neg (by omega)],rfl⟩,?_⟩
 rintro _ _ l _ ⟨k,rfl,rfl,hk,hl,hg,rfl⟩
 refine Ag (fun e=> ?_) fun e=> ?_
 ·have e:(k:Int)<(xs.length:Int)-1-k:=by simpa using e
  have hj:((xs.length:Int)-1-k).toNat=xs.length-1-k:=by omega
  rw [hj,Int.toNat_natCast]
  have g1:=hg (xs.length-1-k) (by omega)
  have g2:=hg k (by omega)
  rw [if_neg (by omega)]at g1 g2
  refine⟨fun l1=>l1=(l.set k (xs[xs.length-1-k]'(by omega))).set (xs.length-1-k) (xs[k]'(by omega)),⟨⟨by omega,by omega⟩,fun x hx=>⟨⟨by omega,by omega⟩,fun x1 hx1=>⟨⟨by omega,by omega⟩,fun x2 hx2=>⟨⟨by omega,by omega⟩,fun x3 hx3=> ?_⟩⟩⟩⟩,?_⟩
  ·rw [g1,List.getElem?_eq_getElem (by omega)]at hx
   rw [g2,List.getElem?_eq_getElem (by omega)]at hx1
   cases hx
   cases hx1
   rfl
  rintro _ rfl
  refine⟨xs.length-(k+1),by omega,k+1,by rw [A1 (by omega) (by omega)];omega,by rw [A1 (by omega) (by omega)];omega,by omega,by simp [hl],fun t ht=> ?_,rfl⟩
  rw [List.getElem?_set,List.length_set]
  by_cases h1:xs.length-1-k=t
  ·rw [if_pos h1,if_pos (by omega),if_pos (by omega),←h1,show xs.length-1-(xs.length-1-k)=k by omega,List.getElem?_eq_getElem (by omega)]
  rw [if_neg h1,List.getElem?_set]
  by_cases h2:k=t
  ·subst h2
   rw [if_pos rfl,if_pos (by omega),if_pos (by omega),List.getElem?_eq_getElem (by omega)]
  rw [if_neg h2,hg t ht]
  by_cases h3:t<k\/xs.length-k<=t
  ·rw [if_pos h3,if_pos (by omega)]
  ·rw [if_neg h3,if_neg (by omega)]
 ·have e:¬(k:Int)<(xs.length:Int)-1-k:=by simpa using e
  have:l=xs.reverse:=by
   apply List.ext_getElem?
   intro t
   by_cases ht:t<xs.length
   ·rw [hg t ht,List.getElem?_reverse ht]
    split
    ·rfl
    ·rw [show xs.length-1-t=t by omega]
   ·rw [List.getElem?_eq_none (by omega),List.getElem?_eq_none (by simp;omega)]
  rw [this];exact h
def Fw (x:Aj):Bool:=x.n==1&&(x.op==34||(x.op==35||x.op==36))
theorem Asq (x:Aj) (K:Bool->Prop) (h:K (Fw x)):F7 x K:=by
 refine Tq _ _ ?_
 unfold Nz
 unfold Fw at h
 refine Ag (fun e=> ?_) fun e=> ?_
 ·rw [e]at h
  refine Ag (fun e1=> ?_) fun e1=> ?_
  ·rw [e1]at h;exact h
  rw [e1]at h
  refine Ag (fun e2=> ?_) fun e2=> ?_
  ·rw [e2]at h;exact h
  ·rw [e2]at h;exact h
 ·rw [e]at h;exact h
theorem Zz (n most:Int) (a b:List UInt8) (c:UInt8) (k:Nat) (hn:n=((a.length+k+b.length:Nat):Int)) (hm:n<=most) (hk:n<2^31) (K:List UInt8->Bool->Prop) (h:K (a++List.replicate k c++b) true):Hl n most a (c.toNat:Int) b K:=by
 refine Y0 _ _ _ _ _ _ ?_
 unfold Rv
 rw [if_neg (by omega),A1 (n:=n-_) (by omega) (by omega),A1 (by omega) (by omega)]
 have e:n-(a.length:Int)-(b.length:Int)=(k:Int):=by omega
 rw [e]
 refine A7 (by simp) (Aui _ _ (by omega) (by omega) _ ?_)
 have e2:strOf (List.replicate (k:Int).toNat (c.toNat:Int))=List.replicate k c:=by
  unfold strOf
  rw [Int.toNat_natCast,List.map_replicate,Int.toNat_natCast,UInt8.ofNat_toNat]
 rw [e2,R4]
 refine⟨by rw [List.length_replicate];omega,by rw [List.length_append,List.length_replicate];omega,h⟩
theorem Ar4 (x:Aj) (want:List UInt8) (hw:want.length<=10) (K:List UInt8->Bool->Prop) (w2:List UInt8) (hw2:w2=if Fw x then 69::(if 5<=x.op/\x.op<=17 then [69,69]else want)else(if 5<=x.op/\x.op<=17 then [69,69]else want)) (h:K w2 ((w2.length:Int)==x.kids)):
 ∃(J4:(List UInt8)->Prop),(∃(J5:Bool->Prop),(cond (decide (x.op>=5)) (J5 (decide (x.op<=17))) (J5 false))/\∀(x13:Bool),J5 x13->cond (x13) (J4 [69,69]) (J4 want))/\
 ∀(Azh:List UInt8),J4 Azh->∃(J6:(List UInt8)->Prop),(F7 x (fun x14=>cond (x14) ((([69].length+Azh.length:Nat):Int)<=IntKind.i64.max/\J6 ([69]++Azh)) (J6 Azh)))/\
 ∀(Bao:List UInt8),J6 Bao->K Bao ((Bao.length:Int)==x.kids):=by
 refine⟨(·=if 5<=x.op/\x.op<=17 then [69,69]else want),⟨(·=decide (5<=x.op/\x.op<=17)),?_,?_⟩,?_⟩
 ·refine Ag (fun e=> ?_) fun e=> ?_
  ·have e:x.op>=5:=by simpa using e
   show decide (x.op<=17)=_
   by_cases h2:x.op<=17
   ·rw [decide_eq_true h2,decide_eq_true ⟨e,h2⟩]
   ·rw [decide_eq_false h2,decide_eq_false (fun hh=>h2 hh.2)]
  ·have e:¬x.op>=5:=by simpa using e
   show false=_
   rw [decide_eq_false (fun hh=>e hh.1)]
 ·rintro _ rfl
  refine Ag (fun e=> ?_) fun e=> ?_
  ·have e:=of_decide_eq_true e
   show _=_
   rw [if_pos e]
  ·have e:=of_decide_eq_false e
   show _=_
   rw [if_neg e]
 rintro _ rfl
 have hl:(if 5<=x.op/\x.op<=17 then [69,69]else want).length<=10:=by
  split
  ·decide
  ·exact hw
 refine⟨(·=w2),Asq _ _ (Ag (fun e=>⟨?_,?_⟩) fun e=> ?_),?_⟩
 ·rw [R4,List.length_singleton];omega
 ·rw [e,if_pos rfl]at hw2;exact hw2.symm
 ·rw [e,if_neg (by simp)]at hw2;exact hw2.symm
 ·rintro _ rfl;exact h
end Go.Proofs.YtcakelelfklhdaaGreatDoor
namespace Go.Proofs.YtcakelelfklhdaaGreatDoor
open Go.Vc Go.Lv Go.Ty Go.Tk
namespace Nv
def Ape (s:List UInt8):Bool:=
 match s with
 |[]=>false
 |c::l=>decide ((c::l).length<=16)&&(Hc c&&((c::l).all Tk.A8&& !decide ((c::l)∈words)))
theorem Ajl (c:UInt8) (l:List UInt8):Ape (c::l)=(decide ((c::l).length<=16)&&(Hc c&&((c::l).all Tk.A8&& !decide ((c::l)∈words)))):=rfl
theorem Z0 {α:Type} [BEq α] [LawfulBEq α] (p:α->Bool):∀(l:List α),(l.takeWhile p==l)=l.all p
 |[]=>by simp
 |a::l=>by
  rw [List.takeWhile_cons,List.all_cons]
  cases h:p a with
  |true=>simp only [if_true,Bool.true_and];rw [←Z0 p l];rw [Bool.eq_iff_iff];simp
  |false=>simp
theorem Ahx (n:Nat) (h:n<256) (K:Bool->Prop) (hk:K (Y7 n)):Jz n K:=by
 refine Ts _ _ ?_
 have:=Aiq n h
 unfold Adp at this
 unfold N0
 rw [this];exact hk
theorem Ar5 (n:Nat) (K:Bool->Prop) (hk:K (T2 n)):M8 n K:=by
 refine U3 _ _ ?_
 have:T2 n=(decide ((n:Int)>=48)&&decide ((n:Int)<=57)):=by
  unfold T2;rw [Bool.eq_iff_iff];simp;omega
 unfold O4
 rw [←this];exact hk
theorem Apf (n:Nat) (h:n<256) (K:Bool->Prop) (hk:K (N2 n)):L9 n K:=by
 refine Tt _ _ (Ahx n h _ (Ag (fun hc=> ?_) fun hc=>Ar5 n _ ?_))
 ·unfold N2 at hk;rw [hc]at hk;exact hk
 ·unfold N2 at hk;rw [hc]at hk;exact hk
theorem Auj (s:List UInt8) (hs:s.length<2^40) (K:List UInt8->Prop) (hk:K (s.takeWhile Tk.A8)):Fv s K:=by
 refine Lz _ _ ⟨fun x n=>∃k:Nat,x=k/\k<=s.length/\n=s.length-k/\∀i (h:i<s.length),i<k->Tk.A8 s[i]=true,⟨_,0,rfl,by omega,rfl,by omega⟩,?_⟩
 rintro _ _ ⟨k,rfl,hkl,rfl,Awn⟩
 refine Ag (fun hc=>⟨by simp at hc;omega,?_⟩) fun hc=> ?_
 ·have hlt:k<s.length:=by simp at hc;omega
  rw [Int.toNat_natCast,getD_eq s k hlt]
  refine Apf _ (UInt8.toNat_lt _) _ (Ag (fun hd=>⟨by omega,?_⟩) fun hd=> ?_)
  ·have hd':Tk.A8 s[k]=false:=by simpa [Tk.A8] using hd
   rw [←Hm Tk.A8 s k Awn (fun _=>hd')]
   exact hk
  ·have hd':Tk.A8 s[k]=true:=by simpa [Tk.A8] using hd
   refine⟨s.length-(k+1),by omega,k+1,by rw [A1 (by omega) (by omega)];omega,by omega,rfl,fun i h hi=> ?_⟩
   by_cases hik:i=k
   ·subst hik;exact hd'
   ·exact Awn i h (by omega)
 ·have hkk:k=s.length:=by simp at hc;omega
  rw [Hm Tk.A8 s k Awn (fun h=>by omega),hkk,List.take_length]at hk
  exact hk
def Ae2 (i j:Nat):Nat:=(i+j)/2
theorem Ar6 (i j:Nat) (h:i+j<2^40):IntKind.i64.wrap ((IntKind.u64.wrap (IntKind.i64.wrap ((i:Int)+(j:Int)))).fdiv (2^(min 1 IntKind.u64.bits)))=(Ae2 i j:Nat):=by
 have e0:IntKind.i64.wrap ((i:Int)+(j:Int))=(i:Int)+j:=A1 (by omega) (by omega)
 have e:IntKind.u64.wrap ((i:Int)+(j:Int))=(i:Int)+j:=by rw [IntKind.wrap_u64];omega
 have e2:(min 1 IntKind.u64.bits)=1:=by decide
 have e3:((i:Int)+(j:Int)).fdiv (2^1)=(Ae2 i j:Nat):=by
  rw [Int.fdiv_eq_ediv_of_nonneg _ (by decide)];unfold Ae2;omega
 rw [e0,e,e2,e3]
 exact A1 (by omega) (by unfold Ae2;omega)
theorem Avf (s:List UInt8) (K:Bool->Prop) (hk:K false):Gl s K:=by
 refine Pf _ _ ?_
 unfold K9
 rw [beq_self_eq_true];exact hk
theorem Auk (s:List UInt8) (K:Bool->Prop) (hk:K false):E9 s K:=by
 refine M9 _ _ ?_
 unfold Jk
 rw [beq_self_eq_true];exact hk
theorem Aul (x y:List UInt8) (K:Bool->Prop) (hk:K (Op.bytesLess x y)):J0 x y K:=
 Qc _ _ _ (Avf _ _ hk)
theorem Apg (l:List (List UInt8)) (hl:Am7 l) (hn:l.length<1000) (t:List UInt8) (K:Int->Bool->Prop) (hk:∀i,K i (decide (t∈l))):C3 l t K:=by
 refine G1 _ _ _ ⟨fun i j n=>∃i' j':Nat,i=i'/\j=j'/\i'<=j'/\j'<=l.length/\n=j'-i'/\(∀k (h:k<l.length),k<i'->Op.bytesLess l[k] t=true)/\(∀k (h:k<l.length),j'<=k->Op.bytesLess l[k] t=false),
  ⟨_,0,l.length,rfl,rfl,Nat.zero_le _,Nat.le_refl _,rfl,fun _ _ h=>absurd h (Nat.not_lt_zero _),fun k h h'=>by omega⟩,?_⟩
 rintro _ _ _ ⟨i,j,rfl,rfl,hij,hj,rfl,hlo,hhi⟩
 refine Ag (fun hx=> ?_) fun hx=> ?_
 ·have hlt:i<j:=by simpa using hx
  rw [Ar6 i j (by omega)]
  have hm1:i<=Ae2 i j:=by unfold Ae2;omega
  have hm2:Ae2 i j<j:=by unfold Ae2;omega
  generalize Ae2 i j=m at hm1 hm2
  have hml:m<l.length:=by omega
  refine⟨by omega,by omega,fun x hx=> ?_⟩
  rw [Int.toNat_natCast,List.getElem?_eq_getElem hml]at hx
  cases hx
  refine Aul _ _ _ (Ag (fun hb=> ?_) fun hb=> ?_)
  ·rw [A1 (by omega) (by omega)]
   refine⟨_,?_,m+1,j,by omega,rfl,by omega,hj,rfl,fun k h hk=> ?_,hhi⟩
   ·omega
   ·rcases Nat.lt_or_ge k m with h'|h'
    ·exact Sm _ _ _ (hl k m h hml h') hb
    ·obtain rfl:k=m:=by omega
     exact hb
  ·refine⟨_,?_,i,m,rfl,rfl,hm1,by omega,rfl,hlo,fun k h hk=> ?_⟩
   ·omega
   ·rcases Nat.lt_or_ge m k with h'|h'
    ·cases hh:Op.bytesLess l[k] t with
     |false=>rfl
     |true=>rw [Sm _ _ _ (hl m k hml h h') hh]at hb;cases hb
    ·obtain rfl:k=m:=by omega
     exact hb
 ·have hge:i=j:=by have:¬i<j:=by simpa using hx
                   omega
  subst hge
  refine Ag (fun hx2=> ?_) fun hx2=> ?_
  ·have hil:i<l.length:=by simpa using hx2
   have gl:=List.getElem?_eq_getElem hil
   refine⟨by omega,fun x hx=> ?_⟩
   rw [Int.toNat_natCast,gl]at hx
   cases hx
   refine Ag (fun hb=> ?_) fun hb=>⟨by omega,fun x hx=> ?_⟩
   ·have:l[i]=t:=by simpa using hb
    have:=hk i
    rwa [decide_eq_true (by rw [←‹l[i]=t›];exact List.getElem_mem hil)]at this
   ·have hne:l[i]≠t:=by simpa using hb
    refine Auk _ _ ?_
    have Azv:t∉l:=by
     intro hm
     obtain⟨p,hp,rfl⟩:=List.getElem_of_mem hm
     rcases Nat.lt_trichotomy p i with h'|h'|h'
     ·have:=hlo p hp h';rw [Qf]at this;cases this
     ·subst h';exact hne rfl
     ·have:=hl i p hil hp h'
      rw [hhi i hil (Nat.le_refl _)]at this;cases this
    have:=hk i
    rwa [decide_eq_false Azv]at this
  ·have hil:¬i<l.length:=by simpa using hx2
   have Azv:t∉l:=by
    intro hm
    obtain⟨p,hp,rfl⟩:=List.getElem_of_mem hm
    have:=hlo p hp (by omega);rw [Qf]at this;cases this
   have:=hk i
   rwa [decide_eq_false Azv]at this
theorem Aum (s:List UInt8) (K:Bool->Prop) (hk:K (decide (s∈words))):Oo s K:=
 W9 _ _ (U5 _ (Apg words Adq (by decide) s _ fun _=>hk))
theorem Anm (s:List UInt8) (K:Bool->Prop) (hk:K (Ape s)):On s K:=by
 refine W8 _ _ ?_
 cases s with
 |nil=>exact A7 rfl hk
 |cons c l=>
  rw [Ajl]at hk
  refine Em rfl (Ag (fun h16=> ?_) fun h16=> ?_)
  ·have Ch4:(c::l).length<=16:=by simp at h16;simp;omega
   rw [decide_eq_true Ch4,Bool.true_and]at hk
   refine⟨⟨by omega,by simp⟩,Ahx _ (UInt8.toNat_lt _) _ ?_⟩
   have e0:(c::l).getD 0 0=c:=rfl
   rw [e0]
   refine Ag (fun hl=> ?_) fun hl=> ?_
   ·have hl':Hc c=true:=hl
    rw [hl',Bool.true_and]at hk
    refine Auj _ (by omega) _ ?_
    rw [Z0]
    refine Ag (fun ha=>Aum _ _ ?_) fun ha=> ?_
    ·rw [ha,Bool.true_and]at hk;exact hk
    ·rw [ha,Bool.false_and]at hk;exact hk
   ·have hl':Hc c=false:=hl
    rw [hl',Bool.false_and]at hk;exact hk
  ·rw [decide_eq_false (by simp at h16;simp;omega),Bool.false_and]at hk
   exact hk
end Nv
end Go.Proofs.YtcakelelfklhdaaGreatDoor
namespace Go.Proofs.YtcakelelfklhdaaGreatDoor
open Go.Vc Go.Lv Go.Ty Go.Tr Go.Tk Go.Tm
theorem Ajm {op:Int} (h1:5<=op) (h2:op<=17):op=5\/op=6\/op=7\/op=8\/op=9\/op=10\/op=11\/op=12\/op=13\/op=14\/op=15\/op=16\/op=17:=by omega
theorem Fg (x:Aj) (want ds:List UInt8) (hw:want.length<=10) (hk:x.kids=(ds.length:Int)) (hw2:ds=if Fw x then 69::(if 5<=x.op/\x.op<=17 then [69,69]else want)else(if 5<=x.op/\x.op<=17 then [69,69]else want)) (K:List UInt8->Bool->Prop) (h:K ds true):
 ∃(J4:(List UInt8)->Prop),(∃(J5:Bool->Prop),(cond (decide (x.op>=5)) (J5 (decide (x.op<=17))) (J5 false))/\∀(x13:Bool),J5 x13->cond (x13) (J4 [69,69]) (J4 want))/\
 ∀(Azh:List UInt8),J4 Azh->∃(J6:(List UInt8)->Prop),(F7 x (fun x14=>cond (x14) ((([69].length+Azh.length:Nat):Int)<=IntKind.i64.max/\J6 ([69]++Azh)) (J6 Azh)))/\
 ∀(Bao:List UInt8),J6 Bao->K Bao ((Bao.length:Int)==x.kids):=by
 refine Ar4 x want hw K ds hw2 ?_
 rw [hk,beq_self_eq_true];exact h
theorem Aph {c:UInt8} {x:Aj} {ds:List UInt8} (ho:OkN c x ds) (hd:ds.length<2^30) (most:Int) (hm:(ds.length:Int)<=most) (K:List UInt8->Bool->Prop) (h:K ds true):P6 x most K:=by
 have hkk:=Q5 ho (by omega)
 refine Yy _ _ _ ?_
 cases ho with
 |num n a h1 h2=>
  exact⟨(·=[]),⟨(·=false),rfl,fun _ e=>by cases e;exact⟨(·=false),rfl,fun _ e=>by cases e;exact⟨(·=false),rfl,fun _ e=>by cases e;exact rfl⟩⟩⟩,fun _ e=>by cases e;exact Fg _ [] _ (by decide) hkk (by simp [Fw]) K h⟩
 |name s a hn=>
  exact⟨(·=[]),⟨(·=false),rfl,fun _ e=>by cases e;exact⟨(·=false),rfl,fun _ e=>by cases e;exact⟨(·=false),rfl,fun _ e=>by cases e;exact rfl⟩⟩⟩,fun _ e=>by cases e;exact Fg _ [] _ (by decide) hkk (by simp [Fw]) K h⟩
 |un op a hop=>
  rcases hop with rfl|rfl
  ·exact⟨(·=[69]),⟨(·=true),rfl,fun _ e=>by cases e;exact rfl⟩,fun _ e=>by cases e;exact Fg _ [69] _ (by decide) hkk (by simp [Fw]) K h⟩
  ·exact⟨(·=[69]),⟨(·=true),rfl,fun _ e=>by cases e;exact rfl⟩,fun _ e=>by cases e;exact Fg _ [69] _ (by decide) hkk (by simp [Fw]) K h⟩
 |bin op a h1 h2=>
  rcases Ajm h1 h2 with rfl|rfl|rfl|rfl|rfl|rfl|rfl|rfl|rfl|rfl|rfl|rfl|rfl<;>
  exact⟨(·=[]),⟨(·=false),rfl,fun _ e=>by cases e;exact⟨(·=false),rfl,fun _ e=>by cases e;exact⟨(·=false),rfl,fun _ e=>by cases e;exact rfl⟩⟩⟩,fun _ e=>by cases e;exact Fg _ [] _ (by decide) hkk (by simp [Fw]) K h⟩
 |set op s a hop hn=>
  rcases hop with rfl|rfl|rfl<;>
  exact⟨(·=[69]),⟨(·=true),rfl,fun _ e=>by cases e;exact rfl⟩,fun _ e=>by cases e;exact Fg _ [69] _ (by decide) hkk (by simp [Fw]) K h⟩
 |send a=>exact⟨(·=[82,69]),⟨(·=false),rfl,fun _ e=>by cases e;exact rfl⟩,fun _ e=>by cases e;exact Fg _ [82,69] _ (by decide) hkk (by simp [Fw]) K h⟩
 |recv s a hn=>exact⟨(·=[82]),⟨(·=false),rfl,fun _ e=>by cases e;exact rfl⟩,fun _ e=>by cases e;exact Fg _ [82] _ (by decide) hkk (by simp [Fw]) K h⟩
 |if2 a=>exact⟨(·=[69,66]),⟨(·=false),rfl,fun _ e=>by cases e;exact rfl⟩,fun _ e=>by cases e;exact Fg _ [69,66] _ (by decide) hkk (by simp [Fw]) K h⟩
 |if3 a=>exact⟨(·=[69,66,66]),⟨(·=false),rfl,fun _ e=>by cases e;exact rfl⟩,fun _ e=>by cases e;exact Fg _ [69,66,66] _ (by decide) hkk (by simp [Fw]) K h⟩
 |Bfc a=>exact⟨(·=[69,66]),⟨(·=false),rfl,fun _ e=>by cases e;exact⟨(·=true),rfl,fun _ e=>by cases e;exact rfl⟩⟩,fun _ e=>by cases e;exact Fg _ [69,66] _ (by decide) hkk (by simp [Fw]) K h⟩
 |sel k a h1=>
  rw [List.length_replicate]at hkk hd hm
  refine⟨fun _=>False,⟨(·=false),rfl,?_⟩,fun _ h=>h.elim⟩
  rintro _ rfl
  refine⟨(·=false),rfl,?_⟩
  rintro _ rfl
  refine Zz _ _ [67] [] 67 (k-1) (by rw [hkk];simp only [List.length_cons,List.length_nil];omega) (by rw [hkk];exact hm) (by rw [hkk];omega) _ ?_
  rw [List.append_nil,show [67]++List.replicate (k-1) (67:UInt8)=List.replicate k 67 by rw [show k=(k-1)+1 by omega,List.replicate_succ,Nat.add_sub_cancel];rfl];exact h
 |start s k a hn=>
  rw [List.length_replicate]at hkk hd hm
  refine⟨fun _=>False,⟨(·=false),rfl,?_⟩,fun _ h=>h.elim⟩
  rintro _ rfl
  refine⟨(·=false),rfl,?_⟩
  rintro _ rfl
  refine Zz _ _ [] [] 69 k (by rw [hkk];simp only [List.length_nil];omega) (by rw [hkk];exact hm) (by rw [hkk];omega) _ ?_
  rw [List.append_nil,List.nil_append];exact h
 |one op a hop=>
  rcases hop with rfl|rfl|rfl<;>
  exact⟨(·=[69]),⟨(·=true),rfl,fun _ e=>by cases e;exact rfl⟩,fun _ e=>by cases e;exact Fg _ [69] _ (by decide) hkk (by simp [Fw]) K h⟩
 |none op a hop=>
  rcases hop with rfl|rfl<;>
  exact⟨(·=[]),⟨(·=false),rfl,fun _ e=>by cases e;exact⟨(·=false),rfl,fun _ e=>by cases e;exact⟨(·=false),rfl,fun _ e=>by cases e;exact rfl⟩⟩⟩,fun _ e=>by cases e;exact Fg _ [] _ (by decide) hkk (by simp [Fw]) K h⟩
 |els a=>exact⟨(·=[66]),⟨(·=false),rfl,fun _ e=>by cases e;exact⟨(·=false),rfl,fun _ e=>by cases e;exact⟨(·=true),rfl,fun _ e=>by cases e;exact rfl⟩⟩⟩,fun _ e=>by cases e;exact Fg _ [66] _ (by decide) hkk (by simp [Fw]) K h⟩
 |clause op s a w ds hc=>
  rcases hc with⟨rfl,hn,rfl⟩|⟨rfl,rfl,rfl⟩|⟨rfl,rfl,rfl⟩
  ·exact⟨(·=[82,66]),⟨(·=false),rfl,fun _ e=>by cases e;exact⟨(·=false),rfl,fun _ e=>by cases e;exact rfl⟩⟩,fun _ e=>by cases e;exact Fg _ [82,66] _ (by decide) hkk (by cases w<;>simp [Fw]) K h⟩
  ·exact⟨(·=[82,69,66]),⟨(·=false),rfl,fun _ e=>by cases e;exact⟨(·=false),rfl,fun _ e=>by cases e;exact rfl⟩⟩,fun _ e=>by cases e;exact Fg _ [82,69,66] _ (by decide) hkk (by cases w<;>simp [Fw]) K h⟩
  ·exact⟨(·=[69,66]),⟨(·=false),rfl,fun _ e=>by cases e;exact⟨(·=true),rfl,fun _ e=>by cases e;exact rfl⟩⟩,fun _ e=>by cases e;exact Fg _ [69,66] _ (by decide) hkk (by cases w<;>simp [Fw]) K h⟩
 |Bbh s a hn=>exact⟨(·=[]),⟨(·=false),rfl,fun _ e=>by cases e;exact⟨(·=false),rfl,fun _ e=>by cases e;exact rfl⟩⟩,fun _ e=>by cases e;exact Fg _ [] _ (by decide) hkk (by simp [Fw]) K h⟩
 |Bbi s a hn=>exact⟨(·=[69]),⟨(·=false),rfl,fun _ e=>by cases e;exact⟨(·=false),rfl,fun _ e=>by cases e;exact rfl⟩⟩,fun _ e=>by cases e;exact Fg _ [69] _ (by decide) hkk (by simp [Fw]) K h⟩
 |block k a=>
  rw [List.length_replicate]at hkk hd hm
  refine⟨fun _=>False,⟨(·=false),rfl,?_⟩,fun _ h=>h.elim⟩
  rintro _ rfl
  refine⟨(·=false),rfl,?_⟩
  rintro _ rfl
  refine Zz _ _ [] [] 83 k (by rw [hkk];simp only [List.length_nil];omega) (by rw [hkk];exact hm) (by rw [hkk];omega) _ ?_
  rw [List.append_nil,List.nil_append];exact h
 |param s a hn=>
  exact⟨(·=[]),⟨(·=false),rfl,fun _ e=>by cases e;exact⟨(·=false),rfl,fun _ e=>by cases e;exact⟨(·=false),rfl,fun _ e=>by cases e;exact rfl⟩⟩⟩,fun _ e=>by cases e;exact Fg _ [] _ (by decide) hkk (by simp [Fw]) K h⟩
 |unit k a=>
  rw [List.length_replicate]at hkk hd hm
  refine⟨fun _=>False,⟨(·=false),rfl,?_⟩,fun _ h=>h.elim⟩
  rintro _ rfl
  refine⟨(·=false),rfl,?_⟩
  rintro _ rfl
  refine⟨(·=false),rfl,?_⟩
  rintro _ rfl
  refine Zz _ _ [] [] 68 k (by rw [hkk];simp only [List.length_nil];omega) (by rw [hkk];exact hm) (by rw [hkk];omega) _ ?_
  rw [List.append_nil,List.nil_append];exact h
 |chan s n a hn h1 h2=>
  exact⟨(·=[]),⟨(·=false),rfl,fun _ e=>by cases e;exact⟨(·=false),rfl,fun _ e=>by cases e;exact⟨(·=false),rfl,fun _ e=>by cases e;exact rfl⟩⟩⟩,fun _ e=>by cases e;exact Fg _ [] _ (by decide) hkk (by simp [Fw]) K h⟩
 |main a=>exact⟨(·=[66]),⟨(·=false),rfl,fun _ e=>by cases e;exact⟨(·=false),rfl,fun _ e=>by cases e;exact⟨(·=true),rfl,fun _ e=>by cases e;exact rfl⟩⟩⟩,fun _ e=>by cases e;exact Fg _ [66] _ (by decide) hkk (by simp [Fw]) K h⟩
 |proc s k a hn=>
  rw [List.length_append,List.length_replicate,List.length_singleton]at hkk hd hm
  refine⟨fun _=>False,⟨(·=false),rfl,?_⟩,fun _ h=>h.elim⟩
  rintro _ rfl
  refine⟨(·=false),rfl,?_⟩
  rintro _ rfl
  refine⟨(·=false),rfl,?_⟩
  rintro _ rfl
  refine Zz _ _ [] [66] 80 k (by rw [hkk];simp only [List.length_nil,List.length_singleton];omega) (by rw [hkk];exact hm) (by rw [hkk];omega) _ ?_
  rw [List.nil_append];exact h
theorem Amh {c:UInt8} {x:Aj} {ds:List UInt8} (ho:OkN c x ds) (K:Int->Prop) (h:K (c.toNat:Int)):Om x.op K:=by
 refine W5 _ _ ?_
 cases ho with
 |un op a hop=>rcases hop with rfl|rfl<;>exact h
 |bin op a h1 h2=>rcases Ajm h1 h2 with rfl|rfl|rfl|rfl|rfl|rfl|rfl|rfl|rfl|rfl|rfl|rfl|rfl<;>exact h
 |set op s a hop hn=>rcases hop with rfl|rfl|rfl<;>exact h
 |one op a hop=>rcases hop with rfl|rfl|rfl<;>exact h
 |none op a hop=>rcases hop with rfl|rfl<;>exact h
 |clause op s a w ds hc=>rcases hc with⟨rfl,hn,rfl⟩|⟨rfl,rfl,rfl⟩|⟨rfl,rfl,rfl⟩<;>exact h
 |chan s n a hn h1 h2=>exact⟨(·=true),rfl,fun _ e=>by cases e;exact h⟩
 |main a=>exact⟨(·=true),rfl,fun _ e=>by cases e;exact h⟩
 |proc s k a hn=>exact⟨(·=true),rfl,fun _ e=>by cases e;exact h⟩
 |param s a hn=>exact⟨(·=false),rfl,fun _ e=>by cases e;exact h⟩
 |unit k a=>exact⟨(·=false),rfl,fun _ e=>by cases e;exact h⟩
 |_=>exact h
theorem Ar7 (s:List UInt8):Nv.Ape s=Tk.Ba s:=by cases s<;>rfl
theorem G6 (x:Aj) (nm:Bool) (hnm:∀K:Bool->Prop,K nm->Jy x.op K) (hs:nm=true->Tk.Ba x.name=true) (hs0:nm=false->x.name=[]) (most:Int)
 (Ayq:cond (x.op==1) (999999999999999999=most) (cond (x.op==38) (16=most) ((if Fw x then 1 else 0)=most))) (h0:0<=x.n) (h1:x.n<=most) {K:Bool->Prop} (h:K true):K0 x K:=by
 refine U2 _ _ ⟨(·=most),?_,?_⟩
 ·refine Ag (fun e=> ?_) fun e=> ?_
  ·rw [e]at Ayq;exact Ayq
  rw [e]at Ayq
  refine Ag (fun e=> ?_) fun e=> ?_
  ·rw [e]at Ayq;exact Ayq
  rw [e]at Ayq
  refine Asq _ _ (Ag (fun e=> ?_) fun e=> ?_)
  ·rw [e]at Ayq;exact Ayq
  ·rw [e]at Ayq;exact Ayq
 rintro _ rfl
 refine⟨(·=false),hnm _ ?_,?_⟩
 ·cases nm with
  |false=>
   rw [hs0 rfl]
   exact A7 rfl (hnm _ rfl)
  |true=>
   have hn:=hs rfl
   have hne:(x.name==[])=false:=by
    cases hx:x.name with
    |nil=>rw [hx]at hn;cases hn
    |cons=>rfl
   rw [hne]
   refine A7 rfl (hnm _ (Em rfl (Nv.Anm _ _ ?_)))
   rw [Ar7,hn];rfl
 ·rintro _ rfl
  refine A7 rfl (Em (by simpa using h0) ?_)
  rw [decide_eq_true h1];exact h
theorem nmd {op:Int} (b:Bool) (h:∀K:Bool->Prop,K b->Qb op K):∀K:Bool->Prop,K b->Jy op K:=fun K hK=>W7 _ _ (h K hK)
theorem Ajn {c:UInt8} {x:Aj} {ds:List UInt8} (ho:OkN c x ds) (K:Bool->Prop) (h:K true):K0 x K:=by
 cases ho with
 |num n a h1 h2=>exact G6 _ false (nmd false fun K hK=>by exact⟨(·=false),rfl,fun _ e=>by cases e;exact hK⟩) (by nofun) (fun _=>by rfl) 999999999999999999 (by rfl) h1 h2 h
 |name s a hn=>exact G6 _ true (nmd true fun K hK=>by exact⟨(·=true),rfl,fun _ e=>by cases e;exact hK⟩) (fun _=>by exact hn) (by nofun) 0 (by simp [Fw]) (by exact Int.le_refl _) (by exact Int.le_refl _) h
 |un op a hop=>
  rcases hop with rfl|rfl<;>exact G6 _ false (nmd false fun K hK=>by exact⟨(·=false),rfl,fun _ e=>by cases e;exact hK⟩) (by nofun) (fun _=>by rfl) 0 (by simp [Fw]) (by exact Int.le_refl _) (by exact Int.le_refl _) h
 |bin op a h1 h2=>
  rcases Ajm h1 h2 with rfl|rfl|rfl|rfl|rfl|rfl|rfl|rfl|rfl|rfl|rfl|rfl|rfl<;>exact G6 _ false (nmd false fun K hK=>by exact⟨(·=false),rfl,fun _ e=>by cases e;exact hK⟩) (by nofun) (fun _=>by rfl) 0 (by simp [Fw]) (by exact Int.le_refl _) (by exact Int.le_refl _) h
 |set op s a hop hn=>
  rcases hop with rfl|rfl|rfl<;>exact G6 _ true (nmd true fun K hK=>by exact⟨(·=true),rfl,fun _ e=>by cases e;exact hK⟩) (fun _=>by exact hn) (by nofun) 0 (by simp [Fw]) (by exact Int.le_refl _) (by exact Int.le_refl _) h
 |recv s a hn=>exact G6 _ true (nmd true fun K hK=>by exact⟨(·=true),rfl,fun _ e=>by cases e;exact hK⟩) (fun _=>by exact hn) (by nofun) 0 (by simp [Fw]) (by exact Int.le_refl _) (by exact Int.le_refl _) h
 |start s k a hn=>exact G6 _ true (nmd true fun K hK=>by exact⟨(·=true),rfl,fun _ e=>by cases e;exact hK⟩) (fun _=>by exact hn) (by nofun) 0 (by simp [Fw]) (by exact Int.le_refl _) (by exact Int.le_refl _) h
 |one op a hop=>
  rcases hop with rfl|rfl|rfl<;>exact G6 _ false (nmd false fun K hK=>by exact⟨(·=false),rfl,fun _ e=>by cases e;exact hK⟩) (by nofun) (fun _=>by rfl) 0 (by simp [Fw]) (by exact Int.le_refl _) (by exact Int.le_refl _) h
 |none op a hop=>
  rcases hop with rfl|rfl<;>exact G6 _ false (nmd false fun K hK=>by exact⟨(·=false),rfl,fun _ e=>by cases e;exact hK⟩) (by nofun) (fun _=>by rfl) 0 (by simp [Fw]) (by exact Int.le_refl _) (by exact Int.le_refl _) h
 |clause op s a w ds hc=>
  rcases hc with⟨rfl,hn,rfl⟩|⟨rfl,rfl,rfl⟩|⟨rfl,rfl,rfl⟩
  ·exact G6 _ true (nmd true fun K hK=>by exact⟨(·=true),rfl,fun _ e=>by cases e;exact hK⟩) (fun _=>by exact hn) (by nofun) (if w then 1 else 0) (by cases w<;>simp [Fw]) (by cases w<;>simp) (by exact Int.le_refl _) h
  ·exact G6 _ false (nmd false fun K hK=>by exact⟨(·=false),rfl,fun _ e=>by cases e;exact hK⟩) (by nofun) (fun _=>by rfl) (if w then 1 else 0) (by cases w<;>simp [Fw]) (by cases w<;>simp) (by exact Int.le_refl _) h
  ·exact G6 _ false (nmd false fun K hK=>by exact⟨(·=false),rfl,fun _ e=>by cases e;exact hK⟩) (by nofun) (fun _=>by rfl) (if w then 1 else 0) (by cases w<;>simp [Fw]) (by cases w<;>simp) (by exact Int.le_refl _) h
 |Bbh s a hn=>exact G6 _ true (nmd true fun K hK=>by exact⟨(·=true),rfl,fun _ e=>by cases e;exact hK⟩) (fun _=>by exact hn) (by nofun) 0 (by simp [Fw]) (by exact Int.le_refl _) (by exact Int.le_refl _) h
 |Bbi s a hn=>exact G6 _ true (nmd true fun K hK=>by exact⟨(·=true),rfl,fun _ e=>by cases e;exact hK⟩) (fun _=>by exact hn) (by nofun) 0 (by simp [Fw]) (by exact Int.le_refl _) (by exact Int.le_refl _) h
 |param s a hn=>exact G6 _ true (nmd true fun K hK=>by exact⟨(·=true),rfl,fun _ e=>by cases e;exact hK⟩) (fun _=>by exact hn) (by nofun) 0 (by simp [Fw]) (by exact Int.le_refl _) (by exact Int.le_refl _) h
 |chan s n a hn h1 h2=>exact G6 _ true (nmd true fun K hK=>by exact⟨(·=true),rfl,fun _ e=>by cases e;exact hK⟩) (fun _=>by exact hn) (by nofun) 16 (by rfl) h1 h2 h
 |proc s k a hn=>exact G6 _ true (nmd true fun K hK=>by exact⟨(·=true),rfl,fun _ e=>by cases e;exact hK⟩) (fun _=>by exact hn) (by nofun) 0 (by simp [Fw]) (by exact Int.le_refl _) (by exact Int.le_refl _) h
 |_=>exact G6 _ false (nmd false fun K hK=>by exact⟨(·=false),rfl,fun _ e=>by cases e;exact hK⟩) (by nofun) (fun _=>by rfl) 0 (by simp [Fw]) (by exact Int.le_refl _) (by exact Int.le_refl _) h
theorem Ahy (l:List UInt8):(B7 l).reverse=B7 l.reverse:=by simp [B7]
theorem Uk {f:Fo} (hf:WfF [85] f) (hl:f.flat.length<=100000) (K:Int->Int->Prop) (h:K 0 0):Ju f.flat K:=by
 refine W4 _ _ ?_
 unfold Qa
 have Bm5:∀ {cs:List UInt8} {f:Fo},WfF cs f->cs.length<=f.flat.length:=by
  intro cs f h
  induction h with
  |nil=>exact Nat.le_refl _
  |cons _ _ _ _ ih2=>simp only [Fo.flat,List.length_cons,List.length_append];omega
 refine⟨fun todo x n=>∃(i:Nat) (cs:List UInt8) (g:Fo),x=i/\todo=B7 cs.reverse/\WfF cs g/\f.flat.drop i=g.flat/\i<=f.flat.length/\n=f.flat.length-i,⟨_,0,[85],f,rfl,rfl,hf,rfl,Nat.zero_le _,rfl⟩,?_⟩
 rintro _ _ _ ⟨i,cs,g,rfl,rfl,hg,hd,hi,rfl⟩
 have hgl:=congrArg List.length hd
 rw [List.length_drop]at hgl
 have hcl:=Bm5 hg
 refine Ag (fun e=> ?_) fun e=> ?_
 ·have e:i<f.flat.length:=by simpa using e
  cases hg with
  |nil=>simp [Fo.flat]at hgl;omega
  |@cons c x ds cs a b ho ha hb=>
   have hx:f.flat[i]? =some x:=by
    have:(f.flat.drop i)[0]? =some x:=by rw [hd];rfl
    rwa [List.getElem?_drop,Nat.add_zero]at this
   have hda:=Bm5 ha
   have hdb:=Bm5 hb
   simp only [Fo.flat,List.length_cons,List.length_append]at hgl hcl
   have hnl:(B7 (c::cs).reverse).length=cs.length+1:=by simp [B7]
   have hwr:IntKind.i64.wrap (((B7 (c::cs).reverse).length:Int)-1)=(cs.length:Int):=by rw [hnl,A1 (by omega) (by omega)];omega
   have Bz4:B7 (c::cs).reverse=B7 cs.reverse++[(c.toNat:Int)]:=by simp [B7]
   have hnr:(B7 cs.reverse).length=cs.length:=by simp [B7]
   refine⟨⟨by omega,by omega⟩,fun y hy=> ?_⟩
   rw [Int.toNat_natCast,hx]at hy
   cases hy
   rw [hwr,hnl,Int.toNat_natCast]
   refine A7 (by simp;omega) ⟨⟨by omega,by omega⟩,fun z hz=> ?_⟩
   rw [Bz4,List.getElem?_append_right (by omega),hnr,Nat.sub_self]at hz
   cases hz
   refine Aph ho (by omega) _ (by rw [A1 (by omega) (by omega)];omega) _ ⟨(·=false),Amh ho _ (A7 (by simp) (A7 rfl (Ajn ho _ rfl))),?_⟩
   rintro _ rfl
   refine A7 rfl (Ave _ (by simp [B7];omega) _ ⟨⟨by omega,by omega⟩,?_,?_⟩)
   ·rw [Ahy,List.length_take];simp [B7];omega
   ·rw [Bz4,List.take_append_of_le_length (by omega),List.take_of_length_le (by omega),Ahy]
    refine⟨f.flat.length-(i+1),by omega,i+1,ds++cs,a.app b,by rw [A1 (by omega) (by omega)];omega,?_,Vv ha hb,?_,by omega,rfl⟩
    ·simp [B7]
    ·rw [←List.drop_drop,hd,M4];rfl
 ·have e:¬i<f.flat.length:=by simpa using e
  cases hg with
  |nil=>exact A7 rfl h
  |cons=>simp [Fo.flat]at hgl;omega
end Go.Proofs.YtcakelelfklhdaaGreatDoor
namespace Go.Proofs.YtcakelelfklhdaaGreatDoor
open Go.Vc Go.Lv Go.Ty Go.Tr Go.Tk Go.Tm
section
variable {l:List Aj}
theorem Akt {cs:List UInt8} {f:Fo} (h:WfF cs f):cs.length<=f.flat.length:=by
 induction h with
 |nil=>exact Nat.le_refl _
 |cons _ _ _ _ ih2=>simp only [Fo.flat,List.length_cons,List.length_append];omega
end
end Go.Proofs.YtcakelelfklhdaaGreatDoor
namespace Go.Proofs.YtcakelelfklhdaaGreatDoor
open Go.Vc Go.Lv Go.Ty Go.Tr Go.Tk Go.Tm
def er0 (x:Aj):Aj:=⟨x.op,x.name,x.n,x.kids,0⟩
def Fo.er:Fo->Fo
 | .nil=> .nil
 | .cons x a b=> .cons (er0 x) a.er b.er
def erR (r:R):R:=⟨er0 r.x,r.tm,r.st,r.nd,r.nb,r.fl.map er0,r.ht⟩
theorem Acf (rs:List R) (i:Nat):(rs.map erR).getD i R0=erR (rs.getD i R0):=by
 rw [List.getD_eq_getElem?_getD,List.getD_eq_getElem?_getD,List.getElem?_map]
 cases rs[i]? <;>rfl
theorem Aku (d:Nat) (rs:List R):Bf d (rs.map erR)=Bf d rs:=by
 unfold Bf
 rw [List.flatMap_map];rfl
theorem Api (rs:List R):(rs.map erR).map R.tm=rs.map R.tm:=by rw [List.map_map];rfl
theorem Avg (x:Aj) (rs:List R):tmN (er0 x) (rs.map erR)=tmN x rs:=by
 unfold tmN
 rw [Acf,Acf]
 have:Atd (er0 x) (rs.map erR)=Atd x rs:=by cases rs<;>rfl
 rw [this];rfl
theorem Avh (x:Aj) (rs:List R) (d:Nat):stN (er0 x) (rs.map erR) d=stN x rs d:=by
 unfold stN D8 kd
 rw [←List.map_take,Aku,Aku,Api,Api,List.length_map]
 simp only [Acf]
 rfl
theorem Avi (x:Aj) (rs:List R):ndN (er0 x) (rs.map erR)=ndN x rs:=by
 unfold ndN
 rw [Acf,Acf,List.map_map];rfl
theorem Avj (x:Aj) (rs:List R):nbN (er0 x) (rs.map erR)=nbN x rs:=by
 unfold nbN
 rw [List.map_map];rfl
theorem Avk (rs:List R):htN (rs.map erR)=htN rs:=by
 unfold htN
 rw [List.map_map];rfl
theorem Avl (rs:List R):(rs.map erR).flatMap R.fl=(rs.flatMap R.fl).map er0:=by
 rw [List.flatMap_map,List.map_flatMap];rfl
theorem Ar8 (x:Aj) (rs:List R):Ar (er0 x) (rs.map erR)=erR (Ar x rs):=by
 have h2:stN (er0 x) (rs.map erR)=stN x rs:=funext (Avh x rs)
 show R.mk (er0 x) (tmN (er0 x) (rs.map erR)) (stN (er0 x) (rs.map erR)) (ndN (er0 x) (rs.map erR)) (nbN (er0 x) (rs.map erR)) (er0 x::(rs.map erR).flatMap R.fl) (htN (rs.map erR))=_
 rw [Avg,h2,Avi,Avj,Avk,Avl];rfl
theorem Ajo:∀f:Fo,Fz f.er=(Fz f).map erR
 | .nil=>rfl
 | .cons x a b=>by
  rw [Fo.er,Fz,Fz,Ajo a,Ajo b,List.map_cons,Ar8]
theorem Ar9 {c:UInt8} {x y:Aj} {ds es:List UInt8} (h:OkN c x ds) (g:OkN c y es) (hd:ds.length<2^39) (he:es.length<2^39) (hxy:er0 x=er0 y):ds=es:=by
 have h1:=Q5 h hd
 have g1:=Q5 g he
 unfold er0 at hxy
 injection hxy with e1 e2 e3 e4 e5
 have hlen:ds.length=es.length:=by omega
 cases h with
 |clause op s a w ds hc=>
  cases g with
  |clause op' s' a' w' ds' hc'=>
   dsimp only at e1 e3
   subst e1
   have hw:w=w':=by cases w<;>cases w'<;>simp at e3<;>rfl
   subst hw
   congr 1
   rcases hc with⟨h1,_,h2⟩|⟨h1,_,h2⟩|⟨h1,_,h2⟩<;>rcases hc' with⟨k1,_,k2⟩|⟨k1,_,k2⟩|⟨k1,_,k2⟩<;>first|(exfalso;omega)|rw [h2,k2]
  |els=>exfalso;dsimp only at e1;omega
 |_=>
  cases g<;>first
   |rfl
   |(exfalso;dsimp only at e1 e4;omega)
   |(simp only [List.length_replicate,List.length_append,List.length_singleton]at hlen;first|rw [hlen]|rw [Nat.add_right_cancel hlen])
theorem Asa:∀ {f g:Fo} {cs:List UInt8},WfF cs f->WfF cs g->f.flat.length<2^39->g.flat.length<2^39->∀s t:List Aj,f.flat.map er0++s=g.flat.map er0++t->f.er=g.er/\s=t:=by
 intro f g cs hf
 induction hf generalizing g with
 |nil=>
  intro hg _ _ s t h
  cases hg
  exact⟨rfl,h⟩
 |@cons c x ds cs a b ho ha hb ih1 ih2=>
  intro hg hn hm s t h
  cases hg with
  |@cons c y es cs a' b' ho' ha' hb'=>
   simp only [Fo.flat,List.length_cons,List.length_append,List.map_cons,List.map_append,List.cons_append,List.append_assoc]at hn hm h
   injection h with h1 h2
   have e:=Ar9 ho ho' (by have:=Akt ha;omega) (by have:=Akt ha';omega) h1
   subst e
   obtain⟨e1,e2⟩:=ih1 ha' (by omega) (by omega) _ _ h2
   obtain⟨e3,e4⟩:=ih2 hb' (by omega) (by omega) _ _ e2
   exact⟨by rw [Fo.er,Fo.er,h1,e1,e3],e4⟩
theorem Akv (f:Fo):Jo f.er=Jo f:=by
 unfold Jo Aa8
 rw [Ajo,Acf];rfl
theorem Ami {f g:Fo} (hf:WfF [85] f) (hg:WfF [85] g) (hn:f.flat.length<2^39) (hm:g.flat.length<2^39) (h:f.flat.map er0=g.flat.map er0):Jo f=Jo g:=by
 have:=(Asa hf hg hn hm [] [] (by rw [List.append_nil,List.append_nil];exact h)).1
 rw [←Akv f,←Akv g,this]
end Go.Proofs.YtcakelelfklhdaaGreatDoor
namespace Go.Proofs.YtcakelelfklhdaaGreatDoor
open Go.Vc Go.Lv Go.Ty Go.Tr Go.Tk Go.Tm
def exA:Fo:= .cons ⟨6,[],0,2,15⟩ (.cons ⟨2,[97],0,0,13⟩ .nil (.cons ⟨6,[],0,2,20⟩ (.cons ⟨2,[98],0,0,18⟩ .nil (.cons ⟨1,[],1,0,22⟩ .nil .nil)) .nil)) .nil
def exB:Fo:= .cons ⟨3,[],0,1,33⟩ (.cons ⟨5,[],0,2,36⟩ (.cons ⟨2,[97],0,0,35⟩ .nil (.cons ⟨2,[98],0,0,37⟩ .nil .nil)) .nil) .nil
def exF:Fo:= .cons ⟨42,[],0,1,0⟩ (.cons ⟨41,[],0,1,0⟩ (.cons ⟨32,[],0,2,5⟩ (.cons ⟨28,[],0,1,7⟩ exA (.cons ⟨28,[],0,1,27⟩ exB .nil)) .nil) .nil) .nil
def exT:Str:=[109,97,105,110,32,123,32,112,114,105,110,116,32,97,32,45,32,40,98,32,45,32,49,41,32,59,32,112,114,105,110,116,32,45,40,97,43,98,41,59,32,125]
theorem Aun:J9 exT=⟨exF.flat,0,0⟩:=by kernel_rfl
theorem Apj:Jo exF=[109,97,105,110,32,123,10,9,112,114,105,110,116,32,97,32,45,32,40,98,32,45,32,49,41,59,10,9,112,114,105,110,116,32,45,40,97,32,43,32,98,41,59,10,125,10]:=by kernel_rfl
theorem Apk:WfF [69] exA:= .cons (.bin 6 15 (by decide) (by decide)) (.cons (.name _ _ (by kernel_rfl)) .nil (.cons (.bin 6 20 (by decide) (by decide)) (.cons (.name _ _ (by kernel_rfl)) .nil (.cons (.num 1 22 (by decide) (by decide)) .nil .nil)) .nil)) .nil
theorem Auo:WfF [69] exB:= .cons (.un 3 33 (.inl rfl)) (.cons (.bin 5 36 (by decide) (by decide)) (.cons (.name _ _ (by kernel_rfl)) .nil (.cons (.name _ _ (by kernel_rfl)) .nil .nil)) .nil) .nil
theorem Ajp:WfF [85] exF:=
 .cons (.unit 1 0) (.cons (.main 0) (.cons (.block 2 5) (.cons (.one 28 7 (.inr (.inl rfl))) Apk (.cons (.one 28 27 (.inr (.inl rfl))) Auo .nil)) .nil) .nil) .nil
theorem Aup:∃x rs,Fz exA=[Ar x rs]/\x.op=6/\tx (Ar x rs).tm=[97,32,45,32,40,98,32,45,32,49,41]/\TmW (Ar x rs)/\AtR exF.flat 4 (Ar x rs):=by
 have h:=Vk _ Aez Apk
 have e:Fz exA=[Ar ⟨6,[],0,2,15⟩ (Fz (.cons ⟨2,[97],0,0,13⟩ .nil (.cons ⟨6,[],0,2,20⟩ (.cons ⟨2,[98],0,0,18⟩ .nil (.cons ⟨1,[],1,0,22⟩ .nil .nil)) .nil)))]:=rfl
 rw [e]at h
 refine⟨_,_,e,rfl,by kernel_rfl,(h.1 (by decide)).wt.term rfl,exF.flat.drop 9,by kernel_rfl⟩
theorem Z1 (K:Bool->Prop) (h:K true):Me K:=by
 refine Aa6 _ (Aeg exT _ ?_)
 rw [Aun]
 refine Ae0 Ajp (by decide) (by rw [Apj];decide) _ ?_ (fun K hK=>Uk Ajp (by decide) K hK)
 refine Yx _ _ _ (Uk Ajp (by decide) _ ?_)
 obtain⟨x,rs,_,hop,htx,htm,hat⟩:=Aup
 obtain⟨hi,hx,_⟩:=hat.node
 refine⟨fun b=>b=false,A7 rfl (A7 rfl (A7 (by decide) ⟨⟨by decide,by decide⟩,fun y hy=> ?_⟩)),?_⟩
 ·have gy:=hx.symm.trans hy
  cases gy
  rw [hop]
  exact plv 6 _ rfl
 rintro _ rfl
 refine A7 rfl (htm ⟨exF.flat,_,_⟩ 4 (by decide) hat (by rw [htx];decide) _ ?_)
 rw [htx,Apj]
 exact h
theorem Akw:∀(a b:List Aj),a.map erG=b.map erG->Qi a b=true
 |[],[],_=>rfl
 |[],_::_,h=>by simp at h
 |_::_,[],h=>by simp at h
 |x::a,y::b,h=>by
  simp only [List.map_cons,List.cons.injEq,erG,Prod.mk.injEq]at h
  obtain⟨⟨h1,h2,h3,h4⟩,h5⟩:=h
  rw [Qi,Akw a b h5,Bool.and_true]
  simp [alike,h1,h2,h3,h4]
theorem Apl (x:Aj):H5 240 x<=494:=by unfold H5;split<;>(try split)<;>(try split)<;>(try split)<;>omega
theorem Apm:∀l:List Aj,Bx 240 l<=494*l.length
 |[]=>Nat.le_refl _
 |x::l=>by
  have:=Apl x
  have:=Apm l
  rw [Kx,List.length_cons];omega
theorem Apn (x:Aj):1<=H5 48 x:=by unfold H5;split<;>(try split)<;>(try split)<;>(try split)<;>omega
theorem Ahz:∀l:List Aj,l.length<=Bx 48 l
 |[]=>Nat.le_refl _
 |x::l=>by
  have:=Apn x
  have:=Ahz l
  rw [Kx,List.length_cons];omega
theorem Avm {a b:List Aj} (h:a.map erG=b.map erG):a.map er0=b.map er0:=by
 have e:∀l:List Aj,l.map er0=(l.map erG).map fun x=>(⟨x.1,x.2.1,x.2.2.1,x.2.2.2,0⟩:Aj):=by
  intro l
  rw [List.map_map];rfl
 rw [e a,e b,h]
theorem Ajq (s:List UInt8) (K:Bool->Prop) (h:K true):P7 s K:=by
 refine T8 _ _ (Ag (fun _=>Z1 _ h) fun hc=> ?_)
 have hs:s.length<=600:=by simp at hc;omega
 refine Aeg _ _ (Ag (fun _=>Z1 _ h) fun he=> ?_)
 have he:(J9 s).e_=0:=by simpa using he
 obtain⟨f,hfl,hf,hk⟩:=Aht s he
 have hc:=Zy he hs
 have hcl:=Ahz (J9 s).l
 have hlen:=Amg he hs hfl hf hk
 rw [←hfl]at hcl hc⊢
 refine Ae0 hf (by omega) (by omega) _ (Aeg _ _ ?_) (fun K hK=>Uk hf (by omega) K hK)
 obtain⟨h1,h2⟩:=(Ajf hf hlen).1 hk
 obtain⟨g,hgl,hg,_⟩:=Aht (Jo f) h1
 have hgn:=congrArg List.length h2
 rw [List.length_map,List.length_map,←hgl]at hgn
 have Bk8:Jo g=Jo f:=Ami hg hf (by omega) (by omega) (by rw [hgl];exact Avm h2)
 rw [h1,←hgl]
 refine Ae0 hg (by omega) (by rw [Bk8];omega) _ ?_ (fun K hK=>Uk hg (by omega) K hK)
 rw [Bk8]
 refine Em rfl (Em rfl (Em rfl (Ap7 _ _ (by omega) _ ?_)))
 rw [Akw _ _ (by rw [hgl];exact h2.symm)]
 exact Em rfl (Em (by simp) (Z1 _ h))
theorem Aa9 (s:ByteArray) (w:World) (hh:Go.Lv.held.T w):
 Calls Tryz.prog 4 #[.string s] w (Ret fun v w'=>v= .bool true/\Ext w w'):=by
 refine Aa (Ajq (sl s) (·=true) rfl [] w (MOk.nil hh)) ?_
 rintro _ _ ⟨_,rfl,rfl,k⟩
 exact⟨rfl,k.ext⟩
end Go.Proofs.YtcakelelfklhdaaGreatDoor
