/- A part of the proof: conditions of the code, contracts, the plain law. -/
import Derived.Test.YtpdccfgpbkagcaaGreatMem
import Derived.Test.YtpdccfgpbkagcaaGreatRows
import Derived.Lib.Bytealg
import Derived.Test.YtpdccfgpbkagcaaGreatMemB
import Derived.Test.YtpdccfgpbkagcaaGreatVcF
import Derived.Test.YtpdccfgpbkagcaaGreatVcI
namespace Go.Tk
open Go.Vc
def r8 (n:Nat):Bool:=(97<=n&&n<=122)||(65<=n&&n<=90)||n==95
def r9 (n:Nat):Bool:=48<=n&&n<=57
def uQ (n:Nat):Bool:=r8 n||r9 n
def U6 (c:UInt8):Bool:=r8 c.toNat
def FL (c:UInt8):Bool:=r9 c.toNat
def Je (c:UInt8):Bool:=uQ c.toNat
def FM (n:Nat):Bool:=((n:Int)==95)||((decide ((N9 .u8 (n:Int) 32)>=97))&&(decide ((N9 .u8 (n:Int) 32)<=122)))
theorem Amg (n:Nat) (h:n<256):FM n=r8 n:=by
 have:∀n:Fin 256,FM n.val=r8 n.val:=by decide+kernel
 exact this ⟨n,h⟩
theorem Kg {α:Type} (p:α->Bool):∀(l:List α) (k:Nat),(∀i (h:i<l.length),i<k->p l[i]=true)->(∀h:k<l.length,p l[k]=false)->l.takeWhile p=l.take k
 |[],k,_,_=>by simp
 |a::l,0,_,h2=>by
  have:=h2 (by simp);simp at this;simp [this]
 |a::l,k+1,h1,h2=>by
  have h0:=h1 0 (by simp) (by omega);simp at h0;rw [List.takeWhile_cons,h0];simp only [if_true,List.take_succ_cons,List.cons.injEq,true_and];exact Kg p l k (fun i h hk=>by have:=h1 (i+1) (by simp;omega) (by omega);simpa using this) (fun h=>by have:=h2 (by simp;omega);simpa using this)
theorem getD_eq (l:List UInt8) (i:Nat) (h:i<l.length):l.getD i 0=l[i]:=by simp [List.getD,h]
theorem Ov:∀(a:List UInt8),Op.bytesLess a a=false
 |[]=>rfl
 |x::a=>by
  simp only [Op.bytesLess,Ov a];simp
theorem Re:∀(a b c:List UInt8),Op.bytesLess a b=true->Op.bytesLess b c=true->Op.bytesLess a c=true
 |a,b,[],_,h2=>by cases b<;>simp [Op.bytesLess]at h2
 |[],_,_::_,_,_=>rfl
 |x::a,[],z::c,h1,_=>by simp [Op.bytesLess]at h1
 |x::a,y::b,z::c,h1,h2=>by
  simp only [Op.bytesLess,Bool.or_eq_true,decide_eq_true_eq,Bool.and_eq_true,beq_iff_eq]at h1 h2⊢;rcases h1 with h1|⟨rfl,h1⟩
  ·rcases h2 with h2|⟨rfl,h2⟩
   ·left;exact UInt8.lt_trans h1 h2
   ·left;exact h1
  ·rcases h2 with h2|⟨rfl,h2⟩
   ·left;exact h2
   ·right;exact⟨rfl,Re a b c h1 h2⟩
def words:List (List UInt8):=[[97,102,116,101,114],[97,115,115,101,114,116],[99,97,115,101],[99,104,97,110],[101,108,115,101],[105,102],[109,97,105,110],[112,114,105,110,116],[112,114,111,99],[114,97,110,100,111,109],[115,101,108,101,99,116],[115,107,105,112],[115,108,101,101,112],[115,116,97,114,116],[115,116,111,112],[118,97,114],[119,104,101,110],[119,104,105,108,101]]
def QQ (l:List (List UInt8)):Prop:=∀i j (hi:i<l.length) (hj:j<l.length),i<j->Op.bytesLess l[i] l[j]=true
theorem Af6:QQ words:=by
 have h:∀i j:Fin 18,i<j->Op.bytesLess (words[i.val]!) (words[j.val]!)=true:=by decide+kernel
 intro i j hi hj mN;have:=h ⟨i,hi⟩ ⟨j,hj⟩ mN;simpa [hi,hj] using this
end Go.Tk
namespace Go.Proofs.YtpdccfgpbkagcaaGreat
open Go.Vc Go.Tk
end Go.Proofs.YtpdccfgpbkagcaaGreat
namespace Go.Tk
open Go.Vc
end Go.Tk
namespace Go.Proofs.YtpdccfgpbkagcaaGreat
open Go.Vc Go.Tk
def byteCells (s:List UInt8) (k:Nat):Array Value:=(aI s).data.map (fun b:UInt8=>Value.int .u8 (b.toNat:Int))++Array.replicate k (Value.int .u8 0)
def Af7 (K:Value->World->Prop) (w:World):Prop:=∀(x0:Nat) (w1:World),x0=w.heap.size->w1=w.alloc (.cells #[.string (aI [99,104,97,110]),.string (aI [112,114,111,99]),.string (aI [109,97,105,110]),.string (aI [118,97,114]),.string (aI [105,102]),.string (aI [101,108,115,101]),.string (aI [119,104,105,108,101]),.string (aI [115,101,108,101,99,116]),.string (aI [99,97,115,101]),.string (aI [119,104,101,110]),.string (aI [97,102,116,101,114]),.string (aI [115,116,97,114,116]),.string (aI [115,108,101,101,112]),.string (aI [114,97,110,100,111,109]),.string (aI [112,114,105,110,116]),.string (aI [97,115,115,101,114,116]),.string (aI [115,107,105,112]),.string (aI [115,116,111,112])] 9)->K (.slice (some (Zb x0)) 18 18) w1
theorem Af8 (K:Value->World->Prop) (w:World) (h:Af7 K w):Calls Tryz.prog 99 #[] w (aD K):=
 Aj {} Tryz.func99 (by kernel_rfl) h
def Apm (x0:Option Addr) (x1:Nat) (_x2:Nat) (x3:List UInt8) (K:Value->World->Prop) (w:World):Prop:=∃(I:Int->World->Prop) (x4:Int->World->Nat),I 0 w/\∀(_x5:Nat->Value) (x6:Int) (w1:World),I x6 w1->cond (decide (x6<(x1:Int))) (((0:Int)<=x6/\x6<(x1:Int))/\Ak x0 (fun x7=>∃x8,w1.cell? (x7.add (x6.toNat*1))=some (.string (aI x8))/\cond (x8==x3) (K (.bool true) w1) (I (IntKind.i64.wrap (x6+1)) w1/\x4 (IntKind.i64.wrap (x6+1)) w1<x4 x6 w1))) (K (.bool false) w1)
theorem Apn (x0:Option Addr) (x1:Nat) (x2:Nat) (x3:List UInt8) (K:Value->World->Prop) (w:World) (h:Apm x0 x1 x2 x3 K w):Calls Tryz.prog 98 #[.slice x0 x1 x2,.string (aI x3)] w (aD K):=
 Aj { loops:=[(26,[(5,.int .i64)])] } Tryz.func98 (by kernel_rfl) h
def Acn (x0:Int) (K:Value->World->Prop) (w:World):Prop:=∀(_x1:Nat->Value),K (.bool (cond (decide (x0>=97)) ((decide (x0<=122))||(cond (decide (x0>=65)) ((decide (x0<=90))||(x0==95)) (x0==95))) (cond (decide (x0>=65)) ((decide (x0<=90))||(x0==95)) (x0==95)))) w
theorem Aco (x0:Int) (K:Value->World->Prop) (w:World) (h:Acn x0 K w):Calls Tryz.prog 97 #[.int .u8 x0] w (aD K):=
 Aj { j_:=[(6,[2])] } Tryz.func97 (by kernel_rfl) h
def Af9 (x0:Int) (K:Value->World->Prop) (w:World):Prop:=∀(_x1:Nat->Value),K (.bool ((decide (x0>=48))&&(decide (x0<=57)))) w
theorem Aga (x0:Int) (K:Value->World->Prop) (w:World) (h:Af9 x0 K w):Calls Tryz.prog 95 #[.int .u8 x0] w (aD K):=
 Aj { j_:=[(6,[2])] } Tryz.func95 (by kernel_rfl) h
abbrev S9 (f:FuncId) (a:Array Value) (w:World) (K:Value->World->Prop):Prop:=Calls Tryz.prog f a w (aD K)
def Ajk (x0:List UInt8) (K:Value->World->Prop) (w:World):Prop:=∃(I:Int->World->Prop) (x1:Int->World->Nat),I 0 w/\∀(_x2:Nat->Value) (x3:Int) (w1:World),I x3 w1->cond (decide (x3<(x0.length:Int))) (∃(J:Bool->World->Prop),(((0:Int)<=x3/\x3<(x0.length:Int))/\S9 97 #[.int .u8 ((x0.getD x3.toNat 0).toNat:Int)] w1 (fun x4 w2=>∃x5,x4= .bool x5/\cond (!x5) (cond (x3==0) (J true w2) (((0:Int)<=x3/\x3<(x0.length:Int))/\S9 95 #[.int .u8 ((x0.getD x3.toNat 0).toNat:Int)] w2 (fun x6 w3=>∃x7,x6= .bool x7/\J (!x7) w3))) (J false w2)))/\∀(_x8:Nat->Value) x9 w4,J x9 w4->cond (x9) (K (.bool false) w4) (I (IntKind.i64.wrap (x3+1)) w4/\x1 (IntKind.i64.wrap (x3+1)) w4<x1 x3 w1)) (cond (decide ((x0.length:Int)>=1)) (cond (decide ((x0.length:Int)<=16)) (S9 99 #[] w1 (fun ad w5=>∃aa af ae,ad= .slice aa af ae/\S9 98 #[.slice aa af ae,.string (aI x0)] w5 (fun ag w6=>∃ah,ag= .bool ah/\K (.bool (!ah)) w6))) (K (.bool false) w1)) (K (.bool false) w1))
theorem Ajl (x0:List UInt8) (K:Value->World->Prop) (w:World) (h:Ajk x0 K w):Calls Tryz.prog 80 #[.string (aI x0)] w (aD K):=
 Aj { loops:=[(26,[(3,.int .i64)])],dN:=[(420,[(25,.bool)])] } Tryz.func80 (by kernel_rfl) h
def QS (n:Nat):Bool:=cond (decide ((n:Int)>=97)) ((decide ((n:Int)<=122))||(cond (decide ((n:Int)>=65)) ((decide ((n:Int)<=90))||((n:Int)==95)) ((n:Int)==95))) (cond (decide ((n:Int)>=65)) ((decide ((n:Int)<=90))||((n:Int)==95)) ((n:Int)==95))
theorem Arf (n:Nat) (h:n<256):QS n=r8 n:=by
 have:∀n:Fin 256,QS n.val=r8 n.val:=by decide+kernel
 exact this ⟨n,h⟩
theorem Agb (n:Nat) (h:n<256) (w:World):Calls Tryz.prog 97 #[.int .u8 (n:Int)] w (aD fun v w'=>v= .bool (r8 n)/\w=w'):=by
 refine Aco _ _ _ ?_;intro _;exact⟨by rw [←Arf n h];rfl,rfl⟩
theorem Ajm (n:Nat) (w:World):Calls Tryz.prog 95 #[.int .u8 (n:Int)] w (aD fun v w'=>v= .bool (r9 n)/\w=w'):=by
 refine Aga _ _ _ ?_;intro _;refine⟨?_,rfl⟩;have e:((decide ((n:Int)>=48))&&(decide ((n:Int)<=57)))=r9 n:=by unfold r9;rw [Bool.eq_iff_iff];simp;omega
 rw [e]
def FN (s:List UInt8):Value:= .string (aI s)
theorem Arh (l:List (List UInt8)) (hl:l.length<2^40) (p:Addr) (c:Nat) (s:List UInt8) (w:World) (hc:Ac w p (l.map FN)): Calls Tryz.prog 98 #[.slice (some p) l.length c,.string (aI s)] w (aD fun v w'=>v= .bool (decide (s∈l))/\w=w'):=by
 refine Apn _ _ _ _ _ _ ?_;refine⟨fun i w'=>w=w'/\∃k:Nat,i=k/\k<=l.length/\∀j (h:j<l.length),j<k->l[j]≠s,fun i _=>l.length-i.toNat,⟨rfl,0,rfl,Nat.zero_le _,fun _ _ h=>absurd h (Nat.not_lt_zero _)⟩,?_⟩;rintro _ _ _ ⟨rfl,k,rfl,hk,eX⟩;refine Aa (fun hx=> ?_) fun hx=> ?_
 ·have aE:k<l.length:=by simpa using hx
  have lg:=hc k (by simpa using aE);simp only [List.getElem_map,FN]at lg;refine⟨by omega,l[k],by simpa using lg,Aa (fun hb=> ?_) fun hb=> ?_⟩
  ·have:l[k]=s:=by simpa using hb
   exact⟨by rw [decide_eq_true (this▸List.getElem_mem aE)],rfl⟩
  ·have bA:l[k]≠s:=by simpa using hb
   rw [Au (by omega) (by omega)];refine⟨⟨rfl,k+1,by omega,by omega,fun j h hj=> ?_⟩,by dsimp only;omega⟩;rcases Nat.lt_or_ge j k with h'|h'
   ·exact eX j h h'
   ·obtain rfl:j=k:=by omega
    exact bA
 ·have jf:¬k<l.length:=by simpa using hx
  refine⟨?_,rfl⟩;have nJ:s∉l:=by
   intro hm;obtain⟨j,hj,rfl⟩:=List.getElem_of_mem hm;exact eX j hj (by omega) rfl
  rw [decide_eq_false nJ]
def Zw:List (List UInt8):=[[99,104,97,110],[112,114,111,99],[109,97,105,110],[118,97,114],[105,102],[101,108,115,101],[119,104,105,108,101],[115,101,108,101,99,116],[99,97,115,101],[119,104,101,110],[97,102,116,101,114],[115,116,97,114,116],[115,108,101,101,112],[114,97,110,100,111,109],[112,114,105,110,116],[97,115,115,101,114,116],[115,107,105,112],[115,116,111,112]]
theorem Amh (s:List UInt8):decide (s∈Zw)=decide (s∈words):=by
 have h1:∀x∈Zw,x∈words:=by decide
 have h2:∀x∈words,x∈Zw:=by decide
 rw [Bool.eq_iff_iff];simp only [decide_eq_true_eq];exact⟨h1 s,h2 s⟩
theorem Ajn (w:World):Calls Tryz.prog 99 #[] w (aD fun v w'=>∃b,v= .slice (some ⟨b,0,none⟩) 18 18/\Ac w' ⟨b,0,none⟩ (Zw.map FN)/\Ext w w'):=by
 refine Af8 _ _ ?_;intro b w1 hb hw;exact⟨b,rfl,(cB.new hb hw).whole,.alloc hw⟩
end Go.Proofs.YtpdccfgpbkagcaaGreat
namespace Go.Tk
open Go.Vc
def D7 (s:List UInt8):Bool:=
 match s with
 |[]=>false|c::l=>decide ((c::l).length<=16)&&(U6 c&&((c::l).all Je&& !decide ((c::l)∈words)))
theorem Ami (c:UInt8) (l:List UInt8):D7 (c::l)=(decide ((c::l).length<=16)&&(U6 c&&((c::l).all Je&& !decide ((c::l)∈words)))):=rfl
end Go.Tk
namespace Go.Proofs.YtpdccfgpbkagcaaGreat
open Go.Vc Go.Tk
def Ta (s:List UInt8) (k:Nat):Bool:=U6 (s.getD k 0)||(decide (k≠0)&&FL (s.getD k 0))
theorem Zx (s:List UInt8):D7 s=(decide (s.length<=16)&&(decide (s≠[])&&(decide (∀k,k<s.length->Ta s k=true)&& !decide (s∈words)))):=by
 cases s with
 |nil=>rfl
 |cons c l=>
  rw [Ami];have eX:(U6 c&&(c::l).all Je)=decide (∀k,k<(c::l).length->Ta (c::l) k=true):=by
   rw [Bool.eq_iff_iff];simp only [Bool.and_eq_true,decide_eq_true_iff,List.all_eq_true];constructor
   ·rintro⟨h0,h1⟩ k hk;cases k with
    |zero=>simp [Ta,h0]
    |succ k=>
     have:Je ((c::l)[k+1])=true:=h1 _ (List.getElem_mem hk);rw [←getD_eq _ _ hk]at this;simpa [Ta,Je,uQ,U6,FL] using this
   ·intro h;refine⟨by simpa [Ta] using h 0 (by simp),fun x hx=> ?_⟩;obtain⟨k,hk,rfl⟩:=List.getElem_of_mem hx;have:=h k hk;rw [←getD_eq _ _ hk];simp only [Ta,Bool.or_eq_true,Bool.and_eq_true]at this;simp only [Je,uQ,Bool.or_eq_true];rcases this with h|⟨_,h⟩
    ·exact .inl h
    ·exact .inr h
  rw [←eX];simp [Bool.and_assoc]
theorem Amj (s:List UInt8) (hs:s.length<2^63) (w:World):Calls Tryz.prog 80 #[.string (aI s)] w (aD fun v w'=>v= .bool (D7 s)/\Ext w w'):=by
 refine Ajl _ _ _ ?_;refine⟨fun i w'=>∃k:Nat,i=k/\k<=s.length/\(∀j,j<k->Ta s j=true)/\w=w',fun i _=>s.length-i.toNat,⟨0,rfl,Nat.zero_le _,fun _ h=>absurd h (by omega),rfl⟩,?_⟩;rintro _ _ _ ⟨k,rfl,hk,eX,rfl⟩;refine Aa (fun aE=> ?_) fun jf=> ?_
 ·have aE:k<s.length:=by simpa using aE
  refine⟨fun x w4=>x=(!Ta s k)/\w=w4,⟨⟨by omega,by omega⟩,?_⟩,?_⟩
  ·rw [Int.toNat_natCast];refine Ad (Agb _ (UInt8.toNat_lt _) w) ?_;rintro _ _ ⟨rfl,rfl⟩;refine⟨_,rfl,Aa (fun h1=> ?_) fun h1=> ?_⟩
   ·have h1:U6 (s.getD k 0)=false:=by simpa [U6] using h1
    refine Aa (fun h0=> ?_) fun h0=> ?_
    ·have:k=0:=by simp at h0;omega
     subst this;exact⟨by unfold Ta;rw [h1];simp,rfl⟩
    ·have h0:k≠0:=by simp at h0;omega
     refine⟨⟨by omega,by omega⟩,Ad (Ajm _ w) ?_⟩;rintro _ _ ⟨rfl,rfl⟩;exact⟨_,rfl,by unfold Ta;rw [h1];simp [h0,FL],rfl⟩
   ·have h1:U6 (s.getD k 0)=true:=by simpa [U6] using h1
    exact⟨by unfold Ta;rw [h1];simp,rfl⟩
  ·rintro _ _ _ ⟨rfl,rfl⟩;refine Aa (fun hb=> ?_) fun hb=> ?_
   ·have hb:Ta s k=false:=by simpa using hb
    refine⟨?_,Ext.refl _⟩;rw [Zx,decide_eq_false (p:=∀k,k<s.length->Ta s k=true) (fun h=>by have:=h k aE;rw [hb]at this;cases this)];simp
   ·have hb:Ta s k=true:=by simpa using hb
    rw [Au (by omega) (by omega)];refine⟨⟨k+1,by omega,aE,fun j hj=> ?_,rfl⟩,by dsimp only;omega⟩;rcases Nat.lt_or_ge j k with h|h
    ·exact eX j h
    ·rw [show j=k by omega];exact hb
 ·have jf:k=s.length:=by simp at jf;omega
  subst jf;refine Aa (fun h1=> ?_) fun h1=> ?_
  ·have h1:s≠[]:=by intro e;subst e;simp at h1
   refine Aa (fun h2=> ?_) fun h2=> ?_
   ·have h2:s.length<=16:=by simp at h2;omega
    refine Ad (Ajn w) ?_;rintro _ w2 ⟨b,rfl,hc,he⟩;refine⟨_,_,_,rfl,Ad (Arh Zw (by decide) _ _ s w2 hc) ?_⟩;rintro _ _ ⟨rfl,rfl⟩;refine⟨_,rfl,?_,he⟩;rw [Zx,Amh,decide_eq_true h2,decide_eq_true h1,decide_eq_true eX];simp
   ·have h2:¬s.length<=16:=by simp at h2;omega
    exact⟨by rw [Zx,decide_eq_false h2];simp,Ext.refl _⟩
  ·have h1:s=[]:=by simp at h1;exact List.length_eq_zero_iff.1 (by omega)
   subst h1;exact⟨rfl,Ext.refl _⟩
def Rf (x0:Option Addr) (x1:Nat) (x2:Nat) (x3:Int) (x4:Option Addr) (x5:Nat) (x6:Nat) (K:Value->World->Prop) (w:World):Prop:=∃(J:Bool->World->Prop),(cond (decide ((x1:Int)>120)) (J true w) (cond (decide ((x5:Int)>20)) (J true w) (cond (decide (x3<0)) (J true w) (cond (decide (x3>=(x1:Int))) (J true w) (((0:Int)<=x3/\x3<(x1:Int))/\Ak x0 (fun x7=>∃x8 x9 ad aa af,Ac w (x7.add (x3.toNat*5)) [.int .i64 x8,.string (aI x9),.int .i64 ad,.int .i64 aa,.int .i64 af]/\S9 4 #[.agg #[.int .i64 x8,.string (aI x9),.int .i64 ad,.int .i64 aa,.int .i64 af]] w (fun ae w1=>∃ag,ae= .bool ag/\cond (!ag) (J true w1) (((0:Int)<=x3/\x3<(x1:Int))/\Ak x0 (fun ah=>∃aj,w1.cell? (ah.add (x3.toNat*5))=some (.int .i64 aj)/\J (aj==33) w1)))))))))/\∀(_x17:Nat->Value) aH w2,J aH w2->cond (aH) (S9 5 #[] w2 (fun ao w3=>∃ar,ao= .bool ar/\K (.bool ar) w3)) (S9 6 #[.slice x0 x1 x2] w2 (fun aK w4=>∃aG aV aZ bf aR br bn bt bz bD bo bK,aK= .agg #[.slice aG aV aZ,.slice bf aR br,.int .i64 bn,.slice bt bz bD,.int .i64 bo,.int .i64 bK]/\∀(bC:Nat) (w5:World),bC=w4.heap.size->w5=w4.alloc (.cells #[.slice none 0 0,.slice none 0 0,.int .i64 0,.slice none 0 0,.int .i64 0,.int .i64 0] 33)->Af w5 (Zb bC) 6/\∀w6:World,w6=setCells w5 (Zb bC) [.slice aG aV aZ,.slice bf aR br,.int .i64 bn,.slice bt bz bD,.int .i64 bo,.int .i64 bK]->∃bL,w6.cell? ⟨bC,5,none⟩=some (.int .i64 bL)/\cond (bL !=0) (S9 5 #[] w6 (fun bX w7=>∃bG,bX= .bool bG/\K (.bool bG) w7)) (S9 7 #[.slice x0 x1 x2] w6 (fun bN w8=>∃bM bP bp,bN= .tuple #[.pointer bM,.int .i64 bP,.int .i64 bp]/\S9 8 #[.pointer bM,.int .i64 x3] w8 (fun b_ w9=>∃ct cy cf cg,b_= .tuple #[.slice ct cy cf,.bool cg]/\∀(_x47:Nat->Value),cond (((!cg)||(decide ((cy:Int)>(IntKind.i64.wrap ((20:Int)*(x1:Int))))))) (K (.bool false) w9) (S9 9 #[.slice ct cy cf,.slice x4 x5 x6,.int .i64 2000] w9 (fun cu ak=>∃cG cj cK bS,cu= .tuple #[.slice cG cj cK,.int .i64 bS]/\∃di cp dp dj cv d9 dk dG dH dI,Ac ak (Zb bC) [.slice di cp dp,.slice dj cv d9,.int .i64 dk,.slice dG dH dI]/\S9 10 #[.slice x0 x1 x2,.agg #[.slice di cp dp,.slice dj cv d9,.int .i64 dk,.slice dG dH dI],.int .i64 x3,.slice x4 x5 x6,.int .i64 0] ak (fun dM aw=>∃cO eo,dM= .agg #[.int .i64 cO,.int .i64 eo]/\∀(d_:Nat) (aJ:World),d_=aw.heap.size->aJ=aw.alloc (.cells #[.int .i64 0,.int .i64 0] 45)->Af aJ (Zb d_) 2/\∀aQ:World,aQ=setCells aJ (Zb d_) [.int .i64 cO,.int .i64 eo]->∃ey,aQ.cell? ⟨d_,1,none⟩=some (.int .i64 ey)/\cond (ey !=0) (∃d7,aQ.cell? ⟨d_,1,none⟩=some (.int .i64 d7)/\cond (bS==d7) (S9 5 #[] aQ (fun dZ aX=>∃fE,dZ= .bool fE/\K (.bool fE) aX)) (K (.bool false) aQ)) (∀a_:World,a_=aQ.drew->∃(S:World->Prop),S a_/\cond (bS==0) (cond ((cj:Int)==1) (((0:Int)<=0/\0<(cj:Int))/\Ak cG (fun eg=>∃eC,(∀u:World,S u->u.cell? (eg.add (0*1))=some (.int .i64 eC))/\∃eh,(∀u:World,S u->u.cell? (Zb d_)=some (.int .i64 eh))/\cond (eC==eh) (S9 5 #[] a_ (fun ej aN=>∃eD,ej= .bool eD/\K (.bool eD) aN)) (K (.bool false) a_))) (K (.bool false) a_)) (K (.bool false) a_))))))))))
theorem Rg (x0:Option Addr) (x1:Nat) (x2:Nat) (x3:Int) (x4:Option Addr) (x5:Nat) (x6:Nat) (K:Value->World->Prop) (w:World) (h:Rf x0 x1 x2 x3 x4 x5 x6 K w):Calls Tryz.prog 3 #[.slice x0 x1 x2,.int .i64 x3,.slice x4 x5 x6] w (aD K):=
 Aj { dN:=[(6,[(49,.bool)])],j_:=[(508,[78])] } Tryz.func3 (by kernel_rfl) h
end Go.Proofs.YtpdccfgpbkagcaaGreat
