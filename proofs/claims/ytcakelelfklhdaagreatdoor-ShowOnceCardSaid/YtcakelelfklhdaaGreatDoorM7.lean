/- A part of the proof: conditions of the code, contracts, the plain law. -/
import Derived.Test.YtcakelelfklhdaaGreatDoorMem
import Derived.Test.YtcakelelfklhdaaGreatDoorRows
import Derived.Lib.Bytealg
import Derived.Test.YtcakelelfklhdaaGreatDoorMemB
import Derived.Test.YtcakelelfklhdaaGreatDoorVcF
import Derived.Test.YtcakelelfklhdaaGreatDoorMemC
import Derived.Test.YtcakelelfklhdaaGreatDoorMemD
import Derived.Test.YtcakelelfklhdaaGreatDoorMemE
import Derived.MapKept
namespace Go.Tk
open Go.Vc
def Y7 (n:Nat):Bool:=(97<=n&&n<=122)||(65<=n&&n<=90)||n==95
def T2 (n:Nat):Bool:=48<=n&&n<=57
def N2 (n:Nat):Bool:=Y7 n||T2 n
def Hc (c:UInt8):Bool:=Y7 c.toNat
def Cz (c:UInt8):Bool:=T2 c.toNat
def A8 (c:UInt8):Bool:=N2 c.toNat
def Adp (n:Nat):Bool:=((n:Int)==95)||((decide ((Pt .u8 (n:Int) 32)>=97))&&(decide ((Pt .u8 (n:Int) 32)<=122)))
theorem Aiq (n:Nat) (h:n<256):Adp n=Y7 n:=by
 have:∀n:Fin 256,Adp n.val=Y7 n.val:=by decide+kernel
 exact this ⟨n,h⟩
theorem Hm {α:Type} (p:α->Bool):∀(l:List α) (k:Nat),(∀i (h:i<l.length),i<k->p l[i]=true)->(∀h:k<l.length,p l[k]=false)->l.takeWhile p=l.take k
 |[],k,_,_=>by simp
 |a::l,0,_,h2=>by
  have:=h2 (by simp)
  simp at this
  simp [this]
 |a::l,k+1,h1,h2=>by
  have h0:=h1 0 (by simp) (by omega)
  simp at h0
  rw [List.takeWhile_cons,h0]
  simp only [if_true,List.take_succ_cons,List.cons.injEq,true_and]
  exact Hm p l k (fun i h hk=>by have:=h1 (i+1) (by simp;omega) (by omega);simpa using this) (fun h=>by have:=h2 (by simp;omega);simpa using this)
theorem getD_eq (l:List UInt8) (i:Nat) (h:i<l.length):l.getD i 0=l[i]:=by simp [List.getD,h]
theorem Qf:∀(a:List UInt8),Op.bytesLess a a=false
 |[]=>rfl
 |x::a=>by
  simp only [Op.bytesLess,Qf a]
  simp
theorem Sm:∀(a b c:List UInt8),Op.bytesLess a b=true->Op.bytesLess b c=true->Op.bytesLess a c=true
 |a,b,[],_,h2=>by cases b<;>simp [Op.bytesLess]at h2
 |[],_,_::_,_,_=>rfl
 |x::a,[],z::c,h1,_=>by simp [Op.bytesLess]at h1
 |x::a,y::b,z::c,h1,h2=>by
  simp only [Op.bytesLess,Bool.or_eq_true,decide_eq_true_eq,Bool.and_eq_true,beq_iff_eq]at h1 h2⊢
  rcases h1 with h1|⟨rfl,h1⟩
  ·rcases h2 with h2|⟨rfl,h2⟩
   ·left;exact UInt8.lt_trans h1 h2
   ·left;exact h1
  ·rcases h2 with h2|⟨rfl,h2⟩
   ·left;exact h2
   ·right;exact⟨rfl,Sm a b c h1 h2⟩
def words:List (List UInt8):=[[97,102,116,101,114],[97,115,115,101,114,116],[99,97,115,101],[99,104,97,110],[101,108,115,101],[105,102],[109,97,105,110],[112,114,105,110,116],[112,114,111,99],[114,97,110,100,111,109],[115,101,108,101,99,116],[115,107,105,112],[115,108,101,101,112],[115,116,97,114,116],[115,116,111,112],[118,97,114],[119,104,101,110],[119,104,105,108,101]]
def Am7 (l:List (List UInt8)):Prop:=∀i j (hi:i<l.length) (hj:j<l.length),i<j->Op.bytesLess l[i] l[j]=true
theorem Adq:Am7 words:=by
 have h:∀i j:Fin 18,i<j->Op.bytesLess (words[i.val]!) (words[j.val]!)=true:=by decide+kernel
 intro i j hi hj hij
 have:=h ⟨i,hi⟩ ⟨j,hj⟩ hij
 simpa [hi,hj] using this
def Dl:Bool->List UInt8->Nat
 |_,[]=>0
 |r,c::l=>if c==10 then Dl false l+1 else if c==35 then Dl true l+1 else if !r&&c !=9&&c !=13&&c !=32 then 0 else Dl r l+1
theorem Qg:∀(r:Bool) (l:List UInt8),Dl r l<=l.length
 |_,[]=>Nat.le_refl _
 |r,c::l=>by
  unfold Dl
  have h1:=Qg false l
  have h2:=Qg true l
  have h3:=Qg r l
  simp only [List.length_cons]
  split
  ·omega
  ·split
   ·omega
   ·split<;>omega
end Go.Tk
namespace Go.Proofs.YtcakelelfklhdaaGreatDoor
open Go.Vc Go.Tk
end Go.Proofs.YtcakelelfklhdaaGreatDoor
namespace Go.Tk
open Go.Vc
theorem Air (r:Bool) (c:UInt8) (l:List UInt8):Dl r (c::l)=if c==10 then Dl false l+1 else if c==35 then Dl true l+1 else if !r&&c !=9&&c !=13&&c !=32 then 0 else Dl r l+1:=rfl
def Mf:List (List UInt8):=[[61,61],[33,61],[60,61],[62,61],[38,38],[124,124]]
def Lf:List UInt8:=[123,125,40,41,91,93,59,44,58,61,33,63,43,45,42,47,37,60,62]
def G2 (p l:List UInt8):Bool:=l.take p.length==p
def G3 (l:List UInt8):List UInt8:=
 match Mf.find? (G2 · l)with
 |some t=>t
 |none=>match l with
  |c::_=>if Lf.contains c then [c]else []
  |[]=>[]
theorem Adr {α:Type} (p:α->Bool) (l:List α) (h:∀i (hi:i<l.length),p l[i]=false):l.find? p=none:=by
 rw [List.find?_eq_none]
 intro x hx
 obtain⟨i,hi,rfl⟩:=List.getElem_of_mem hx
 simp [h i hi]
theorem Ajy {α:Type} (p:α->Bool):∀(l:List α) (k:Nat) (hk:k<l.length),(∀i (hi:i<l.length),i<k->p l[i]=false)->p l[k]=true->l.find? p=some l[k]
 |a::l,0,_,_,h2=>by simp at h2;simp [h2]
 |a::l,k+1,hk,h1,h2=>by
  have h0:=h1 0 (by simp) (by omega)
  simp at h0 h2
  rw [List.find?_cons,h0]
  exact Ajy p l k (by simpa using hk) (fun i hi hik=>by have:=h1 (i+1) (by simp;omega) (by omega);simpa using this) h2
def Cg:List (List UInt8):=Mf++Lf.map fun c=>[c]
theorem Ais (l:List UInt8):G3 l=match Cg.find? (G2 · l)with|some t=>t|none=>[]:=by
 unfold G3 Cg
 rw [List.find?_append]
 cases h:Mf.find? (G2 · l)with
 |some t=>rfl
 |none=>
  simp only [Option.none_or]
  cases l with
  |nil=>
   have:(Lf.map fun c=>[c]).find? (G2 · [])=none:=by decide
   rw [this]
  |cons c l=>
   have hp:∀d:UInt8,G2 [d] (c::l)=(c==d):=by intro d;unfold G2;rw [Bool.eq_iff_iff];simp
   rw [List.find?_map]
   have he:((G2 · (c::l))∘fun d=>[d])=fun d=>c==d:=by funext d;exact hp d
   rw [he]
   cases hf:Lf.find? (fun d=>c==d)with
   |none=>
    have:Lf.contains c=false:=by
     rw [List.find?_eq_none]at hf
     cases hc:Lf.contains c with
     |false=>rfl
     |true=>exact absurd (by simp) (hf c (List.contains_iff_mem.1 hc))
    simp only [this,Bool.false_eq_true,if_false,Option.map_none]
   |some d=>
    have h1:=List.find?_some hf
    have h2:=List.mem_of_find?_eq_some hf
    simp at h1
    subst h1
    have:Lf.contains c=true:=List.contains_iff_mem.2 h2
    simp only [this,if_true,Option.map_some]
def Jf (d:List UInt8):Nat:=d.foldl (fun n c=>10*n+(c.toNat-48)) 0
theorem Agk (d:List UInt8) (c:UInt8):Jf (d++[c])=10*Jf d+(c.toNat-48):=by simp [Jf]
theorem Abu (d:List UInt8) (h:∀c∈d,Cz c=true):Jf d<10^d.length:=by
 suffices∀(d:List UInt8) (n k:Nat),(∀c∈d,Cz c=true)->n<10^k->d.foldl (fun n c=>10*n+(c.toNat-48)) n<10^(k+d.length) by
  have:=this d 0 0 h (by simp);simpa [Jf] using this
 intro d
 induction d with
 |nil=>intro n k _ hn;simpa using hn
 |cons c d ih=>
  intro n k hd hn
  have hc:=hd c (by simp)
  simp [Cz,T2]at hc
  have:=ih (10*n+(c.toNat-48)) (k+1) (fun x hx=>hd x (by simp [hx])) (by rw [Nat.pow_succ];omega)
  rw [show k+1+d.length=k+(c::d).length by simp;omega]at this
  exact this
def Xo (r:List UInt8):Bool:=match r with|x::_=>Hc x|[]=>false
def E4 (d r:List UInt8):Int×Int:=
 if d.getD 0 0==48&&decide (d.length>1)then(0,3)else if d.length>18 then(0,5)else if Xo r then(0,3)else((Jf d:Nat),0)
structure Tok where
 kind:Int
 text:List UInt8
 n:Int
 at_:Int
def Tok.zero:Tok:=⟨0,[],0,0⟩
def Avt (t:Tok):List Value:=[.int .i64 t.kind,.string (mkS t.text),.int .i64 t.n,.int .i64 t.at_]
def Lm (l:List UInt8) (p:Nat):Tok×Nat×Int:=
 match l with
 |[]=>(⟨0,[],0,p⟩,p,0)
 |c::_=>
  if Hc c then
   if(l.takeWhile A8).length>16 then(Tok.zero,p,5)
   else(⟨if decide (l.takeWhile A8∈words)then 3 else 1,l.takeWhile A8,0,p⟩,p+(l.takeWhile A8).length,0)
  else if Cz c then
   if(E4 (l.takeWhile Cz) (l.drop (l.takeWhile Cz).length)).2=0 then(⟨2,l.takeWhile Cz,(E4 (l.takeWhile Cz) (l.drop (l.takeWhile Cz).length)).1,p⟩,p+(l.takeWhile Cz).length,0)
   else(Tok.zero,p,(E4 (l.takeWhile Cz) (l.drop (l.takeWhile Cz).length)).2)
  else if G3 l=[]then(Tok.zero,p,10)
  else(⟨4,G3 l,0,p⟩,p+(G3 l).length,0)
theorem Gn (c:UInt8) (l:List UInt8) (p:Nat):Lm (c::l) p=
 if Hc c then
 if((c::l).takeWhile A8).length>16 then(Tok.zero,p,5)
 else(⟨if decide ((c::l).takeWhile A8∈words)then 3 else 1,(c::l).takeWhile A8,0,p⟩,p+((c::l).takeWhile A8).length,0)
 else if Cz c then
 if(E4 ((c::l).takeWhile Cz) ((c::l).drop ((c::l).takeWhile Cz).length)).2=0 then(⟨2,(c::l).takeWhile Cz,(E4 ((c::l).takeWhile Cz) ((c::l).drop ((c::l).takeWhile Cz).length)).1,p⟩,p+((c::l).takeWhile Cz).length,0)
 else(Tok.zero,p,(E4 ((c::l).takeWhile Cz) ((c::l).drop ((c::l).takeWhile Cz).length)).2)
 else if G3 (c::l)=[]then(Tok.zero,p,10)
 else(⟨4,G3 (c::l),0,p⟩,p+(G3 (c::l)).length,0):=rfl
def Ct (s:List UInt8) (at_:Int):Tok×Nat×Int:=
 if at_<0\/(s.length:Int)<at_ then(Tok.zero,0,1)
 else Lm (s.drop (at_.toNat+Dl false (s.drop at_.toNat))) (at_.toNat+Dl false (s.drop at_.toNat))
end Go.Tk
namespace Go.Proofs.YtcakelelfklhdaaGreatDoor
open Go.Vc Go.Tk
theorem drop_cons (s:List UInt8) (k:Nat) (h:k<s.length):s.drop k=s.getD k 0::s.drop (k+1):=by
 rw [List.drop_eq_getElem_cons h];simp [List.getD,h]
theorem Ko:Tryz.prog.underlying 9=some .string:=by kernel_rfl
end Go.Proofs.YtcakelelfklhdaaGreatDoor
namespace Go.Proofs.YtcakelelfklhdaaGreatDoor
open Go.Vc Go.Tk
theorem T3 {α:Type} (p:α->Bool) (l:List α):(l.takeWhile p).length<=l.length:=by
 have:=List.takeWhile_prefix p (l:=l);exact this.length_le
theorem Rx {α:Type} (p:α->Bool):∀(l:List α),∀c∈l.takeWhile p,p c=true
 |[],_,h=>by cases h
 |a::l,c,h=>by
  rw [List.takeWhile_cons]at h
  split at h
  ·rename_i ha
   cases h with
   |head=>exact ha
   |tail _ h=>exact Rx p l c h
  ·cases h
theorem Ads {c:UInt8} (h:Hc c=true):Cz c=false:=by
 simp only [Hc,Cz,Y7,T2]at*
 rw [Bool.eq_false_iff]
 simp at*
 omega
theorem Ale (l:List UInt8):(G3 l).length<=l.length:=by
 unfold G3
 split
 ·rename_i t h
  have:=List.find?_some h
  simp only [G2,beq_iff_eq]at this
  rw [←this];simp;omega
 ·split
  ·split<;>simp
  ·simp
end Go.Proofs.YtcakelelfklhdaaGreatDoor
namespace Go.Proofs.YtcakelelfklhdaaGreatDoor
open Go.Vc
def Adt (K:Value->World->Prop) (w:World):Prop:=
 ∀(b:Nat) (w1:World),b=w.heap.size->w1=w.alloc (.cells #[.string (mkS [99,104,97,110]),.string (mkS [112,114,111,99]),.string (mkS [109,97,105,110]),.string (mkS [118,97,114]),.string (mkS [105,102]),.string (mkS [101,108,115,101]),.string (mkS [119,104,105,108,101]),.string (mkS [115,101,108,101,99,116]),.string (mkS [99,97,115,101]),.string (mkS [119,104,101,110]),.string (mkS [97,102,116,101,114]),.string (mkS [115,116,97,114,116]),.string (mkS [115,108,101,101,112]),.string (mkS [114,97,110,100,111,109]),.string (mkS [112,114,105,110,116]),.string (mkS [97,115,115,101,114,116]),.string (mkS [115,107,105,112]),.string (mkS [115,116,111,112])] 9)->
 K (.slice (some ⟨b,0,none⟩) 18 18) w1
theorem Adu (K:Value->World->Prop) (w:World) (h:Adt K w):Calls Tryz.prog 68 #[] w (Ret K):=
 Ao {} Tryz.func68 (by kernel_rfl) h
def Adv (K:Value->World->Prop) (w:World):Prop:=
 ∀(b:Nat) (w1:World),b=w.heap.size->w1=w.alloc (.cells #[.string (mkS [61,61]),.string (mkS [33,61]),.string (mkS [60,61]),.string (mkS [62,61]),.string (mkS [38,38]),.string (mkS [124,124]),.string (mkS [123]),.string (mkS [125]),.string (mkS [40]),.string (mkS [41]),.string (mkS [91]),.string (mkS [93]),.string (mkS [59]),.string (mkS [44]),.string (mkS [58]),.string (mkS [61]),.string (mkS [33]),.string (mkS [63]),.string (mkS [43]),.string (mkS [45]),.string (mkS [42]),.string (mkS [47]),.string (mkS [37]),.string (mkS [60]),.string (mkS [62])] 9)->
 K (.slice (some ⟨b,0,none⟩) 25 25) w1
theorem Adw (K:Value->World->Prop) (w:World) (h:Adv K w):Calls Tryz.prog 69 #[] w (Ret K):=
 Ao {} Tryz.func69 (by kernel_rfl) h
def Alf (lA:Option Addr) (lN:Nat) (_lC:Nat) (s:List UInt8) (K:Value->World->Prop) (w:World):Prop:=
 ∃(I:Int->World->Prop) (m:Int->World->Nat),I 0 w/\
 ∀(_g:Nat->Value) (i:Int) (w1:World),I i w1->
 cond (decide (i<(lN:Int)))
 (((0:Int)<=i/\i<(lN:Int))/\
 A3 lA (fun a=>
 ∃(x:List UInt8),w1.cell? (a.add (i.toNat*1))=some (.string (mkS x))/\
 cond (x==s)
 (K (.bool true) w1)
 (I (IntKind.i64.wrap (i+1)) w1/\m (IntKind.i64.wrap (i+1)) w1<m i w1)))
 (K (.bool false) w1)
theorem Alg (lA:Option Addr) (lN:Nat) (lC:Nat) (s:List UInt8) (K:Value->World->Prop) (w:World) (h:Alf lA lN lC s K w):Calls Tryz.prog 67 #[.slice lA lN lC,.string (mkS s)] w (Ret K):=
 Ao { loops:=[(26,[(5,.int .i64)])] } Tryz.func67 (by kernel_rfl) h
def Aa1 (c:Int) (K:Value->World->Prop) (w:World):Prop:=
 ∀(_g:Nat->Value),
 K (.bool (cond (decide (c>=97)) ((decide (c<=122))||(cond (decide (c>=65)) ((decide (c<=90))||(c==95)) (c==95))) (cond (decide (c>=65)) ((decide (c<=90))||(c==95)) (c==95)))) w
theorem Aa2 (c:Int) (K:Value->World->Prop) (w:World) (h:Aa1 c K w):Calls Tryz.prog 66 #[.int .u8 c] w (Ret K):=
 Ao { Aw1:=[(6,[2])] } Tryz.func66 (by kernel_rfl) h
def Adx (c:Int) (K:Value->World->Prop) (w:World):Prop:=
 ∀(_g:Nat->Value),
 K (.bool ((decide (c>=48))&&(decide (c<=57)))) w
theorem Ady (c:Int) (K:Value->World->Prop) (w:World) (h:Adx c K w):Calls Tryz.prog 64 #[.int .u8 c] w (Ret K):=
 Ao { Aw1:=[(6,[2])] } Tryz.func64 (by kernel_rfl) h
def Agl (s:List UInt8) (K:Value->World->Prop) (w:World):Prop:=
 ∃(I:Int->World->Prop) (m:Int->World->Nat),I 0 w/\
 ∀(_g:Nat->Value) (i:Int) (w1:World),I i w1->
 cond (decide (i<(s.length:Int)))
 (∃(J:Bool->World->Prop),
 (((0:Int)<=i/\i<(s.length:Int))/\
 Calls Tryz.prog 66 #[.int .u8 ((s.getD i.toNat 0).toNat:Int)] w1 (Ret fun v w2=>
 ∃(x:Bool),v= .bool x/\
 cond (!x)
 (cond (i==0)
 (J true w2)
 (((0:Int)<=i/\i<(s.length:Int))/\
 Calls Tryz.prog 64 #[.int .u8 ((s.getD i.toNat 0).toNat:Int)] w2 (Ret fun v1 w3=>
 ∃(x1:Bool),v1= .bool x1/\
 J (!x1) w3)))
 (J false w2)))/\
 ∀(_g1:Nat->Value) (x2:Bool) (w4:World),J x2 w4->
 cond (x2)
 (K (.bool false) w4)
 (I (IntKind.i64.wrap (i+1)) w4/\m (IntKind.i64.wrap (i+1)) w4<m i w1))
 (cond (decide ((s.length:Int)>=1))
 (cond (decide ((s.length:Int)<=16))
 (Calls Tryz.prog 68 #[] w1 (Ret fun v2 w5=>
 ∃(xA:Option Addr) (xN:Nat) (xC:Nat),v2= .slice xA xN xC/\
 Calls Tryz.prog 67 #[.slice xA xN xC,.string (mkS s)] w5 (Ret fun v3 w6=>
 ∃(x3:Bool),v3= .bool x3/\
 K (.bool (!x3)) w6)))
 (K (.bool false) w1))
 (K (.bool false) w1))
theorem Agm (s:List UInt8) (K:Value->World->Prop) (w:World) (h:Agl s K w):Calls Tryz.prog 46 #[.string (mkS s)] w (Ret K):=
 Ao { loops:=[(26,[(3,.int .i64)])],Aww:=[(420,[(25,.bool)])] } Tryz.func46 (by kernel_rfl) h
def Adz (s:List UInt8) (atx:Int) (K:Value->World->Prop) (w:World):Prop:=
 ∃(I:Int->Bool->World->Prop) (m:Int->Bool->World->Nat),I atx false w/\
 ∀(_g:Nat->Value) (Av7:Int) (Bbd:Bool) (w1:World),I Av7 Bbd w1->
 cond (decide (Av7<(s.length:Int)))
 (((0:Int)<=Av7/\Av7<(s.length:Int))/\
 ∃(J:Bool->World->Prop),
 (cond (((s.getD Av7.toNat 0).toNat:Int)==10)
 (J false w1)
 (cond (((s.getD Av7.toNat 0).toNat:Int)==35)
 (J true w1)
 (∀(_g1:Nat->Value),
 cond (((!Bbd)&&((((s.getD Av7.toNat 0).toNat:Int) !=9)&&((((s.getD Av7.toNat 0).toNat:Int) !=13)&&(((s.getD Av7.toNat 0).toNat:Int) !=32)))))
 (K (.int .i64 Av7) w1)
 (J Bbd w1))))/\
 ∀(_g2:Nat->Value) (Bbe:Bool) (w2:World),J Bbe w2->
 I (IntKind.i64.wrap (Av7+1)) Bbe w2/\m (IntKind.i64.wrap (Av7+1)) Bbe w2<m Av7 Bbd w1)
 (K (.int .i64 Av7) w1)
theorem Ad0 (s:List UInt8) (atx:Int) (K:Value->World->Prop) (w:World) (h:Adz s atx K w):Calls Tryz.prog 63 #[.string (mkS s),.int .i64 atx] w (Ret K):=
 Ao { loops:=[(28,[(1,.int .i64),(5,.bool)])],Aww:=[(453,[(5,.bool)])],Aw1:=[(29022,[31])] } Tryz.func63 (by kernel_rfl) h
def Aa3 (s:List UInt8) (Awd:Int) (to:Int) (K:Value->World->Prop) (w:World):Prop:=
 ∀(b:Nat) (w1:World),b=w.heap.size->w1=w.alloc (.cells #[.int .i64 0,.string (mkS []),.int .i64 0,.int .i64 0,.int .i64 0,.int .i64 0] 79)->
 ((0:Int)<=Awd/\Awd<(s.length:Int))/\
 ∀(_g:Nat->Value),
 cond (((((s.getD Awd.toNat 0).toNat:Int)==48)&&(decide (to>(IntKind.i64.wrap (Awd+1))))))
 (Ah w1 ⟨b,0,none⟩ 6/\∀w2:World,w2=setCells w1 ⟨b,0,none⟩ [.int .i64 0,.string (mkS []),.int .i64 0,.int .i64 0,.int .i64 Awd,.int .i64 3]->
 ∃(Bai:Int) (Baj:List UInt8) (rTN:Int) (Biy:Int) (Bcx:Int) (rE:Int),Ae w2 ⟨b,0,none⟩ [.int .i64 Bai,.string (mkS Baj),.int .i64 rTN,.int .i64 Biy,.int .i64 Bcx,.int .i64 rE]/\
 K (.agg #[.int .i64 Bai,.string (mkS Baj),.int .i64 rTN,.int .i64 Biy,.int .i64 Bcx,.int .i64 rE]) w2)
 (cond (decide ((IntKind.i64.wrap (to-Awd))>18))
 (Ah w1 ⟨b,0,none⟩ 6/\∀w3:World,w3=setCells w1 ⟨b,0,none⟩ [.int .i64 0,.string (mkS []),.int .i64 0,.int .i64 0,.int .i64 Awd,.int .i64 5]->
 ∃(Aza:Int) (Azb:List UInt8) (Biz:Int) (Bcy:Int) (Bak:Int) (rE1:Int),Ae w3 ⟨b,0,none⟩ [.int .i64 Aza,.string (mkS Azb),.int .i64 Biz,.int .i64 Bcy,.int .i64 Bak,.int .i64 rE1]/\
 K (.agg #[.int .i64 Aza,.string (mkS Azb),.int .i64 Biz,.int .i64 Bcy,.int .i64 Bak,.int .i64 rE1]) w3)
 (∃(J:Bool->World->Prop),
 (cond (decide (to<(s.length:Int)))
 (((0:Int)<=to/\to<(s.length:Int))/\
 Calls Tryz.prog 66 #[.int .u8 ((s.getD to.toNat 0).toNat:Int)] w1 (Ret fun v w4=>
 ∃(x:Bool),v= .bool x/\
 J x w4))
 (J false w1))/\
 ∀(_g1:Nat->Value) (x1:Bool) (w5:World),J x1 w5->
 cond (x1)
 (Ah w5 ⟨b,0,none⟩ 6/\∀w6:World,w6=setCells w5 ⟨b,0,none⟩ [.int .i64 0,.string (mkS []),.int .i64 0,.int .i64 0,.int .i64 Awd,.int .i64 3]->
 ∃(Azc:Int) (Azd:List UInt8) (Bi0:Int) (Bcz:Int) (Bal:Int) (rE2:Int),Ae w6 ⟨b,0,none⟩ [.int .i64 Azc,.string (mkS Azd),.int .i64 Bi0,.int .i64 Bcz,.int .i64 Bal,.int .i64 rE2]/\
 K (.agg #[.int .i64 Azc,.string (mkS Azd),.int .i64 Bi0,.int .i64 Bcz,.int .i64 Bal,.int .i64 rE2]) w6)
 (∃(I:Int->Int->World->Prop) (m:Int->Int->World->Nat),I 0 Awd w5/\
 ∀(_g2:Nat->Value) (n:Int) (i:Int) (w7:World),I n i w7->
 cond (decide (i<to))
 (((0:Int)<=i/\i<(s.length:Int))/\
 I (IntKind.i64.wrap ((IntKind.i64.wrap ((IntKind.i64.wrap (n*10))+(IntKind.i64.wrap ((s.getD i.toNat 0).toNat:Int))))-48)) (IntKind.i64.wrap (i+1)) w7/\m (IntKind.i64.wrap ((IntKind.i64.wrap ((IntKind.i64.wrap (n*10))+(IntKind.i64.wrap ((s.getD i.toNat 0).toNat:Int))))-48)) (IntKind.i64.wrap (i+1)) w7<m n i w7)
 ((((0:Int)<=to/\to<=(s.length:Int))/\(0:Int)<=Awd/\Awd<=(to.toNat:Int))/\
 Ah w7 ⟨b,0,none⟩ 6/\∀w8:World,w8=setCells w7 ⟨b,0,none⟩ [.int .i64 2,.string (mkS ((s.take to.toNat).drop Awd.toNat)),.int .i64 n,.int .i64 Awd,.int .i64 to,.int .i64 0]->
 ∃(Aze:Int) (Azf:List UInt8) (Bi1:Int) (Bc0:Int) (Bam:Int) (rE3:Int),Ae w8 ⟨b,0,none⟩ [.int .i64 Aze,.string (mkS Azf),.int .i64 Bi1,.int .i64 Bc0,.int .i64 Bam,.int .i64 rE3]/\
 K (.agg #[.int .i64 Aze,.string (mkS Azf),.int .i64 Bi1,.int .i64 Bc0,.int .i64 Bam,.int .i64 rE3]) w8))))
theorem Aa4 (s:List UInt8) (Awd:Int) (to:Int) (K:Value->World->Prop) (w:World) (h:Aa3 s Awd to K w):Calls Tryz.prog 65 #[.string (mkS s),.int .i64 Awd,.int .i64 to] w (Ret K):=
 Ao { loops:=[(506,[(7,.int .i64),(8,.int .i64)])],Aww:=[(30,[(36,.bool)])],Aw1:=[(12,[18])] } Tryz.func65 (by kernel_rfl) h
def Agn (s:List UInt8) (atx:Int) (K:Value->World->Prop) (w:World):Prop:=
 ∀(b:Nat) (w1:World),b=w.heap.size->w1=w.alloc (.cells #[.int .i64 0,.string (mkS []),.int .i64 0,.int .i64 0,.int .i64 0,.int .i64 0] 79)->
 ∀(_g:Nat->Value),
 cond (((decide (atx<0))||(decide (atx>(s.length:Int)))))
 (Ah w1 ⟨b,0,none⟩ 6/\∀w2:World,w2=setCells w1 ⟨b,0,none⟩ [.int .i64 0,.string (mkS []),.int .i64 0,.int .i64 0,.int .i64 0,.int .i64 1]->
 ∃(Bai:Int) (Baj:List UInt8) (rTN:Int) (Biy:Int) (Bcx:Int) (rE:Int),Ae w2 ⟨b,0,none⟩ [.int .i64 Bai,.string (mkS Baj),.int .i64 rTN,.int .i64 Biy,.int .i64 Bcx,.int .i64 rE]/\
 K (.agg #[.int .i64 Bai,.string (mkS Baj),.int .i64 rTN,.int .i64 Biy,.int .i64 Bcx,.int .i64 rE]) w2)
 (Calls Tryz.prog 63 #[.string (mkS s),.int .i64 atx] w1 (Ret fun v w3=>
 ∃(Awd:Int),v= .int .i64 Awd/\
 cond (Awd==(s.length:Int))
 (Ah w3 ⟨b,0,none⟩ 6/\∀w4:World,w4=setCells w3 ⟨b,0,none⟩ [.int .i64 0,.string (mkS []),.int .i64 0,.int .i64 Awd,.int .i64 Awd,.int .i64 0]->
 ∃(Aza:Int) (Azb:List UInt8) (Biz:Int) (Bcy:Int) (Bak:Int) (rE1:Int),Ae w4 ⟨b,0,none⟩ [.int .i64 Aza,.string (mkS Azb),.int .i64 Biz,.int .i64 Bcy,.int .i64 Bak,.int .i64 rE1]/\
 K (.agg #[.int .i64 Aza,.string (mkS Azb),.int .i64 Biz,.int .i64 Bcy,.int .i64 Bak,.int .i64 rE1]) w4)
 (((0:Int)<=Awd/\Awd<(s.length:Int))/\
 Calls Tryz.prog 64 #[.int .u8 ((s.getD Awd.toNat 0).toNat:Int)] w3 (Ret fun v1 w5=>
 ∃(x:Bool),v1= .bool x/\
 cond (x)
 (∃(I:Int->World->Prop) (m:Int->World->Nat),I Awd w5/\
 ∀(_g1:Nat->Value) (to:Int) (w6:World),I to w6->
 ∃(J:Bool->World->Prop),
 (cond (decide (to<(s.length:Int)))
 (((0:Int)<=to/\to<(s.length:Int))/\
 Calls Tryz.prog 64 #[.int .u8 ((s.getD to.toNat 0).toNat:Int)] w6 (Ret fun v2 w7=>
 ∃(x1:Bool),v2= .bool x1/\
 J x1 w7))
 (J false w6))/\
 ∀(_g2:Nat->Value) (x2:Bool) (w8:World),J x2 w8->
 cond (x2)
 (I (IntKind.i64.wrap (to+1)) w8/\m (IntKind.i64.wrap (to+1)) w8<m to w6)
 (Calls Tryz.prog 65 #[.string (mkS s),.int .i64 Awd,.int .i64 to] w8 (Ret fun v3 w9=>
 ∃(Bi2:Int) (Bi3:List UInt8) (xTN:Int) (Bzl:Int) (Bk2:Int) (xE:Int),v3= .agg #[.int .i64 Bi2,.string (mkS Bi3),.int .i64 xTN,.int .i64 Bzl,.int .i64 Bk2,.int .i64 xE]/\
 Ah w9 ⟨b,0,none⟩ 6/\∀w10:World,w10=setCells w9 ⟨b,0,none⟩ [.int .i64 Bi2,.string (mkS Bi3),.int .i64 xTN,.int .i64 Bzl,.int .i64 Bk2,.int .i64 xE]->
 ∃(Azc:Int) (Azd:List UInt8) (Bi0:Int) (Bcz:Int) (Bal:Int) (rE2:Int),Ae w10 ⟨b,0,none⟩ [.int .i64 Azc,.string (mkS Azd),.int .i64 Bi0,.int .i64 Bcz,.int .i64 Bal,.int .i64 rE2]/\
 K (.agg #[.int .i64 Azc,.string (mkS Azd),.int .i64 Bi0,.int .i64 Bcz,.int .i64 Bal,.int .i64 rE2]) w10)))
 (((0:Int)<=Awd/\Awd<(s.length:Int))/\
 Calls Tryz.prog 66 #[.int .u8 ((s.getD Awd.toNat 0).toNat:Int)] w5 (Ret fun v4 w11=>
 ∃(x3:Bool),v4= .bool x3/\
 cond (x3)
 (∃(I1:Int->World->Prop) (m1:Int->World->Nat),I1 Awd w11/\
 ∀(_g3:Nat->Value) (to1:Int) (w12:World),I1 to1 w12->
 ∃(J1:Bool->World->Prop),
 (cond (decide (to1<(s.length:Int)))
 (((0:Int)<=to1/\to1<(s.length:Int))/\
 Calls Tryz.prog 66 #[.int .u8 ((s.getD to1.toNat 0).toNat:Int)] w12 (Ret fun v5 w13=>
 ∃(x4:Bool),v5= .bool x4/\
 cond (x4)
 (J1 true w13)
 (((0:Int)<=to1/\to1<(s.length:Int))/\
 Calls Tryz.prog 64 #[.int .u8 ((s.getD to1.toNat 0).toNat:Int)] w13 (Ret fun v6 w14=>
 ∃(x5:Bool),v6= .bool x5/\
 J1 x5 w14))))
 (J1 false w12))/\
 ∀(_g4:Nat->Value) (x6:Bool) (w15:World),J1 x6 w15->
 cond (x6)
 (I1 (IntKind.i64.wrap (to1+1)) w15/\m1 (IntKind.i64.wrap (to1+1)) w15<m1 to1 w12)
 (cond (decide ((IntKind.i64.wrap (to1-Awd))>16))
 (Ah w15 ⟨b,0,none⟩ 6/\∀w16:World,w16=setCells w15 ⟨b,0,none⟩ [.int .i64 0,.string (mkS []),.int .i64 0,.int .i64 0,.int .i64 Awd,.int .i64 5]->
 ∃(Aze:Int) (Azf:List UInt8) (Bi1:Int) (Bc0:Int) (Bam:Int) (rE3:Int),Ae w16 ⟨b,0,none⟩ [.int .i64 Aze,.string (mkS Azf),.int .i64 Bi1,.int .i64 Bc0,.int .i64 Bam,.int .i64 rE3]/\
 K (.agg #[.int .i64 Aze,.string (mkS Azf),.int .i64 Bi1,.int .i64 Bc0,.int .i64 Bam,.int .i64 rE3]) w16)
 (∃(J2:Int->World->Prop),
 (∃(J3:Bool->World->Prop),
 (∀w17:World,w17=w15.drew->
 (((0:Int)<=to1/\to1<=(s.length:Int))/\(0:Int)<=Awd/\Awd<=(to1.toNat:Int))/\
 Calls Tryz.prog 68 #[] w17 (Ret fun v7 w18=>
 ∃(xA:Option Addr) (xN:Nat) (xC:Nat),v7= .slice xA xN xC/\
 Calls Tryz.prog 67 #[.slice xA xN xC,.string (mkS ((s.take to1.toNat).drop Awd.toNat))] w18 (Ret fun v8 w19=>
 ∃(x7:Bool),v8= .bool x7/\
 J3 x7 w19)))/\
 ∀(_g5:Nat->Value) (x8:Bool) (w20:World),J3 x8 w20->
 cond (x8)
 (J2 3 w20)
 (J2 1 w20))/\
 ∀(_g6:Nat->Value) (kind:Int) (w21:World),J2 kind w21->
 (((0:Int)<=to1/\to1<=(s.length:Int))/\(0:Int)<=Awd/\Awd<=(to1.toNat:Int))/\
 Ah w21 ⟨b,0,none⟩ 6/\∀w22:World,w22=setCells w21 ⟨b,0,none⟩ [.int .i64 kind,.string (mkS ((s.take to1.toNat).drop Awd.toNat)),.int .i64 0,.int .i64 Awd,.int .i64 to1,.int .i64 0]->
 ∃(Bek:Int) (Bel:List UInt8) (Bzm:Int) (Bk3:Int) (Bi4:Int) (rE4:Int),Ae w22 ⟨b,0,none⟩ [.int .i64 Bek,.string (mkS Bel),.int .i64 Bzm,.int .i64 Bk3,.int .i64 Bi4,.int .i64 rE4]/\
 K (.agg #[.int .i64 Bek,.string (mkS Bel),.int .i64 Bzm,.int .i64 Bk3,.int .i64 Bi4,.int .i64 rE4]) w22)))
 (Calls Tryz.prog 69 #[] w11 (Ret fun v9 w23=>
 ∃(lA:Option Addr) (lN:Nat) (lC:Nat),v9= .slice lA lN lC/\
 ∃(I2:Int->World->Prop) (m2:Int->World->Nat),I2 0 w23/\
 ∀(_g7:Nat->Value) (i:Int) (w24:World),I2 i w24->
 cond (decide (i<(lN:Int)))
 (((0:Int)<=i/\i<(lN:Int))/\
 A3 lA (fun a=>
 ∃(x9:List UInt8),w24.cell? (a.add (i.toNat*1))=some (.string (mkS x9))/\
 ∃(J4:Bool->World->Prop),
 (∀w25:World,w25=w24.drew->
 cond (decide ((IntKind.i64.wrap (Awd+(x9.length:Int)))<=(s.length:Int)))
 ((((0:Int)<=(IntKind.i64.wrap (Awd+(x9.length:Int)))/\(IntKind.i64.wrap (Awd+(x9.length:Int)))<=(s.length:Int))/\(0:Int)<=Awd/\Awd<=((IntKind.i64.wrap (Awd+(x9.length:Int))).toNat:Int))/\
 ((0:Int)<=i/\i<(lN:Int))/\
 A3 lA (fun a1=>
 ∃(x10:List UInt8),w25.cell? (a1.add (i.toNat*1))=some (.string (mkS x10))/\
 J4 (((s.take (IntKind.i64.wrap (Awd+(x9.length:Int))).toNat).drop Awd.toNat)==x10) w25))
 (J4 false w25))/\
 ∀(_g8:Nat->Value) (x11:Bool) (w26:World),J4 x11 w26->
 cond (x11)
 (((0:Int)<=i/\i<(lN:Int))/\
 A3 lA (fun a2=>
 ∃(x12:List UInt8),w26.cell? (a2.add (i.toNat*1))=some (.string (mkS x12))/\
 Ah w26 ⟨b,0,none⟩ 6/\∀w27:World,w27=setCells w26 ⟨b,0,none⟩ [.int .i64 4,.string (mkS x12),.int .i64 0,.int .i64 Awd,.int .i64 (IntKind.i64.wrap (Awd+(x9.length:Int))),.int .i64 0]->
 ∃(Bem:Int) (Ben:List UInt8) (Bzn:Int) (Bk4:Int) (Bi5:Int) (rE5:Int),Ae w27 ⟨b,0,none⟩ [.int .i64 Bem,.string (mkS Ben),.int .i64 Bzn,.int .i64 Bk4,.int .i64 Bi5,.int .i64 rE5]/\
 K (.agg #[.int .i64 Bem,.string (mkS Ben),.int .i64 Bzn,.int .i64 Bk4,.int .i64 Bi5,.int .i64 rE5]) w27))
 (I2 (IntKind.i64.wrap (i+1)) w26/\m2 (IntKind.i64.wrap (i+1)) w26<m2 i w24)))
 (Ah w24 ⟨b,0,none⟩ 6/\∀w28:World,w28=setCells w24 ⟨b,0,none⟩ [.int .i64 0,.string (mkS []),.int .i64 0,.int .i64 0,.int .i64 Awd,.int .i64 10]->
 ∃(Beo:Int) (Bep:List UInt8) (Bzo:Int) (Bk5:Int) (Bi6:Int) (rE6:Int),Ae w28 ⟨b,0,none⟩ [.int .i64 Beo,.string (mkS Bep),.int .i64 Bzo,.int .i64 Bk5,.int .i64 Bi6,.int .i64 rE6]/\
 K (.agg #[.int .i64 Beo,.string (mkS Bep),.int .i64 Bzo,.int .i64 Bk5,.int .i64 Bi6,.int .i64 rE6]) w28)))))))))
theorem Ago (s:List UInt8) (atx:Int) (K:Value->World->Prop) (w:World) (h:Agn s atx K w):Calls Tryz.prog 33 #[.string (mkS s),.int .i64 atx] w (Ret K):=
 Ao { loops:=[(2024,[(6,.int .i64)]),(4072,[(6,.int .i64)]),(4090,[(9,.int .i64)])],Aww:=[(8096,[(45,.bool)]),(8151,[(7,.int .i64)]),(16288,[(71,.bool)]),(16302,[(85,.bool)]),(130889,[(125,.bool)])],Aw1:=[(12,[18])] } Tryz.func33 (by kernel_rfl) h
end Go.Proofs.YtcakelelfklhdaaGreatDoor
namespace Go.Proofs.YtcakelelfklhdaaGreatDoor
open Go.Vc Go.Tk
def Ash (n:Nat):Bool:=cond (decide ((n:Int)>=97)) ((decide ((n:Int)<=122))||(cond (decide ((n:Int)>=65)) ((decide ((n:Int)<=90))||((n:Int)==95)) ((n:Int)==95))) (cond (decide ((n:Int)>=65)) ((decide ((n:Int)<=90))||((n:Int)==95)) ((n:Int)==95))
theorem Am8 (n:Nat) (h:n<256):Ash n=Y7 n:=by
 have:∀n:Fin 256,Ash n.val=Y7 n.val:=by decide+kernel
 exact this ⟨n,h⟩
theorem Lx (n:Nat) (h:n<256) (w:World):Calls Tryz.prog 66 #[.int .u8 (n:Int)] w (Ret fun v w'=>v= .bool (Y7 n)/\w=w'):=by
 refine Aa2 _ _ _ ?_
 intro _
 exact⟨by rw [←Am8 n h];rfl,rfl⟩
theorem Mt (n:Nat) (w:World):Calls Tryz.prog 64 #[.int .u8 (n:Int)] w (Ret fun v w'=>v= .bool (T2 n)/\w=w'):=by
 refine Ady _ _ _ ?_
 intro _
 refine⟨?_,rfl⟩
 have e:((decide ((n:Int)>=48))&&(decide ((n:Int)<=57)))=T2 n:=by unfold T2;rw [Bool.eq_iff_iff];simp;omega
 rw [e]
def Xh (s:List UInt8):Value:= .string (mkS s)
theorem Agp (l:List (List UInt8)) (hl:l.length<2^40) (p:Addr) (c:Nat) (s:List UInt8) (w:World) (hc:Ae w p (l.map Xh)):
 Calls Tryz.prog 67 #[.slice (some p) l.length c,.string (mkS s)] w (Ret fun v w'=>v= .bool (decide (s∈l))/\w=w'):=by
 refine Alg _ _ _ _ _ _ ?_
 refine⟨fun i w'=>w=w'/\∃k:Nat,i=k/\k<=l.length/\∀j (h:j<l.length),j<k->l[j]≠s,fun i _=>l.length-i.toNat,⟨rfl,0,rfl,Nat.zero_le _,fun _ _ h=>absurd h (Nat.not_lt_zero _)⟩,?_⟩
 rintro _ _ _ ⟨rfl,k,rfl,hk,Awn⟩
 refine Ag (fun hx=> ?_) fun hx=> ?_
 ·have hlt:k<l.length:=by simpa using hx
  have Axa:=hc k (by simpa using hlt)
  simp only [List.getElem_map,Xh]at Axa
  refine⟨by omega,l[k],by simpa using Axa,Ag (fun hb=> ?_) fun hb=> ?_⟩
  ·have:l[k]=s:=by simpa using hb
   exact⟨by rw [decide_eq_true (this▸List.getElem_mem hlt)],rfl⟩
  ·have hne:l[k]≠s:=by simpa using hb
   rw [A1 (by omega) (by omega)]
   refine⟨⟨rfl,k+1,by omega,by omega,fun j h hj=> ?_⟩,by dsimp only;omega⟩
   rcases Nat.lt_or_ge j k with h'|h'
   ·exact Awn j h h'
   ·obtain rfl:j=k:=by omega
    exact hne
 ·have hge:¬k<l.length:=by simpa using hx
  refine⟨?_,rfl⟩
  have Azv:s∉l:=by
   intro hm
   obtain⟨j,hj,rfl⟩:=List.getElem_of_mem hm
   exact Awn j hj (by omega) rfl
  rw [decide_eq_false Azv]
def Ve:List (List UInt8):=[[99,104,97,110],[112,114,111,99],[109,97,105,110],[118,97,114],[105,102],[101,108,115,101],[119,104,105,108,101],[115,101,108,101,99,116],[99,97,115,101],[119,104,101,110],[97,102,116,101,114],[115,116,97,114,116],[115,108,101,101,112],[114,97,110,100,111,109],[112,114,105,110,116],[97,115,115,101,114,116],[115,107,105,112],[115,116,111,112]]
theorem Y8 (s:List UInt8):decide (s∈Ve)=decide (s∈words):=by
 have h1:∀x∈Ve,x∈words:=by decide
 have h2:∀x∈words,x∈Ve:=by decide
 rw [Bool.eq_iff_iff];simp only [decide_eq_true_eq]
 exact⟨h1 s,h2 s⟩
theorem V9 (w:World):Calls Tryz.prog 68 #[] w (Ret fun v w'=>∃b,v= .slice (some ⟨b,0,none⟩) 18 18/\Ae w' ⟨b,0,none⟩ (Ve.map Xh)/\Ext w w'):=by
 refine Adu _ _ ?_
 intro b w1 hb hw
 exact⟨b,rfl,(Box.new hb hw).whole,.alloc hw⟩
theorem Agq (w:World):Calls Tryz.prog 69 #[] w (Ret fun v w'=>∃b,v= .slice (some ⟨b,0,none⟩) 25 25/\Ae w' ⟨b,0,none⟩ (Cg.map Xh)/\Ext w w'):=by
 refine Adw _ _ ?_
 intro b w1 hb hw
 exact⟨b,rfl,(Box.new hb hw).whole,.alloc hw⟩
theorem Asv (c:UInt8):((c.toNat:Int)==10)=(c==10):=by rw [Bool.eq_iff_iff];simp [←UInt8.toNat_inj];omega
theorem Asw (c:UInt8):((c.toNat:Int)==35)=(c==35):=by rw [Bool.eq_iff_iff];simp [←UInt8.toNat_inj];omega
theorem Auw (c:UInt8):((c.toNat:Int) !=9)=(c !=9):=by rw [Bool.eq_iff_iff];simp [←UInt8.toNat_inj];omega
theorem Asx (c:UInt8):((c.toNat:Int) !=13)=(c !=13):=by rw [Bool.eq_iff_iff];simp [←UInt8.toNat_inj];omega
theorem Asy (c:UInt8):((c.toNat:Int) !=32)=(c !=32):=by rw [Bool.eq_iff_iff];simp [←UInt8.toNat_inj];omega
theorem Ait (s:List UInt8) (hs:s.length<2^40) (a:Nat) (ha:a<=s.length) (w:World):
 Calls Tryz.prog 63 #[.string (mkS s),.int .i64 (a:Int)] w (Ret fun v w'=>v= .int .i64 ((a+Dl false (s.drop a):Nat):Int)/\w=w'):=by
 refine Ad0 _ _ _ _ ?_
 refine⟨fun x r w'=>w=w'/\∃k:Nat,x=k/\a<=k/\k<=s.length/\a+Dl false (s.drop a)=k+Dl r (s.drop k),fun x _ _=>s.length-x.toNat,⟨rfl,a,rfl,Nat.le_refl _,ha,rfl⟩,?_⟩
 rintro _ _ r _ ⟨rfl,k,rfl,hak,hk,hb⟩
 refine Ag (fun hx=> ?_) fun hx=> ?_
 ·have hlt:k<s.length:=by simpa using hx
  have hd:=drop_cons s k hlt
  rw [Int.toNat_natCast]
  generalize hc:s.getD k 0=c at hd⊢
  rw [hd,Air]at hb
  simp only [Asv,Asw,Auw,Asx,Asy]
  refine⟨by omega,fun r' w'=>w=w'/\a+Dl false (s.drop a)=k+1+Dl r' (s.drop (k+1)),?_,?_⟩
  ·refine Ag (fun h10=> ?_) fun h10=> ?_
   ·refine⟨rfl,?_⟩
    rw [hb,if_pos h10];omega
   ·rw [if_neg (by rw [h10];simp)]at hb
    refine Ag (fun h35=> ?_) fun h35=> ?_
    ·refine⟨rfl,?_⟩
     rw [hb,if_pos h35];omega
    ·rw [if_neg (by rw [h35];simp)]at hb
     intro _
     have e:((!r)&&((c !=9)&&((c !=13)&&(c !=32))))=(!r&&c !=9&&c !=13&&c !=32):=by simp [Bool.and_assoc]
     rw [e]
     refine Ag (fun hst=> ?_) fun hst=> ?_
     ·refine⟨?_,by trivial⟩
      rw [hb,if_pos hst];rfl
     ·refine⟨rfl,?_⟩
      rw [hb,if_neg (by rw [hst];simp)];omega
  ·rintro _ r' _ ⟨rfl,hb'⟩
   rw [A1 (by omega) (by omega)]
   exact⟨⟨rfl,k+1,by omega,by omega,by omega,hb'⟩,by omega⟩
 ·have hge:¬k<s.length:=by simpa using hx
  refine⟨?_,rfl⟩
  rw [hb,List.drop_of_length_le (by omega)];simp [Dl]
def Alh (x:Tok×Nat×Int):List Value:=Avt x.1++[.int .i64 (x.2.1:Int),.int .i64 x.2.2]
theorem Agr (s:List UInt8) (hs:s.length<2^40) (p n:Nat) (hn:0<n) (hpn:p+n<=s.length) (Bfa:∀c∈(s.drop p).take n,Cz c=true) (w:World):
 Calls Tryz.prog 65 #[.string (mkS s),.int .i64 (p:Int),.int .i64 ((p+n:Nat):Int)] w (Ret fun v w'=>v= .agg ⟨Alh (if(E4 ((s.drop p).take n) (s.drop (p+n))).2=0 then(⟨2,(s.drop p).take n,(E4 ((s.drop p).take n) (s.drop (p+n))).1,p⟩,p+n,0)else(Tok.zero,p,(E4 ((s.drop p).take n) (s.drop (p+n))).2))⟩/\Ext w w'):=by
 refine Aa4 _ _ _ _ _ ?_
 intro b w1 hb hw1
 have o:=(Own.start w).alloc hb hw1
 have hdl:((s.drop p).take n).length=n:=by simp;omega
 have Bzp:∀i,i<n->((s.drop p).take n).getD i 0=s.getD (p+i) 0:=by
  intro i hi
  simp [List.getD,hi]
 have h0:=Bzp 0 hn
 rw [Nat.add_zero]at h0
 refine⟨by omega,fun _=> ?_⟩
 rw [Int.toNat_natCast]
 have e48:((((s.getD p 0).toNat:Int)==48)&&decide (((p+n:Nat):Int)>IntKind.i64.wrap ((p:Int)+1)))=(((s.drop p).take n).getD 0 0==48&&decide (((s.drop p).take n).length>1)):=by
  rw [h0,hdl,A1 (by omega) (by omega)]
  have:(((s.getD p 0).toNat:Int)==48)=(s.getD p 0==48):=by
   rw [Bool.eq_iff_iff];simp [←UInt8.toNat_inj];omega
  rw [this];congr 1
  rw [Bool.eq_iff_iff];simp;omega
 rw [e48]
 generalize hd:(s.drop p).take n=d at*
 refine Ag (fun h=> ?_) fun h=> ?_
 ·have hr:E4 d (s.drop (p+n))=(0,3):=by unfold E4;rw [if_pos h]
  rw [hr]
  refine⟨o.wr 0 rfl rfl,fun w2 hw2=> ?_⟩
  have o:=o.Aym 0 hw2 rfl
  exact⟨_,_,_,_,_,_,(o.at 0 rfl).whole,rfl,o.done⟩
 ·rw [A1 (n:=((p+n:Nat):Int)-(p:Int)) (by omega) (by omega)]
  refine Ag (fun h18=> ?_) fun h18=> ?_
  ·have hr:E4 d (s.drop (p+n))=(0,5):=by unfold E4;rw [if_neg (by rw [h];simp),if_pos (by simp at h18;omega)]
   rw [hr]
   refine⟨o.wr 0 rfl rfl,fun w2 hw2=> ?_⟩
   have o:=o.Aym 0 hw2 rfl
   exact⟨_,_,_,_,_,_,(o.at 0 rfl).whole,rfl,o.done⟩
  ·have Bzq:¬d.length>18:=by simp at h18;omega
   refine⟨fun x w'=>w1=w'/\x=Xo (s.drop (p+n)),?_,?_⟩
   ·refine Ag (fun hx=> ?_) fun hx=> ?_
    ·have hlt:p+n<s.length:=by simp at hx;omega
     refine⟨by omega,Aa (Lx _ (UInt8.toNat_lt _) w1) ?_⟩
     rintro _ _ ⟨rfl,rfl⟩
     refine⟨_,rfl,rfl,?_⟩
     rw [Int.toNat_natCast,drop_cons s (p+n) hlt];rfl
    ·have hge:¬p+n<s.length:=by simp at hx;omega
     refine⟨rfl,?_⟩
     rw [List.drop_of_length_le (by omega)];rfl
   ·rintro _ x _ ⟨rfl,rfl⟩
    refine Ag (fun hx=> ?_) fun hx=> ?_
    ·have hr:E4 d (s.drop (p+n))=(0,3):=by unfold E4;rw [if_neg (by rw [h];simp),if_neg Bzq,if_pos hx]
     rw [hr]
     refine⟨o.wr 0 rfl rfl,fun w2 hw2=> ?_⟩
     have o:=o.Aym 0 hw2 rfl
     exact⟨_,_,_,_,_,_,(o.at 0 rfl).whole,rfl,o.done⟩
    ·have hr:E4 d (s.drop (p+n))=(((Jf d:Nat):Int),0):=by unfold E4;rw [if_neg (by rw [h];simp),if_neg Bzq,if_neg (by rw [hx];simp)]
     rw [hr]
     refine⟨fun v i w'=>w1=w'/\∃k:Nat,i=((p+k:Nat):Int)/\k<=n/\v=(Jf (d.take k):Nat),fun _ i _=>p+n-i.toNat,⟨rfl,0,rfl,Nat.zero_le _,rfl⟩,?_⟩
     rintro _ _ _ _ ⟨rfl,k,rfl,hk,rfl⟩
     refine Ag (fun hx=> ?_) fun hx=> ?_
     ·have hlt:k<n:=by simp at hx;omega
      refine⟨by omega,?_⟩
      have Bm0:k<d.length:=by omega
      rw [Int.toNat_natCast,←Bzp k hlt,getD_eq d k Bm0]
      have hdk:=Bfa d[k] (List.getElem_mem Bm0)
      simp [Cz,T2]at hdk
      have hbd:Jf (d.take k)<10^k:=by
       have:=Abu (d.take k) (fun c hc=>Bfa c (List.mem_of_mem_take hc))
       rwa [List.length_take,Nat.min_eq_left (by omega)]at this
      have Cjp:10^k<=10^17:=Nat.pow_le_pow_right (by omega) (by omega)
      rw [A1 (n:=(d[k].toNat:Int)) (by omega) (by omega),A1 (n:=(Jf (d.take k):Nat)*10) (by omega) (by omega),A1 (n:=(Jf (d.take k):Nat)*10+(d[k].toNat:Int)) (by omega) (by omega),A1 (by omega) (by omega),A1 (n:=((p+k:Nat):Int)+1) (by omega) (by omega)]
      refine⟨⟨rfl,k+1,by omega,by omega,?_⟩,by dsimp only;omega⟩
      rw [List.take_succ_eq_append_getElem Bm0,Agk];omega
     ·have hkn:k=n:=by simp at hx;omega
      subst hkn
      refine⟨by omega,o.wr 0 rfl rfl,fun w2 hw2=> ?_⟩
      have o:=o.Aym 0 hw2 rfl
      refine⟨_,_,_,_,_,_,(o.at 0 rfl).whole,?_,o.done⟩
      have ht:(s.take ((p+k:Nat):Int).toNat).drop p=d:=by rw [Int.toNat_natCast,List.drop_take,←hd];congr 1;omega
      rw [ht,List.take_of_length_le (by omega)];rfl
end Go.Proofs.YtcakelelfklhdaaGreatDoor
namespace Go.Proofs.YtcakelelfklhdaaGreatDoor
open Go.Vc Go.Tk
theorem Ad1 {c:UInt8} (h:Cz c=true):Hc c=false:=by
 cases hl:Hc c with
 |false=>rfl
 |true=>rw [Ads hl]at h;cases h
theorem Ry (s:List UInt8) (p n:Nat):(s.take (p+n)).drop p=(s.drop p).take n:=by rw [List.drop_take];congr 1;omega
set_option maxHeartbeats 1000000 in
theorem Aiu (s:List UInt8) (hs:s.length<2^40) (at_:Int) (w:World):
 Calls Tryz.prog 33 #[.string (mkS s),.int .i64 at_] w (Ret fun v w'=>v= .agg ⟨Alh (Ct s at_)⟩/\Ext w w'):=by
 refine Ago _ _ _ _ ?_
 intro b w1 hb hw1
 have o:=(Own.start w).alloc hb hw1
 intro _
 refine Ag (fun hx=> ?_) fun hx=> ?_
 ·refine⟨o.wr 0 rfl rfl,fun w2 hw2=> ?_⟩
  have o:=o.Aym 0 hw2 rfl
  refine⟨_,_,_,_,_,_,(o.at 0 rfl).whole,?_,o.done⟩
  have:Ct s at_=(Tok.zero,0,1):=by unfold Ct;rw [if_pos (by simp at hx;omega)]
  rw [this];rfl
 ·simp at hx
  obtain⟨k,rfl⟩:=Int.eq_ofNat_of_zero_le hx.1
  have hk:k<=s.length:=by omega
  have hkk:((k:Nat):Int).toNat=k:=Int.toNat_natCast k
  have hns:Ct s (k:Int)=Lm (s.drop (k+Dl false (s.drop k))) (k+Dl false (s.drop k)):=by
   unfold Ct;rw [if_neg (by omega),hkk]
  rw [hns]
  have Chq:=Qg false (s.drop k)
  simp only [List.length_drop]at Chq
  refine Aa (Ait s hs k hk w1) ?_
  rintro _ _ ⟨rfl,rfl⟩
  generalize hp:k+Dl false (s.drop k)=p
  have Cjq:p<=s.length:=by omega
  refine⟨_,rfl,?_⟩
  generalize hl:s.drop p=l
  have hll:l.length=s.length-p:=by rw [←hl];simp
  rw [Int.toNat_natCast]
  refine Ag (fun Bbo=> ?_) fun Bbo=> ?_
  ·have hpe:p=s.length:=by simp at Bbo;omega
   have:l=[]:=by rw [←hl,hpe];simp
   subst this
   refine⟨o.wr 0 rfl rfl,fun w2 hw2=> ?_⟩
   have o:=o.Aym 0 hw2 rfl
   exact⟨_,_,_,_,_,_,(o.at 0 rfl).whole,rfl,o.done⟩
  ·have Chr:p<s.length:=by simp at Bbo;omega
   have hdc:=drop_cons s p Chr
   rw [hl]at hdc
   generalize hc:s.getD p 0=c at hdc⊢
   generalize s.drop (p+1)=l' at hdc
   subst hdc
   have hgl:∀i,i<(c::l').length->(c::l').getD i 0=s.getD (p+i) 0:=by
    intro i _;rw [←hl];simp [List.getD]
   refine⟨by omega,Aa (Mt _ w1) ?_⟩
   rintro _ _ ⟨rfl,rfl⟩
   refine⟨_,rfl,Ag (fun Bfa=> ?_) fun Bfa=> ?_⟩
   ·
    have Bc1:Cz c=true:=Bfa
    have Bc2:=Ad1 Bc1
    refine⟨fun x w'=>w1=w'/\∃n:Nat,x=((p+n:Nat):Int)/\n<=(c::l').length/\∀i (h:i<(c::l').length),i<n->Cz (c::l')[i]=true,fun x _=>s.length-x.toNat,⟨rfl,0,rfl,Nat.zero_le _,fun _ _ h=>absurd h (Nat.not_lt_zero _)⟩,?_⟩
    rintro _ _ _ ⟨rfl,n,rfl,hn,Awn⟩
    refine⟨fun x w'=>w1=w'/\(x=true->∃h:n<(c::l').length,Cz (c::l')[n]=true)/\(x=false->∀h:n<(c::l').length,Cz (c::l')[n]=false),?_,?_⟩
    ·refine Ag (fun hx=> ?_) fun hx=> ?_
     ·have hlt:n<(c::l').length:=by simp at hx;omega
      refine⟨by omega,Aa (Mt _ w1) ?_⟩
      rintro _ _ ⟨rfl,rfl⟩
      rw [Int.toNat_natCast,←hgl n hlt,getD_eq _ _ hlt]
      exact⟨_,rfl,rfl,fun h=>⟨hlt,h⟩,fun h _=>h⟩
     ·exact⟨rfl,fun h=>(by cases h),fun _ h=>by simp at hx;omega⟩
    ·rintro _ x _ ⟨rfl,h1,h2⟩
     refine Ag (fun hx=> ?_) fun hx=> ?_
     ·obtain⟨hlt,hdn⟩:=h1 hx
      rw [A1 (by omega) (by omega)]
      refine⟨⟨rfl,n+1,by omega,by omega,fun i h hi=> ?_⟩,by dsimp only;omega⟩
      rcases Nat.lt_or_ge i n with h'|h'
      ·exact Awn i h h'
      ·obtain rfl:i=n:=by omega
       exact hdn
     ·have htw:=Hm Cz (c::l') n Awn (h2 hx)
      have hn0:0<n:=by
       rcases Nat.eq_zero_or_pos n with h'|h'
       ·subst h';have:=h2 hx (by simp);simp [Bc1]at this
       ·exact h'
      have htl:((c::l').takeWhile Cz).length=n:=by rw [htw,List.length_take];omega
      refine Aa (Agr s hs p n hn0 (by omega) (by rw [hl,←htw];exact Rx _ _) w1) ?_
      rintro _ w9 ⟨rfl,he⟩
      have o:=o.ext he
      have htk:Lm (c::l') p=if(E4 ((c::l').takeWhile Cz) ((c::l').drop ((c::l').takeWhile Cz).length)).2=0 then(⟨2,(c::l').takeWhile Cz,(E4 ((c::l').takeWhile Cz) ((c::l').drop ((c::l').takeWhile Cz).length)).1,p⟩,p+((c::l').takeWhile Cz).length,0)
       else(Tok.zero,p,(E4 ((c::l').takeWhile Cz) ((c::l').drop ((c::l').takeWhile Cz).length)).2):=by
       rw [Gn,if_neg (by rw [Bc2];simp),if_pos Bc1]
      have Bzr:s.drop (p+n)=(c::l').drop n:=by rw [←hl,List.drop_drop]
      rw [hl,←htw,Bzr]
      rw [htl]at htk
      rw [←htk]
      refine⟨_,_,_,_,_,_,rfl,o.wr 0 rfl rfl,fun w2 hw2=> ?_⟩
      have o:=o.Aym 0 hw2 rfl
      exact⟨_,_,_,_,_,_,(o.at 0 rfl).whole,rfl,o.done⟩
   ·have Bc1:Cz c=false:=Bfa
    refine⟨by omega,Aa (Lx _ (UInt8.toNat_lt _) w1) ?_⟩
    rintro _ _ ⟨rfl,rfl⟩
    refine⟨_,rfl,Ag (fun Bm1=> ?_) fun Bm1=> ?_⟩
    ·
     have Bc2:Hc c=true:=Bm1
     refine⟨fun x w'=>w1=w'/\∃n:Nat,x=((p+n:Nat):Int)/\n<=(c::l').length/\∀i (h:i<(c::l').length),i<n->A8 (c::l')[i]=true,fun x _=>s.length-x.toNat,⟨rfl,0,rfl,Nat.zero_le _,fun _ _ h=>absurd h (Nat.not_lt_zero _)⟩,?_⟩
     rintro _ _ _ ⟨rfl,n,rfl,hn,Awn⟩
     refine⟨fun x w'=>w1=w'/\(x=true->∃h:n<(c::l').length,A8 (c::l')[n]=true)/\(x=false->∀h:n<(c::l').length,A8 (c::l')[n]=false),?_,?_⟩
     ·refine Ag (fun hx=> ?_) fun hx=> ?_
      ·have hlt:n<(c::l').length:=by simp at hx;omega
       refine⟨by omega,Aa (Lx _ (UInt8.toNat_lt _) w1) ?_⟩
       rintro _ _ ⟨rfl,rfl⟩
       rw [Int.toNat_natCast,←hgl n hlt,getD_eq _ _ hlt]
       refine⟨_,rfl,Ag (fun hl1=> ?_) fun hl1=> ?_⟩
       ·exact⟨rfl,fun _=>⟨hlt,by simp only [A8,N2,hl1,Bool.true_or]⟩,fun h=>by cases h⟩
       ·refine⟨by omega,Aa (Mt _ w1) ?_⟩
        rintro _ _ ⟨rfl,rfl⟩
        exact⟨_,rfl,rfl,fun h=>⟨hlt,by simp only [A8,N2,hl1,h,Bool.or_true]⟩,fun h _=>by simp only [A8,N2,hl1,h,Bool.or_self]⟩
      ·exact⟨rfl,fun h=>(by cases h),fun _ h=>by simp at hx;omega⟩
     ·rintro _ x _ ⟨rfl,h1,h2⟩
      refine Ag (fun hx=> ?_) fun hx=> ?_
      ·obtain⟨hlt,hdn⟩:=h1 hx
       rw [A1 (by omega) (by omega)]
       refine⟨⟨rfl,n+1,by omega,by omega,fun i h hi=> ?_⟩,by dsimp only;omega⟩
       rcases Nat.lt_or_ge i n with h'|h'
       ·exact Awn i h h'
       ·obtain rfl:i=n:=by omega
        exact hdn
      ·have htw:=Hm A8 (c::l') n Awn (h2 hx)
       have htl:((c::l').takeWhile A8).length=n:=by rw [htw,List.length_take];omega
       have htk:Lm (c::l') p=if((c::l').takeWhile A8).length>16 then(Tok.zero,p,5)else(⟨if decide ((c::l').takeWhile A8∈words)then 3 else 1,(c::l').takeWhile A8,0,p⟩,p+((c::l').takeWhile A8).length,0):=by
        rw [Gn,if_pos Bc2]
       rw [htl]at htk
       have Chs:(s.take ((p+n:Nat):Int).toNat).drop p=(c::l').takeWhile A8:=by rw [Int.toNat_natCast,Ry,hl,htw]
       rw [Chs,A1 (n:=((p+n:Nat):Int)-(p:Int)) (by omega) (by omega)]
       refine Ag (fun h16=> ?_) fun h16=> ?_
       ·rw [htk,if_pos (by simp at h16;omega)]
        refine⟨o.wr 0 rfl rfl,fun w2 hw2=> ?_⟩
        have o:=o.Aym 0 hw2 rfl
        exact⟨_,_,_,_,_,_,(o.at 0 rfl).whole,rfl,o.done⟩
       ·rw [htk,if_neg (by simp at h16;omega)]
        refine⟨fun kind w'=>kind=(if decide ((c::l').takeWhile A8∈words)then 3 else 1)/\Own w.heap.size w w' [(b,Alh (Tok.zero,0,0))],⟨fun x w'=>x=decide ((c::l').takeWhile A8∈words)/\Own w.heap.size w w' [(b,Alh (Tok.zero,0,0))],?_,?_⟩,?_⟩
        ·intro w17 Ayo
         have o:=o.drew Ayo
         refine⟨by omega,Aa (V9 w17) ?_⟩
         rintro _ w18 ⟨lb,rfl,Awy,he⟩
         have o:=o.ext he
         refine⟨_,_,_,rfl,Aa (Agp Ve (by decide) _ 18 _ w18 Awy) ?_⟩
         rintro _ _ ⟨rfl,rfl⟩
         exact⟨_,rfl,Y8 _,o⟩
        ·rintro _ x w20 ⟨rfl,o⟩
         refine Ag (fun hx=> ?_) fun hx=> ?_
         ·exact⟨by rw [hx];rfl,o⟩
         ·exact⟨by rw [hx];rfl,o⟩
        ·rintro _ kind w21 ⟨rfl,o⟩
         refine⟨by omega,o.wr 0 rfl rfl,fun w22 Azx=> ?_⟩
         have o:=o.Aym 0 Azx rfl
         exact⟨_,_,_,_,_,_,(o.at 0 rfl).whole,rfl,o.done⟩
    ·
     have Bc2:Hc c=false:=Bm1
     have htk:Lm (c::l') p=if G3 (c::l')=[]then(Tok.zero,p,10)else(⟨4,G3 (c::l'),0,p⟩,p+(G3 (c::l')).length,0):=by
      rw [Gn,if_neg (by rw [Bc2];simp),if_neg (by rw [Bc1];simp)]
     have hsa:=Ais (c::l')
     refine Aa (Agq w1) ?_
     rintro _ w23 ⟨lb,rfl,Awy,he⟩
     have o:=o.ext he
     refine⟨_,_,_,rfl,fun i w'=>Ae w' ⟨lb,0,none⟩ (Cg.map Xh)/\Own w.heap.size w w' [(b,Alh (Tok.zero,0,0))]/\∃n:Nat,i=n/\n<=25/\∀j (h:j<Cg.length),j<n->G2 Cg[j] (c::l')=false,fun i _=>25-i.toNat,⟨Awy,o,0,rfl,by omega,fun _ _ h=>absurd h (Nat.not_lt_zero _)⟩,?_⟩
     rintro _ _ w24 ⟨Awy,o,n,rfl,hn,Awn⟩
     have Cjr:Cg.length=25:=by decide
     refine Ag (fun hx=> ?_) fun hx=> ?_
     ·have hlt:n<25:=by simp at hx;omega
      have Aye:n<Cg.length:=by omega
      have Axa:∀w',Ae w' ⟨lb,0,none⟩ (Cg.map Xh)->w'.cell? ((⟨lb,0,none⟩:Addr).add ((n:Int).toNat*1))=some (.string (mkS Cg[n])):=by
       intro w' h
       have:=h n (by simpa using Aye)
       simp only [List.getElem_map,Xh]at this
       simpa using this
      have hlen:Cg[n].length<=2/\0<Cg[n].length:=by
       have:∀t∈Cg,t.length<=2/\0<t.length:=by decide
       exact this _ (List.getElem_mem Aye)
      refine⟨by omega,Cg[n],Axa _ Awy,fun x w'=>x=G2 Cg[n] (c::l')/\Ae w' ⟨lb,0,none⟩ (Cg.map Xh)/\Own w.heap.size w w' [(b,Alh (Tok.zero,0,0))],?_,?_⟩
      ·intro w25 Azp
       have o:=o.drew Azp
       have Awy:=(Ext.drew Azp).cells Awy
       have hww:IntKind.i64.wrap ((p:Int)+(Cg[n].length:Int))=((p+Cg[n].length:Nat):Int):=by rw [A1 (by omega) (by omega)];omega
       rw [hww]
       refine Ag (fun hf=> ?_) fun hf=> ?_
       ·refine⟨by simp at hf;omega,by omega,Cg[n],Axa _ Awy,?_,Awy,o⟩
        rw [Int.toNat_natCast,Ry,hl];rfl
       ·refine⟨?_,Awy,o⟩
        have Bm2:(c::l').length<Cg[n].length:=by simp at hf;omega
        unfold G2
        rw [List.take_of_length_le (by omega)]
        symm
        rw [beq_eq_false_iff_ne]
        intro e;rw [←e]at Bm2;omega
      ·rintro _ x w26 ⟨rfl,Awy,o⟩
       refine Ag (fun hp1=> ?_) fun hp1=> ?_
       ·have Bi7:=Ajy (G2 · (c::l')) Cg n Aye Awn hp1
        rw [Bi7]at hsa
        simp only at hsa
        have hww:IntKind.i64.wrap ((p:Int)+(Cg[n].length:Int))=((p+Cg[n].length:Nat):Int):=by rw [A1 (by omega) (by omega)];omega
        refine⟨by omega,Cg[n],Axa _ Awy,o.wr 0 rfl rfl,fun w2 hw2=> ?_⟩
        have o:=o.Aym 0 hw2 rfl
        refine⟨_,_,_,_,_,_,(o.at 0 rfl).whole,?_,o.done⟩
        rw [htk,hsa,if_neg (by intro e;rw [e]at hlen;simp at hlen),hww];rfl
       ·rw [A1 (by omega) (by omega)]
        refine⟨⟨Awy,o,n+1,by omega,by omega,fun j h hj=> ?_⟩,by dsimp only;omega⟩
        rcases Nat.lt_or_ge j n with h'|h'
        ·exact Awn j h h'
        ·obtain rfl:j=n:=by omega
         exact hp1
     ·have Cht:n=25:=by simp at hx;omega
      subst Cht
      have Bi7:=Adr (G2 · (c::l')) Cg fun j h=>Awn j h (by omega)
      rw [Bi7]at hsa
      simp only at hsa
      rw [htk,if_pos hsa]
      refine⟨o.wr 0 rfl rfl,fun w2 hw2=> ?_⟩
      have o:=o.Aym 0 hw2 rfl
      exact⟨_,_,_,_,_,_,(o.at 0 rfl).whole,rfl,o.done⟩
end Go.Proofs.YtcakelelfklhdaaGreatDoor
namespace Go.Tk
open Go.Vc
theorem Ali (l:List UInt8) (p:Nat) (h:(Lm l p).2.2=0) (hk:(Lm l p).1.kind≠0):p<(Lm l p).2.1/\(Lm l p).2.1<=p+l.length:=by
 cases l with
 |nil=>exact absurd rfl hk
 |cons c l=>
  rw [Gn]at*
  split at h
  ·rename_i hc
   split at h
   ·cases h
   ·rename_i h16
    simp only [hc,if_true,if_neg h16]
    have h1:=Go.Proofs.YtcakelelfklhdaaGreatDoor.T3 A8 (c::l)
    have h2:0<((c::l).takeWhile A8).length:=by
     rw [List.takeWhile_cons,if_pos (by simp only [A8,N2];simp only [Hc]at hc;rw [hc];rfl)];simp
    omega
  ·rename_i hc
   split at h
   ·rename_i hd
    split at h
    ·rename_i hq
     simp only [hc,hd,if_true,if_pos hq,Bool.false_eq_true,if_false]
     have h1:=Go.Proofs.YtcakelelfklhdaaGreatDoor.T3 Cz (c::l)
     have h2:0<((c::l).takeWhile Cz).length:=by rw [List.takeWhile_cons,if_pos hd];simp
     omega
    ·rename_i hq;exact absurd h hq
   ·rename_i hd
    split at h
    ·cases h
    ·rename_i hq
     simp only [hc,hd,if_neg hq,Bool.false_eq_true,if_false]
     have h1:=Go.Proofs.YtcakelelfklhdaaGreatDoor.Ale (c::l)
     have h2:0<(G3 (c::l)).length:=by cases hh:G3 (c::l)with|nil=>exact absurd hh hq|cons _ _=>simp
     omega
theorem Abv (s:List UInt8) (a:Nat) (ha:a<=s.length) (h:(Ct s a).2.2=0) (hk:(Ct s a).1.kind≠0):a<(Ct s a).2.1/\(Ct s a).2.1<=s.length:=by
 have e:Ct s (a:Int)=Lm (s.drop (a+Dl false (s.drop a))) (a+Dl false (s.drop a)):=by
  unfold Ct;rw [if_neg (by omega),Int.toNat_natCast]
 rw [e]at h hk⊢
 have hb:=Qg false (s.drop a)
 have:=Ali _ _ h hk
 simp only [List.length_drop]at hb this
 omega
def Fa (s:List UInt8):Nat->Nat->List Tok->List Tok×Int×Int
 |0,_,acc=>(acc,0,0)
 |f+1,a,acc=>
  if(Ct s a).2.2≠0 then([],(Ct s a).2.1,(Ct s a).2.2)
  else if(Ct s a).1.kind=0 then(acc++[(Ct s a).1],(Ct s a).1.at_,0)
  else Fa s f (Ct s a).2.1 (acc++[(Ct s a).1])
def Ly (s:List UInt8):List Tok×Int×Int:=if s.length>65536 then([],0,5)else Fa s (s.length+1) 0 []
def Ba (s:List UInt8):Bool:=
 match s with
 |[]=>false
 |c::l=>decide ((c::l).length<=16)&&(Hc c&&((c::l).all A8&& !decide ((c::l)∈words)))
theorem Mg (c:UInt8) (l:List UInt8):Ba (c::l)=(decide ((c::l).length<=16)&&(Hc c&&((c::l).all A8&& !decide ((c::l)∈words)))):=rfl
end Go.Tk
namespace Go.Tm
open Go.Vc Go.Tk
structure Nd where
 op:Int
 name:List UInt8
 n:Int
 kids:Int
 at_:Int
 deriving DecidableEq
structure Res where
 l:List Nd
 at_:Nat
 e:Int
def T (toks:List Tok) (p:Nat):Tok:=toks.getD p Tok.zero
def sgs:List (List UInt8):=[[43],[45],[42],[47],[37],[61,61],[33,61],[60],[60,61],[62],[62,61],[38,38],[124,124]]
def idx (s:List UInt8):List (List UInt8)->Nat->Int
 |[],_=>0
 |x::l,i=>if x=s then(5+i:Nat)else idx s l (i+1)
def Jg (s:List UInt8):Int:=idx s sgs 0
def B4 (op:Int):Nat:=
 if op=17 then 1 else if op=16 then 2 else if 10<=op/\op<=15 then 3 else if op=5\/op=6 then 4 else if 7<=op/\op<=9 then 5 else if op=3\/op=4 then 6 else if op=1\/op=2 then 7 else 0
theorem Ajz (s:List UInt8):Jg s=0\/(5<=Jg s/\Jg s<=17):=by
 suffices∀(l:List (List UInt8)) (i:Nat),idx s l i=0\/(5+(i:Int)<=idx s l i/\idx s l i<5+i+l.length) by
  have:=this sgs 0
  simp [sgs]at this
  unfold Jg sgs
  omega
 intro l
 induction l with
 |nil=>intro i;exact .inl rfl
 |cons x l ih=>
  intro i
  unfold idx
  split
  ·right;simp;omega
  ·rcases ih (i+1)with h|h
   ·exact .inl h
   ·right;simp at h⊢;omega
theorem Am9 (s:List UInt8):(Jg s=0/\B4 (Jg s)=0)\/(Jg s≠0/\1<=B4 (Jg s)/\B4 (Jg s)<=5):=by
 rcases Ajz s with h|⟨h1,h2⟩
 ·left;rw [h];exact⟨rfl,by decide⟩
 ·right
  refine⟨by omega,?_⟩
  unfold B4
  repeat' split
  all_goals omega
inductive Job
 |one (p d:Nat)
 |lev (n p d:Nat)
 |loop (n most d:Nat) (x:Res)
def B9 (toks:List Tok) (r1 rl:Nat->Nat->Option Res) (p d:Nat):Option Res:=
 if(T toks p).kind=2 then some ⟨[⟨1,[],(T toks p).n,0,(T toks p).at_⟩],p+1,0⟩
 else if(T toks p).kind=1 then some ⟨[⟨2,(T toks p).text,0,0,(T toks p).at_⟩],p+1,0⟩
 else if(T toks p).kind=4/\((T toks p).text=[45]\/(T toks p).text=[33])then
  if d=24 then some ⟨[],p,5⟩
  else(r1 (p+1) (d+1)).map fun x=>if x.e=0 then⟨⟨if(T toks p).text=[33]then 4 else 3,[],0,1,(T toks p).at_⟩::x.l,x.at_,0⟩else x
 else if(T toks p).kind=4/\(T toks p).text=[40]then
  if d=24 then some ⟨[],p,5⟩
  else(rl (p+1) (d+1)).map fun x=>if x.e≠0 then x else if(T toks x.at_).kind=4/\(T toks x.at_).text=[41]then⟨x.l,x.at_+1,0⟩else⟨[],x.at_,11⟩
 else some ⟨[],p,11⟩
def join (toks:List Tok) (x y:Res):Res:=⟨⟨Jg (T toks x.at_).text,[],0,2,(T toks x.at_).at_⟩::x.l++y.l,y.at_,0⟩
def Cp (toks:List Tok) (p:Nat):Nat:=if(T toks p).kind=4 then B4 (Jg (T toks p).text)else 0
theorem Aj0 (toks:List Tok) (p:Nat):Cp toks p<=5:=by
 unfold Cp
 split
 ·rcases Am9 (T toks p).text with h|h<;>omega
 ·omega
def R (toks:List Tok):Nat->Job->Option Res
 |0,_=>none
 |f+1,.one p d=>B9 toks (fun p d=>R toks f (.one p d)) (fun p d=>R toks f (.lev 1 p d)) p d
 |f+1,.lev n p d=>if n=6 then R toks f (.one p d)else(R toks f (.lev (n+1) p d)).bind fun x=>R toks f (.loop n 0 d x)
 |f+1,.loop n m d x=>if x.e≠0 then some x else if Cp toks x.at_=0\/Cp toks x.at_≠n then some x
  else(R toks f (.lev (n+1) (x.at_+1) d)).bind fun y=>if y.e≠0 then some y else if n=3 then some (join toks x y)else R toks f (.loop n m d (join toks x y))
def P (toks:List Tok):Nat->Job->Option Res
 |0,_=>none
 |f+1,.one p d=>B9 toks (fun p d=>P toks f (.one p d)) (fun p d=>P toks f (.lev 1 p d)) p d
 |f+1,.lev n p d=>(P toks f (.one p d)).bind fun x=>P toks f (.loop n 6 d x)
 |f+1,.loop n m d x=>if x.e≠0 then some x else if Cp toks x.at_=0\/Cp toks x.at_<n\/m<Cp toks x.at_ then some x
  else(P toks f (.lev (Cp toks x.at_+1) (x.at_+1) d)).bind fun y=>if y.e≠0 then some y else P toks f (.loop n (if Cp toks x.at_=3 then 2 else Cp toks x.at_) d (join toks x y))
theorem T4 {toks:List Tok} {r1 rl r1' rl':Nat->Nat->Option Res} (h1:∀p d r,r1 p d=some r->r1' p d=some r) (hl:∀p d r,rl p d=some r->rl' p d=some r) {p d:Nat} {r:Res}
 (h:B9 toks r1 rl p d=some r):B9 toks r1' rl' p d=some r:=by
 unfold B9 at*
 split at h
 ·rename_i c;rw [if_pos c];exact h
 ·rename_i c
  rw [if_neg c]
  split at h
  ·rename_i c;rw [if_pos c];exact h
  ·rename_i c
   rw [if_neg c]
   split at h
   ·rename_i c
    rw [if_pos c]
    split at h
    ·rename_i c;rw [if_pos c];exact h
    ·rename_i c
     rw [if_neg c]
     obtain⟨x,hx,rfl⟩:=Option.map_eq_some_iff.1 h
     exact Option.map_eq_some_iff.2 ⟨x,h1 _ _ _ hx,rfl⟩
   ·rename_i c
    rw [if_neg c]
    split at h
    ·rename_i c
     rw [if_pos c]
     split at h
     ·rename_i c;rw [if_pos c];exact h
     ·rename_i c
      rw [if_neg c]
      obtain⟨x,hx,rfl⟩:=Option.map_eq_some_iff.1 h
      exact Option.map_eq_some_iff.2 ⟨x,hl _ _ _ hx,rfl⟩
    ·rename_i c;rw [if_neg c];exact h
theorem Asz (toks:List Tok):∀(f:Nat) (j:Job) (r:Res),R toks f j=some r->R toks (f+1) j=some r:=by
 intro f
 induction f with
 |zero=>intro j r h;simp [R]at h
 |succ f ih=>
  intro j r h
  cases j with
  |one p d=>
   simp only [R]at h
   show B9 toks (fun p d=>R toks (f+1) (.one p d)) (fun p d=>R toks (f+1) (.lev 1 p d)) p d=some r
   exact T4 (fun p d r h=>ih _ _ h) (fun p d r h=>ih _ _ h) h
  |lev n p d=>
   rw [R]at h⊢
   split at h
   ·rename_i hn;rw [if_pos hn];exact ih _ _ h
   ·rename_i hn
    rw [if_neg hn]
    obtain⟨x,hx,hr⟩:=Option.bind_eq_some_iff.1 h
    exact Option.bind_eq_some_iff.2 ⟨x,ih _ _ hx,ih _ _ hr⟩
  |loop n m d x=>
   rw [R]at h⊢
   split at h
   ·rename_i he;rw [if_pos he];exact h
   ·rename_i he
    rw [if_neg he]
    split at h
    ·rename_i hm;rw [if_pos hm];exact h
    ·rename_i hm
     rw [if_neg hm]
     obtain⟨y,hy,hr⟩:=Option.bind_eq_some_iff.1 h
     refine Option.bind_eq_some_iff.2 ⟨y,ih _ _ hy,?_⟩
     split at hr
     ·rename_i hye;rw [if_pos hye];exact hr
     ·rename_i hye
      rw [if_neg hye]
      split at hr
      ·rename_i h3;rw [if_pos h3];exact hr
      ·rename_i h3;rw [if_neg h3];exact ih _ _ hr
theorem Sn (toks:List Tok) {f g:Nat} (hfg:f<=g) {j:Job} {r:Res} (h:R toks f j=some r):R toks g j=some r:=by
 induction g with
 |zero=>have:f=0:=by omega
        subst this;exact h
 |succ g ih=>
  rcases Nat.lt_or_ge g f with h1|h1
  ·have:f=g+1:=by omega
   subst this;exact h
  ·exact Asz _ _ _ _ (ih h1)
def chain (toks:List Tok) (g d:Nat):Nat->Nat->Res->Option Res
 |_,0,x=>some x
 |n,k+1,x=>(chain toks g d (n+1) k x).bind fun y=>R toks g (.loop n 0 d y)
theorem Ov (toks:List Tok) {f g d:Nat} (hfg:f<=g):∀(k n:Nat) {x r:Res},chain toks f d n k x=some r->chain toks g d n k x=some r
 |0,_,_,_,h=>h
 |k+1,n,x,r,h=>by
  obtain⟨y,hy,hr⟩:=Option.bind_eq_some_iff.1 h
  exact Option.bind_eq_some_iff.2 ⟨y,Ov toks hfg k (n+1) hy,Sn toks hfg hr⟩
theorem Qh (toks:List Tok) (g d:Nat):∀(a b n:Nat) (x:Res),chain toks g d n (a+b) x=(chain toks g d (n+a) b x).bind (chain toks g d n a)
 |0,b,n,x=>by
  simp only [Nat.zero_add,Nat.add_zero]
  cases chain toks g d n b x<;>rfl
 |a+1,b,n,x=>by
  rw [show a+1+b=(a+b)+1 by omega]
  show(chain toks g d (n+1) (a+b) x).bind _=_
  rw [Qh toks g d a b (n+1) x,show n+1+a=n+(a+1) by omega]
  cases chain toks g d (n+(a+1)) b x with
  |none=>rfl
  |some y=>rfl
theorem Mh (toks:List Tok) (g d:Nat) (x:Res):∀(k n:Nat),(x.e≠0\/Cp toks x.at_=0\/Cp toks x.at_<n\/n+k<=Cp toks x.at_)->chain toks (g+1) d n k x=some x
 |0,_,_=>rfl
 |k+1,n,h=>by
  show(chain toks (g+1) d (n+1) k x).bind _=_
  rw [Mh toks g d x k (n+1) (by omega)]
  show R toks (g+1) (.loop n 0 d x)=_
  rw [R]
  rcases h with h|h
  ·rw [if_pos h]
  ·split
   ·rfl
   ·rw [if_pos (by omega)]
theorem Abw (toks:List Tok) (g p d:Nat):∀(k n:Nat) (x r:Res),n+k=6->R toks g (.one p d)=some x->chain toks g d n k x=some r->∃g',R toks g' (.lev n p d)=some r
 |0,n,x,r,hn,h1,h2=>by
  cases h2
  exact⟨g+1,by rw [R,if_pos (by omega)];exact h1⟩
 |k+1,n,x,r,hn,h1,h2=>by
  obtain⟨y,hy,hr⟩:=Option.bind_eq_some_iff.1 h2
  obtain⟨g',h⟩:=Abw toks g p d k (n+1) x y (by omega) h1 hy
  refine⟨max g g'+1,?_⟩
  rw [R,if_neg (by omega)]
  exact Option.bind_eq_some_iff.2 ⟨y,Sn toks (Nat.le_max_right _ _) h,Sn toks (Nat.le_max_left _ _) hr⟩
theorem P_R (toks:List Tok):∀(f:Nat),(∀p d r,P toks f (.one p d)=some r->∃g,R toks g (.one p d)=some r)/\
 (∀n p d r,1<=n->n<=6->P toks f (.lev n p d)=some r->∃g,R toks g (.lev n p d)=some r)/\
 (∀n m d x r,1<=n->n<=6->m<=6->P toks f (.loop n m d x)=some r->∃g,chain toks g d n (min m 5+1-n) x=some r):=by
 intro f
 induction f with
 |zero=>exact⟨fun _ _ _ h=>by simp [P]at h,fun _ _ _ _ _ _ h=>by simp [P]at h,fun _ _ _ _ _ _ _ _ h=>by simp [P]at h⟩
 |succ f ih=>
  obtain⟨ih1,ih2,ih3⟩:=ih
  refine⟨fun p d r h=> ?_,fun n p d r hn hn6 h=> ?_,fun n m d x r hn hn6 hm h=> ?_⟩
  ·simp only [P]at h
   unfold B9 at h
   split at h
   ·rename_i hk;exact⟨1,by simp only [R];unfold B9;rw [if_pos hk];exact h⟩
   ·rename_i hk
    split at h
    ·rename_i hk1;exact⟨1,by simp only [R];unfold B9;rw [if_neg hk,if_pos hk1];exact h⟩
    ·rename_i hk1
     split at h
     ·rename_i hk2
      split at h
      ·rename_i hd;exact⟨1,by simp only [R];unfold B9;rw [if_neg hk,if_neg hk1,if_pos hk2,if_pos hd];exact h⟩
      ·rename_i hd
       obtain⟨x,hx,rfl⟩:=Option.map_eq_some_iff.1 h
       obtain⟨g,hg⟩:=ih1 _ _ _ hx
       exact⟨g+1,by simp only [R];unfold B9;rw [if_neg hk,if_neg hk1,if_pos hk2,if_neg hd];exact Option.map_eq_some_iff.2 ⟨x,hg,rfl⟩⟩
     ·rename_i hk2
      split at h
      ·rename_i hk3
       split at h
       ·rename_i hd;exact⟨1,by simp only [R];unfold B9;rw [if_neg hk,if_neg hk1,if_neg hk2,if_pos hk3,if_pos hd];exact h⟩
       ·rename_i hd
        obtain⟨x,hx,rfl⟩:=Option.map_eq_some_iff.1 h
        obtain⟨g,hg⟩:=ih2 _ _ _ _ (by omega) (by omega) hx
        exact⟨g+1,by simp only [R];unfold B9;rw [if_neg hk,if_neg hk1,if_neg hk2,if_pos hk3,if_neg hd];exact Option.map_eq_some_iff.2 ⟨x,hg,rfl⟩⟩
      ·rename_i hk3;exact⟨1,by simp only [R];unfold B9;rw [if_neg hk,if_neg hk1,if_neg hk2,if_neg hk3];exact h⟩
  ·rw [P]at h
   obtain⟨x,hx,hr⟩:=Option.bind_eq_some_iff.1 h
   obtain⟨g1,h1⟩:=ih1 _ _ _ hx
   obtain⟨g2,h2⟩:=ih3 _ _ _ _ _ hn hn6 (by omega) hr
   exact Abw toks (max g1 g2) p d (min 6 5+1-n) n x r (by omega) (Sn toks (Nat.le_max_left _ _) h1) (Ov toks (Nat.le_max_right _ _) _ _ h2)
  ·rw [P]at h
   split at h
   ·rename_i he
    cases h
    exact⟨1,Mh toks 0 d x _ _ (.inl he)⟩
   ·rename_i he
    have hml:=Aj0 toks x.at_
    split at h
    ·rename_i hm'
     cases h
     exact⟨1,Mh toks 0 d x _ _ (by omega)⟩
    ·rename_i hm'
     obtain⟨y,hy,hr⟩:=Option.bind_eq_some_iff.1 h
     obtain⟨g1,h1⟩:=ih2 _ _ _ _ (by omega) (by omega) hy
     have Bfb:∀g z,R toks (g+1) (.loop (Cp toks x.at_) 0 d x)=some z->chain toks (g+1) d n (Cp toks x.at_-n) z=some r->chain toks (g+1) d n (min m 5+1-n) x=some r:=by
      intro g z hz hc
      rw [show min m 5+1-n=(Cp toks x.at_-n)+((min m 5-Cp toks x.at_)+1) by omega,Qh,show n+(Cp toks x.at_-n)=Cp toks x.at_ by omega]
      refine Option.bind_eq_some_iff.2 ⟨z,?_,hc⟩
      show(chain toks (g+1) d (Cp toks x.at_+1) (min m 5-Cp toks x.at_) x).bind _=_
      rw [Mh toks g d x _ _ (by omega)]
      exact hz
     split at hr
     ·rename_i hye
      have hry:y=r:=Option.some.inj hr
      refine⟨g1+1,Bfb g1 y ?_ (by rw [←hry];exact Mh toks g1 d y _ _ (.inl hye))⟩
      rw [R,if_neg he,if_neg (by omega)]
      exact Option.bind_eq_some_iff.2 ⟨y,h1,by rw [if_pos hye]⟩
     ·rename_i hye
      obtain⟨g2,h2⟩:=ih3 _ _ _ _ _ hn hn6 (by split<;>omega) hr
      by_cases h3:Cp toks x.at_=3
      ·rw [if_pos h3]at h2
       refine⟨max g1 g2+1,Bfb (max g1 g2) (join toks x y) ?_ (Ov toks (f:=g2) (by omega) _ _ (by rw [h3];rw [show min 2 5+1-n=3-n by omega]at h2;exact h2))⟩
       rw [R,if_neg he,if_neg (by omega)]
       exact Option.bind_eq_some_iff.2 ⟨y,Sn toks (Nat.le_max_left _ _) h1,by rw [if_neg hye,if_pos h3]⟩
      ·rw [if_neg h3]at h2
       rw [show min (Cp toks x.at_) 5+1-n=(Cp toks x.at_-n)+1 by omega,Qh,show n+(Cp toks x.at_-n)=Cp toks x.at_ by omega]at h2
       obtain⟨z,hz,hc⟩:=Option.bind_eq_some_iff.1 h2
       have hz':R toks g2 (.loop (Cp toks x.at_) 0 d (join toks x y))=some z:=hz
       refine⟨max g1 g2+1,Bfb (max g1 g2) z ?_ (Ov toks (by omega) _ _ hc)⟩
       rw [R,if_neg he,if_neg (by omega)]
       exact Option.bind_eq_some_iff.2 ⟨y,Sn toks (Nat.le_max_left _ _) h1,by rw [if_neg hye,if_neg h3];exact Sn toks (Nat.le_max_right _ _) hz'⟩
end Go.Tm
namespace Go.Tm
open Go.Vc Go.Tk
theorem Asi {toks:List Tok} {p:Nat} (h:toks.length<=p):T toks p=Tok.zero:=by
 unfold T;rw [List.getD_eq_getElem?_getD,List.getElem?_eq_none h];rfl
theorem T5 {toks:List Tok} {p:Nat} (h:(T toks p).kind≠0):p<toks.length:=by
 rcases Nat.lt_or_ge p toks.length with h1|h1
 ·exact h1
 ·rw [Asi h1]at h;exact absurd rfl h
theorem Ad2 {toks:List Tok} {p:Nat} (h:Cp toks p≠0):p<toks.length:=by
 refine T5 fun e=>h ?_
 unfold Cp;rw [e];rfl
def Ok (toks:List Tok) (p:Nat) (r:Res):Prop:=(r.e=0->p<r.at_/\r.at_<=toks.length/\r.l.length<=r.at_-p)/\(r.e≠0->r.l=[])
theorem Y9 {toks:List Tok} {r1 rl:Nat->Nat->Option Res} (h1:∀p d r,r1 p d=some r->Ok toks p r) (hl:∀p d r,rl p d=some r->Ok toks p r) {p d:Nat} {r:Res}
 (h:B9 toks r1 rl p d=some r):Ok toks p r:=by
 unfold B9 at h
 split at h
 ·rename_i c
  have:=T5 (toks:=toks) (p:=p) (by rw [c];decide)
  cases h;exact⟨fun _=>⟨by simp,this,by simp⟩,fun h=>absurd rfl h⟩
 ·split at h
  ·rename_i c
   have:=T5 (toks:=toks) (p:=p) (by rw [c];decide)
   cases h;exact⟨fun _=>⟨by simp,this,by simp⟩,fun h=>absurd rfl h⟩
  ·split at h
   ·rename_i c
    have:=T5 (toks:=toks) (p:=p) (by rw [c.1];decide)
    split at h
    ·cases h;exact⟨fun h=>by simp at h,fun _=>rfl⟩
    ·obtain⟨x,hx,rfl⟩:=Option.map_eq_some_iff.1 h
     have hk:=h1 _ _ _ hx
     split
     ·rename_i he
      have:=hk.1 he
      exact⟨fun _=>⟨by simp;omega,by simp;omega,by simp;omega⟩,fun h=>absurd rfl h⟩
     ·rename_i he
      exact⟨fun h=>absurd h he,hk.2⟩
   ·split at h
    ·rename_i c
     have:=T5 (toks:=toks) (p:=p) (by rw [c.1];decide)
     split at h
     ·cases h;exact⟨fun h=>by simp at h,fun _=>rfl⟩
     ·obtain⟨x,hx,rfl⟩:=Option.map_eq_some_iff.1 h
      have hk:=hl _ _ _ hx
      split
      ·rename_i he
       exact⟨fun h=>absurd h he,hk.2⟩
      ·rename_i he
       have he:x.e=0:=by simpa using he
       have hh:=hk.1 he
       split
       ·rename_i c
        have:=T5 (toks:=toks) (p:=x.at_) (by rw [c.1];decide)
        exact⟨fun _=>⟨by simp;omega,by simp;omega,by simp;omega⟩,fun h=>absurd rfl h⟩
       ·exact⟨fun h=>by simp at h,fun _=>rfl⟩
    ·cases h;exact⟨fun h=>by simp at h,fun _=>rfl⟩
def OkL (toks:List Tok) (x r:Res):Prop:=(r.e=0->x.at_<=r.at_/\r.at_<=toks.length/\r.l.length<=x.l.length+(r.at_-x.at_))/\(r.e≠0->r.l=[])
theorem Aj1 {toks:List Tok} {x y:Res} (h:Ok toks (x.at_+1) y) (hy:y.e=0):x.at_<=(join toks x y).at_/\(join toks x y).at_<=toks.length/\(join toks x y).l.length<=x.l.length+((join toks x y).at_-x.at_):=by
 have:=h.1 hy
 simp only [join,List.length_append,List.length_cons]
 omega
theorem Aux (toks:List Tok):∀(f:Nat),(∀p d r,P toks f (.one p d)=some r->Ok toks p r)/\(∀n p d r,P toks f (.lev n p d)=some r->Ok toks p r)/\
 (∀n m d x r,(x.e=0->x.at_<=toks.length)->(x.e≠0->x.l=[])->P toks f (.loop n m d x)=some r->OkL toks x r/\(x.e≠0->r=x)):=by
 intro f
 induction f with
 |zero=>exact⟨fun _ _ _ h=>by simp [P]at h,fun _ _ _ _ h=>by simp [P]at h,fun _ _ _ _ _ _ _ h=>by simp [P]at h⟩
 |succ f ih=>
  obtain⟨ih1,ih2,ih3⟩:=ih
  refine⟨fun p d r h=> ?_,fun n p d r h=> ?_,fun n m d x r hx hx0 h=> ?_⟩
  ·simp only [P]at h
   exact Y9 (fun p d r h=>ih1 p d r h) (fun p d r h=>ih2 1 p d r h) h
  ·rw [P]at h
   obtain⟨x,hx,hr⟩:=Option.bind_eq_some_iff.1 h
   have hk:=ih1 _ _ _ hx
   have hl:=ih3 _ _ _ _ _ (fun h=>(hk.1 h).2.1) hk.2 hr
   by_cases he:x.e=0
   ·have:=hk.1 he
    refine⟨fun h0=> ?_,hl.1.2⟩
    have:=hl.1.1 h0
    omega
   ·rw [hl.2 he];exact hk
  ·rw [P]at h
   split at h
   ·rename_i he;cases h;exact⟨⟨fun h=>absurd h he,hx0⟩,fun _=>rfl⟩
   ·rename_i he
    have he:x.e=0:=by simpa using he
    split at h
    ·cases h;exact⟨⟨fun _=>⟨Nat.le_refl _,hx he,by omega⟩,fun h=>absurd he h⟩,fun h=>absurd he h⟩
    ·obtain⟨y,hy,hr⟩:=Option.bind_eq_some_iff.1 h
     have hk:=ih2 _ _ _ _ hy
     refine⟨?_,fun h=>absurd he h⟩
     split at hr
     ·rename_i hye
      cases hr
      exact⟨fun h=>absurd h hye,hk.2⟩
     ·rename_i hye
      have hye:y.e=0:=by simpa using hye
      have hj:=Aj1 hk hye
      have:=(ih3 _ _ _ _ _ (fun _=>hj.2.1) (fun h=>absurd rfl h) hr).1
      refine⟨fun h0=> ?_,this.2⟩
      have:=this.1 h0
      omega
theorem Ap0 (toks:List Tok):∀(f:Nat),(∀p d r,R toks f (.one p d)=some r->Ok toks p r)/\(∀n p d r,R toks f (.lev n p d)=some r->Ok toks p r)/\
 (∀n m d x r,(x.e=0->x.at_<=toks.length)->(x.e≠0->x.l=[])->R toks f (.loop n m d x)=some r->OkL toks x r/\(x.e≠0->r=x)):=by
 intro f
 induction f with
 |zero=>exact⟨fun _ _ _ h=>by simp [R]at h,fun _ _ _ _ h=>by simp [R]at h,fun _ _ _ _ _ _ _ h=>by simp [R]at h⟩
 |succ f ih=>
  obtain⟨ih1,ih2,ih3⟩:=ih
  refine⟨fun p d r h=> ?_,fun n p d r h=> ?_,fun n m d x r hx hx0 h=> ?_⟩
  ·simp only [R]at h
   exact Y9 (fun p d r h=>ih1 p d r h) (fun p d r h=>ih2 1 p d r h) h
  ·rw [R]at h
   split at h
   ·exact ih1 _ _ _ h
   ·obtain⟨x,hx,hr⟩:=Option.bind_eq_some_iff.1 h
    have hk:=ih2 _ _ _ _ hx
    have hl:=ih3 _ _ _ _ _ (fun h=>(hk.1 h).2.1) hk.2 hr
    by_cases he:x.e=0
    ·have:=hk.1 he
     refine⟨fun h0=> ?_,hl.1.2⟩
     have:=hl.1.1 h0
     omega
    ·rw [hl.2 he];exact hk
  ·rw [R]at h
   split at h
   ·rename_i he;cases h;exact⟨⟨fun h=>absurd h he,hx0⟩,fun _=>rfl⟩
   ·rename_i he
    have he:x.e=0:=by simpa using he
    split at h
    ·cases h;exact⟨⟨fun _=>⟨Nat.le_refl _,hx he,by omega⟩,fun h=>absurd he h⟩,fun h=>absurd he h⟩
    ·obtain⟨y,hy,hr⟩:=Option.bind_eq_some_iff.1 h
     have hk:=ih2 _ _ _ _ hy
     refine⟨?_,fun h=>absurd he h⟩
     split at hr
     ·rename_i hye
      cases hr
      exact⟨fun h=>absurd h hye,hk.2⟩
     ·rename_i hye
      have hye:y.e=0:=by simpa using hye
      have hj:=Aj1 hk hye
      split at hr
      ·cases hr
       exact⟨fun _=>hj,fun h=>absurd rfl h⟩
      ·have:=(ih3 _ _ _ _ _ (fun _=>hj.2.1) (fun h=>absurd rfl h) hr).1
       refine⟨fun h0=> ?_,this.2⟩
       have:=this.1 h0
       omega
theorem Ap1 (toks:List Tok):∀(f:Nat),(∀p d,3*(toks.length-p)+1<=f->∃r,P toks f (.one p d)=some r)/\(∀n p d,3*(toks.length-p)+2<=f->∃r,P toks f (.lev n p d)=some r)/\
 (∀n m d x,1<=f->(x.e=0->3*(toks.length-x.at_)+1<=f)->∃r,P toks f (.loop n m d x)=some r):=by
 intro f
 induction f with
 |zero=>exact⟨fun _ _ h=>by omega,fun _ _ _ h=>by omega,fun _ _ _ _ h=>by omega⟩
 |succ f ih=>
  obtain⟨ih1,ih2,ih3⟩:=ih
  obtain⟨k1,k2,k3⟩:=Aux toks f
  refine⟨fun p d h=> ?_,fun n p d h=> ?_,fun n m d x _ h=> ?_⟩
  ·simp only [P]
   unfold B9
   split
   ·exact⟨_,rfl⟩
   ·split
    ·exact⟨_,rfl⟩
    ·split
     ·rename_i c
      have:=T5 (toks:=toks) (p:=p) (by rw [c.1];decide)
      split
      ·exact⟨_,rfl⟩
      ·obtain⟨x,hx⟩:=ih1 (p+1) (d+1) (by omega)
       exact⟨_,Option.map_eq_some_iff.2 ⟨x,hx,rfl⟩⟩
     ·split
      ·rename_i c
       have:=T5 (toks:=toks) (p:=p) (by rw [c.1];decide)
       split
       ·exact⟨_,rfl⟩
       ·obtain⟨x,hx⟩:=ih2 1 (p+1) (d+1) (by omega)
        exact⟨_,Option.map_eq_some_iff.2 ⟨x,hx,rfl⟩⟩
      ·exact⟨_,rfl⟩
  ·rw [P]
   obtain⟨x,hx⟩:=ih1 p d (by omega)
   obtain⟨r,hr⟩:=ih3 n 6 d x (by omega) (fun he=>by have:=(k1 _ _ _ hx).1 he;omega)
   exact⟨r,by rw [hx];exact hr⟩
  ·rw [P]
   split
   ·exact⟨_,rfl⟩
   ·rename_i he
    have he:x.e=0:=by simpa using he
    have h:=h he
    split
    ·exact⟨_,rfl⟩
    ·rename_i hm
     have hlt:=Ad2 (toks:=toks) (p:=x.at_) (by omega)
     obtain⟨y,hy⟩:=ih2 (Cp toks x.at_+1) (x.at_+1) d (by omega)
     rw [hy]
     show∃r,(if y.e≠0 then some y else _)=some r
     split
     ·exact⟨_,rfl⟩
     ·rename_i hye
      have hye:y.e=0:=by simpa using hye
      have:=(k2 _ _ _ _ hy).1 hye
      exact ih3 _ _ _ _ (by omega) (fun _=>by simp only [join];omega)
end Go.Tm
namespace Go.Proofs.YtcakelelfklhdaaGreatDoor
open Go.Vc
def Ad3 (K:Value->World->Prop) (w:World):Prop:=
 ∀(b:Nat) (w1:World),b=w.heap.size->w1=w.alloc (.cells #[.string (mkS [124,124])] 9)->
 ∀(b1:Nat) (w2:World),b1=w1.heap.size->w2=w1.alloc (.cells #[.string (mkS [38,38])] 9)->
 ∀(b2:Nat) (w3:World),b2=w2.heap.size->w3=w2.alloc (.cells #[.string (mkS [61,61]),.string (mkS [33,61]),.string (mkS [60]),.string (mkS [60,61]),.string (mkS [62]),.string (mkS [62,61])] 9)->
 ∀(b3:Nat) (w4:World),b3=w3.heap.size->w4=w3.alloc (.cells #[.string (mkS [43]),.string (mkS [45])] 9)->
 ∀(b4:Nat) (w5:World),b4=w4.heap.size->w5=w4.alloc (.cells #[.string (mkS [42]),.string (mkS [47]),.string (mkS [37])] 9)->
 ∀(b5:Nat) (w6:World),b5=w5.heap.size->w6=w5.alloc (.cells #[.slice (some ⟨b,0,none⟩) 1 1,.slice (some ⟨b1,0,none⟩) 1 1,.slice (some ⟨b2,0,none⟩) 6 6,.slice (some ⟨b3,0,none⟩) 2 2,.slice (some ⟨b4,0,none⟩) 3 3] 74)->
 K (.slice (some ⟨b5,0,none⟩) 5 5) w6
theorem Ad4 (K:Value->World->Prop) (w:World) (h:Ad3 K w):Calls Tryz.prog 127 #[] w (Ret K):=
 Ao {} Tryz.func127 (by kernel_rfl) h
def Alj (s:List UInt8) (K:Value->World->Prop) (w:World):Prop:=
 ∀(b:Nat) (w1:World),b=w.heap.size->w1=w.alloc (.cells #[.string (mkS [43]),.string (mkS [45]),.string (mkS [42]),.string (mkS [47]),.string (mkS [37]),.string (mkS [61,61]),.string (mkS [33,61]),.string (mkS [60]),.string (mkS [60,61]),.string (mkS [62]),.string (mkS [62,61]),.string (mkS [38,38]),.string (mkS [124,124])] 9)->
 ∃(I:Int->World->Prop) (m:Int->World->Nat),I 0 w1/\
 ∀(_g:Nat->Value) (i:Int) (w2:World),I i w2->
 cond (decide (i<(13:Int)))
 (((0:Int)<=i/\i<(13:Int))/\
 ∃(x:List UInt8),w2.cell? ((⟨b,0,none⟩:Addr).add (i.toNat*1))=some (.string (mkS x))/\
 cond (x==s)
 (K (.int .i64 (IntKind.i64.wrap ((5:Int)+i))) w2)
 (I (IntKind.i64.wrap (i+1)) w2/\m (IntKind.i64.wrap (i+1)) w2<m i w2))
 (K (.int .i64 0) w2)
theorem Alk (s:List UInt8) (K:Value->World->Prop) (w:World) (h:Alj s K w):Calls Tryz.prog 125 #[.string (mkS s)] w (Ret K):=
 Ao { loops:=[(58,[(4,.int .i64)])] } Tryz.func125 (by kernel_rfl) h
def Ad5 (op:Int) (K:Value->World->Prop) (w:World):Prop:=
 ∀(_g:Nat->Value),
 cond (((op==1)||(op==2)))
 (K (.int .i64 7) w)
 (∀(_g1:Nat->Value),
 cond (((op==3)||(op==4)))
 (K (.int .i64 6) w)
 (Calls Tryz.prog 127 #[] w (Ret fun v w1=>
 ∃(lA:Option Addr) (lN:Nat) (lC:Nat),v= .slice lA lN lC/\
 ∃(I:Int->World->Prop) (m:Int->World->Nat),I 0 w1/\
 ∀(_g2:Nat->Value) (i:Int) (w2:World),I i w2->
 cond (decide (i<(lN:Int)))
 (∃(I1:Int->World->Prop) (m1:Int->World->Nat),I1 0 w2/\
 ∀(_g3:Nat->Value) (k:Int) (w3:World),I1 k w3->
 ((0:Int)<=i/\i<(lN:Int))/\
 A3 lA (fun a=>
 ∃(xA:Option Addr) (xN:Nat) (xC:Nat),w3.cell? (a.add (i.toNat*1))=some (.slice xA xN xC)/\
 cond (decide (k<(xN:Int)))
 (((0:Int)<=i/\i<(lN:Int))/\
 A3 lA (fun a1=>
 ∃(xA1:Option Addr) (xN1:Nat) (xC1:Nat),w3.cell? (a1.add (i.toNat*1))=some (.slice xA1 xN1 xC1)/\
 ((0:Int)<=k/\k<(xN1:Int))/\
 A3 xA1 (fun a2=>
 ∃(x:List UInt8),w3.cell? (a2.add (k.toNat*1))=some (.string (mkS x))/\
 Calls Tryz.prog 125 #[.string (mkS x)] w3 (Ret fun v1 w4=>
 ∃(x1:Int),v1= .int .i64 x1/\
 cond (x1==op)
 (K (.int .i64 (IntKind.i64.wrap (i+1))) w4)
 (I1 (IntKind.i64.wrap (k+1)) w4/\m1 (IntKind.i64.wrap (k+1)) w4<m1 k w3)))))
 (I (IntKind.i64.wrap (i+1)) w3/\m (IntKind.i64.wrap (i+1)) w3<m i w2)))
 (K (.int .i64 0) w2))))
theorem Ad6 (op:Int) (K:Value->World->Prop) (w:World) (h:Ad5 op K w):Calls Tryz.prog 126 #[.int .i64 op] w (Ret K):=
 Ao { loops:=[(250,[(4,.int .i64)]),(16018,[(5,.int .i64)])],Aw1:=[(12,[11]),(28,[17])] } Tryz.func126 (by kernel_rfl) h
end Go.Proofs.YtcakelelfklhdaaGreatDoor
namespace Go.Proofs.YtcakelelfklhdaaGreatDoor
open Go.Vc Go.Tk Go.Tm
theorem Ags (s:List UInt8) (w:World):Calls Tryz.prog 125 #[.string (mkS s)] w (Ret fun v w'=>v= .int .i64 (Jg s)/\Ext w w'):=by
 refine Alk _ _ _ ?_
 intro b w1 hb hw1
 have o:=(Own.start w).alloc hb hw1
 have Awy:∀k (hk:k<sgs.length),w1.cell? ((⟨b,0,none⟩:Addr).add (k*1))=some (.string (mkS sgs[k])):=by
  intro k hk
  have Awn:Ae w1 ⟨b,0,none⟩ (sgs.map Xh):=(o.at 0 rfl).whole
  have:=Awn k (by simpa using hk)
  rw [Nat.mul_one,this]
  simp [Xh]
 refine⟨fun i w'=>w1=w'/\∃k:Nat,i=k/\k<=13/\Jg s=idx s (sgs.drop k) k,fun i _=>13-i.toNat,⟨rfl,0,rfl,by omega,rfl⟩,?_⟩
 rintro _ _ _ ⟨rfl,k,rfl,hk,hop⟩
 refine Ag (fun hx=> ?_) fun hx=> ?_
 ·have hlt:k<13:=by simp at hx;omega
  have Aye:k<sgs.length:=hlt
  have hd:sgs.drop k=sgs[k]::sgs.drop (k+1):=List.drop_eq_getElem_cons Aye
  rw [hd]at hop
  rw [Int.toNat_natCast]
  refine⟨⟨by omega,by omega⟩,_,Awy k Aye,Ag (fun he=> ?_) fun he=> ?_⟩
  ·have he:sgs[k]=s:=by simpa using he
   refine⟨?_,o.done⟩
   rw [hop,idx,if_pos he,A1 (by omega) (by omega)]
   simp
  ·have he:sgs[k]≠s:=by simpa using he
   rw [A1 (by omega) (by omega)]
   refine⟨⟨rfl,k+1,by omega,by omega,?_⟩,by dsimp only;omega⟩
   rw [hop,idx,if_neg he]
 ·have hk:k=13:=by simp at hx;omega
  subst hk
  exact⟨by rw [hop];rfl,o.done⟩
def sgL:List (List (List UInt8)):=[[[124,124]],[[38,38]],[[61,61],[33,61],[60],[60,61],[62],[62,61]],[[43],[45]],[[42],[47],[37]]]
theorem Aiv (w:World):Calls Tryz.prog 127 #[] w (Ret fun v w'=>∃p,v= .slice (some p) 5 5/\(∀i (hi:i<sgL.length),∃q,w'.cell? (p.add (i*1))=some (.slice (some q) sgL[i].length sgL[i].length)/\Ae w' q (sgL[i].map Xh))/\Ext w w'):=by
 refine Ad4 _ _ ?_
 intro b w1 hb hw1 b1 w2 hb1 hw2 b2 w3 hb2 hw3 b3 w4 hb3 hw4 b4 w5 hb4 hw5 b5 w6 hb5 hw6
 have o:=((((((Own.start w).alloc hb hw1).alloc hb1 hw2).alloc hb2 hw3).alloc hb3 hw4).alloc hb4 hw5).alloc hb5 hw6
 refine⟨_,rfl,fun i hi=> ?_,o.done⟩
 match i,hi with
 |0,_=>exact⟨_,(o.at 0 rfl).whole 0 (by simp),(o.at 5 rfl).whole⟩
 |1,_=>exact⟨_,(o.at 0 rfl).whole 1 (by simp),(o.at 4 rfl).whole⟩
 |2,_=>exact⟨_,(o.at 0 rfl).whole 2 (by simp),(o.at 3 rfl).whole⟩
 |3,_=>exact⟨_,(o.at 0 rfl).whole 3 (by simp),(o.at 2 rfl).whole⟩
 |4,_=>exact⟨_,(o.at 0 rfl).whole 4 (by simp),(o.at 1 rfl).whole⟩
 |i+5,h=>exact absurd h (by show¬i+5<5;omega)
def opL:List (List Int):=sgL.map fun l=>l.map Jg
theorem All:∀i (hi:i<opL.length),∀x∈opL[i],B4 x=i+1:=by decide
theorem Ana (op:Int) (h1:op≠1/\op≠2) (h2:op≠3/\op≠4) (h:∀i (hi:i<opL.length),op∉opL[i]):B4 op=0:=by
 have h0:=h 0 (by decide)
 have h1':=h 1 (by decide)
 have h2':=h 2 (by decide)
 have h3':=h 3 (by decide)
 have h4':=h 4 (by decide)
 have e0:opL[0]'(by decide)=[17]:=by decide
 have e1:opL[1]'(by decide)=[16]:=by decide
 have e2:opL[2]'(by decide)=[10,11,12,13,14,15]:=by decide
 have e3:opL[3]'(by decide)=[5,6]:=by decide
 have e4:opL[4]'(by decide)=[7,8,9]:=by decide
 rw [e0]at h0;rw [e1]at h1';rw [e2]at h2';rw [e3]at h3';rw [e4]at h4'
 simp at h0 h1' h2' h3' h4'
 unfold B4
 repeat' split
 all_goals omega
theorem Agt (op:Int) (w:World):Calls Tryz.prog 126 #[.int .i64 op] w (Ret fun v w'=>v= .int .i64 (B4 op:Nat)/\Ext w w'):=by
 refine Ad6 _ _ _ ?_
 intro _
 refine Ag (fun h1=> ?_) fun h1=> ?_
 ·refine⟨?_,Ext.refl _⟩
  simp at h1
  rcases h1 with rfl|rfl<;>rfl
 ·simp at h1
  intro _
  refine Ag (fun h2=> ?_) fun h2=> ?_
  ·refine⟨?_,Ext.refl _⟩
   simp at h2
   rcases h2 with rfl|rfl<;>rfl
  ·simp at h2
   refine Aa (Aiv w) ?_
   rintro _ w1 ⟨p,rfl,hp,he1⟩
   have hlen:∀i (hi:i<sgL.length),(opL[i]'(by simpa [opL] using hi))=sgL[i].map Jg:=fun i hi=>by simp [opL]
   refine⟨_,_,_,rfl,fun i w'=>∃k:Nat,i=k/\k<=5/\(∀j (hj:j<opL.length),j<k->op∉opL[j])/\Ext w1 w',fun i _=>5-i.toNat,⟨0,rfl,by omega,fun _ _ h=>absurd h (by omega),Ext.refl _⟩,?_⟩
   rintro _ _ w2 ⟨k,rfl,hk,hno,he2⟩
   refine Ag (fun hx=> ?_) fun hx=> ?_
   ·have hlt:k<5:=by simp at hx;omega
    have Aye:k<sgL.length:=hlt
    have Chu:k<opL.length:=hlt
    obtain⟨q,hq,hqc⟩:=hp k Aye
    have hsl:=(by decide:∀i (hi:i<sgL.length),sgL[i].length<=6) k Aye
    refine⟨fun i w'=>∃j:Nat,i=j/\j<=sgL[k].length/\(∀z (hz:z<sgL[k].length),z<j->Jg sgL[k][z]≠op)/\Ext w1 w',fun i _=>sgL[k].length-i.toNat,⟨0,rfl,by omega,fun _ _ h=>absurd h (by omega),he2⟩,?_⟩
    rintro _ _ w3 ⟨j,rfl,hj,hnj,he3⟩
    rw [Int.toNat_natCast]
    refine⟨⟨by omega,by omega⟩,_,_,_,he3.cell hq,Ag (fun hy=> ?_) fun hy=> ?_⟩
    ·have hjl:j<sgL[k].length:=Int.ofNat_lt.1 (of_decide_eq_true hy)
     have hc:=he3.cell (hqc j (by rw [List.length_map];exact hjl))
     simp only [List.getElem_map,Xh]at hc
     rw [Int.toNat_natCast]
     refine⟨⟨by omega,by omega⟩,_,_,_,he3.cell hq,⟨by omega,by omega⟩,_,by rw [Nat.mul_one];exact hc,Aa (Ags _ w3) ?_⟩
     rintro _ w4 ⟨rfl,he4⟩
     refine⟨_,rfl,Ag (fun ho=> ?_) fun ho=> ?_⟩
     ·have ho:Jg sgL[k][j]=op:=eq_of_beq ho
      refine⟨?_,(he1.trans he3).trans he4⟩
      rw [A1 (by omega) (by omega),All k Chu op (by rw [hlen k Aye,←ho];exact List.mem_map_of_mem (List.getElem_mem hjl))]
      simp
     ·have ho:Jg sgL[k][j]≠op:=beq_eq_false_iff_ne.1 ho
      rw [A1 (by omega) (by omega)]
      refine⟨⟨j+1,by omega,by omega,fun z hz hzj=> ?_,he3.trans he4⟩,by dsimp only;omega⟩
      rcases Nat.lt_or_ge z j with h|h
      ·exact hnj z hz h
      ·obtain rfl:z=j:=by omega
       exact ho
    ·have hjl:j=sgL[k].length:=by have:=of_decide_eq_false hy;omega
     rw [A1 (by omega) (by omega)]
     refine⟨⟨k+1,by omega,by omega,fun z hz hzk=> ?_,he3⟩,by dsimp only;omega⟩
     rcases Nat.lt_or_ge z k with h|h
     ·exact hno z hz h
     ·obtain rfl:z=k:=by omega
      rw [hlen z Aye]
      intro hm
      obtain⟨y,hy1,hy2⟩:=List.mem_map.1 hm
      obtain⟨u,hu,rfl⟩:=List.getElem_of_mem hy1
      exact hnj u hu (by omega) hy2
   ·have hk:k=5:=by simp at hx;omega
    refine⟨?_,he1.trans he2⟩
    rw [Ana op h1 h2 (fun i hi=>hno i hi (by have:i<5:=hi;omega))]
    rfl
def Dx (toks:List Tok) (at_:Int):Res:=if at_<0 then⟨[],0,1⟩else(P toks (3*(toks.length-at_.toNat)+2) (.lev 1 at_.toNat 0)).getD ⟨[],0,0⟩
theorem Gf (toks:List Tok) (at_:Int) (h:¬at_<0):P toks (3*(toks.length-at_.toNat)+2) (.lev 1 at_.toNat 0)=some (Dx toks at_):=by
 obtain⟨r,hr⟩:=(Ap1 toks _).2.1 1 at_.toNat 0 (Nat.le_refl _)
 unfold Dx
 rw [if_neg h,hr]
 rfl
end Go.Proofs.YtcakelelfklhdaaGreatDoor
namespace Go.Proofs.YtcakelelfklhdaaGreatDoor
open Go.Vc Go.Tk
def T6 (s:List UInt8) (k:Nat):Bool:=Hc (s.getD k 0)||(decide (k≠0)&&Cz (s.getD k 0))
theorem Za (s:List UInt8):Ba s=(decide (s.length<=16)&&(decide (s≠[])&&(decide (∀k,k<s.length->T6 s k=true)&& !decide (s∈words)))):=by
 cases s with
 |nil=>rfl
 |cons c l=>
  rw [Mg]
  have Awn:(Hc c&&(c::l).all A8)=decide (∀k,k<(c::l).length->T6 (c::l) k=true):=by
   rw [Bool.eq_iff_iff]
   simp only [Bool.and_eq_true,decide_eq_true_iff,List.all_eq_true]
   constructor
   ·rintro⟨h0,h1⟩ k hk
    cases k with
    |zero=>simp [T6,h0]
    |succ k=>
     have:A8 ((c::l)[k+1])=true:=h1 _ (List.getElem_mem hk)
     rw [←getD_eq _ _ hk]at this
     simpa [T6,A8,N2,Hc,Cz] using this
   ·intro h
    refine⟨by simpa [T6] using h 0 (by simp),fun x hx=> ?_⟩
    obtain⟨k,hk,rfl⟩:=List.getElem_of_mem hx
    have:=h k hk
    rw [←getD_eq _ _ hk]
    simp only [T6,Bool.or_eq_true,Bool.and_eq_true]at this
    simp only [A8,N2,Bool.or_eq_true]
    rcases this with h|⟨_,h⟩
    ·exact .inl h
    ·exact .inr h
  rw [←Awn]
  simp [Bool.and_assoc]
theorem Aiw (s:List UInt8) (hs:s.length<2^62) (w:World):Calls Tryz.prog 46 #[.string (mkS s)] w (Ret fun v w'=>v= .bool (Ba s)/\Ext w w'):=by
 refine Agm _ _ _ ?_
 refine⟨fun i w'=>∃k:Nat,i=k/\k<=s.length/\(∀j,j<k->T6 s j=true)/\w=w',fun i _=>s.length-i.toNat,⟨0,rfl,Nat.zero_le _,fun _ h=>absurd h (by omega),rfl⟩,?_⟩
 rintro _ _ _ ⟨k,rfl,hk,Awn,rfl⟩
 refine Ag (fun hlt=> ?_) fun hge=> ?_
 ·have hlt:k<s.length:=by simpa using hlt
  refine⟨fun x w4=>x=(!T6 s k)/\w=w4,⟨⟨by omega,by omega⟩,?_⟩,?_⟩
  ·rw [Int.toNat_natCast]
   refine Aa (Lx _ (UInt8.toNat_lt _) w) ?_
   rintro _ _ ⟨rfl,rfl⟩
   refine⟨_,rfl,Ag (fun h1=> ?_) fun h1=> ?_⟩
   ·have h1:Hc (s.getD k 0)=false:=by simpa [Hc] using h1
    refine Ag (fun h0=> ?_) fun h0=> ?_
    ·have:k=0:=by simp at h0;omega
     subst this
     exact⟨by unfold T6;rw [h1];simp,rfl⟩
    ·have h0:k≠0:=by simp at h0;omega
     refine⟨⟨by omega,by omega⟩,Aa (Mt _ w) ?_⟩
     rintro _ _ ⟨rfl,rfl⟩
     exact⟨_,rfl,by unfold T6;rw [h1];simp [h0,Cz],rfl⟩
   ·have h1:Hc (s.getD k 0)=true:=by simpa [Hc] using h1
    exact⟨by unfold T6;rw [h1];simp,rfl⟩
  ·rintro _ _ _ ⟨rfl,rfl⟩
   refine Ag (fun hb=> ?_) fun hb=> ?_
   ·have hb:T6 s k=false:=by simpa using hb
    refine⟨?_,Ext.refl _⟩
    rw [Za,decide_eq_false (p:=∀k,k<s.length->T6 s k=true) (fun h=>by have:=h k hlt;rw [hb]at this;cases this)]
    simp
   ·have hb:T6 s k=true:=by simpa using hb
    rw [A1 (by omega) (by omega)]
    refine⟨⟨k+1,by omega,hlt,fun j hj=> ?_,rfl⟩,by dsimp only;omega⟩
    rcases Nat.lt_or_ge j k with h|h
    ·exact Awn j h
    ·rw [show j=k by omega];exact hb
 ·have hge:k=s.length:=by simp at hge;omega
  subst hge
  refine Ag (fun h1=> ?_) fun h1=> ?_
  ·have h1:s≠[]:=by intro e;subst e;simp at h1
   refine Ag (fun h2=> ?_) fun h2=> ?_
   ·have h2:s.length<=16:=by simp at h2;omega
    refine Aa (V9 w) ?_
    rintro _ w2 ⟨b,rfl,hc,he⟩
    refine⟨_,_,_,rfl,Aa (Agp Ve (by decide) _ _ s w2 hc) ?_⟩
    rintro _ _ ⟨rfl,rfl⟩
    refine⟨_,rfl,?_,he⟩
    rw [Za,Y8,decide_eq_true h2,decide_eq_true h1,decide_eq_true Awn]
    simp
   ·have h2:¬s.length<=16:=by simp at h2;omega
    exact⟨by rw [Za,decide_eq_false h2];simp,Ext.refl _⟩
  ·have h1:s=[]:=by simp at h1;exact List.length_eq_zero_iff.1 (by omega)
   subst h1
   exact⟨rfl,Ext.refl _⟩
end Go.Proofs.YtcakelelfklhdaaGreatDoor
namespace Go.Vc
open Go.RowKit (Below)
def E5:Nat->List (List UInt8×Value)->List MapEntry
 |_,[]=>[]
 |i,(k,v)::l=> { key:= .string (mkS k),val:=v,born:=i } ::E5 (i+1) l
def Wa (w:World) (b:Nat) (kvs:List (List UInt8×Value)):Prop:=w.heap[b]? =some (.map (E5 0 kvs).toArray kvs.length)
def Ap2 (kvs:List (List UInt8×Value)) (s:List UInt8):Option Value:=(kvs.find? (·.1==s)).map (·.2)
theorem Rz:∀(l:List (List UInt8×Value)) (i:Nat) (k:List UInt8) (v:Value),E5 i (l++[(k,v)])=E5 i l++[{ key:= .string (mkS k),val:=v,born:=i+l.length }]
 |[],i,k,v=>by simp [E5]
 |(a,b)::l,i,k,v=>by
  simp only [List.cons_append,E5,Rz l (i+1) k v,List.length_cons]
  rw [show i+1+l.length=i+(l.length+1) by omega]
theorem Agu (a b:List UInt8):Instr.sameNow .string (.string (mkS a)) (.string (mkS b))=some (b==a):=by
 have h:(mkS a==mkS b)=(b==a):=by
  have h2:(mkS a==mkS b)=((mkS a).data==(mkS b).data):=by rfl
  rw [h2,Bool.eq_iff_iff]
  simp [mkS]
  exact⟨fun h=>h.symm,fun h=>h.symm⟩
 simp only [Instr.sameNow,h]
theorem T7 (s:List UInt8):∀(l:List (List UInt8×Value)) (i j:Nat),(Ap2 l s=none->Instr.findNow .string (.string (mkS s)) (E5 j l) i=some none)/\(∀v,Ap2 l s=some v->∃k,Instr.findNow .string (.string (mkS s)) (E5 j l) i=some (some (k,v)))
 |[],i,j=>⟨fun _=>rfl,fun v h=>by cases h⟩
 |(a,b)::l,i,j=>by
  unfold E5 Instr.findNow
  simp only [Agu]
  unfold Ap2
  rw [List.find?_cons]
  cases h:(a==s)with
  |true=>exact⟨fun h=>(by cases h),fun v hv=>⟨i,by simp at hv;rw [hv]⟩⟩
  |false=>exact T7 s l (i+1) (j+1)
theorem Wa.new {w w':World} {b:Nat} (hb:b=w.heap.size) (hw:w'=w.alloc (.map #[] 0)):Wa w' b []:=by
 subst hb hw
 show(w.heap.push _)[w.heap.size]? =_
 simp [E5]
theorem Wa.add {P:Program} {w:World} {b:Nat} {kvs:List (List UInt8×Value)} (h:Wa w b kvs) {t kt et:TypeId} (ht:P.underlying t=some (.map kt et)) (hk:P.underlying kt=some .string) {s:List UInt8} {v:Value} (hs:Ap2 kvs s=none)
 {K:Unit->World->Prop} (hK:∀w',Wa w' b (kvs++[(s,v)])->w.grownBy w' (some b)->K () w'):Bl P (Instr.mapUpdate t (.map (some b)) (.string (mkS s)) v) K w:=by
 have hf:=(T7 s kvs 0 0).1 hs
 have hc:(Instr.checkKey false 10000 kt (.string (mkS s))).run P w= .ok () w:=MapKept.run_checkKey (k:= .string (mkS s)) hk (by simp [MapKept.IsKey]) false 9999
 refine⟨(),{ w with heap:=w.heap.setIfInBounds b (.map (E5 0 (kvs++[(s,v)])).toArray (kvs.length+1)) },?_,hK _ ?_ ?_⟩
 ·simp [Instr.mapUpdate,run_underlying ht,MapKept.run_getObj_map h,hc,MapKept.run_findKey hk hf,MapKept.run_setObj_map _ h,Result.andThen,Rz]
 ·have:=(MapKept.heap_set (o':= .map (E5 0 (kvs++[(s,v)])).toArray (kvs.length+1)) h).1
  unfold Wa
  simpa using this
 ·exact⟨rfl,rfl,rfl,by simp,fun k _ hr=>(MapKept.heap_set h).2 k (fun e=>hr (by rw [e]))⟩
end Go.Vc
