/- A part of the proof: conditions of the code, contracts, the plain law. -/
import Derived.Test.YthkbhlmijkegiaaGreatMem
namespace Go.Tk
open Go.Vc
def pU (n:Nat):Bool:=(97<=n&&n<=122)||(65<=n&&n<=90)||n==95
def pV (n:Nat):Bool:=48<=n&&n<=57
def sL (n:Nat):Bool:=pU n||pV n
def m9 (c:UInt8):Bool:=pU c.toNat
def BU (c:UInt8):Bool:=pV c.toNat
def Mi (c:UInt8):Bool:=sL c.toNat
def BV (n:Nat):Bool:=((n:Int)==95)||((decide ((P6 .u8 (n:Int) 32)>=97))&&(decide ((P6 .u8 (n:Int) 32)<=122)))
theorem Aou (n:Nat) (h:n<256):BV n=pU n:=by
 have:∀n:Fin 256,BV n.val=pU n.val:=by decide+kernel
 exact this ⟨n,h⟩
theorem Lc {α:Type} (p:α->Bool):∀(l:List α) (k:Nat),(∀i (h:i<l.length),i<k->p l[i]=true)->(∀h:k<l.length,p l[k]=false)->l.takeWhile p=l.take k
 |[],k,_,_=>by simp
 |a::l,0,_,h2=>by
  have:=h2 (by simp);simp at this;simp [this]
 |a::l,k+1,h1,h2=>by
  have h0:=h1 0 (by simp) (by omega);simp at h0;rw [List.takeWhile_cons,h0];simp only [if_true,List.take_succ_cons,List.cons.injEq,true_and];exact Lc p l k (fun i h hk=>by have:=h1 (i+1) (by simp;omega) (by omega);simpa using this) (fun h=>by have:=h2 (by simp;omega);simpa using this)
theorem getD_eq (l:List UInt8) (i:Nat) (h:i<l.length):l.getD i 0=l[i]:=by simp [List.getD,h]
theorem Qy:∀(a:List UInt8),Op.bytesLess a a=false
 |[]=>rfl
 |x::a=>by
  simp only [Op.bytesLess,Qy a];simp
theorem Tl:∀(a b c:List UInt8),Op.bytesLess a b=true->Op.bytesLess b c=true->Op.bytesLess a c=true
 |a,b,[],_,h2=>by cases b<;>simp [Op.bytesLess]at h2
 |[],_,_::_,_,_=>rfl
 |x::a,[],z::c,h1,_=>by simp [Op.bytesLess]at h1
 |x::a,y::b,z::c,h1,h2=>by
  simp only [Op.bytesLess,Bool.or_eq_true,decide_eq_true_eq,Bool.and_eq_true,beq_iff_eq]at h1 h2⊢;rcases h1 with h1|⟨rfl,h1⟩
  ·rcases h2 with h2|⟨rfl,h2⟩
   ·left;exact UInt8.lt_trans h1 h2
   ·left;exact h1
  ·rcases h2 with h2|⟨rfl,h2⟩
   ·left;exact h2
   ·right;exact⟨rfl,Tl a b c h1 h2⟩
def words:List (List UInt8):=[[97,102,116,101,114],[97,115,115,101,114,116],[99,97,115,101],[99,104,97,110],[101,108,115,101],[105,102],[109,97,105,110],[112,114,105,110,116],[112,114,111,99],[114,97,110,100,111,109],[115,101,108,101,99,116],[115,107,105,112],[115,108,101,101,112],[115,116,97,114,116],[115,116,111,112],[118,97,114],[119,104,101,110],[119,104,105,108,101]]
def LK (l:List (List UInt8)):Prop:=∀i j (hi:i<l.length) (hj:j<l.length),i<j->Op.bytesLess l[i] l[j]=true
theorem Aje:LK words:=by
 have h:∀i j:Fin 18,i<j->Op.bytesLess (words[i.val]!) (words[j.val]!)=true:=by decide+kernel
 intro i j hi hj lE;have:=h ⟨i,hi⟩ ⟨j,hj⟩ lE;simpa [hi,hj] using this
end Go.Tk
