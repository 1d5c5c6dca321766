/- What code does with memory, told in plain values: pieces that a call owns, data that stays, and how they pass from world to world. -/
import Derived.Test.YtpdccfgpbkagcaaGreatMemE
import Derived.Test.YtpdccfgpbkagcaaGreatVcI
import Derived.Test.YtpdccfgpbkagcaaGreatHeld
import Derived.ChangeKeysEq
import Derived.Lib.ConvBytes
import Derived.Lib.AppendStr
import Derived.Laws.BytesArg
open List (mem_of_getElem? getElem?_eq_getElem flatten_cons mem_of_mem_eraseIdx pairwise_cons getElem?_of_mem mem_append mem_cons)
open Nat (le_refl le_trans lt_of_lt_of_le succ_mul zero_add)
open Option (mem_toList)
namespace Go.Lv
open Go.Vc
open Go.RowKit (Below)
theorem _root_.Go.Vc.Ao.refl (m:List Nat) (w:World):Ao m w w:=⟨rfl,rfl,rfl,le_refl _,fun _ _ _=>rfl⟩
theorem _root_.Go.Vc.Ao.trans {m:List Nat} {a b c:World} (h:Ao m a b) (k:Ao m b c):Ao m a c:=
 ⟨k.os.trans h.os,k.tape.trans h.tape,k.output.trans h.output,le_trans h.size k.size,fun j hj hm=>(k.block j (lt_of_lt_of_le hj h.size) hm).trans (h.block j hj hm)⟩
theorem _root_.Go.Vc.Ao.mono {m m':List Nat} {a b:World} (h:Ao m a b) (hs:∀k∈m,k∈m'):Ao m' a b:=
 ⟨h.os,h.tape,h.output,h.size,fun j hj hm=>h.block j hj fun h=>hm (hs j h)⟩
theorem _root_.Go.Vc.Ao.zA {a b:World} (h:Ext a b):Ao [] a b:=⟨h.os,h.tape,h.output,h.size,fun j hj _=>Below.block h j hj⟩
theorem _root_.Go.Vc.Ao.ext {a b:World} (h:Ao [] a b):Ext a b:=⟨h.os,h.tape,h.output,h.size,fun j hj=>h.block j hj (by simp)⟩
theorem _root_.Go.Vc.Ao.grown {a b:World} {row:Option Nat} (h:a.grownBy b row):Ao row.toList a b:=⟨h.os,h.tape,h.output,h.size,fun j hj hm=>h.block j hj fun e=>hm (by simp [←e])⟩
theorem _root_.Go.Vc.Ao.by {a b:World} (h:Ao [] a b):a.grownBy b none:=⟨h.os,h.tape,h.output,h.size,fun j hj _=>h.block j hj (by simp)⟩
structure bm (m:List Nat) (w:World):Prop where
 lt:∀b∈m,b<w.heap.size
 off:∀b∈held.bs,b∉m
 uA:held.T w
theorem bm.aW {m:List Nat} {w w':World} (h:bm m w) (k:Ao m w w'):bm m w':=
 ⟨fun b hb=>lt_of_lt_of_le (h.lt b hb) k.size,h.off,held.OI w w' (fun b hb=>k.block b (held.lt w h.uA b hb) (h.off b hb)) h.uA⟩
theorem bm.nil {w:World} (h:held.T w):bm [] w:=⟨fun _ h=>(by cases h),fun _ _ h=>(by cases h),h⟩
structure DY (m:List Nat) (w w':World):Prop where
 size:w.heap.size<=w'.heap.size
 block:∀k o,w.heap[k]? =some o->k∉m->F9 o=true->w'.heap[k]? =some o
theorem _root_.Go.Vc.Ao.d {m:List Nat} {w w':World} (h:Ao m w w'):DY m w w':=⟨h.size,fun k o hk hm _=>by rw [h.block k (Array.getElem?_eq_some_iff.1 hk).1 hm];exact hk⟩
theorem _root_.Go.Vc.Grown.d {B:Nat} {w w':World} (h:Grown B w w') (m:List Nat):DY m w w':=⟨h.size,fun k o hk _ hc=>h.block k o hk (.inr hc)⟩
structure Step (m:List Nat) (w:World) (m':List Nat) (w':World):Prop where
 aW:DY m w w'
 sub:∀k∈m',k∈m\/w.heap.size<=k
theorem Step.trans {m m' OJ:List Nat} {w w' iV:World} (h:Step m w m' w') (k:Step m' w' OJ iV):Step m w OJ iV:=by
 refine⟨⟨le_trans h.aW.size k.aW.size,fun j o hj hm hc=>k.aW.block j o (h.aW.block j o hj hm hc) (fun iU=>(h.sub j iU).elim hm (fun hx=>by have:=(Array.getElem?_eq_some_iff.1 hj).1;omega)) hc⟩,fun j hj=> ?_⟩;rcases k.sub j hj with h1|h1
 ·exact h.sub j h1
 ·exact .inr (le_trans h.aW.size h1)
theorem Step.refl (m:List Nat) (w:World):Step m w m w:=⟨(Ao.refl _ _).d,fun _ h=> .inl h⟩
theorem Step.drop {m m':List Nat} (w:World) (h:∀k∈m',k∈m):Step m w m' w:=⟨(Ao.refl _ _).d,fun k hk=> .inl (h k hk)⟩
theorem Step.grow {B:Nat} {w w':World} (m:List Nat) (h:Grown B w w'):Step m w m w':=⟨h.d m,fun _ h=> .inl h⟩
theorem Arb {w:World} {p:Addr} {v:Value} (h:w.cell? p=some v):∃o,w.heap[p.block]? =some o/\F9 o=true:=by
 unfold World.cell? at h;split at h
 ·rename_i hh;exact⟨_,hh,rfl⟩
 ·cases h
theorem OK {w:World} {p:Addr} {xs:List Value} (h:Ac w p xs) (hx:xs≠[]):∃o,w.heap[p.block]? =some o/\F9 o=true:=by
 have:=Arb (h 0 (List.length_pos_iff.2 hx))
 rwa [Pv]at this
def G6 {α β:Type} (R:α->β->Prop):List α->List β->Prop
 |[],[]=>True|a::l,b::m=>R a b/\G6 R l m|_,_=>False
theorem G6.mono {α β:Type} {R R':α->β->Prop} (h:∀a b,R a b->R' a b):∀ {l:List α} {m:List β},G6 R l m->G6 R' l m
 |[],[],_=>trivial
 |_::_,_::_,⟨h1,h2⟩=>⟨h _ _ h1,G6.mono h h2⟩
theorem G6.length {α β:Type} {R:α->β->Prop} :∀ {l:List α} {m:List β},G6 R l m->l.length=m.length
 |[],[],_=>rfl
 |_::_,_::_,⟨_,h2⟩=>by simp [G6.length h2]
theorem G6.append {α β:Type} {R:α->β->Prop} :∀ {l l':List α} {m m':List β},G6 R l m->G6 R l' m'->G6 R (l++l') (m++m')
 |[],_,[],_,_,h=>h
 |_::_,_,_::_,_,⟨h1,h2⟩,h=>⟨h1,G6.append h2 h⟩
theorem G6.get {α β:Type} {R:α->β->Prop} {x:α} :∀ {l:List α} {m:List β} {i:Nat},G6 R l m->l[i]? =some x->∃y,m[i]? =some y/\R x y
 |[],[],i,_,h=>(by simp at h)
 |_::_,b::_,0,⟨h1,_⟩,h=>⟨b,rfl,by simp at h;exact h▸h1⟩
 |_::l,_::m,i+1,⟨_,h2⟩,h=>by
  have:=G6.get (l:=l) (m:=m) (i:=i) h2 (by simpa using h);simpa using this
theorem G6.take {α β:Type} {R:α->β->Prop} :∀ {l:List α} {m:List β} (i:Nat),G6 R l m->G6 R (l.take i) (m.take i)
 |_,_,0,_=>trivial
 |[],[],_+1,_=>trivial
 |_::_,_::_,_+1,⟨h1,h2⟩=>⟨h1,G6.take _ h2⟩
theorem G6.drop {α β:Type} {R:α->β->Prop} :∀ {l:List α} {m:List β} (i:Nat),G6 R l m->G6 R (l.drop i) (m.drop i)
 |_,_,0,h=>h
 |[],[],_+1,_=>trivial
 |_::l,_::m,i+1,⟨_,h2⟩=>G6.drop (l:=l) (m:=m) i h2
structure dz (α:Type) where
 size:Nat
 pos:0<size
 rep:List Nat->World->α->List Value->Prop
 len:∀ {m w x cs},rep m w x cs->cs.length=size
 one:∀ {m w x cs},rep m w x cs->∀u∈cs,u.oneCell'=true
 st:∀ {m w x cs m' w'},rep m w x cs->Step m w m' w'->rep m' w' x cs
def Bz (k:IntKind):dz Int:= { size:=1,pos:=by decide,rep:=fun _ _ x cs=>cs=[.int k x],len:=fun h=>by subst h;rfl,one:=fun h u hu=>by subst h;simp at hu;subst hu;rfl,st:=fun h _=>h }
def Ayy:dz Bool:= { size:=1,pos:=by decide,rep:=fun _ _ x cs=>cs=[.bool x],len:=fun h=>by subst h;rfl,one:=fun h u hu=>by subst h;simp at hu;subst hu;rfl,st:=fun h _=>h }
def Oc:dz (List UInt8):= { size:=1,pos:=by decide,rep:=fun _ _ x cs=>cs=[.string (aI x)],len:=fun h=>by subst h;rfl,one:=fun h u hu=>by subst h;simp at hu;subst hu;rfl,st:=fun h _=>h }
def F2 {α β:Type} (c:dz α) (d:dz β):dz (α×β) where
 size:=c.size+d.size
 pos:=by have:=c.pos;omega
 rep:=fun m w x cs=>∃a b,cs=a++b/\c.rep m w x.1 a/\d.rep m w x.2 b
 len:=by rintro m w x cs ⟨a,b,rfl,h1,h2⟩;simp [c.len h1,d.len h2]
 one:=by
  rintro m w x cs ⟨a,b,rfl,h1,h2⟩ u hu;rcases mem_append.1 hu with h|h
  ·exact c.one h1 u h
  ·exact d.one h2 u h
 st:=by rintro m w x cs m' w' ⟨a,b,rfl,h1,h2⟩ s;exact⟨a,b,rfl,c.st h1 s,d.st h2 s⟩
def pJ {α β:Type} (f:β->α) (c:dz α):dz β:= { size:=c.size,pos:=c.pos,rep:=fun m w x cs=>c.rep m w (f x) cs,len:=c.len,one:=c.one,st:=c.st }
theorem Hr {cZ:List (List Value)} {k:Nat} (h:∀cs∈cZ,cs.length=k):cZ.flatten.length=cZ.length*k:=by
 induction cZ with
 |nil=>simp
 |cons a l ih=>rw [flatten_cons,List.length_append,h a (by simp),ih (fun c hc=>h c (by simp [hc])),List.length_cons,succ_mul];omega
theorem Od {α:Type} (c:dz α) {m:List Nat} {w:World} :∀ {l:List α} {cZ:List (List Value)},G6 (c.rep m w) l cZ->∀cs∈cZ,cs.length=c.size
 |[],[],_,_,h=>(by cases h)
 |_::_,_::_,⟨h1,h2⟩,cs,h=>by
  cases h with
  |head=>exact c.len h1
  |tail _ h=>exact Od c h2 cs h
theorem OL {α:Type} (c:dz α) {m:List Nat} {w:World} :∀ {l:List α} {cZ:List (List Value)},G6 (c.rep m w) l cZ->∀u∈cZ.flatten,u.oneCell'=true
 |[],[],_,_,h=>(by simp at h)
 |_::_,_::_,⟨h1,h2⟩,u,h=>by
  rw [flatten_cons]at h;rcases mem_append.1 h with h|h
  ·exact c.one h1 u h
  ·exact OL c h2 u h
def El {α:Type} (c:dz α) (m:List Nat) (w:World) (l:List α) (xs:List Value):Prop:=∃cZ,xs=cZ.flatten/\G6 (c.rep m w) l cZ
theorem El.st {α:Type} {c:dz α} {m m':List Nat} {w w':World} {l:List α} {xs:List Value} (h:El c m w l xs) (s:Step m w m' w'):El c m' w' l xs:=by
 obtain⟨cZ,rfl,h⟩:=h;exact⟨cZ,rfl,h.mono fun _ _ h=>c.st h s⟩
theorem El.nil {α:Type} (c:dz α) (m:List Nat) (w:World):El c m w [] []:=⟨[],rfl,trivial⟩
theorem El.cons {α:Type} {c:dz α} {m:List Nat} {w:World} {x:α} {cs:List Value} {l:List α} {xs:List Value} (h:c.rep m w x cs) (k:El c m w l xs):El c m w (x::l) (cs++xs):=by
 obtain⟨cZ,rfl,k⟩:=k;exact⟨cs::cZ,rfl,h,k⟩
theorem El.app {α:Type} {c:dz α} {m:List Nat} {w:World} {l l':List α} {xs eJ:List Value} (h:El c m w l xs) (k:El c m w l' eJ):El c m w (l++l') (xs++eJ):=by
 obtain⟨cZ,rfl,h⟩:=h;obtain⟨Bqk,rfl,k⟩:=k;exact⟨cZ++Bqk,by simp,h.append k⟩
theorem El.len {α:Type} {c:dz α} {m:List Nat} {w:World} {l:List α} {xs:List Value} (h:El c m w l xs):xs.length=l.length*c.size:=by
 obtain⟨cZ,rfl,h⟩:=h;rw [Hr (Od c h),h.length]
theorem El.one {α:Type} {c:dz α} {m:List Nat} {w:World} {l:List α} {xs:List Value} (h:El c m w l xs):∀u∈xs,u.oneCell'=true:=by
 obtain⟨cZ,rfl,h⟩:=h;exact OL c h
theorem Apj {cZ:List (List Value)} {k:Nat} (h:∀cs∈cZ,cs.length=k):∀(i:Nat),cZ.flatten.take (i*k)=(cZ.take i).flatten:=by
 induction cZ with
 |nil=>intro i;simp
 |cons a l ih=>
  intro i;cases i with
  |zero=>simp
  |succ i=>
   have ha:=h a (by simp);rw [flatten_cons,List.take_succ_cons,flatten_cons,←ih (fun c hc=>h c (by simp [hc])),List.take_append,ha,succ_mul,Nat.add_sub_cancel,List.take_of_length_le (by omega)]
theorem Apk {cZ:List (List Value)} {k:Nat} (h:∀cs∈cZ,cs.length=k):∀(i:Nat),cZ.flatten.drop (i*k)=(cZ.drop i).flatten:=by
 induction cZ with
 |nil=>intro i;simp
 |cons a l ih=>
  intro i;cases i with
  |zero=>simp
  |succ i=>
   have ha:=h a (by simp);rw [flatten_cons,List.drop_succ_cons,←ih (fun c hc=>h c (by simp [hc])),List.drop_append,ha,succ_mul,Nat.add_sub_cancel,List.drop_of_length_le (by omega)];simp
theorem El.take {α:Type} {c:dz α} {m:List Nat} {w:World} {l:List α} {xs:List Value} (h:El c m w l xs) (i:Nat):El c m w (l.take i) (xs.take (i*c.size)):=by
 obtain⟨cZ,rfl,h⟩:=h;exact⟨cZ.take i,Apj (Od c h) i,h.take i⟩
theorem El.drop {α:Type} {c:dz α} {m:List Nat} {w:World} {l:List α} {xs:List Value} (h:El c m w l xs) (i:Nat):El c m w (l.drop i) (xs.drop (i*c.size)):=by
 obtain⟨cZ,rfl,h⟩:=h;exact⟨cZ.drop i,Apk (Od c h) i,h.drop i⟩
theorem El.get {α:Type} {c:dz α} {m:List Nat} {w:World} {l:List α} {xs:List Value} (h:El c m w l xs) {i:Nat} {x:α} (hx:l[i]? =some x):∃cs ys zs,xs=ys++cs++zs/\ys.length=i*c.size/\c.rep m w x cs:=by
 obtain⟨cZ,rfl,h⟩:=h;obtain⟨cs,hc,hr⟩:=h.get hx;have hi:i<cZ.length:=(List.getElem?_eq_some_iff.1 hc).1;have ir:cZ[i]=cs:=(List.getElem?_eq_some_iff.1 hc).2;refine⟨cs,(cZ.take i).flatten,(cZ.drop (i+1)).flatten,?_,?_,hr⟩
 ·have:cZ=cZ.take i++([cs]++cZ.drop (i+1)):=by rw [←ir];simp
  conv=>lhs;rw [this]
  simp
 ·rw [Hr (k:=c.size) (fun cs ir=>Od c h cs (List.mem_of_mem_take ir)),List.length_take,Nat.min_eq_left (by omega)]
theorem Ac.sub {w:World} {p:Addr} {cs ys zs:List Value} (h:Ac w p (ys++cs++zs)) (hc:cs≠[]):Ac w (p.add ys.length) cs:=Ac.piece h hc
theorem Ac.part {w:World} {q:Addr} {cs p:List Value} (h:Ac w q cs) (off n:Nat) (hn:off+n<=cs.length) (hp:p=(cs.drop off).take n):Ac w (q.add off) p:=by
 by_cases bA:p=[]
 ·subst bA;intro i hi;exact absurd hi (Nat.not_lt_zero _)
 ·have h1:cs=cs.take off++p++(cs.drop off).drop n:=by rw [hp,List.append_assoc,List.take_append_drop,List.take_append_drop]
  rw [h1]at h;have h2:=Ac.sub h bA
  rwa [List.length_take,Nat.min_eq_left (by omega)]at h2
def aF {α:Type} (c:dz α) (m:List Nat) (w:World) (a:Option Addr) (l:List α):Prop:=l=[]\/∃p xs,a=some p/\p.block∉m/\Ac w p xs/\El c m w l xs
theorem Ac.lt {w:World} {p:Addr} {xs:List Value} (h:Ac w p xs) (hx:xs≠[]):p.block<w.heap.size:=by
 have:=OG (h 0 (List.length_pos_iff.2 hx))
 rwa [Pv]at this
theorem Ac.kept {w w':World} {p:Addr} {xs:List Value} (h:Ac w p xs) (hk:xs≠[]->w'.heap[p.block]? =w.heap[p.block]?):Ac w' p xs:=by
 intro i hi;have:=h i hi;have bA:xs≠[]:=by intro e;subst e;simp at hi
 unfold World.cell? at this⊢;rw [Pv]at this⊢;rw [hk bA];exact this
theorem aF.st {α:Type} {c:dz α} {m m':List Nat} {w w':World} {a:Option Addr} {l:List α} (h:aF c m w a l) (s:Step m w m' w'):aF c m' w' a l:=by
 rcases h with h|⟨p,xs,rfl,hp,hc,he⟩
 ·exact .inl h
 ·by_cases hx:xs=[]
  ·left;have:=he.len;rw [hx]at this;have hp:=c.pos;cases l with
   |nil=>rfl
   |cons a l=>
    exfalso;have h2:=Nat.mul_pos (Nat.succ_pos l.length) hp;rw [List.length_cons,List.length_nil]at this;rw [←this]at h2;exact Nat.lt_irrefl _ h2
  ·have aE:=Ac.lt hc hx;obtain⟨ob,h1,h2⟩:=OK hc hx;exact .inr ⟨p,xs,rfl,fun hm=>(s.sub _ hm).elim hp (by omega),Ac.kept hc fun _=>by rw [s.aW.block _ ob h1 hp h2,h1],he.st s⟩
def Qa (m:List Nat) (w:World) (q:Addr) (cs:List Value):Prop:=(q.block∉m/\∃o,w.heap[q.block]? =some o/\F9 o=true)/\Ac w q cs
theorem Qa.st {m m':List Nat} {w w':World} {q:Addr} {cs:List Value} (h:Qa m w q cs) (s:Step m w m' w'):Qa m' w' q cs:=by
 obtain⟨⟨hm,o,ho,hc⟩,h2⟩:=h;have aE:=(Array.getElem?_eq_some_iff.1 ho).1;have hk:=s.aW.block _ o ho hm hc;exact⟨⟨fun iU=>(s.sub _ iU).elim hm (by omega),o,hk,hc⟩,Ac.kept h2 fun _=>by rw [hk,ho]⟩
theorem Qa.held {m r:List Nat} {w u:World} {q:Addr} {cs:List Value} (h:Qa m w q cs) (hu:Ao r w u) (hr:∀b∈r,b∈m):Ac u q cs:=
 Ac.kept h.2 fun hx=>hu.block _ (Ac.lt h.2 hx) fun hm=>h.1.1 (hr _ hm)
theorem Ac.head {w:World} {q:Addr} {c:Value} {cs:List Value} (h:Ac w q (c::cs)):w.cell? q=some c:=by
 have:=h 0 (by simp);simpa [Addr.add] using this
theorem aF.nil {α:Type} (c:dz α) (m:List Nat) (w:World) (a:Option Addr):aF c m w a []:= .inl rfl
theorem aF.elem {α:Type} {c:dz α} {m:List Nat} {w:World} {a:Option Addr} {l:List α} (h:aF c m w a l) {i:Int} (hi:0<=i/\i<(l.length:Int)): ∃p x cs,a=some p/\l[i.toNat]? =some x/\Qa m w (p.add (i.toNat*c.size)) cs/\c.rep m w x cs:=by
 rcases h with rfl|⟨p,xs,rfl,hp,hc,he⟩
 ·simp at hi;omega
 ·have aE:i.toNat<l.length:=by omega
  obtain⟨cs,ys,zs,hx,hy,hr⟩:=he.get (getElem?_eq_getElem aE);subst hx;have bA:cs≠[]:=fun e=>by have:=c.len hr;rw [e]at this;have:=c.pos;simp at*;omega
  have dV:=Ac.sub hc bA;rw [hy]at dV;exact⟨p,_,cs,rfl,getElem?_eq_getElem aE,⟨⟨by rw [Pv];exact hp,OK dV bA⟩,dV⟩,hr⟩
def nL {α:Type} (c:dz α):dz (List α) where
 size:=1
 pos:=by decide
 rep:=fun m w l cs=>∃a cap,cs=[.slice a l.length cap]/\l.length<=cap/\aF c m w a l
 len:=by rintro m w x cs ⟨a,cap,rfl,_⟩;rfl
 one:=by rintro m w x cs ⟨a,cap,rfl,_⟩ u hu;simp at hu;subst hu;rfl
 st:=by rintro m w x cs m' w' ⟨a,cap,rfl,h1,h2⟩ s;exact⟨a,cap,rfl,h1,h2.st s⟩
inductive Pc where
 |box (b:Nat) (l:List Value)
 |row (e size:Nat) (a:Option Addr) (n c:Nat) (xs:List Value)
 |gm (a:Option Addr) (xs rest:List Value) (T:Nat) (fz:Nat×Nat)
 |raw (b:Nat) (ob:Obj)
def Wn (w:World) (a:Option Addr) (xs rest:List Value) (T:Nat) (fz:Nat×Nat):Prop:=(a=none/\xs=[])\/∃g,a=some ⟨g,0,none⟩/\w.heap[g]? =some (.cells ⟨xs++rest⟩ T fz)/\(fz=(0,0)\/xs.length<=fz.1)
def Pc.aY:Pc->Option Nat
 | .box b _=>some b| .row _ _ a _ _ _=>Vc.aY a| .gm a _ _ _ _=>Vc.aY a| .raw b _=>some b
def Pc.holds (w:World):Pc->Prop
 | .box b l=>cB w b l| .row e size a n c xs=>Rw w 0 e size a n c xs| .gm a xs rest T fz=>Wn w a xs rest T fz| .raw b ob=>w.heap[b]? =some ob/\F9 ob=true
theorem Pc.holds.lt {w:World} {p:Pc} (h:p.holds w) {b:Nat} (hb:p.aY=some b):b<w.heap.size:=by
 cases p with
 |box b' l=>cases hb;exact cB.lt h
 |row e size a n c xs=>exact(Rw.lt h b hb).2
 |gm a xs rest T fz=>
  rcases h with⟨rfl,_⟩|⟨g,rfl,hg,_⟩
  ·cases hb
  ·cases hb;exact(Array.getElem?_eq_some_iff.1 hg).1
 |raw b' ob=>cases hb;exact(Array.getElem?_eq_some_iff.1 h.1).1
theorem Pc.holds.kept {w w':World} {p:Pc} (h:p.holds w) (hk:∀b,p.aY=some b->w'.heap[b]? =w.heap[b]?):p.holds w':=by
 cases p with
 |box b l=>obtain⟨T,hT⟩:=h;exact⟨T,by rw [hk b rfl];exact hT⟩
 |row e size a n c xs=>exact Rw.kept h hk
 |gm a xs rest T fz=>
  rcases h with h|⟨g,rfl,hg,hf⟩
  ·exact .inl h
  ·exact .inr ⟨g,rfl,by rw [hk g rfl];exact hg,hf⟩
 |raw b ob=>exact⟨by rw [hk b rfl];exact h.1,h.2⟩
def ms:List Pc->List Nat->List Nat
 |[],m=>m|p::ps,m=>p.aY.toList++ms ps m
theorem Bj {ps:List Pc} {m:List Nat} {k:Nat} :k∈ms ps m↔(∃p∈ps,p.aY=some k)\/k∈m:=by
 induction ps with
 |nil=>simp [ms]
 |cons p ps ih=>
  simp only [ms,mem_append,ih,mem_toList,mem_cons];constructor
  ·rintro(h|⟨q,hq,h⟩|h)
   ·exact .inl ⟨p,.inl rfl,h⟩
   ·exact .inl ⟨q,.inr hq,h⟩
   ·exact .inr h
  ·rintro(⟨q,rfl|hq,h⟩|h)
   ·exact .inl h
   ·exact .inr (.inl ⟨q,hq,h⟩)
   ·exact .inr (.inr h)
theorem Pc.holds.cells {w:World} {p:Pc} (h:p.holds w) {b:Nat} (hb:p.aY=some b):∃o,w.heap[b]? =some o/\F9 o=true:=by
 cases p with
 |box b' l=>cases hb;obtain⟨T,hT,_⟩:=h;exact⟨_,hT,rfl⟩
 |row e size a n c xs=>
  rcases h.2 with⟨hv,_⟩|⟨g,cap,cur,hv,_,hh,_⟩
  ·cases hv;cases hb
  ·cases hv;cases hb;exact⟨_,hh,rfl⟩
 |gm a xs rest T fz=>
  rcases h with⟨rfl,_⟩|⟨g,rfl,hg,_⟩
  ·cases hb
  ·cases hb;exact⟨_,hg,rfl⟩
 |raw b' ob=>cases hb;exact⟨_,h.1,h.2⟩
structure Mem (n0:Nat) (rs m0:List Nat) (fr:List (List Nat×Nat×World)) (ds:List Nat) (w:World) (ps:List Pc):Prop where
 le:n0<=w.heap.size
 lt:∀b∈m0,b<n0
 aW:∀f∈fr,Lr f.1 f.2.1 f.2.2 w
 eN:∀f∈fr,f.2.1<=f.2.2.heap.size/\∀p∈ps,∀b,p.aY=some b->b∈f.1\/f.2.1<=b
 holds:∀p∈ps,p.holds w
 iw:∀p∈ps,∀b,p.aY=some b->b∈rs\/n0<=b
 ew:ps.Pairwise fun p q=>∀b,p.aY=some b->q.aY≠some b
 marks:Bi ds w/\∀D∈ds,n0<=D
section
variable {n0:Nat} {rs m0:List Nat} {fr:List (List Nat×Nat×World)} {ds:List Nat} {w w':World} {ps:List Pc}
theorem Lt (w:World) (n:Nat):Bi [] w/\∀D∈([]:List Nat),n<=D:=⟨⟨List.nodup_nil,by simp⟩,by simp⟩
theorem Mem.start (h:∀b∈m0,b<w.heap.size):Mem w.heap.size [] m0 [([],w.heap.size,w)] [] w []:=
 ⟨le_refl _,h,fun f hf=>by simp at hf;subst hf;exact Lr.refl _ _ _,fun f hf=>by simp at hf;subst hf;exact⟨le_refl _,fun _ h=>(by cases h)⟩,fun _ h=>(by cases h),fun _ h=>(by cases h),List.Pairwise.nil,Lt _ _⟩
theorem Mem.mlt (o:Mem n0 rs m0 fr ds w ps):∀b∈ms ps m0,b<w.heap.size:=by
 intro b hb;rcases Bj.1 hb with⟨p,hp,h⟩|h
 ·exact(o.holds p hp).lt h
 ·exact lt_of_lt_of_le (o.lt b h) o.le
theorem Mem.mo {w0:World} (o:Mem w0.heap.size rs m0 fr ds w ps) (hm:bm m0 w0) (hr:∀b∈rs,b∈m0) (hf:(rs,w0.heap.size,w0)∈fr):bm (ms ps m0) w where
 lt:=o.mlt
 off:=fun b hb iU=>by
  rcases Bj.1 iU with⟨p,hp,h⟩|h
  ·rcases o.iw p hp b h with h1|h1
   ·exact hm.off b hb (hr b h1)
   ·exact absurd (held.lt w0 hm.uA b hb) (Nat.not_lt.2 h1)
  ·exact hm.off b hb h
 uA:=held.OI w0 w (fun b hb=>(o.aW _ hf).kp.block b (held.lt w0 hm.uA b hb) (fun h=>hm.off b hb (hr b h))) hm.uA
theorem Mem.mn {w0:World} {fr:List (List Nat×Nat×World)} (o:Mem w0.heap.size [] m0 (([],w0.heap.size,w0)::fr) ds w ps) (hm:bm m0 w0):bm (ms ps m0) w:=o.mo hm (by simp) (.head _)
theorem Mem.mp {w0:World} {fr:List (List Nat×Nat×World)} (o:Mem w0.heap.size rs m0 ((rs,w0.heap.size,w0)::fr) ds w ps) (hm:bm m0 w0) (hr:∀b∈rs,b∈m0):bm (ms ps m0) w:=o.mo hm hr (.head _)
theorem Mem.done {w0:World} (o:Mem n0 rs m0 [(rs,w0.heap.size,w0)] ds w ps):Ao rs w0 w:=by
 have h:=o.aW _ (List.mem_cons_self);exact⟨h.kp.os,h.kp.tape,h.kp.output,h.kp.size,h.kp.block⟩
theorem Q4 {M l:List Nat} {B:Nat} {W:World} (h:Lr M B W w) (hB:B<=W.heap.size) (hK:Ao l w w') (hl:∀b∈l,(b∈M\/B<=b)/\∃o,w.heap[b]? =some o/\F9 o=true):Lr M B W w':=by
 refine⟨⟨hK.os.trans h.kp.os,hK.tape.trans h.kp.tape,hK.output.trans h.kp.output,le_trans h.kp.size hK.size,fun k hk hm=> ?_⟩,fun k ob hk ho hc=> ?_⟩
 ·rw [hK.block k (lt_of_lt_of_le hk (le_trans hB h.kp.size)) (fun gw=> ?_),h.kp.block k hk hm];rcases(hl k gw).1 with h1|h1
  ·exact hm h1
  ·omega
 ·have h2:=h.rest k ob hk ho hc;rw [hK.block k (Array.getElem?_eq_some_iff.1 h2).1 (fun gw=> ?_),h2];obtain⟨o',h3,h4⟩:=(hl k gw).2;rw [h2]at h3;cases h3
  rw [hc]at h4;cases h4
theorem Q5 {l:List Nat} (h:Bi ds w) (hK:Ao l w w') (hl:∀b∈l,∃o,w.heap[b]? =some o/\F9 o=true):Bi ds w':=
 ⟨h.1,fun D hD=>by
  have h2:=h.2 D hD;rw [hK.block D (Array.getElem?_eq_some_iff.1 h2).1 (fun gw=> ?_),h2];obtain⟨o',h3,h4⟩:=hl D gw;rw [h2]at h3;cases h3;cases h4⟩
theorem Mem.ext (o:Mem n0 rs m0 fr ds w ps) (e:Ao [] w w'):Mem n0 rs m0 fr ds w' ps:=
 ⟨le_trans o.le e.size,o.lt,fun f hf=>Q4 (o.aW f hf) (o.eN f hf).1 e (by simp),o.eN,fun p hp=>(o.holds p hp).kept fun b hb=>e.block b ((o.holds p hp).lt hb) (by simp),o.iw,o.ew,Q5 o.marks.1 e (by simp),o.marks.2⟩
theorem Mem.Bql (e:Ao [] w w'):Step (ms ps m0) w (ms ps m0) w':=⟨(e.mono (by simp)).d,fun _ h=> .inl h⟩
theorem Aq (h:w'=w.drew):Ao [] w w':=Ao.zA (.drew h)
theorem Bd {ob:Obj} (h:w'=w.alloc ob):Ao [] w w':=Ao.zA (.alloc h)
theorem Mem.push (o:Mem n0 rs m0 fr ds w ps) {b:Nat} {ob:Obj} (hb:b=w.heap.size) (e:w'=w.alloc ob) (p:Pc) (hp:p.aY=some b) (hh:p.holds w'):Mem n0 rs m0 fr ds w' (p::ps):=by
 have o':=o.ext (Bd e);refine⟨o'.le,o.lt,o'.aW,fun f hf=>⟨(o.eN f hf).1,fun q hq c hc=> ?_⟩,fun q hq=> ?_,fun q hq=> ?_,?_,o'.marks⟩
 ·cases hq with
  |head=>
   rw [hp]at hc;cases hc;have h1:=(o.aW f hf).kp.size;have h2:=(o.eN f hf).1;exact .inr (by omega)
  |tail _ hq=>exact(o.eN f hf).2 q hq c hc
 ·cases hq with
  |head=>exact hh
  |tail _ hq=>exact o'.holds q hq
 ·cases hq with
  |head=>intro c hc;rw [hp]at hc;cases hc;exact .inr (hb▸o.le)
  |tail _ hq=>exact o.iw q hq
 ·refine pairwise_cons.2 ⟨fun q hq c hc wU=> ?_,o.ew⟩;rw [hp]at hc;cases hc;have:=(o.holds q hq).lt wU;omega
theorem Mem.add (o:Mem n0 rs m0 fr ds w ps) (e:Ao [] w w') (p:Pc) (hp:p.aY=some w.heap.size) (hh:p.holds w'):Mem n0 rs m0 fr ds w' (p::ps):=by
 have o':=o.ext e;refine⟨o'.le,o.lt,o'.aW,fun f hf=>⟨(o.eN f hf).1,fun q hq c hc=> ?_⟩,fun q hq=> ?_,fun q hq=> ?_,?_,o'.marks⟩
 ·cases hq with
  |head=>
   rw [hp]at hc;cases hc;have h1:=(o.aW f hf).kp.size;have h2:=(o.eN f hf).1;exact .inr (by omega)
  |tail _ hq=>exact(o.eN f hf).2 q hq c hc
 ·cases hq with
  |head=>exact hh
  |tail _ hq=>exact o'.holds q hq
 ·cases hq with
  |head=>intro c hc;rw [hp]at hc;cases hc;exact .inr o.le
  |tail _ hq=>exact o.iw q hq
 ·refine pairwise_cons.2 ⟨fun q hq c hc wU=> ?_,o.ew⟩;rw [hp]at hc;cases hc;have:=(o.holds q hq).lt wU;omega
theorem Mem.DZ (e:Ao [] w w') (p:Pc) (hp:p.aY=some w.heap.size):Step (ms ps m0) w (ms (p::ps) m0) w':=
 ⟨(e.mono (by simp)).d,fun k hk=>by
   rcases Bj.1 hk with⟨q,hq,h⟩|h
   ·cases hq with
    |head=>rw [hp]at h;cases h;exact .inr (le_refl _)
    |tail _ hq=>exact .inl (Bj.2 (.inl ⟨q,hq,h⟩))
   ·exact .inl (Bj.2 (.inr h))⟩
theorem Mem.OM (o:Mem n0 rs m0 fr ds w ps) (e:Ao [] w w') (p:Pc) (hp:∀b,p.aY=some b->w.heap.size<=b) (hh:p.holds w'):Mem n0 rs m0 fr ds w' (p::ps):=by
 have o':=o.ext e;refine⟨o'.le,o.lt,o'.aW,fun f hf=>⟨(o.eN f hf).1,fun q hq c hc=> ?_⟩,fun q hq=> ?_,fun q hq=> ?_,?_,o'.marks⟩
 ·cases hq with
  |head=>
   have h1:=(o.aW f hf).kp.size;have h2:=(o.eN f hf).1;have h3:=hp c hc;exact .inr (by omega)
  |tail _ hq=>exact(o.eN f hf).2 q hq c hc
 ·cases hq with
  |head=>exact hh
  |tail _ hq=>exact o'.holds q hq
 ·cases hq with
  |head=>intro c hc;exact .inr (le_trans o.le (hp c hc))
  |tail _ hq=>exact o.iw q hq
 ·refine pairwise_cons.2 ⟨fun q hq c hc wU=> ?_,o.ew⟩;have:=(o.holds q hq).lt wU;have:=hp c hc;omega
theorem Mem.OO (e:Ao [] w w') (p:Pc) (hp:∀b,p.aY=some b->w.heap.size<=b):Step (ms ps m0) w (ms (p::ps) m0) w':=
 ⟨(e.mono (by simp)).d,fun k hk=>by
   rcases Bj.1 hk with⟨q,hq,h⟩|h
   ·cases hq with
    |head=>exact .inr (hp k h)
    |tail _ hq=>exact .inl (Bj.2 (.inl ⟨q,hq,h⟩))
   ·exact .inl (Bj.2 (.inr h))⟩
theorem Mem.Boj (k:Nat) {e size:Nat} {a:Option Addr} {n c:Nat} {xs:List Value} (hk:ps[k]? =some (.row e size a n c xs)):Step (ms ps m0) w ((Vc.aY a).toList++m0) w:=Step.drop w fun j hj=>by
 rcases mem_append.1 hj with h|h
 ·exact Bj.2 (.inl ⟨_,mem_of_getElem? hk,by rwa [mem_toList]at h⟩)
 ·exact Bj.2 (.inr h)
theorem Mem.box (o:Mem n0 rs m0 fr ds w ps) {b:Nat} {cs:Array Value} {T:TypeId} (hb:b=w.heap.size) (e:w'=w.alloc (.cells cs T)) (wQ:s6 cs.toList T:=by first|exact trivial|exact fun h k=>by first|rfl|(simp at h;done)|(simp [DX]at k;done)):Mem n0 rs m0 fr ds w' (.box b cs.toList::ps):=
 o.push hb e (.box b cs.toList) rfl (cB.new hb e wQ)
theorem Mem.OP {b:Nat} {cs:Array Value} {T:TypeId} (hb:b=w.heap.size) (e:w'=w.alloc (.cells cs T)):Step (ms ps m0) w (ms (.box b cs.toList::ps) m0) w':=
 ⟨((Bd e).mono (by simp)).d,fun k hk=>by
  simp only [ms,Pc.aY,Option.toList_some,List.singleton_append,mem_cons]at hk;rcases hk with rfl|hk
  ·exact .inr (hb▸le_refl _)
  ·exact .inl hk⟩
theorem Mem.lit (o:Mem n0 rs m0 fr ds w ps) {b:Nat} {cs:Array Value} {T:TypeId} (hb:b=w.heap.size) (e:w'=w.alloc (.cells cs T)) (size n:Nat) (hn:n<=maxLen) (hs:cs.size=n*size):Mem n0 rs m0 fr ds w' (.row T size (some ⟨b,0,none⟩) n n cs.toList::ps):=
 o.push hb e (.row T size (some ⟨b,0,none⟩) n n cs.toList) rfl (Rw.lit hb e (Nat.zero_le _) hn hs)
theorem Mem.Bqm {b:Nat} {cs:Array Value} {T:TypeId} (hb:b=w.heap.size) (e:w'=w.alloc (.cells cs T)) (size n:Nat):Step (ms ps m0) w (ms (.row T size (some ⟨b,0,none⟩) n n cs.toList::ps) m0) w':=Mem.OP (ps:=ps) (m0:=m0) (T:=T) (cs:=cs) hb e
theorem Mem.mM (o:Mem n0 rs m0 fr ds w ps) (e size:Nat):Mem n0 rs m0 fr ds w (.row e size none 0 0 []::ps):=by
 refine⟨o.le,o.lt,o.aW,fun f hf=>⟨(o.eN f hf).1,fun q hq c hc=> ?_⟩,fun q hq=> ?_,fun q hq=> ?_,pairwise_cons.2 ⟨fun q _ c hc=>(by cases hc),o.ew⟩,o.marks⟩
 ·cases hq with
  |head=>cases hc
  |tail _ hq=>exact(o.eN f hf).2 q hq c hc
 ·cases hq with
  |head=>exact Rw.nil w 0 e size
  |tail _ hq=>exact o.holds q hq
 ·cases hq with
  |head=>intro c hc;cases hc
  |tail _ hq=>exact o.iw q hq
theorem Mem.Bqn (e size:Nat):Step (ms ps m0) w (ms (.row e size none 0 0 []::ps) m0) w:=Step.drop w fun _ h=>h
theorem Mem.at (o:Mem n0 rs m0 fr ds w ps) (k:Nat) {b:Nat} {l:List Value} (hk:ps[k]? =some (.box b l)):cB w b l:=o.holds _ (mem_of_getElem? hk)
theorem Mem.rowAt (o:Mem n0 rs m0 fr ds w ps) (k:Nat) {e size:Nat} {a:Option Addr} {n c:Nat} {xs:List Value} (hk:ps[k]? =some (.row e size a n c xs)):Rw w 0 e size a n c xs:=o.holds _ (mem_of_getElem? hk)
theorem Mem.wr (o:Mem n0 rs m0 fr ds w ps) (k:Nat) {b i n:Nat} {l:List Value} (hk:ps[k]? =some (.box b l)) (hn:Nat.ble (i+n) l.length=true):Af w ⟨b,i,none⟩ n:=(o.at k hk).Bjj (Nat.le_of_ble_eq_true hn)
theorem Ka (hd:ps.Pairwise fun p q=>∀b,p.aY=some b->q.aY≠some b) {i j:Nat} {p q:Pc} (hi:ps[i]? =some p) (hj:ps[j]? =some q) (mN:i≠j) {b:Nat} (hp:p.aY=some b) (hq:q.aY=some b):False:=by
 obtain⟨cT,ec⟩:=List.getElem?_eq_some_iff.1 hi;obtain⟨zB,uB⟩:=List.getElem?_eq_some_iff.1 hj;have hd:=List.pairwise_iff_getElem.1 hd;rcases Nat.lt_or_gt_of_ne mN with h|h
 ·exact hd i j cT zB h b (by rw [ec];exact hp) (by rw [uB];exact hq)
 ·exact hd j i zB cT h b (by rw [uB];exact hq) (by rw [ec];exact hp)
theorem Mem.kL (o:Mem n0 rs m0 fr ds w ps) (k:Nat) {p p':Pc} (hk:ps[k]? =some p) (hK:Ao p.aY.toList w w') (hp:p'.holds w') (hb:∀b,p'.aY=some b->p.aY=some b\/w.heap.size<=b):Mem n0 rs m0 fr ds w' (ps.set k p'):=by
 have gG:=mem_of_getElem? hk;have gw:=(List.getElem?_eq_some_iff.1 hk).1;have key:∀i q,(ps.set k p')[i]? =some q->(i=k/\q=p')\/(i≠k/\ps[i]? =some q):=by
  intro i q h;rw [List.getElem?_set]at h;split at h
  ·rename_i e;subst e;simp at h;exact .inl ⟨rfl,h.symm⟩
  ·rename_i e;exact .inr ⟨fun h=>e h.symm,h⟩
 have lg:∀b∈p.aY.toList,∃o,w.heap[b]? =some o/\F9 o=true:=fun b hb=>(o.holds p gG).cells (by rwa [mem_toList]at hb)
 refine⟨le_trans o.le hK.size,o.lt,fun f hf=>Q4 (o.aW f hf) (o.eN f hf).1 hK (fun b hb=>⟨(o.eN f hf).2 p gG b (by rwa [mem_toList]at hb),lg b hb⟩),fun f hf=>⟨(o.eN f hf).1,fun q hq b qD=> ?_⟩,fun q hq=> ?_,fun q hq b qD=> ?_,?_,Q5 o.marks.1 hK lg,o.marks.2⟩
 ·obtain⟨i,hi⟩:=getElem?_of_mem hq;rcases key i q hi with⟨_,rfl⟩|⟨bA,hi⟩
  ·rcases hb b qD with h|h
   ·exact(o.eN f hf).2 p gG b h
   ·have h1:=(o.aW f hf).kp.size;have h2:=(o.eN f hf).1;exact .inr (by omega)
  ·exact(o.eN f hf).2 q (mem_of_getElem? hi) b qD
 ·obtain⟨i,hi⟩:=getElem?_of_mem hq;rcases key i q hi with⟨_,rfl⟩|⟨bA,hi⟩
  ·exact hp
  ·have uw:=mem_of_getElem? hi;refine(o.holds q uw).kept fun b hb=>hK.block b ((o.holds q uw).lt hb) fun hm=> ?_
   rw [mem_toList]at hm;exact Ka o.ew hi hk bA hb hm
 ·obtain⟨i,hi⟩:=getElem?_of_mem hq;rcases key i q hi with⟨_,rfl⟩|⟨bA,hi⟩
  ·rcases hb b qD with h|h
   ·exact o.iw p gG b h
   ·exact .inr (le_trans o.le h)
  ·exact o.iw q (mem_of_getElem? hi) b qD
 ·rw [List.pairwise_iff_getElem];intro i j hi hj mN b mI pK;have gi:=getElem?_eq_getElem hi;have gj:=getElem?_eq_getElem hj;rcases key i _ gi with⟨e1,e2⟩|⟨bA,fh⟩<;>rcases key j _ gj with⟨e3,e4⟩|⟨Bqo,iX⟩
  ·omega
  ·rw [e2]at mI;rcases hb b mI with h|h
   ·exact Ka o.ew hk iX (Ne.symm Bqo) h pK
   ·have:=(o.holds _ (mem_of_getElem? iX)).lt pK;omega
  ·rw [e4]at pK;rcases hb b pK with h|h
   ·exact Ka o.ew fh hk bA mI h
   ·have:=(o.holds _ (mem_of_getElem? fh)).lt mI;omega
  ·exact Ka o.ew fh iX (by omega) mI pK
theorem Mem.pL (k:Nat) {p p':Pc} (hk:ps[k]? =some p) (hK:Ao p.aY.toList w w') (hb:∀b,p'.aY=some b->p.aY=some b\/w.heap.size<=b):Step (ms ps m0) w (ms (ps.set k p') m0) w':=by
 have gG:=mem_of_getElem? hk;refine⟨(hK.mono fun j hj=>Bj.2 (.inl ⟨p,gG,by rwa [mem_toList]at hj⟩)).d,fun j hj=> ?_⟩;rcases Bj.1 hj with⟨q,hq,h⟩|h
 ·rcases List.mem_or_eq_of_mem_set hq with hq|rfl
  ·exact .inl (Bj.2 (.inl ⟨q,hq,h⟩))
  ·rcases hb j h with h|h
   ·exact .inl (Bj.2 (.inl ⟨p,gG,h⟩))
   ·exact .inr h
 ·exact .inl (Bj.2 (.inr h))
theorem Za {b i:Nat} {v:Value} (e:w'=w.setCell ⟨b,i,none⟩ v):Ao (some b).toList w w':=Ao.grown (Kz e)
theorem Pw {b i:Nat} {vs:List Value} (e:w'=setCells w ⟨b,i,none⟩ vs):Ao (some b).toList w w':=by
 subst e;unfold setCells
 suffices∀(vs:List Value) (w:World) (j:Nat),Ao (some b).toList w (Bp w ⟨b,i,none⟩ j vs) from this vs w 0
 intro vs
 induction vs with
 |nil=>intro w j;exact Ao.refl _ _
 |cons v vs ih=>intro w j;simp only [Bp];rw [Bo];exact(Za rfl).trans (ih _ _)
theorem Mem.set (o:Mem n0 rs m0 fr ds w ps) (k:Nat) {b i:Nat} {l:List Value} {v:Value} (e:w'=w.setCell ⟨b,i,none⟩ v) (hk:ps[k]? =some (.box b l)) (s8:Gv v:=by first|exact trivial|exact rfl):Mem n0 rs m0 fr ds w' (ps.set k (.box b (l.set i v))):=
 o.kL k hk (Za e) ((o.at k hk).set e s8) fun _ h=> .inl h
theorem Mem.Bqp (k:Nat) {b i:Nat} {l:List Value} {v:Value} (e:w'=w.setCell ⟨b,i,none⟩ v) (hk:ps[k]? =some (.box b l)):Step (ms ps m0) w (ms (ps.set k (.box b (l.set i v))) m0) w':=
 Mem.pL k hk (Za e) fun _ h=> .inl h
theorem Mem.l9 (o:Mem n0 rs m0 fr ds w ps) (k:Nat) {b i:Nat} {l vs:List Value} (e:w'=setCells w ⟨b,i,none⟩ vs) (hk:ps[k]? =some (.box b l)) (wR:s7 vs:=by first|exact trivial|exact rfl):Mem n0 rs m0 fr ds w' (ps.set k (.box b (over l i vs))):=
 o.kL k hk (Pw e) ((o.at k hk).l9 e wR) fun _ h=> .inl h
theorem Mem.Bol (k:Nat) {b i:Nat} {l vs:List Value} (e:w'=setCells w ⟨b,i,none⟩ vs) (hk:ps[k]? =some (.box b l)):Step (ms ps m0) w (ms (ps.set k (.box b (over l i vs))) m0) w':=
 Mem.pL k hk (Pw e) fun _ h=> .inl h
theorem Mem.call (o:Mem n0 rs m0 fr ds w ps) (k:Nat) {b:Nat} {l l':List Value} (hK:Ao [b] w w') (hb:cB w' b l') (hk:ps[k]? =some (.box b l)):Mem n0 rs m0 fr ds w' (ps.set k (.box b l')):=
 o.kL k hk hK hb fun _ h=> .inl h
theorem Mem.Bom (k:Nat) {b:Nat} {l l':List Value} (hK:Ao [b] w w') (hk:ps[k]? =some (.box b l)):Step (ms ps m0) w (ms (ps.set k (.box b l')) m0) w':=
 Mem.pL k hk hK fun _ h=> .inl h
theorem Mem.wV (k:Nat) {b:Nat} {l:List Value} (hk:ps[k]? =some (.box b l)):b∈ms ps m0:=Bj.2 (.inl ⟨_,mem_of_getElem? hk,rfl⟩)
theorem Mem.d4:Step (ms ps m0) w m0 w:=Step.drop w fun _ h=>Bj.2 (.inr h)
theorem Mem.erase (o:Mem n0 rs m0 fr ds w ps) (k:Nat):Mem n0 rs m0 fr ds w (ps.eraseIdx k):=
 ⟨o.le,o.lt,o.aW,fun f hf=>⟨(o.eN f hf).1,fun p hp=>(o.eN f hf).2 p (mem_of_mem_eraseIdx hp)⟩,fun p hp=>o.holds p (mem_of_mem_eraseIdx hp),fun p hp=>o.iw p (mem_of_mem_eraseIdx hp),o.ew.sublist (List.eraseIdx_sublist ps k),o.marks⟩
theorem Mem.Bme (k:Nat):Step (ms ps m0) w (ms (ps.eraseIdx k) m0) w:=Step.drop w fun j hk=>by
 rcases Bj.1 hk with⟨p,hp,h⟩|h
 ·exact Bj.2 (.inl ⟨p,mem_of_mem_eraseIdx hp,h⟩)
 ·exact Bj.2 (.inr h)
theorem Mem.front (o:Mem n0 rs m0 fr ds w ps) (k:Nat) {p:Pc} (hk:ps[k]? =some p):Mem n0 rs m0 fr ds w (p::ps.eraseIdx k):=by
 have hp:=mem_of_getElem? hk;have dK:∀q∈p::ps.eraseIdx k,q∈ps:=fun q hq=>by
  rcases mem_cons.1 hq with rfl|h
  ·exact hp
  ·exact mem_of_mem_eraseIdx h
 refine⟨o.le,o.lt,o.aW,fun f hf=>⟨(o.eN f hf).1,fun q hq=>(o.eN f hf).2 q (dK q hq)⟩,fun q hq=>o.holds q (dK q hq),fun q hq=>o.iw q (dK q hq),pairwise_cons.2 ⟨fun q hq b h1 h2=> ?_,o.ew.sublist (List.eraseIdx_sublist ps k)⟩,o.marks⟩;obtain⟨i,hi⟩:=getElem?_of_mem hq;rw [List.getElem?_eraseIdx]at hi;split at hi
 ·exact Ka o.ew hi hk (by omega) h2 h1
 ·exact Ka o.ew hi hk (by omega) h2 h1
theorem Mem.Bmf (k:Nat) {p:Pc} (hk:ps[k]? =some p):Step (ms ps m0) w (ms (p::ps.eraseIdx k) m0) w:=Step.drop w fun j hj=>by
 rcases Bj.1 hj with⟨q,hq,h⟩|h
 ·rcases mem_cons.1 hq with rfl|h'
  ·exact Bj.2 (.inl ⟨q,mem_of_getElem? hk,h⟩)
  ·exact Bj.2 (.inl ⟨q,mem_of_mem_eraseIdx h',h⟩)
 ·exact Bj.2 (.inr h)
theorem Mem.D_ (o:Mem n0 rs m0 fr ds w ps):Mem n0 rs m0 fr [] w ps:=⟨o.le,o.lt,o.aW,o.eN,o.holds,o.iw,o.ew,Lt _ _⟩
theorem Mem.Bmg {es:List Nat} (o:Mem n0 rs m0 fr ds w ps) (h:Bi es w) (hg:∀D∈es,n0<=D):Mem n0 rs m0 fr es w ps:=⟨o.le,o.lt,o.aW,o.eN,o.holds,o.iw,o.ew,h,hg⟩
theorem Mem.OQ (o:Mem n0 rs m0 fr ds w ps) (k:Nat) {p:Pc} {b:Nat} (hk:ps[k]? =some p) (hp:p.aY=some b) (hr:b∉rs):b∉ms (ps.eraseIdx k) m0:=by
 intro hm;have gG:=mem_of_getElem? hk;rcases Bj.1 hm with⟨q,hq,h⟩|h
 ·obtain⟨i,hi⟩:=getElem?_of_mem hq;rw [List.getElem?_eraseIdx]at hi;split at hi
  ·exact Ka o.ew hi hk (by omega) h hp
  ·exact Ka o.ew hi hk (by omega) h hp
 ·rcases o.iw _ gG b hp with h2|h2
  ·exact hr h2
  ·have:=o.lt _ h;omega
theorem Mem.freeze (o:Mem n0 rs m0 fr ds w ps) (k:Nat) {e:Nat} {α:Type} {c:dz α} {a:Option Addr} {n cap:Nat} {xs:List Value} {l:List α} (hk:ps[k]? =some (.row e c.size a n cap xs)) (hr:∀b∈rs,b∉Vc.aY a) (he:El c (ms (ps.eraseIdx k) m0) w l xs):aF c (ms (ps.eraseIdx k) m0) w a l:=by
 have ik:=o.rowAt k hk;have gQ:=ik.sl;by_cases hl:l=[]
 ·exact .inl hl
 ·right;have hx:xs≠[]:=by
   intro h;have:=he.len;rw [h]at this;have hp:=c.pos;have h2:=List.length_pos_iff.2 hl;have h3:=Nat.mul_pos h2 hp;simp only [List.length_nil]at this;omega
  obtain⟨p,rfl,hc⟩:=gQ.wS hx;exact⟨p,xs,rfl,o.OQ k hk rfl (fun h=>hr _ h (by simp [Vc.aY])),hc,he⟩
theorem Mem.OS (o:Mem n0 rs m0 fr ds w ps) (k:Nat) {b:Nat} {l:List Value} (hk:ps[k]? =some (.box b l)) (hr:b∉rs):Qa (ms (ps.eraseIdx k) m0) w ⟨b,0,none⟩ l:=
 ⟨⟨o.OQ k hk rfl hr,(o.holds _ (mem_of_getElem? hk)).cells rfl⟩,(o.at k hk).whole⟩
theorem Mem.recv {b:Nat} {l:List Value} (hm:∀b∈m0,b<w.heap.size) (_:b∈m0) (hb:cB w b l):Mem w.heap.size [b] m0 [([b],w.heap.size,w)] [] w [.box b l]:=
 ⟨le_refl _,hm,fun f hf=>by simp at hf;subst hf;exact Lr.refl _ _ _,fun f hf=>by simp at hf;subst hf;exact⟨le_refl _,fun p hp c hc=>by simp at hp;subst hp;cases hc;exact .inl (by simp)⟩,
  fun p hp=>by simp at hp;subst hp;exact hb,fun p hp c hc=>by simp at hp;subst hp;cases hc;exact .inl (by simp),List.pairwise_singleton _ _,Lt _ _⟩
theorem Mem.wW {b:Nat} {l:List Value} (hi:b∈m0) (_:cB w b l):Step m0 w (ms [.box b l] m0) w:=Step.drop w fun k hk=>by
 rcases Bj.1 hk with⟨p,hp,h⟩|h
 ·simp at hp;subst hp;cases h;exact hi
 ·exact h
theorem Mem.Bjo {a:Option Addr} {xs rest:List Value} {T:Nat} {fz:Nat×Nat} (hm:∀b∈m0,b<w.heap.size) (hb:Wn w a xs rest T fz):Mem w.heap.size (Vc.aY a).toList m0 [((Vc.aY a).toList,w.heap.size,w)] [] w [.gm a xs rest T fz]:=
 ⟨le_refl _,hm,fun f hf=>by simp at hf;subst hf;exact Lr.refl _ _ _,fun f hf=>by simp at hf;subst hf;exact⟨le_refl _,fun p hp c hc=>by simp at hp;subst hp;exact .inl (by simpa [Pc.aY] using hc)⟩,
  fun p hp=>by simp at hp;subst hp;exact hb,fun p hp c hc=>by simp at hp;subst hp;exact .inl (by simpa [Pc.aY] using hc),List.pairwise_singleton _ _,Lt _ _⟩
theorem Mem.Bqq {a:Option Addr} {xs rest:List Value} {T:Nat} {fz:Nat×Nat} (hi:∀b,Vc.aY a=some b->b∈m0):Step m0 w (ms [.gm a xs rest T fz] m0) w:=Step.drop w fun k hk=>by
 rcases Bj.1 hk with⟨p,hp,h⟩|h
 ·simp at hp;subst hp;exact hi k h
 ·exact h
theorem Mem.qE (o:Mem n0 rs m0 fr ds w ps) (k:Nat) {a:Option Addr} {xs rest:List Value} {T:Nat} {fz:Nat×Nat} (hk:ps[k]? =some (.gm a xs rest T fz)):Wn w a xs rest T fz:=o.holds _ (mem_of_getElem? hk)
theorem Mem.EA (o:Mem n0 rs m0 fr ds w ps) (k:Nat) {a:Option Addr} {xs eJ rest:List Value} {T:Nat} {fz:Nat×Nat} (hk:ps[k]? =some (.gm a xs rest T fz)) (hr:Wn w' a eJ rest T fz) (hg:w.grownBy w' (Vc.aY a)):Mem n0 rs m0 fr ds w' (ps.set k (.gm a eJ rest T fz)):=
 o.kL k hk (Ao.grown hg) hr fun _ hb=> .inl hb
theorem Mem.EB (k:Nat) {a:Option Addr} {xs eJ rest:List Value} {T:Nat} {fz:Nat×Nat} (hk:ps[k]? =some (.gm a xs rest T fz)) (hg:w.grownBy w' (Vc.aY a)):Step (ms ps m0) w (ms (ps.set k (.gm a eJ rest T fz)) m0) w':=
 Mem.pL (p':= .gm a eJ rest T fz) k hk (Ao.grown hg) fun _ hb=> .inl hb
theorem _root_.Go.Vc.Ao.OT {a:Option Addr} (h:Ao (Vc.aY a).toList w w'):w.grownBy w' (Vc.aY a):=⟨h.os,h.tape,h.output,h.size,fun j hj hm=>h.block j hj (by simpa [eq_comm] using hm)⟩
theorem Mem.Bon (k:Nat) {a:Option Addr} {xs rest:List Value} {T:Nat} {fz:Nat×Nat} (hk:ps[k]? =some (.gm a xs rest T fz)):∀b,Vc.aY a=some b->b∈ms ps m0:=fun _ hb=>Bj.2 (.inl ⟨_,mem_of_getElem? hk,hb⟩)
theorem Mem.neq (o:Mem n0 rs m0 fr ds w ps) (i j:Nat) {b c:Nat} {l l':List Value} (hi:ps[i]? =some (.box b l)) (hj:ps[j]? =some (.box c l')) (mN:i≠j) (h:b=c):False:=
 Ka o.ew hi hj mN (b:=b) rfl (by rw [h];rfl)
theorem Mem.wX {b:Nat} (o:Mem n0 rs m0 fr ds w ps) (k:Nat) {e size n cap:Nat} {a:Option Addr} {xs:List Value} (hk:ps[k]? =some (.row e size a n cap xs)) (j:Nat) {l:List Value} (hj:ps[j]? =some (.box b l)) (EC:k≠j):∀c∈[b],c∉Vc.aY a:=by
 intro c hc ha;rw [List.mem_singleton.1 hc]at ha;exact Ka o.ew hk hj EC (b:=b) ha rfl
theorem Mem.app (o:Mem n0 rs m0 fr ds w ps) (k:Nat) {e size n c n' c':Nat} {a a':Option Addr} {xs eJ:List Value} (hk:ps[k]? =some (.row e size a n c xs)) (hr:Rw w' 0 e size a' n' c' eJ) (hg:w.grownBy w' (Vc.aY a)) (dR:Vc.aY a'=Vc.aY a\/Vc.aY a'=some w.heap.size):Mem n0 rs m0 fr ds w' (ps.set k (.row e size a' n' c' eJ)):=
 o.kL k hk (Ao.grown hg) hr fun b hb=>by
  rcases dR with h|h
  ·exact .inl (h.symm.trans hb)
  ·exact .inr (by have:some b=some w.heap.size:=hb.symm.trans h;cases this;exact le_refl _)
theorem Mem.Bqr (k:Nat) {e size n c n' c':Nat} {a a':Option Addr} {xs eJ:List Value} (hk:ps[k]? =some (.row e size a n c xs)) (_:Rw w' 0 e size a' n' c' eJ) (hg:w.grownBy w' (Vc.aY a)) (dR:Vc.aY a'=Vc.aY a\/Vc.aY a'=some w.heap.size):Step (ms ps m0) w (ms (ps.set k (.row e size a' n' c' eJ)) m0) w':=
 Mem.pL (p':= .row e size a' n' c' eJ) k hk (Ao.grown hg) fun b hb=>by
  rcases dR with h|h
  ·exact .inl (h.symm.trans hb)
  ·exact .inr (by have:some b=some w.heap.size:=hb.symm.trans h;cases this;exact le_refl _)
theorem Zc {R:List Nat} {w0 w1 w2:World} {a:Option Addr} (t:Ao R w0 w1) (hg:w1.grownBy w2 (Vc.aY a)) (hf:∀q,Vc.aY a=some q->q∈R\/w0.heap.size<=q):Ao R w0 w2:=
 ⟨hg.os.trans t.os,hg.tape.trans t.tape,hg.output.trans t.output,le_trans t.size hg.size,fun j hj hm=>(hg.block j (lt_of_lt_of_le hj t.size) fun e=>by
  rcases hf j e.symm with h|h
  ·exact hm h
  ·omega).trans (t.block j hj hm)⟩
theorem Oe {w u:World} {q:Addr} {cs:List Value} (h:Ac w q cs) (hu:Ao [] w u):Ac u q cs:=Ac.kept h fun bA=>hu.block _ (Ac.lt h bA) (by simp)
theorem Cg {P:World->Prop} {w:World} (h:P w):∀u,u=w->P u:=fun _ hu=>hu▸h
theorem Uw {R:List Nat} {w0 w1:World} {b:Nat} (hb:b=w1.heap.size) (t:Ao R w0 w1):∀q,Vc.aY (some ⟨b,0,none⟩)=some q->q∈R\/w0.heap.size<=q:=fun q hq=>by
 cases hq
 exact .inr (by rw [hb];exact t.size)
theorem Mem.xE (_:Mem n0 rs m0 fr ds w ps) (e:Ao [] w w'):Step (ms ps m0) w (ms ps m0) w':=Mem.Bql e
theorem Mem.xB (_:Mem n0 rs m0 fr ds w ps) {b:Nat} {cs:Array Value} {T:TypeId} (hb:b=w.heap.size) (e:w'=w.alloc (.cells cs T)):Step (ms ps m0) w (ms (.box b cs.toList::ps) m0) w':=Mem.OP hb e
theorem Mem.xL (_:Mem n0 rs m0 fr ds w ps) {b:Nat} {cs:Array Value} {T:TypeId} (hb:b=w.heap.size) (e:w'=w.alloc (.cells cs T)) (size n:Nat):Step (ms ps m0) w (ms (.row T size (some ⟨b,0,none⟩) n n cs.toList::ps) m0) w':=Mem.Bqm hb e size n
theorem Mem.xN (_:Mem n0 rs m0 fr ds w ps) (e size:Nat):Step (ms ps m0) w (ms (.row e size none 0 0 []::ps) m0) w:=Mem.Bqn e size
theorem Mem.xS (_:Mem n0 rs m0 fr ds w ps) (k:Nat) {b i:Nat} {l:List Value} {v:Value} (e:w'=w.setCell ⟨b,i,none⟩ v) (hk:ps[k]? =some (.box b l)):Step (ms ps m0) w (ms (ps.set k (.box b (l.set i v))) m0) w':=Mem.Bqp k e hk
theorem Mem.pO (_:Mem n0 rs m0 fr ds w ps) (k:Nat) {b i:Nat} {l vs:List Value} (e:w'=setCells w ⟨b,i,none⟩ vs) (hk:ps[k]? =some (.box b l)):Step (ms ps m0) w (ms (ps.set k (.box b (over l i vs))) m0) w':=Mem.Bol k e hk
theorem Mem.xX (_:Mem n0 rs m0 fr ds w ps) (k:Nat):Step (ms ps m0) w (ms (ps.eraseIdx k) m0) w:=Mem.Bme k
theorem Mem.xF (_:Mem n0 rs m0 fr ds w ps) (k:Nat) {p:Pc} (hk:ps[k]? =some p):Step (ms ps m0) w (ms (p::ps.eraseIdx k) m0) w:=Mem.Bmf k hk
theorem Mem.xA (_:Mem n0 rs m0 fr ds w ps) (k:Nat) {e size n c n' c':Nat} {a a':Option Addr} {xs eJ:List Value} (hk:ps[k]? =some (.row e size a n c xs)) (hr:Rw w' 0 e size a' n' c' eJ) (hg:w.grownBy w' (Vc.aY a)) (dR:Vc.aY a'=Vc.aY a\/Vc.aY a'=some w.heap.size):Step (ms ps m0) w (ms (ps.set k (.row e size a' n' c' eJ)) m0) w':=Mem.Bqr k hk hr hg dR
theorem Mem.xC (_:Mem n0 rs m0 fr ds w ps) (k:Nat) {b:Nat} {l l':List Value} (hK:Ao [b] w w') (hk:ps[k]? =some (.box b l)):Step (ms ps m0) w (ms (ps.set k (.box b l')) m0) w':=Mem.Bom k hK hk
theorem Mem.dC (o:Mem n0 rs m0 fr ds w ps) (k:Nat) {b:Nat} {l l':List Value} (hK:Ao [b] w w') (hb:cB w' b l') (hk:ps[k]? =some (.box b l)):Step (ms ps m0) w (ms (ps.set k (.box b l')) m0) w'/\Mem n0 rs m0 fr ds w' (ps.set k (.box b l')):=⟨o.xC k hK hk,o.call k hK hb hk⟩
theorem Mem.OU (_:Mem n0 rs m0 fr ds w ps) (k:Nat) {e size:Nat} {a:Option Addr} {n c:Nat} {xs:List Value} (hk:ps[k]? =some (.row e size a n c xs)):Step (ms ps m0) w ((Vc.aY a).toList++m0) w:=Mem.Boj k hk
theorem Mem.dE (o:Mem n0 rs m0 fr ds w ps) (e:Ao [] w w'):Step (ms ps m0) w (ms ps m0) w'/\Mem n0 rs m0 fr ds w' ps:=⟨o.xE e,o.ext e⟩
theorem Mem.dD (o:Mem n0 rs m0 fr ds w ps) (e:w'=w.drew):Step (ms ps m0) w (ms ps m0) w'/\Mem n0 rs m0 fr ds w' ps:=o.dE (Aq e)
theorem Mem.dB (o:Mem n0 rs m0 fr ds w ps) {b:Nat} {cs:Array Value} {T:TypeId} (hb:b=w.heap.size) (e:w'=w.alloc (.cells cs T)) (wQ:s6 cs.toList T:=by first|exact trivial|exact fun h k=>by first|rfl|(simp at h;done)|(simp [DX]at k;done)):Step (ms ps m0) w (ms (.box b cs.toList::ps) m0) w'/\Mem n0 rs m0 fr ds w' (.box b cs.toList::ps):=⟨o.xB hb e,o.box hb e wQ⟩
theorem Mem.dS (o:Mem n0 rs m0 fr ds w ps) (k:Nat) {b i:Nat} {l:List Value} {v:Value} (e:w'=w.setCell ⟨b,i,none⟩ v) (hk:ps[k]? =some (.box b l)) (s8:Gv v:=by first|exact trivial|exact rfl):Step (ms ps m0) w (ms (ps.set k (.box b (l.set i v))) m0) w'/\Mem n0 rs m0 fr ds w' (ps.set k (.box b (l.set i v))):=⟨o.xS k e hk,o.set k e hk s8⟩
theorem Mem.bj (o:Mem n0 rs m0 fr ds w ps) (k:Nat) {b i:Nat} {l vs:List Value} (e:w'=setCells w ⟨b,i,none⟩ vs) (hk:ps[k]? =some (.box b l)) (wR:s7 vs:=by first|exact trivial|exact rfl):Step (ms ps m0) w (ms (ps.set k (.box b (over l i vs))) m0) w'/\Mem n0 rs m0 fr ds w' (ps.set k (.box b (over l i vs))):=⟨o.pO k e hk,o.l9 k e hk wR⟩
theorem Mem.dX (o:Mem n0 rs m0 fr ds w ps) (k:Nat):Step (ms ps m0) w (ms (ps.eraseIdx k) m0) w/\Mem n0 rs m0 fr ds w (ps.eraseIdx k):=⟨o.xX k,o.erase k⟩
theorem Zd {M:List Nat} {B B':Nat} {W:World} (h:Lr M B W w) (hG:Grown B' w w') (hB:B<=W.heap.size) (zj:W.heap.size<=B'):Lr M B W w':=by
 have key:∀k,k<W.heap.size->w'.heap[k]? =w.heap[k]? :=fun k hk=>by
  have aE:k<w.heap.size:=lt_of_lt_of_le hk h.kp.size;have:=hG.block k _ (Array.getElem?_eq_getElem aE) (.inl (by omega));rw [this,Array.getElem?_eq_getElem aE]
 refine⟨⟨hG.os.trans h.kp.os,hG.tape.trans h.kp.tape,hG.output.trans h.kp.output,le_trans h.kp.size hG.size,fun k hk hm=>(key k (by omega)).trans (h.kp.block k hk hm)⟩,fun k o hk ho hc=> ?_⟩;rw [key k (Array.getElem?_eq_some_iff.1 ho).1];exact h.rest k o hk ho hc
theorem Mem.grow {B:Nat} (o:Mem n0 rs m0 fr ds w ps) (hG:Grown B w w') (hB:∀f∈fr,f.2.2.heap.size<=B) (hd:∀D∈ds,D<B):Mem n0 rs m0 fr ds w' ps:=
 ⟨le_trans o.le hG.size,o.lt,fun f hf=>Zd (o.aW f hf) hG (o.eN f hf).1 (hB f hf),o.eN,fun p hp=>(o.holds p hp).kept fun b hb=>by
  obtain⟨ob,h1,h2⟩:=(o.holds p hp).cells hb;rw [hG.block b ob h1 (.inr h2),h1],o.iw,o.ew,⟨o.marks.1.1,fun D hD=>hG.block D _ (o.marks.1.2 D hD) (.inl (hd D hD))⟩,o.marks.2⟩
theorem Mem.round (o:Mem n0 rs m0 fr ds w ps) {M:List Nat} {B:Nat} (hB:B<=w.heap.size) (hM:∀k∈ms ps m0,k∈M\/B<=k):Mem n0 rs m0 ((M,B,w)::fr) ds w ps:=
 ⟨o.le,o.lt,fun f hf=>by cases hf with|head=>exact Lr.refl _ _ _|tail _ hf=>exact o.aW f hf,
  fun f hf=>by cases hf with|head=>exact⟨hB,fun p hp b hb=>hM b (Bj.2 (.inl ⟨p,hp,hb⟩))⟩|tail _ hf=>exact o.eN f hf,o.holds,o.iw,o.ew,o.marks⟩
theorem Mem.uC {M:List Nat} {B:Nat} {W:World} (o:Mem n0 rs m0 ((M,B,W)::fr) ds w ps):Lr M B W w/\Mem n0 rs m0 fr ds w ps:=
 ⟨o.aW _ List.mem_cons_self,o.le,o.lt,fun f hf=>o.aW f (List.mem_cons_of_mem _ hf),fun f hf=>o.eN f (List.mem_cons_of_mem _ hf),o.holds,o.iw,o.ew,o.marks⟩
theorem _root_.Go.Vc.wh.all {M:List Nat} {W W':World} (h:wh M W.heap.size W W'):Ao M W W':=⟨h.os,h.tape,h.output,h.size,h.block⟩
theorem Mem.mark (o:Mem n0 rs m0 fr ds w ps) {D B:Nat} (hD:w.heap[D]? =some (.deferred (some []))) (hB:B<=D) (hn:n0<=B) (hd:∀E∈ds,E<B):Mem n0 rs m0 fr (D::ds) w ps:=
 ⟨o.le,o.lt,o.aW,o.eN,o.holds,o.iw,o.ew,⟨List.nodup_cons.2 ⟨fun h=>by have:=hd D h;omega,o.marks.1.1⟩,fun E hE=>by cases hE with|head=>exact hD|tail _ hE=>exact o.marks.1.2 E hE⟩,fun E hE=>by cases hE with|head=>omega|tail _ hE=>exact o.marks.2 E hE⟩
theorem Kb (n:Nat):∀(ds:List Nat) (w:World),Bi ds w->(∀D∈ds,n<=D)->Grown n w (shut ds w)
 |[],w,_,_=>Grown.refl _ _
 |D::ds,w,h,hn=>by
  have h1:Grown n w (w.putObj D (.deferred none)):=by
   refine⟨rfl,rfl,rfl,by simp [World.putObj],fun k ob hk hc=> ?_⟩;rw [World.putObj_heap_other (fun e=> ?_)]
   ·exact hk
   ·subst e;have h2:=h.2 k (by simp);rw [hk]at h2;cases h2
    rcases hc with hc|hc
    ·have:=hn k (by simp);omega
    ·cases hc
  exact h1.trans (Kb n ds _ (NM h _) fun E hE=>hn E (by simp [hE]))
theorem Mem.qF {w0:World} (o:Mem w0.heap.size rs m0 [(rs,w0.heap.size,w0)] ds w ps):Ao rs w0 (shut ds w):=by
 have hG:=Kb w0.heap.size ds w o.marks.1 o.marks.2;have h:=Zd (o.aW _ List.mem_cons_self) hG (le_refl _) (le_refl _);exact⟨h.kp.os,h.kp.tape,h.kp.output,h.kp.size,h.kp.block⟩
theorem Mem.uD (o:Mem n0 rs m0 fr ds w ps):Step (ms ps m0) w (ms ps m0) (shut ds w):=Step.grow _ (Kb n0 ds w o.marks.1 o.marks.2)
theorem Mem.qG (o:Mem n0 rs m0 fr ds w ps) (k:Nat) {b:Nat} {l:List Value} (hk:ps[k]? =some (.box b l)):cB (shut ds w) b l:=by
 have hG:=Kb n0 ds w o.marks.1 o.marks.2;obtain⟨T,hT,hg⟩:=o.at k hk;exact⟨T,hG.block b _ hT (.inr rfl),hg⟩
end
theorem Mem.qH {n0:Nat} {rs m0:List Nat} {fr:List (List Nat×Nat×World)} {ds:List Nat} {w:World} {ps:List Pc} (o:Mem n0 rs m0 fr ds w ps):∀D∈ds,D<w.heap.size:=fun D hD=>(Array.getElem?_eq_some_iff.1 (o.marks.1.2 D hD)).1
def Gh {α:Type} (J Jx:List α->World->Prop) (pre:List α) (stop:Bool) (W:World):Prop:=cond stop (Jx pre W) (J pre W)
theorem Ayz {α:Type} {J Jx:List α->World->Prop} (hJ:∀pre A B,J pre A->A.grownBy B none->J pre B) (hX:∀pre A B,Jx pre A->A.grownBy B none->Jx pre B) {pre:List α} {stop:Bool} {W W':World} (h:Gh J Jx pre stop W) (hg:W.grownBy W' none):Gh J Jx pre stop W':=by
 cases stop
 ·exact hJ _ _ _ h hg
 ·exact hX _ _ _ h hg
theorem ED {α:Type} {J Jx:List α->World->Prop} {pre xs:List α} {stop:Bool} {W:World} (h:Gh J Jx pre stop W) (hp:pre<+:xs) (he:stop=false->pre=xs):J xs W\/∃pre,pre<+:xs/\Jx pre W:=by
 cases stop
 ·rw [←he rfl];exact .inl h
 ·exact .inr ⟨pre,hp,h⟩
theorem Aiy {α:Type} {pre xs:List α} {x:α} (h:pre<+:xs) (hx:xs[pre.length]? =some x):(pre++[x])<+:xs:=by
 obtain⟨t,rfl⟩:=h;cases t with
 |nil=>simp at hx
 |cons y t=>simp at hx;subst hx;exact⟨t,by simp⟩
theorem _root_.Go.Vc.Grown.Boo {w W:World} (h:Grown w.heap.size w W) (m:List Nat):Ao m w W:=⟨h.os,h.tape,h.output,h.size,fun k hk _=>by
 have:=h.block k _ (Array.getElem?_eq_getElem hk) (.inl hk);rw [this,Array.getElem?_eq_getElem hk]⟩
theorem _root_.Go.Vc.Ao.kpm {m:List Nat} {w W W':World} (h:Ao m w W) (k:wh m w.heap.size W W'):Ao m w W':=
 ⟨k.os.trans h.os,k.tape.trans h.tape,k.output.trans h.output,le_trans h.size k.size,fun j hj hm=>(k.block j hj hm).trans (h.block j hj hm)⟩
theorem _root_.Go.Vc.Ao.more {m:List Nat} {w W W':World} (h:Ao m w W) (k:Ao [] W W'):Ao m w W':=h.trans (k.mono (by simp))
theorem _root_.Go.Vc.Ao.i_ {m:List Nat} {w W:World} (h:Ao m w W):Step m w m W:=⟨h.d,fun _ h=> .inl h⟩
theorem EE (w:World):Bi [] w:=⟨List.nodup_nil,by simp⟩
theorem Of {p:Nat->Prop} (h:∃n,p n):∃n,p n/\∀k,p k->n<=k:=by
 obtain⟨n,hn⟩:=h
 induction n using Nat.strongRecOn with
 |_ n ih=>
  by_cases hk:∃k,k<n/\p k
  ·obtain⟨k,h1,h2⟩:=hk;exact ih k h1 h2
  ·exact⟨n,hn,fun k wY=>by
    rcases Nat.lt_or_ge k n with h|h
    ·exact absurd ⟨k,h,wY⟩ hk
    ·exact h⟩
open Classical in
noncomputable def cP (p:Nat->Prop):Nat:=if h:∃n,p n then Classical.choose (Of h)else 0
theorem Bl {p:Nat->Prop} (h:∃n,p n):p (cP p):=by unfold cP;rw [dif_pos h];exact(Classical.choose_spec (Of h)).1
theorem Apl {p:Nat->Prop} {n:Nat} (h:p n):cP p<=n:=by unfold cP;rw [dif_pos ⟨n,h⟩];exact(Classical.choose_spec (Of ⟨n,h⟩)).2 n h
theorem Ab {b:Bool} {A B A' B':Prop} (h1:A->A') (h2:B->B') (h:cond b A B):cond b A' B':=by cases b;exact h2 h;exact h1 h
theorem _root_.Go.Vc.cB.aW {w u:World} {b:Nat} {l:List Value} (h:cB w b l) {r:List Nat} (hu:Ao r w u) (hr:b∉r):cB u b l:=by
 obtain⟨T,hT⟩:=h;exact⟨T,by rw [hu.block b (Array.getElem?_eq_some_iff.1 hT.1).1 hr];exact hT⟩
theorem _root_.Go.Vc.Rw.cap {w:World} {base e size:Nat} {a:Option Addr} {n c:Nat} {xs:List Value} (h:Rw w base e size a n c xs):n<=c:=by
 rcases h.2 with⟨hv,hn⟩|⟨g,cap,cur,hv,_,_,hc,_⟩
 ·omega
 ·cases hv;exact hc
theorem Og {α:Type} {c:dz α} {m:List Nat} {w:World} {e n cap:Nat} {a:Option Addr} {xs:List Value} {l:List α} (hr:Rw w 0 e c.size a n cap xs) (he:El c m w l xs) {i:Int} (hi:0<=i/\i<(l.length:Int)): ∃p x cs,a=some p/\l[i.toNat]? =some x/\(True/\Ac w (p.add (i.toNat*c.size)) cs)/\c.rep m w x cs:=by
 have aE:i.toNat<l.length:=by omega
 obtain⟨cs,ys,zs,hx,hy,dT⟩:=he.get (getElem?_eq_getElem aE);have bA:cs≠[]:=fun e=>by have:=c.len dT;rw [e]at this;have:=c.pos;simp at*;omega
 have gQ:=hr.sl;rw [hx]at gQ;obtain⟨p,hp,hc⟩:=gQ.wS (by simp [bA]);have dV:=Ac.sub hc bA;rw [hy]at dV;exact⟨p,_,cs,hp,getElem?_eq_getElem aE,⟨trivial,dV⟩,dT⟩
theorem Px {α:Type} {c:dz α} {m:List Nat} {w:World} {e n cap:Nat} {a:Option Addr} {xs:List Value} {l:List α} (hr:Rw w 0 e c.size a n cap xs) (he:El c m w l xs):n=l.length:=
 Nat.eq_of_mul_eq_mul_right c.pos (hr.len.symm.trans he.len)
theorem OV {α:Type} {c:dz α} {m:List Nat} {w:World} {e n cap:Nat} {a:Option Addr} {xs:List Value} {l:List α} (hr:Rw w 0 e c.size a n cap xs) (he:El c m w l xs) {i:Int} (hi:0<=i/\i<(n:Int)):
 ∃p x cs,a=some p/\l[i.toNat]? =some x/\(True/\Ac w (p.add (i.toNat*c.size)) cs)/\c.rep m w x cs:=Og hr he (by rw [Px hr he]at hi;exact hi)
theorem St:∀(vs l:List Value) (i:Nat),(over l i vs).length=l.length
 |[],_,_=>rfl
 |v::vs,l,i=>by rw [over,St];simp
theorem OW (k:Nat):∀(vs l:List Value) (i:Nat),(over l i vs).take k=over (l.take k) i vs
 |[],_,_=>rfl
 |v::vs,l,i=>by rw [over,OW,over,List.take_set]
theorem OX (A B:List Value):∀(vs:List Value) (i:Nat),i+vs.length<=A.length->over (A++B) i vs=over A i vs++B:=by
 intro vs
 induction vs generalizing A with
 |nil=>intro i _;rfl
 |cons v vs ih=>
  intro i h;simp only [List.length_cons]at h;rw [over,over,List.set_append_left _ _ (by omega)];exact ih (A.set i v) (i+1) (by simp;omega)
theorem Al7 (A B:List Value):∀(vs:List Value) (i:Nat),over (A++B) (A.length+i) vs=A++over B i vs:=by
 intro vs
 induction vs generalizing B with
 |nil=>intro i;rfl
 |cons v vs ih=>
  intro i;rw [over,over,List.set_append_right _ _ (by omega),show A.length+i-A.length=i by omega];exact ih (B.set i v) (i+1)
theorem OY:∀(cs vs:List Value),vs.length=cs.length->over cs 0 vs=vs:=by
 intro cs
 suffices∀(vs A cs:List Value),vs.length=cs.length->over (A++cs) A.length vs=A++vs by
  intro vs h;exact this vs [] cs h
 intro vs
 induction vs with
 |nil=>intro A cs h;cases cs with|nil=>rfl|cons=>simp at h
 |cons v vs ih=>
  intro A cs h;cases cs with
  |nil=>simp at h
  |cons c cs=>
   have:=ih (A++[v]) cs (by simpa using h);rw [over,List.set_append_right _ _ (le_refl _),Nat.sub_self,List.set_cons_zero];simpa using this
theorem Al8 {b T:Nat} :∀(vs:List Value) (w:World) (i j:Nat) (l:List Value),w.heap[b]? =some (.cells ⟨l⟩ T (0,0))->(Bp w ⟨b,i,none⟩ j vs).heap[b]? =some (.cells ⟨over l (i+j) vs⟩ T (0,0)):=by
 intro vs
 induction vs with
 |nil=>intro w i j l h;exact h
 |cons v vs ih=>
  intro w i j l h;simp only [Bp,over];have:=ih (w.setCell ((⟨b,i,none⟩:Addr).add j) v) i (j+1) (l.set (i+j) v) (by rw [Bo,heap_setCell,if_pos rfl,h];simp)
  rwa [show i+(j+1)=i+j+1 by omega]at this
theorem _root_.Go.Vc.Rw.store {w:World} {e size n c:Nat} {p:Addr} {xs:List Value} (h:Rw w 0 e size (some p) n c xs) {j:Nat} {vs:List Value} (hj:j+vs.length<=n*size): Af w (p.add j) vs.length/\∀w',w'=setCells w (p.add j) vs->Rw w' 0 e size (some p) n c (over xs j vs)/\w.grownBy w' (some p.block):=by
 rcases h.2 with⟨hv,_⟩|⟨g,cap,cur,hv,hg,hh,hn,wZ,dL,ht⟩
 ·cases hv
 ·obtain⟨rfl,rfl⟩:p=⟨g,0,none⟩/\c=cap:=by cases hv;exact⟨rfl,rfl⟩
  have qI:∀ {i n:Nat},i+n<=cur.toList.length->Af w ⟨g,i,none⟩ n:=fun {i n} hn j hj=>by
   rw [Bo];have aE:i+j<cur.toList.length:=by omega
   exact⟨⟨cur.toList[i+j],by simp [World.cell?,hh]⟩,by simp [World.frozen?,hh]⟩
  have hmul:n*size<=c*size:=Nat.mul_le_mul_right _ hn;have hlen:cur.toList.length=c*size:=by simpa using dL
  have ea:(⟨g,0,none⟩:Addr).add j=⟨g,j,none⟩:=by rw [Bo,zero_add]
  rw [ea];refine⟨qI (by omega),fun w' hw=>⟨⟨by rw [St];exact h.1,.inr ⟨g,c,⟨over cur.toList j vs⟩,rfl,hg,?_,hn,wZ,by rw [←dL];simp [St],?_⟩⟩,?_⟩⟩
  ·subst hw;exact Al8 vs w j 0 cur.toList hh
  ·show(over cur.toList j vs).take _=_
   rw [OW,ht]
  ·have:=Pw hw;exact⟨this.os,this.tape,this.output,this.size,fun k hk hm=>this.block k hk (by simpa [eq_comm] using fun e=>hm (by rw [e]))⟩
theorem El.put {α:Type} {c:dz α} {m:List Nat} {w:World} {l:List α} {xs:List Value} (h:El c m w l xs) {i:Nat} {x:α} (hx:l[i]? =some x): ∃cs,(∃ys zs,xs=ys++cs++zs/\ys.length=i*c.size)/\cs.length=c.size/\i*c.size+c.size<=xs.length/\∀x' off vs,off+vs.length<=c.size->c.rep m w x' (over cs off vs)->El c m w (l.set i x') (over xs (i*c.size+off) vs):=by
 obtain⟨cs,ys,zs,lh,hy,dT⟩:=h.get hx;have hl:=c.len dT;refine⟨cs,⟨ys,zs,lh,hy⟩,hl,by rw [lh];simp;omega,fun x' off vs hov hr=> ?_⟩;have hi:i<l.length:=(List.getElem?_eq_some_iff.1 hx).1;have h1:=h.take i;have h2:=h.drop (i+1);have e1:xs.take (i*c.size)=ys:=by rw [lh,List.append_assoc,←hy];simp
 have e2:xs.drop ((i+1)*c.size)=zs:=by
  rw [lh,show(i+1)*c.size=(ys++cs).length by simp [hy,hl,succ_mul]];simp
 rw [e1]at h1;rw [e2]at h2;rw [List.set_eq_take_append_cons_drop,if_pos hi];have:=h1.app (El.cons hr h2);rw [lh,←hy,List.append_assoc,Al7,OX _ _ _ _ (by omega)];exact this
theorem Arc {α:Type} {c:dz α} {m:List Nat} {w:World} {e n cap:Nat} {a:Option Addr} {xs:List Value} {l:List α} (hr:Rw w 0 e c.size a n cap xs) (he:El c m w l xs) {i:Nat} {p:Addr} (ha:a=some p) (hi:i<n) (vs:List Value) (hv:vs.length=c.size): Af w (p.add (i*c.size)) c.size/\∀w',w'=setCells w (p.add (i*c.size)) vs->∃eJ,Rw w' 0 e c.size a n cap eJ/\w.grownBy w' (Vc.aY a)/\∀x',c.rep m w x' vs->El c m w (l.set i x') eJ:=by
 subst ha;rw [Px hr he]at hi;obtain⟨cQ,_,EF,hle,kK⟩:=he.put (getElem?_eq_getElem hi);have hlx:=hr.len;obtain⟨hw,hs⟩:=hr.store (j:=i*c.size) (vs:=vs) (by omega);refine⟨hv▸hw,fun w' j9=>⟨_,(hs w' j9).1,(hs w' j9).2,fun x' mO=> ?_⟩⟩;have:=kK x' 0 vs (by omega) (by rw [OY _ _ (by omega)];exact mO);simpa using this
theorem Al9 {b T:Nat} {fz:Nat×Nat} :∀(vs:List Value) (w:World) (i j:Nat) (l:List Value),w.heap[b]? =some (.cells ⟨l⟩ T fz)->(Bp w ⟨b,i,none⟩ j vs).heap[b]? =some (.cells ⟨over l (i+j) vs⟩ T fz):=by
 intro vs
 induction vs with
 |nil=>intro w i j l h;exact h
 |cons v vs ih=>
  intro w i j l h;simp only [Bp,over];have:=ih (w.setCell ((⟨b,i,none⟩:Addr).add j) v) i (j+1) (l.set (i+j) v) (by rw [Bo,heap_setCell,if_pos rfl,h];simp)
  rwa [show i+(j+1)=i+j+1 by omega]at this
theorem Wn.sl {w:World} {a:Option Addr} {xs rest:List Value} {T:Nat} {fz:Nat×Nat} (h:Wn w a xs rest T fz):Ss w a xs:=by
 rcases h with⟨rfl,rfl⟩|⟨g,rfl,hg,_⟩
 ·rfl
 ·intro i hi;rw [Bo,zero_add];simp [World.cell?,hg,List.getElem?_append_left,hi]
theorem Wn.store {w:World} {p:Addr} {xs rest:List Value} {T:Nat} {fz:Nat×Nat} (h:Wn w (some p) xs rest T fz) {j:Nat} {vs:List Value} (hj:j+vs.length<=xs.length): Af w (p.add j) vs.length/\∀w',w'=setCells w (p.add j) vs->Wn w' (some p) (over xs j vs) rest T fz/\w.grownBy w' (some p.block):=by
 rcases h with⟨h,_⟩|⟨g,hp,hg,hf⟩
 ·cases h
 ·cases hp
  have ea:(⟨g,0,none⟩:Addr).add j=⟨g,j,none⟩:=by rw [Bo,zero_add]
  rw [ea];refine⟨fun i hi=> ?_,fun w' hw=>⟨.inr ⟨g,rfl,?_,by rw [St];exact hf⟩,?_⟩⟩
  ·rw [Bo];refine⟨⟨(xs++rest)[j+i]'(by simp;omega),by simp [World.cell?,hg]⟩,?_⟩;simp only [World.frozen?,hg];rcases hf with rfl|hf
   ·simp
   ·simp;omega
  ·subst hw;have:=Al9 vs w j 0 _ hg;rw [Nat.add_zero,OX _ _ _ _ hj]at this;exact this
  ·have:=Pw hw;exact⟨this.os,this.tape,this.output,this.size,fun k hk hm=>this.block k hk (by simpa [eq_comm] using fun e=>hm (by rw [e]))⟩
theorem Su {α:Type} {c:dz α} {m:List Nat} {w:World} {a:Option Addr} {xs rest:List Value} {T:Nat} {fz:Nat×Nat} {l:List α} (hr:Wn w a xs rest T fz) (he:El c m w l xs) {i:Int} (hi:0<=i/\i<(l.length:Int)): ∃p x cs,a=some p/\l[i.toNat]? =some x/\(True/\Ac w (p.add (i.toNat*c.size)) cs)/\c.rep m w x cs:=by
 have aE:i.toNat<l.length:=by omega
 obtain⟨cs,ys,zs,hx,hy,dT⟩:=he.get (getElem?_eq_getElem aE);have bA:cs≠[]:=fun e=>by have:=c.len dT;rw [e]at this;have:=c.pos;simp at*;omega
 have gQ:=hr.sl;rw [hx]at gQ;obtain⟨p,hp,hc⟩:=gQ.wS (by simp [bA]);have dV:=Ac.sub hc bA;rw [hy]at dV;exact⟨p,_,cs,hp,getElem?_eq_getElem aE,⟨trivial,dV⟩,dT⟩
theorem Ard {α:Type} {c:dz α} {m:List Nat} {w:World} {a:Option Addr} {xs rest:List Value} {T:Nat} {fz:Nat×Nat} {l:List α} (hr:Wn w a xs rest T fz) (he:El c m w l xs) {i:Nat} {p:Addr} (ha:a=some p) (hi:i<l.length) (vs:List Value) (hv:vs.length=c.size): Af w (p.add (i*c.size)) c.size/\∀w',w'=setCells w (p.add (i*c.size)) vs->∃eJ,Wn w' a eJ rest T fz/\w.grownBy w' (Vc.aY a)/\∀x',c.rep m w x' vs->El c m w (l.set i x') eJ:=by
 subst ha;obtain⟨cQ,_,EF,hle,kK⟩:=he.put (getElem?_eq_getElem hi);obtain⟨hw,hs⟩:=hr.store (j:=i*c.size) (vs:=vs) (by omega);refine⟨hv▸hw,fun w' j9=>⟨_,(hs w' j9).1,(hs w' j9).2,fun x' mO=> ?_⟩⟩;have:=kK x' 0 vs (by omega) (by rw [OY _ _ (by omega)];exact mO);simpa using this
theorem OZ {α:Type} {c:dz α} {m:List Nat} {w:World} {a:Option Addr} {xs rest:List Value} {T:Nat} {fz:Nat×Nat} {l:List α} (hr:Wn w a xs rest T fz) (he:El c m w l xs) {i:Nat} {p:Addr} (ha:a=some p) (hi:i<l.length) (v:Value) (h1:c.size=1): Af w (p.add (i*c.size)) 1/\∀w',w'=w.setCell (p.add (i*c.size)) v->∃eJ,Wn w' a eJ rest T fz/\w.grownBy w' (Vc.aY a)/\∀x',c.rep m w x' [v]->El c m w (l.set i x') eJ:=by
 obtain⟨hw,hs⟩:=Ard hr he ha hi [v] h1.symm;exact⟨by rw [h1]at hw⊢;exact hw,fun w' j9=>hs w' (by rw [j9];exact(Md _ _ _).symm)⟩
theorem _root_.Go.Vc.Rw.gm {w:World} {e size n c:Nat} {a:Option Addr} {xs:List Value} (h:Rw w 0 e size a n c xs): ∃rest,Wn w a xs rest e (0,0)/\∀w' eJ,Wn w' a eJ rest e (0,0)->eJ.length=xs.length->Rw w' 0 e size a n c eJ:=by
 rcases h.2 with⟨hv,hn⟩|⟨g,cap,cur,hv,hg,hh,k_,wZ,dL,ht⟩
 ·cases hv
  have:xs=[]:=by
   have:=h.1;rw [hn,Nat.zero_mul]at this;exact List.length_eq_zero_iff.1 this
  exact⟨[],.inl ⟨rfl,this⟩,fun w' eJ _ hl=>⟨hl.trans h.1,.inl ⟨rfl,hn⟩⟩⟩
 ·cases hv
  have hlen:cur.toList.length=c*size:=by simpa using dL
  have hmul:n*size<=c*size:=Nat.mul_le_mul_right _ k_;refine⟨cur.toList.drop (n*size),.inr ⟨g,rfl,?_,.inl rfl⟩,fun w' eJ hw hl=>⟨hl.trans h.1,?_⟩⟩
  ·rw [hh,←ht,List.take_append_drop]
  ·rcases hw with⟨hx,_⟩|⟨g',hx,hh',_⟩
   ·cases hx
   ·cases hx
    have jw:=h.1;refine .inr ⟨g,c,⟨eJ++cur.toList.drop (n*size)⟩,rfl,Nat.zero_le _,hh',k_,wZ,?_,?_⟩
    ·simp;omega
    ·show(eJ++_).take _=_
     rw [List.take_append_of_le_length (by omega),List.take_of_length_le (by omega)]
theorem _root_.Go.Vc.Rw.take {w:World} {base e size n c k:Nat} {a:Option Addr} {xs:List Value} (h:Rw w base e size a n c xs) (hk:k<=n):Rw w base e size a k c (xs.take (k*size)):=by
 have hmul:k*size<=n*size:=Nat.mul_le_mul_right _ hk;refine⟨by rw [List.length_take,h.1];omega,?_⟩;rcases h.2 with⟨hv,hn⟩|⟨g,cap,cur,hv,hg,hh,k_,wZ,dL,ht⟩
 ·have:k=0:=by omega
  subst this;cases hv
  exact .inl ⟨rfl,rfl⟩
 ·cases hv
  refine .inr ⟨g,c,cur,rfl,hg,hh,by omega,wZ,dL,?_⟩;rw [←ht,List.take_take,Nat.min_eq_left hmul]
theorem Gq (a:Option Addr) (c size:Nat):Cn a 0 c size=a:=by
 unfold Cn;split
 ·rfl
 ·cases a with
  |none=>rfl
  |some p=>simp [Addr.add]
theorem aF.none {α:Type} {c:dz α} {m:List Nat} {w:World} {a:Option Addr} {l:List α} (h:aF c m w a l) (ha:a.isNone=true):l=[]:=by
 rcases h with h|⟨p,xs,rfl,_⟩
 ·exact h
 ·cases ha
theorem aF.cells {α:Type} {c:dz α} {m:List Nat} {w:World} {a:Option Addr} {l:List α} (h:aF c m w a l):∃xs,Ss w a xs/\El c m w l xs:=by
 rcases h with rfl|⟨p,xs,rfl,_,hc,he⟩
 ·refine⟨[],?_,El.nil _ _ _⟩;cases a with
  |none=>rfl
  |some p=>intro i hi;simp at hi
 ·exact⟨xs,hc,he⟩
theorem Be {p q:Nat->Prop} {N n:Nat} (hn:N=cP p) (h:q n) (hl:n<N):(∃n,q n)/\cP q<cP p:=⟨⟨n,h⟩,Nat.lt_of_le_of_lt (Apl h) (hn▸hl)⟩
def A7 (x:List UInt8):List Int:=x.map fun c=>(c.toNat:Int)
def strOf (l:List Int):List UInt8:=l.map fun n=>UInt8.ofNat n.toNat
theorem O_ (x:List UInt8):(A7 x).length=x.length:=by simp [A7]
theorem X4 (m:List Nat) (w:World):∀(l:List Int),El (Bz .u8) m w l (l.map fun n=> .int .u8 n)
 |[]=>El.nil _ _ _
 |n::l=>El.cons (cs:=[.int .u8 n]) rfl (X4 m w l)
theorem PB {m:List Nat} {w:World} {k:IntKind} :∀ {l:List Int} {xs:List Value},El (Bz k) m w l xs->xs=l.map fun n=> .int k n
 |[],_,⟨cZ,rfl,h⟩=>by cases cZ with|nil=>rfl|cons=>exact h.elim
 |n::l,_,⟨cZ,rfl,h⟩=>by
  cases cZ with
  |nil=>exact h.elim
  |cons cs cZ=>
   have h1:cs=[.int k n]:=h.1;have:=PB (l:=l) ⟨cZ,rfl,h.2⟩;rw [flatten_cons,this,h1];rfl
theorem Axf {P:Program} {src dst e:TypeId} (hs:P.underlying src=some .string) (hd:P.underlying dst=some (.slice e)) (he:P.underlying e=some (.int .u8)) {x:List UInt8} {m:List Nat} {w:World} (hm:∀b∈m,b<w.heap.size) {K:Value->World->Prop} (h:∀(a:Option Addr) (c:Nat) (w':World),(A7 x).length<=c->aF (Bz .u8) m w' a (A7 x)->Ao [] w w'->K (.slice a (A7 x).length c) w'):Bh P (convert src dst (.string (aI x))) K w:=by
 refine⟨_,_,Lib.run_convert_string_bytes w src dst e (aI x) hs hd he,?_⟩;have dL:(aI x).size=(A7 x).length:=by rw [O_];rfl
 have hc:=grownCap_ge w (aI x).size 0 e;rw [dL]at hc⊢;refine h _ _ _ hc (.inr ⟨_,_,rfl,fun hb=>Nat.lt_irrefl _ (hm _ hb),?_,X4 _ _ _⟩) ⟨rfl,rfl,rfl,by rw [Lib.bytesWorld_size];omega,fun k hk _=>Lib.bytesWorld_at_old w e (aI x) k hk⟩;intro i hi;have pP:i<x.length:=by simpa [A7] using hi
 rw [Bo,zero_add,Lib.bytesWorld_cell w e (aI x) i (by exact pP)];simp [A7,aI,List.getD,pP]
theorem Ai2 {P:Program} {src dst e:TypeId} (hs:P.underlying src=some .string) (hd:P.underlying dst=some (.slice e)) (he:P.underlying e=some (.int .u8)) {x:List UInt8} {w:World} {K:Value->World->Prop} (h:∀(c:Nat) (rest:List Value) (fz:Nat×Nat) (w':World),(A7 x).length<=c->Wn w' (some ⟨w.heap.size,0,none⟩) ((A7 x).map fun n=> .int .u8 n) rest e fz->Ao [] w w'->K (.slice (some ⟨w.heap.size,0,none⟩) (A7 x).length c) w'):Bh P (convert src dst (.string (aI x))) K w:=by
 refine⟨_,_,Lib.run_convert_string_bytes w src dst e (aI x) hs hd he,?_⟩;have dL:(aI x).size=(A7 x).length:=by rw [O_];rfl
 have hc:=grownCap_ge w (aI x).size 0 e;rw [dL]at hc⊢;refine h _ (List.replicate (grownCap w (aI x).size 0 e-(aI x).size) (.int .u8 0)) ((Lib.bytesCells w e (aI x)).size,(Lib.bytesCells w e (aI x)).size+1) _ hc (.inr ⟨_,rfl,?_,.inr ?_⟩) ⟨rfl,rfl,rfl,by rw [Lib.bytesWorld_size];omega,fun k hk _=>Lib.bytesWorld_at_old w e (aI x) k hk⟩
 ·rw [Lib.bytesWorld_at_new];congr 2;apply Array.ext';simp [Lib.bytesCells,A7,aI,Function.comp_def]
 ·simp [Lib.bytesCells,A7,aI]
theorem Ai3 {P:Program} {src dst e:TypeId} (hs:P.underlying src=some (.slice e)) (he:P.underlying e=some (.int .u8)) (hd:P.underlying dst=some .string) {a:Option Addr} {l:List Int} {c:Nat} {m:List Nat} {w:World} (hl:aF (Bz .u8) m w a l) {K:Value->World->Prop} (h:K (.string (aI (strOf l))) w):Bh P (convert src dst (.slice a l.length c)) K w:=by
 refine⟨_,w,?_,h⟩;rw [run_convert_bytes_string w src dst e a l.length c hs he hd];rcases hl with rfl|⟨p,xs,rfl,_,hc,qJ⟩
 ·cases a with
  |none=>simp [Conv.bytesToString];rfl
  |some p=>
   have:=run_bytesToString (P:=P) w p 0 c [] (by simpa using run_loadCells_list (P:=P) w p [] (by simp));exact this
 ·have hx:=PB qJ;subst hx;have PD:=run_loadCells_list (P:=P) w p (l.map fun n=>Value.int .u8 n) (fun j v hj=>by
   obtain⟨iX,rfl⟩:=List.getElem?_eq_some_iff.1 hj;exact hc j iX)
  simp only [List.length_map]at PD;rw [run_bytesToString w p l.length c l PD,foldl_push_bytes];simp [strOf,aI,ByteArray.empty,ByteArray.emptyWithCapacity];rfl
abbrev MS (w:World) (m:List Nat) (wa:World) (pa:List Pc) (w2:World) (ps:List Pc):Prop:=Mem w.heap.size [] m [([],w.heap.size,w)] [] w2 ps/\Step (ms pa m) wa (ms ps m) w2
abbrev MT (w:World) (m:List Nat) (wa w2:World) (ps:List Pc):Prop:=MS w m wa ps w2 ps
end Go.Lv
