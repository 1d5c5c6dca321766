/- What code does with memory, told in plain values: pieces that a call owns, data that stays, and how they pass from world to world. -/
import Derived.Test.YthkbhlmijkegiaaGreatMemE
import Derived.Test.YthkbhlmijkegiaaGreatVcI
import Derived.Test.YthkbhlmijkegiaaGreatHeld
import Derived.ChangeKeysEq
import Derived.Lib.ConvBytes
import Derived.Lib.AppendStr
import Derived.Laws.BytesArg
open List (mem_of_getElem? getElem?_eq_getElem mem_append flatten_cons replicate getElem?_of_mem mem_cons)
open Nat (le_refl le_trans succ_mul)
open Option (mem_toList)
namespace Go.Lv
open Go.Vc
open Go.RowKit (Below)
theorem _root_.Go.Vc.Ai.refl (m:List Nat) (w:World):Ai m w w:=⟨rfl,rfl,rfl,le_refl _,fun _ _ _=>rfl⟩
theorem _root_.Go.Vc.Ai.trans {m:List Nat} {a b c:World} (h:Ai m a b) (k:Ai m b c):Ai m a c:=
 ⟨k.os.trans h.os,k.tape.trans h.tape,k.output.trans h.output,le_trans h.size k.size,fun j hj hm=>(k.block j (Nat.lt_of_lt_of_le hj h.size) hm).trans (h.block j hj hm)⟩
theorem _root_.Go.Vc.Ai.mono {m m':List Nat} {a b:World} (h:Ai m a b) (hs:∀k∈m,k∈m'):Ai m' a b:=
 ⟨h.os,h.tape,h.output,h.size,fun j hj hm=>h.block j hj fun h=>hm (hs j h)⟩
theorem _root_.Go.Vc.Ai.yo {a b:World} (h:Ext a b):Ai [] a b:=⟨h.os,h.tape,h.output,h.size,fun j hj _=>Below.block h j hj⟩
theorem _root_.Go.Vc.Ai.ext {a b:World} (h:Ai [] a b):Ext a b:=⟨h.os,h.tape,h.output,h.size,fun j hj=>h.block j hj (by simp)⟩
theorem _root_.Go.Vc.Ai.grown {a b:World} {row:Option Nat} (h:a.grownBy b row):Ai row.toList a b:=⟨h.os,h.tape,h.output,h.size,fun j hj hm=>h.block j hj fun e=>hm (by simp [←e])⟩
structure bA (m:List Nat) (w:World):Prop where
 lt:∀b∈m,b<w.heap.size
 off:∀b∈held.bs,b∉m
 jv:held.T w
theorem bA.nil {w:World} (h:held.T w):bA [] w:=⟨fun _ h=>(by cases h),fun _ _ h=>(by cases h),h⟩
structure NJ (m:List Nat) (w w':World):Prop where
 size:w.heap.size<=w'.heap.size
 block:∀k o,w.heap[k]? =some o->k∉m->Hz o=true->w'.heap[k]? =some o
theorem _root_.Go.Vc.Ai.d {m:List Nat} {w w':World} (h:Ai m w w'):NJ m w w':=⟨h.size,fun k o hk hm _=>by rw [h.block k (Array.getElem?_eq_some_iff.1 hk).1 hm];exact hk⟩
structure Step (m:List Nat) (w:World) (m':List Nat) (w':World):Prop where
 aP:NJ m w w'
 sub:∀k∈m',k∈m\/w.heap.size<=k
theorem Step.trans {m m' NK:List Nat} {w w' jm:World} (h:Step m w m' w') (k:Step m' w' NK jm):Step m w NK jm:=by
 refine⟨⟨le_trans h.aP.size k.aP.size,fun j o hj hm hc=>k.aP.block j o (h.aP.block j o hj hm hc) (fun jk=>(h.sub j jk).elim hm (fun hx=>by have:=(Array.getElem?_eq_some_iff.1 hj).1;omega)) hc⟩,fun j hj=> ?_⟩;rcases k.sub j hj with h1|h1
 ·exact h.sub j h1
 ·exact .inr (le_trans h.aP.size h1)
theorem Step.refl (m:List Nat) (w:World):Step m w m w:=⟨(Ai.refl _ _).d,fun _ h=> .inl h⟩
theorem Step.drop {m m':List Nat} (w:World) (h:∀k∈m',k∈m):Step m w m' w:=⟨(Ai.refl _ _).d,fun k hk=> .inl (h k hk)⟩
theorem Atm {w:World} {p:Addr} {v:Value} (h:w.cell? p=some v):∃o,w.heap[p.block]? =some o/\Hz o=true:=by
 unfold World.cell? at h;split at h
 ·rename_i hh;exact⟨_,hh,rfl⟩
 ·cases h
theorem NL {w:World} {p:Addr} {xs:List Value} (h:Ad w p xs) (hx:xs≠[]):∃o,w.heap[p.block]? =some o/\Hz o=true:=by
 have:=Atm (h 0 (List.length_pos_iff.2 hx))
 rwa [Rg]at this
def Hx {α β:Type} (R:α->β->Prop):List α->List β->Prop
 |[],[]=>True|a::l,b::m=>R a b/\Hx R l m|_,_=>False
theorem Hx.mono {α β:Type} {R R':α->β->Prop} (h:∀a b,R a b->R' a b):∀ {l:List α} {m:List β},Hx R l m->Hx R' l m
 |[],[],_=>trivial
 |_::_,_::_,⟨h1,h2⟩=>⟨h _ _ h1,Hx.mono h h2⟩
theorem Hx.length {α β:Type} {R:α->β->Prop} :∀ {l:List α} {m:List β},Hx R l m->l.length=m.length
 |[],[],_=>rfl
 |_::_,_::_,⟨_,h2⟩=>by simp [Hx.length h2]
theorem Hx.append {α β:Type} {R:α->β->Prop} :∀ {l l':List α} {m m':List β},Hx R l m->Hx R l' m'->Hx R (l++l') (m++m')
 |[],_,[],_,_,h=>h
 |_::_,_,_::_,_,⟨h1,h2⟩,h=>⟨h1,Hx.append h2 h⟩
theorem Hx.get {α β:Type} {R:α->β->Prop} {x:α} :∀ {l:List α} {m:List β} {i:Nat},Hx R l m->l[i]? =some x->∃y,m[i]? =some y/\R x y
 |[],[],i,_,h=>(by simp at h)
 |_::_,b::_,0,⟨h1,_⟩,h=>⟨b,rfl,by simp at h;exact h▸h1⟩
 |_::l,_::m,i+1,⟨_,h2⟩,h=>by
  have:=Hx.get (l:=l) (m:=m) (i:=i) h2 (by simpa using h);simpa using this
theorem Hx.take {α β:Type} {R:α->β->Prop} :∀ {l:List α} {m:List β} (i:Nat),Hx R l m->Hx R (l.take i) (m.take i)
 |_,_,0,_=>trivial
 |[],[],_+1,_=>trivial
 |_::_,_::_,_+1,⟨h1,h2⟩=>⟨h1,Hx.take _ h2⟩
theorem Hx.drop {α β:Type} {R:α->β->Prop} :∀ {l:List α} {m:List β} (i:Nat),Hx R l m->Hx R (l.drop i) (m.drop i)
 |_,_,0,h=>h
 |[],[],_+1,_=>trivial
 |_::l,_::m,i+1,⟨_,h2⟩=>Hx.drop (l:=l) (m:=m) i h2
structure cO (α:Type) where
 size:Nat
 pos:0<size
 rep:List Nat->World->α->List Value->Prop
 len:∀ {m w x cs},rep m w x cs->cs.length=size
 one:∀ {m w x cs},rep m w x cs->∀u∈cs,u.oneCell'=true
 st:∀ {m w x cs m' w'},rep m w x cs->Step m w m' w'->rep m' w' x cs
def Bh (k:IntKind):cO Int:= { size:=1,pos:=by decide,rep:=fun _ _ x cs=>cs=[.int k x],len:=fun h=>by subst h;rfl,one:=fun h u hu=>by subst h;simp at hu;subst hu;rfl,st:=fun h _=>h }
def yp:cO Bool:= { size:=1,pos:=by decide,rep:=fun _ _ x cs=>cs=[.bool x],len:=fun h=>by subst h;rfl,one:=fun h u hu=>by subst h;simp at hu;subst hu;rfl,st:=fun h _=>h }
def X3:cO (List UInt8):= { size:=1,pos:=by decide,rep:=fun _ _ x cs=>cs=[.string (bI x)],len:=fun h=>by subst h;rfl,one:=fun h u hu=>by subst h;simp at hu;subst hu;rfl,st:=fun h _=>h }
def B5 {α β:Type} (c:cO α) (d:cO β):cO (α×β) where
 size:=c.size+d.size
 pos:=by have:=c.pos;omega
 rep:=fun m w x cs=>∃a b,cs=a++b/\c.rep m w x.1 a/\d.rep m w x.2 b
 len:=by rintro m w x cs ⟨a,b,rfl,h1,h2⟩;simp [c.len h1,d.len h2]
 one:=by
  rintro m w x cs ⟨a,b,rfl,h1,h2⟩ u hu;rcases mem_append.1 hu with h|h
  ·exact c.one h1 u h
  ·exact d.one h2 u h
 st:=by rintro m w x cs m' w' ⟨a,b,rfl,h1,h2⟩ s;exact⟨a,b,rfl,c.st h1 s,d.st h2 s⟩
def Ul {α β:Type} (f:β->α) (c:cO α):cO β:= { size:=c.size,pos:=c.pos,rep:=fun m w x cs=>c.rep m w (f x) cs,len:=c.len,one:=c.one,st:=c.st }
theorem Qe {dd:List (List Value)} {k:Nat} (h:∀cs∈dd,cs.length=k):dd.flatten.length=dd.length*k:=by
 induction dd with
 |nil=>simp
 |cons a l ih=>rw [flatten_cons,List.length_append,h a (by simp),ih (fun c hc=>h c (by simp [hc])),List.length_cons,succ_mul];omega
theorem Qf {α:Type} (c:cO α) {m:List Nat} {w:World} :∀ {l:List α} {dd:List (List Value)},Hx (c.rep m w) l dd->∀cs∈dd,cs.length=c.size
 |[],[],_,_,h=>(by cases h)
 |_::_,_::_,⟨h1,h2⟩,cs,h=>by
  cases h with
  |head=>exact c.len h1
  |tail _ h=>exact Qf c h2 cs h
theorem NM {α:Type} (c:cO α) {m:List Nat} {w:World} :∀ {l:List α} {dd:List (List Value)},Hx (c.rep m w) l dd->∀u∈dd.flatten,u.oneCell'=true
 |[],[],_,_,h=>(by simp at h)
 |_::_,_::_,⟨h1,h2⟩,u,h=>by
  rw [flatten_cons]at h;rcases mem_append.1 h with h|h
  ·exact c.one h1 u h
  ·exact NM c h2 u h
def El {α:Type} (c:cO α) (m:List Nat) (w:World) (l:List α) (xs:List Value):Prop:=∃dd,xs=dd.flatten/\Hx (c.rep m w) l dd
theorem El.st {α:Type} {c:cO α} {m m':List Nat} {w w':World} {l:List α} {xs:List Value} (h:El c m w l xs) (s:Step m w m' w'):El c m' w' l xs:=by
 obtain⟨dd,rfl,h⟩:=h;exact⟨dd,rfl,h.mono fun _ _ h=>c.st h s⟩
theorem El.nil {α:Type} (c:cO α) (m:List Nat) (w:World):El c m w [] []:=⟨[],rfl,trivial⟩
theorem El.cons {α:Type} {c:cO α} {m:List Nat} {w:World} {x:α} {cs:List Value} {l:List α} {xs:List Value} (h:c.rep m w x cs) (k:El c m w l xs):El c m w (x::l) (cs++xs):=by
 obtain⟨dd,rfl,k⟩:=k;exact⟨cs::dd,rfl,h,k⟩
theorem El.app {α:Type} {c:cO α} {m:List Nat} {w:World} {l l':List α} {xs gM:List Value} (h:El c m w l xs) (k:El c m w l' gM):El c m w (l++l') (xs++gM):=by
 obtain⟨dd,rfl,h⟩:=h;obtain⟨Bp8,rfl,k⟩:=k;exact⟨dd++Bp8,by simp,h.append k⟩
theorem El.len {α:Type} {c:cO α} {m:List Nat} {w:World} {l:List α} {xs:List Value} (h:El c m w l xs):xs.length=l.length*c.size:=by
 obtain⟨dd,rfl,h⟩:=h;rw [Qe (Qf c h),h.length]
theorem El.one {α:Type} {c:cO α} {m:List Nat} {w:World} {l:List α} {xs:List Value} (h:El c m w l xs):∀u∈xs,u.oneCell'=true:=by
 obtain⟨dd,rfl,h⟩:=h;exact NM c h
theorem Arh {dd:List (List Value)} {k:Nat} (h:∀cs∈dd,cs.length=k):∀(i:Nat),dd.flatten.take (i*k)=(dd.take i).flatten:=by
 induction dd with
 |nil=>intro i;simp
 |cons a l ih=>
  intro i;cases i with
  |zero=>simp
  |succ i=>
   have ha:=h a (by simp);rw [flatten_cons,List.take_succ_cons,flatten_cons,←ih (fun c hc=>h c (by simp [hc])),List.take_append,ha,succ_mul,Nat.add_sub_cancel,List.take_of_length_le (by omega)]
theorem Ari {dd:List (List Value)} {k:Nat} (h:∀cs∈dd,cs.length=k):∀(i:Nat),dd.flatten.drop (i*k)=(dd.drop i).flatten:=by
 induction dd with
 |nil=>intro i;simp
 |cons a l ih=>
  intro i;cases i with
  |zero=>simp
  |succ i=>
   have ha:=h a (by simp);rw [flatten_cons,List.drop_succ_cons,←ih (fun c hc=>h c (by simp [hc])),List.drop_append,ha,succ_mul,Nat.add_sub_cancel,List.drop_of_length_le (by omega)];simp
theorem El.take {α:Type} {c:cO α} {m:List Nat} {w:World} {l:List α} {xs:List Value} (h:El c m w l xs) (i:Nat):El c m w (l.take i) (xs.take (i*c.size)):=by
 obtain⟨dd,rfl,h⟩:=h;exact⟨dd.take i,Arh (Qf c h) i,h.take i⟩
theorem El.drop {α:Type} {c:cO α} {m:List Nat} {w:World} {l:List α} {xs:List Value} (h:El c m w l xs) (i:Nat):El c m w (l.drop i) (xs.drop (i*c.size)):=by
 obtain⟨dd,rfl,h⟩:=h;exact⟨dd.drop i,Ari (Qf c h) i,h.drop i⟩
theorem El.get {α:Type} {c:cO α} {m:List Nat} {w:World} {l:List α} {xs:List Value} (h:El c m w l xs) {i:Nat} {x:α} (hx:l[i]? =some x):∃cs ys zs,xs=ys++cs++zs/\ys.length=i*c.size/\c.rep m w x cs:=by
 obtain⟨dd,rfl,h⟩:=h;obtain⟨cs,hc,hr⟩:=h.get hx;have hi:i<dd.length:=(List.getElem?_eq_some_iff.1 hc).1;have mg:dd[i]=cs:=(List.getElem?_eq_some_iff.1 hc).2;refine⟨cs,(dd.take i).flatten,(dd.drop (i+1)).flatten,?_,?_,hr⟩
 ·have:dd=dd.take i++([cs]++dd.drop (i+1)):=by rw [←mg];simp
  conv=>lhs;rw [this]
  simp
 ·rw [Qe (k:=c.size) (fun cs mg=>Qf c h cs (List.mem_of_mem_take mg)),List.length_take,Nat.min_eq_left (by omega)]
theorem Ad.sub {w:World} {p:Addr} {cs ys zs:List Value} (h:Ad w p (ys++cs++zs)) (hc:cs≠[]):Ad w (p.add ys.length) cs:=Ad.piece h hc
def br {α:Type} (c:cO α) (m:List Nat) (w:World) (a:Option Addr) (l:List α):Prop:=l=[]\/∃p xs,a=some p/\p.block∉m/\Ad w p xs/\El c m w l xs
theorem Ad.lt {w:World} {p:Addr} {xs:List Value} (h:Ad w p xs) (hx:xs≠[]):p.block<w.heap.size:=by
 have:=XH (h 0 (List.length_pos_iff.2 hx))
 rwa [Rg]at this
theorem Ad.kept {w w':World} {p:Addr} {xs:List Value} (h:Ad w p xs) (hk:xs≠[]->w'.heap[p.block]? =w.heap[p.block]?):Ad w' p xs:=by
 intro i hi;have:=h i hi;have bZ:xs≠[]:=by intro e;subst e;simp at hi
 unfold World.cell? at this⊢;rw [Rg]at this⊢;rw [hk bZ];exact this
theorem br.st {α:Type} {c:cO α} {m m':List Nat} {w w':World} {a:Option Addr} {l:List α} (h:br c m w a l) (s:Step m w m' w'):br c m' w' a l:=by
 rcases h with h|⟨p,xs,rfl,hp,hc,he⟩
 ·exact .inl h
 ·by_cases hx:xs=[]
  ·left;have:=he.len;rw [hx]at this;have hp:=c.pos;cases l with
   |nil=>rfl
   |cons a l=>
    exfalso;have h2:=Nat.mul_pos (Nat.succ_pos l.length) hp;rw [List.length_cons,List.length_nil]at this;rw [←this]at h2;exact Nat.lt_irrefl _ h2
  ·have aO:=Ad.lt hc hx;obtain⟨ob,h1,h2⟩:=NL hc hx;exact .inr ⟨p,xs,rfl,fun hm=>(s.sub _ hm).elim hp (by omega),Ad.kept hc fun _=>by rw [s.aP.block _ ob h1 hp h2,h1],he.st s⟩
def G0 (m:List Nat) (w:World) (q:Addr) (cs:List Value):Prop:=(q.block∉m/\∃o,w.heap[q.block]? =some o/\Hz o=true)/\Ad w q cs
theorem G0.st {m m':List Nat} {w w':World} {q:Addr} {cs:List Value} (h:G0 m w q cs) (s:Step m w m' w'):G0 m' w' q cs:=by
 obtain⟨⟨hm,o,ho,hc⟩,h2⟩:=h;have aO:=(Array.getElem?_eq_some_iff.1 ho).1;have hk:=s.aP.block _ o ho hm hc;exact⟨⟨fun jk=>(s.sub _ jk).elim hm (by omega),o,hk,hc⟩,Ad.kept h2 fun _=>by rw [hk,ho]⟩
theorem G0.held {m r:List Nat} {w u:World} {q:Addr} {cs:List Value} (h:G0 m w q cs) (hu:Ai r w u) (hr:∀b∈r,b∈m):Ad u q cs:=
 Ad.kept h.2 fun hx=>hu.block _ (Ad.lt h.2 hx) fun hm=>h.1.1 (hr _ hm)
theorem Ad.head {w:World} {q:Addr} {c:Value} {cs:List Value} (h:Ad w q (c::cs)):w.cell? q=some c:=by
 have:=h 0 (by simp);simpa [Addr.add] using this
theorem br.nil {α:Type} (c:cO α) (m:List Nat) (w:World) (a:Option Addr):br c m w a []:= .inl rfl
theorem br.elem {α:Type} {c:cO α} {m:List Nat} {w:World} {a:Option Addr} {l:List α} (h:br c m w a l) {i:Int} (hi:0<=i/\i<(l.length:Int)): ∃p x cs,a=some p/\l[i.toNat]? =some x/\G0 m w (p.add (i.toNat*c.size)) cs/\c.rep m w x cs:=by
 rcases h with rfl|⟨p,xs,rfl,hp,hc,he⟩
 ·simp at hi;omega
 ·have aO:i.toNat<l.length:=by omega
  obtain⟨cs,ys,zs,hx,hy,hr⟩:=he.get (getElem?_eq_getElem aO);subst hx;have bZ:cs≠[]:=fun e=>by have:=c.len hr;rw [e]at this;have:=c.pos;simp at*;omega
  have eV:=Ad.sub hc bZ;rw [hy]at eV;exact⟨p,_,cs,rfl,getElem?_eq_getElem aO,⟨⟨by rw [Rg];exact hp,NL eV bZ⟩,eV⟩,hr⟩
def oI {α:Type} (c:cO α):cO (List α) where
 size:=1
 pos:=by decide
 rep:=fun m w l cs=>∃a cap,cs=[.slice a l.length cap]/\l.length<=cap/\br c m w a l
 len:=by rintro m w x cs ⟨a,cap,rfl,_⟩;rfl
 one:=by rintro m w x cs ⟨a,cap,rfl,_⟩ u hu;simp at hu;subst hu;rfl
 st:=by rintro m w x cs m' w' ⟨a,cap,rfl,h1,h2⟩ s;exact⟨a,cap,rfl,h1,h2.st s⟩
inductive Pc where
 |box (b:Nat) (l:List Value)
 |row (e size:Nat) (a:Option Addr) (n c:Nat) (xs:List Value)
 |vo (a:Option Addr) (xs rest:List Value) (T:Nat) (fz:Nat×Nat)
 |raw (b:Nat) (ob:Obj)
def Wn (w:World) (a:Option Addr) (xs rest:List Value) (T:Nat) (fz:Nat×Nat):Prop:=(a=none/\xs=[])\/∃g,a=some ⟨g,0,none⟩/\w.heap[g]? =some (.cells ⟨xs++rest⟩ T fz)/\(fz=(0,0)\/xs.length<=fz.1)
def Pc.bG:Pc->Option Nat
 | .box b _=>some b| .row _ _ a _ _ _=>Vc.bG a| .vo a _ _ _ _=>Vc.bG a| .raw b _=>some b
def Pc.holds (w:World):Pc->Prop
 | .box b l=>df w b l| .row e size a n c xs=>Rw w 0 e size a n c xs| .vo a xs rest T fz=>Wn w a xs rest T fz| .raw b ob=>w.heap[b]? =some ob/\Hz ob=true
theorem Pc.holds.lt {w:World} {p:Pc} (h:p.holds w) {b:Nat} (hb:p.bG=some b):b<w.heap.size:=by
 cases p with
 |box b' l=>cases hb;exact df.lt h
 |row e size a n c xs=>exact(Rw.lt h b hb).2
 |vo a xs rest T fz=>
  rcases h with⟨rfl,_⟩|⟨g,rfl,hg,_⟩
  ·cases hb
  ·cases hb;exact(Array.getElem?_eq_some_iff.1 hg).1
 |raw b' ob=>cases hb;exact(Array.getElem?_eq_some_iff.1 h.1).1
theorem Pc.holds.kept {w w':World} {p:Pc} (h:p.holds w) (hk:∀b,p.bG=some b->w'.heap[b]? =w.heap[b]?):p.holds w':=by
 cases p with
 |box b l=>obtain⟨T,hT⟩:=h;exact⟨T,by rw [hk b rfl];exact hT⟩
 |row e size a n c xs=>exact Rw.kept h hk
 |vo a xs rest T fz=>
  rcases h with h|⟨g,rfl,hg,hf⟩
  ·exact .inl h
  ·exact .inr ⟨g,rfl,by rw [hk g rfl];exact hg,hf⟩
 |raw b ob=>exact⟨by rw [hk b rfl];exact h.1,h.2⟩
def ms:List Pc->List Nat->List Nat
 |[],m=>m|p::ps,m=>p.bG.toList++ms ps m
theorem Cw {ps:List Pc} {m:List Nat} {k:Nat} :k∈ms ps m↔(∃p∈ps,p.bG=some k)\/k∈m:=by
 induction ps with
 |nil=>simp [ms]
 |cons p ps ih=>
  simp only [ms,mem_append,ih,mem_toList,mem_cons];constructor
  ·rintro(h|⟨q,hq,h⟩|h)
   ·exact .inl ⟨p,.inl rfl,h⟩
   ·exact .inl ⟨q,.inr hq,h⟩
   ·exact .inr h
  ·rintro(⟨q,rfl|hq,h⟩|h)
   ·exact .inl h
   ·exact .inr (.inl ⟨q,hq,h⟩)
   ·exact .inr (.inr h)
theorem Pc.holds.cells {w:World} {p:Pc} (h:p.holds w) {b:Nat} (hb:p.bG=some b):∃o,w.heap[b]? =some o/\Hz o=true:=by
 cases p with
 |box b' l=>cases hb;obtain⟨T,hT,_⟩:=h;exact⟨_,hT,rfl⟩
 |row e size a n c xs=>
  rcases h.2 with⟨hv,_⟩|⟨g,cap,cur,hv,_,hh,_⟩
  ·cases hv;cases hb
  ·cases hv;cases hb;exact⟨_,hh,rfl⟩
 |vo a xs rest T fz=>
  rcases h with⟨rfl,_⟩|⟨g,rfl,hg,_⟩
  ·cases hb
  ·cases hb;exact⟨_,hg,rfl⟩
 |raw b' ob=>cases hb;exact⟨_,h.1,h.2⟩
structure Mem (n0:Nat) (rs m0:List Nat) (fr:List (List Nat×Nat×World)) (ds:List Nat) (w:World) (ps:List Pc):Prop where
 le:n0<=w.heap.size
 lt:∀b∈m0,b<n0
 aP:∀f∈fr,O4 f.1 f.2.1 f.2.2 w
 ik:∀f∈fr,f.2.1<=f.2.2.heap.size/\∀p∈ps,∀b,p.bG=some b->b∈f.1\/f.2.1<=b
 holds:∀p∈ps,p.holds w
 ku:∀p∈ps,∀b,p.bG=some b->b∈rs\/n0<=b
 eO:ps.Pairwise fun p q=>∀b,p.bG=some b->q.bG≠some b
 marks:Ca ds w/\∀D∈ds,n0<=D
section
variable {n0:Nat} {rs m0:List Nat} {fr:List (List Nat×Nat×World)} {ds:List Nat} {w w':World} {ps:List Pc}
theorem Kp (w:World) (n:Nat):Ca [] w/\∀D∈([]:List Nat),n<=D:=⟨⟨List.nodup_nil,by simp⟩,by simp⟩
theorem Mem.start (h:∀b∈m0,b<w.heap.size):Mem w.heap.size [] m0 [([],w.heap.size,w)] [] w []:=
 ⟨le_refl _,h,fun f hf=>by simp at hf;subst hf;exact O4.refl _ _ _,fun f hf=>by simp at hf;subst hf;exact⟨le_refl _,fun _ h=>(by cases h)⟩,fun _ h=>(by cases h),fun _ h=>(by cases h),List.Pairwise.nil,Kp _ _⟩
theorem Mem.Bod (o:Mem n0 rs m0 fr ds w ps) (k:Nat) {e size:Nat} {a:Option Addr} {n n' c:Nat} {xs:List Value} (hk:ps[k]? =some (.row e size a n c xs)) (h:n=n'):Mem n0 rs m0 fr ds w (ps.set k (.row e size a n' c xs)):=by
 subst h;have:ps.set k (.row e size a n c xs)=ps:=by
  apply List.ext_getElem?;intro i;rw [List.getElem?_set];split
  ·rename_i hi;subst hi;split
   ·exact hk.symm
   ·rename_i aO;rw [List.getElem?_eq_none (by omega)]at hk;cases hk
  ·rfl
 rw [this];exact o
theorem Mem.mlt (o:Mem n0 rs m0 fr ds w ps):∀b∈ms ps m0,b<w.heap.size:=by
 intro b hb;rcases Cw.1 hb with⟨p,hp,h⟩|h
 ·exact(o.holds p hp).lt h
 ·exact Nat.lt_of_lt_of_le (o.lt b h) o.le
theorem Mem.mo {w0:World} (o:Mem w0.heap.size rs m0 fr ds w ps) (hm:bA m0 w0) (hr:∀b∈rs,b∈m0) (hf:(rs,w0.heap.size,w0)∈fr):bA (ms ps m0) w where
 lt:=o.mlt
 off:=fun b hb jk=>by
  rcases Cw.1 jk with⟨p,hp,h⟩|h
  ·rcases o.ku p hp b h with h1|h1
   ·exact hm.off b hb (hr b h1)
   ·exact absurd (held.lt w0 hm.jv b hb) (Nat.not_lt.2 h1)
  ·exact hm.off b hb h
 jv:=held.Bly w0 w (fun b hb=>(o.aP _ hf).kp.block b (held.lt w0 hm.jv b hb) (fun h=>hm.off b hb (hr b h))) hm.jv
theorem Mem.mn {w0:World} {fr:List (List Nat×Nat×World)} (o:Mem w0.heap.size [] m0 (([],w0.heap.size,w0)::fr) ds w ps) (hm:bA m0 w0):bA (ms ps m0) w:=o.mo hm (by simp) (.head _)
theorem Mem.mp {w0:World} {fr:List (List Nat×Nat×World)} (o:Mem w0.heap.size rs m0 ((rs,w0.heap.size,w0)::fr) ds w ps) (hm:bA m0 w0) (hr:∀b∈rs,b∈m0):bA (ms ps m0) w:=o.mo hm hr (.head _)
theorem Mem.done {w0:World} (o:Mem n0 rs m0 [(rs,w0.heap.size,w0)] ds w ps):Ai rs w0 w:=by
 have h:=o.aP _ (List.mem_cons_self);exact⟨h.kp.os,h.kp.tape,h.kp.output,h.kp.size,h.kp.block⟩
theorem NN {M l:List Nat} {B:Nat} {W:World} (h:O4 M B W w) (hB:B<=W.heap.size) (hK:Ai l w w') (hl:∀b∈l,(b∈M\/B<=b)/\∃o,w.heap[b]? =some o/\Hz o=true):O4 M B W w':=by
 refine⟨⟨hK.os.trans h.kp.os,hK.tape.trans h.kp.tape,hK.output.trans h.kp.output,le_trans h.kp.size hK.size,fun k hk hm=> ?_⟩,fun k ob hk ho hc=> ?_⟩
 ·rw [hK.block k (Nat.lt_of_lt_of_le hk (le_trans hB h.kp.size)) (fun gR=> ?_),h.kp.block k hk hm];rcases(hl k gR).1 with h1|h1
  ·exact hm h1
  ·omega
 ·have h2:=h.rest k ob hk ho hc;rw [hK.block k (Array.getElem?_eq_some_iff.1 h2).1 (fun gR=> ?_),h2];obtain⟨o',h3,h4⟩:=(hl k gR).2;rw [h2]at h3;cases h3
  rw [hc]at h4;cases h4
theorem NP {l:List Nat} (h:Ca ds w) (hK:Ai l w w') (hl:∀b∈l,∃o,w.heap[b]? =some o/\Hz o=true):Ca ds w':=
 ⟨h.1,fun D hD=>by
  have h2:=h.2 D hD;rw [hK.block D (Array.getElem?_eq_some_iff.1 h2).1 (fun gR=> ?_),h2];obtain⟨o',h3,h4⟩:=hl D gR;rw [h2]at h3;cases h3;cases h4⟩
theorem Mem.ext (o:Mem n0 rs m0 fr ds w ps) (e:Ai [] w w'):Mem n0 rs m0 fr ds w' ps:=
 ⟨le_trans o.le e.size,o.lt,fun f hf=>NN (o.aP f hf) (o.ik f hf).1 e (by simp),o.ik,fun p hp=>(o.holds p hp).kept fun b hb=>e.block b ((o.holds p hp).lt hb) (by simp),o.ku,o.eO,NP o.marks.1 e (by simp),o.marks.2⟩
theorem Mem.Bp9 (e:Ai [] w w'):Step (ms ps m0) w (ms ps m0) w':=⟨(e.mono (by simp)).d,fun _ h=> .inl h⟩
theorem NQ (h:w'=w.drew):Ai [] w w':=Ai.yo (.drew h)
theorem Ba {ob:Obj} (h:w'=w.alloc ob):Ai [] w w':=Ai.yo (.alloc h)
theorem Mem.push (o:Mem n0 rs m0 fr ds w ps) {b:Nat} {ob:Obj} (hb:b=w.heap.size) (e:w'=w.alloc ob) (p:Pc) (hp:p.bG=some b) (hh:p.holds w'):Mem n0 rs m0 fr ds w' (p::ps):=by
 have o':=o.ext (Ba e);refine⟨o'.le,o.lt,o'.aP,fun f hf=>⟨(o.ik f hf).1,fun q hq c hc=> ?_⟩,fun q hq=> ?_,fun q hq=> ?_,?_,o'.marks⟩
 ·cases hq with
  |head=>
   rw [hp]at hc;cases hc;have h1:=(o.aP f hf).kp.size;have h2:=(o.ik f hf).1;exact .inr (by omega)
  |tail _ hq=>exact(o.ik f hf).2 q hq c hc
 ·cases hq with
  |head=>exact hh
  |tail _ hq=>exact o'.holds q hq
 ·cases hq with
  |head=>intro c hc;rw [hp]at hc;cases hc;exact .inr (hb▸o.le)
  |tail _ hq=>exact o.ku q hq
 ·refine List.pairwise_cons.2 ⟨fun q hq c hc hqc=> ?_,o.eO⟩;rw [hp]at hc;cases hc;have:=(o.holds q hq).lt hqc;omega
theorem Mem.Bqa (e:Ai [] w w') (p:Pc) (hp:p.bG=some w.heap.size):Step (ms ps m0) w (ms (p::ps) m0) w':=
 ⟨(e.mono (by simp)).d,fun k hk=>by
   rcases Cw.1 hk with⟨q,hq,h⟩|h
   ·cases hq with
    |head=>rw [hp]at h;cases h;exact .inr (le_refl _)
    |tail _ hq=>exact .inl (Cw.2 (.inl ⟨q,hq,h⟩))
   ·exact .inl (Cw.2 (.inr h))⟩
theorem Mem.Boe (k:Nat) {e size:Nat} {a:Option Addr} {n c:Nat} {xs:List Value} (hk:ps[k]? =some (.row e size a n c xs)):Step (ms ps m0) w ((Vc.bG a).toList++m0) w:=Step.drop w fun j hj=>by
 rcases mem_append.1 hj with h|h
 ·exact Cw.2 (.inl ⟨_,mem_of_getElem? hk,by rwa [mem_toList]at h⟩)
 ·exact Cw.2 (.inr h)
theorem Mem.box (o:Mem n0 rs m0 fr ds w ps) {b:Nat} {cs:Array Value} {T:TypeId} (hb:b=w.heap.size) (e:w'=w.alloc (.cells cs T)) (tS:qB cs.toList T:=by first|exact trivial|exact fun h k=>by first|rfl|(simp at h;done)|(simp [zu]at k;done)):Mem n0 rs m0 fr ds w' (.box b cs.toList::ps):=
 o.push hb e (.box b cs.toList) rfl (df.new hb e tS)
theorem Mem.NR {b:Nat} {cs:Array Value} {T:TypeId} (hb:b=w.heap.size) (e:w'=w.alloc (.cells cs T)):Step (ms ps m0) w (ms (.box b cs.toList::ps) m0) w':=
 ⟨((Ba e).mono (by simp)).d,fun k hk=>by
  simp only [ms,Pc.bG,Option.toList_some,List.singleton_append,mem_cons]at hk;rcases hk with rfl|hk
  ·exact .inr (hb▸le_refl _)
  ·exact .inl hk⟩
theorem Mem.lit (o:Mem n0 rs m0 fr ds w ps) {b:Nat} {cs:Array Value} {T:TypeId} (hb:b=w.heap.size) (e:w'=w.alloc (.cells cs T)) (size n:Nat) (hn:n<=maxLen) (hs:cs.size=n*size):Mem n0 rs m0 fr ds w' (.row T size (some ⟨b,0,none⟩) n n cs.toList::ps):=
 o.push hb e (.row T size (some ⟨b,0,none⟩) n n cs.toList) rfl (Rw.lit hb e (Nat.zero_le _) hn hs)
theorem Mem.Bqb {b:Nat} {cs:Array Value} {T:TypeId} (hb:b=w.heap.size) (e:w'=w.alloc (.cells cs T)) (size n:Nat):Step (ms ps m0) w (ms (.row T size (some ⟨b,0,none⟩) n n cs.toList::ps) m0) w':=Mem.NR (ps:=ps) (m0:=m0) (T:=T) (cs:=cs) hb e
theorem Mem.BZ (o:Mem n0 rs m0 fr ds w ps) (e size:Nat):Mem n0 rs m0 fr ds w (.row e size none 0 0 []::ps):=by
 refine⟨o.le,o.lt,o.aP,fun f hf=>⟨(o.ik f hf).1,fun q hq c hc=> ?_⟩,fun q hq=> ?_,fun q hq=> ?_,List.pairwise_cons.2 ⟨fun q _ c hc=>(by cases hc),o.eO⟩,o.marks⟩
 ·cases hq with
  |head=>cases hc
  |tail _ hq=>exact(o.ik f hf).2 q hq c hc
 ·cases hq with
  |head=>exact Rw.nil w 0 e size
  |tail _ hq=>exact o.holds q hq
 ·cases hq with
  |head=>intro c hc;cases hc
  |tail _ hq=>exact o.ku q hq
theorem Mem.Bqc (e size:Nat):Step (ms ps m0) w (ms (.row e size none 0 0 []::ps) m0) w:=Step.drop w fun _ h=>h
theorem Mem.at (o:Mem n0 rs m0 fr ds w ps) (k:Nat) {b:Nat} {l:List Value} (hk:ps[k]? =some (.box b l)):df w b l:=o.holds _ (mem_of_getElem? hk)
theorem Mem.rowAt (o:Mem n0 rs m0 fr ds w ps) (k:Nat) {e size:Nat} {a:Option Addr} {n c:Nat} {xs:List Value} (hk:ps[k]? =some (.row e size a n c xs)):Rw w 0 e size a n c xs:=o.holds _ (mem_of_getElem? hk)
theorem Mem.wr (o:Mem n0 rs m0 fr ds w ps) (k:Nat) {b i n:Nat} {l:List Value} (hk:ps[k]? =some (.box b l)) (hn:Nat.ble (i+n) l.length=true):Ag w ⟨b,i,none⟩ n:=(o.at k hk).XI (Nat.le_of_ble_eq_true hn)
theorem Od (hd:ps.Pairwise fun p q=>∀b,p.bG=some b->q.bG≠some b) {i j:Nat} {p q:Pc} (hi:ps[i]? =some p) (hj:ps[j]? =some q) (lG:i≠j) {b:Nat} (hp:p.bG=some b) (hq:q.bG=some b):False:=by
 obtain⟨b8,e7⟩:=List.getElem?_eq_some_iff.1 hi;obtain⟨vp,vq⟩:=List.getElem?_eq_some_iff.1 hj;have hd:=List.pairwise_iff_getElem.1 hd;rcases Nat.lt_or_gt_of_ne lG with h|h
 ·exact hd i j b8 vp h b (by rw [e7];exact hp) (by rw [vq];exact hq)
 ·exact hd j i vp b8 h b (by rw [vq];exact hq) (by rw [e7];exact hp)
theorem Mem.kB (o:Mem n0 rs m0 fr ds w ps) (k:Nat) {p p':Pc} (hk:ps[k]? =some p) (hK:Ai p.bG.toList w w') (hp:p'.holds w') (hb:∀b,p'.bG=some b->p.bG=some b\/w.heap.size<=b):Mem n0 rs m0 fr ds w' (ps.set k p'):=by
 have gP:=mem_of_getElem? hk;have gR:=(List.getElem?_eq_some_iff.1 hk).1;have key:∀i q,(ps.set k p')[i]? =some q->(i=k/\q=p')\/(i≠k/\ps[i]? =some q):=by
  intro i q h;rw [List.getElem?_set]at h;split at h
  ·rename_i e;subst e;simp at h;exact .inl ⟨rfl,h.symm⟩
  ·rename_i e;exact .inr ⟨fun h=>e h.symm,h⟩
 have oz:∀b∈p.bG.toList,∃o,w.heap[b]? =some o/\Hz o=true:=fun b hb=>(o.holds p gP).cells (by rwa [mem_toList]at hb)
 refine⟨le_trans o.le hK.size,o.lt,fun f hf=>NN (o.aP f hf) (o.ik f hf).1 hK (fun b hb=>⟨(o.ik f hf).2 p gP b (by rwa [mem_toList]at hb),oz b hb⟩),fun f hf=>⟨(o.ik f hf).1,fun q hq b vt=> ?_⟩,fun q hq=> ?_,fun q hq b vt=> ?_,?_,NP o.marks.1 hK oz,o.marks.2⟩
 ·obtain⟨i,hi⟩:=getElem?_of_mem hq;rcases key i q hi with⟨_,rfl⟩|⟨bZ,hi⟩
  ·rcases hb b vt with h|h
   ·exact(o.ik f hf).2 p gP b h
   ·have h1:=(o.aP f hf).kp.size;have h2:=(o.ik f hf).1;exact .inr (by omega)
  ·exact(o.ik f hf).2 q (mem_of_getElem? hi) b vt
 ·obtain⟨i,hi⟩:=getElem?_of_mem hq;rcases key i q hi with⟨_,rfl⟩|⟨bZ,hi⟩
  ·exact hp
  ·have sC:=mem_of_getElem? hi;refine(o.holds q sC).kept fun b hb=>hK.block b ((o.holds q sC).lt hb) fun hm=> ?_
   rw [mem_toList]at hm;exact Od o.eO hi hk bZ hb hm
 ·obtain⟨i,hi⟩:=getElem?_of_mem hq;rcases key i q hi with⟨_,rfl⟩|⟨bZ,hi⟩
  ·rcases hb b vt with h|h
   ·exact o.ku p gP b h
   ·exact .inr (le_trans o.le h)
  ·exact o.ku q (mem_of_getElem? hi) b vt
 ·rw [List.pairwise_iff_getElem];intro i j hi hj lG b oo vu;have gi:=getElem?_eq_getElem hi;have gj:=getElem?_eq_getElem hj;rcases key i _ gi with⟨e1,e2⟩|⟨bZ,eN⟩<;>rcases key j _ gj with⟨e3,e4⟩|⟨Bqd,nB⟩
  ·omega
  ·rw [e2]at oo;rcases hb b oo with h|h
   ·exact Od o.eO hk nB (Ne.symm Bqd) h vu
   ·have:=(o.holds _ (mem_of_getElem? nB)).lt vu;omega
  ·rw [e4]at vu;rcases hb b vu with h|h
   ·exact Od o.eO eN hk bZ oo h
   ·have:=(o.holds _ (mem_of_getElem? eN)).lt oo;omega
  ·exact Od o.eO eN nB (by omega) oo vu
theorem Mem.qV (k:Nat) {p p':Pc} (hk:ps[k]? =some p) (hK:Ai p.bG.toList w w') (hb:∀b,p'.bG=some b->p.bG=some b\/w.heap.size<=b):Step (ms ps m0) w (ms (ps.set k p') m0) w':=by
 have gP:=mem_of_getElem? hk;refine⟨(hK.mono fun j hj=>Cw.2 (.inl ⟨p,gP,by rwa [mem_toList]at hj⟩)).d,fun j hj=> ?_⟩;rcases Cw.1 hj with⟨q,hq,h⟩|h
 ·rcases List.mem_or_eq_of_mem_set hq with hq|rfl
  ·exact .inl (Cw.2 (.inl ⟨q,hq,h⟩))
  ·rcases hb j h with h|h
   ·exact .inl (Cw.2 (.inl ⟨p,gP,h⟩))
   ·exact .inr h
 ·exact .inl (Cw.2 (.inr h))
theorem Gl {b i:Nat} {v:Value} (e:w'=w.setCell ⟨b,i,none⟩ v):Ai (some b).toList w w':=Ai.grown (L4 e)
theorem Kq {b i:Nat} {vs:List Value} (e:w'=setCells w ⟨b,i,none⟩ vs):Ai (some b).toList w w':=by
 subst e;unfold setCells
 suffices∀(vs:List Value) (w:World) (j:Nat),Ai (some b).toList w (Bi w ⟨b,i,none⟩ j vs) from this vs w 0
 intro vs
 induction vs with
 |nil=>intro w j;exact Ai.refl _ _
 |cons v vs ih=>intro w j;simp only [Bi];rw [Fc];exact(Gl rfl).trans (ih _ _)
theorem Mem.set (o:Mem n0 rs m0 fr ds w ps) (k:Nat) {b i:Nat} {l:List Value} {v:Value} (e:w'=w.setCell ⟨b,i,none⟩ v) (hk:ps[k]? =some (.box b l)) (tT:Gv v:=by first|exact trivial|exact rfl):Mem n0 rs m0 fr ds w' (ps.set k (.box b (l.set i v))):=
 o.kB k hk (Gl e) ((o.at k hk).set e tT) fun _ h=> .inl h
theorem Mem.Bqe (k:Nat) {b i:Nat} {l:List Value} {v:Value} (e:w'=w.setCell ⟨b,i,none⟩ v) (hk:ps[k]? =some (.box b l)):Step (ms ps m0) w (ms (ps.set k (.box b (l.set i v))) m0) w':=
 Mem.qV k hk (Gl e) fun _ h=> .inl h
theorem Mem.zw (o:Mem n0 rs m0 fr ds w ps) (k:Nat) {b i:Nat} {l vs:List Value} (e:w'=setCells w ⟨b,i,none⟩ vs) (hk:ps[k]? =some (.box b l)) (tU:qC vs:=by first|exact trivial|exact rfl):Mem n0 rs m0 fr ds w' (ps.set k (.box b (over l i vs))):=
 o.kB k hk (Kq e) ((o.at k hk).zw e tU) fun _ h=> .inl h
theorem Mem.Bog (k:Nat) {b i:Nat} {l vs:List Value} (e:w'=setCells w ⟨b,i,none⟩ vs) (hk:ps[k]? =some (.box b l)):Step (ms ps m0) w (ms (ps.set k (.box b (over l i vs))) m0) w':=
 Mem.qV k hk (Kq e) fun _ h=> .inl h
theorem Mem.call (o:Mem n0 rs m0 fr ds w ps) (k:Nat) {b:Nat} {l l':List Value} (hK:Ai [b] w w') (hb:df w' b l') (hk:ps[k]? =some (.box b l)):Mem n0 rs m0 fr ds w' (ps.set k (.box b l')):=
 o.kB k hk hK hb fun _ h=> .inl h
theorem Mem.Boh (k:Nat) {b:Nat} {l l':List Value} (hK:Ai [b] w w') (hk:ps[k]? =some (.box b l)):Step (ms ps m0) w (ms (ps.set k (.box b l')) m0) w':=
 Mem.qV k hk hK fun _ h=> .inl h
theorem Mem.NS (k:Nat) {e size:Nat} {a':Option Addr} {n' c':Nat} {gM:List Value} :Step ((Vc.bG a').toList++ms ps m0) w (ms (ps.set k (.row e size a' n' c' gM)) m0) w:=Step.drop w fun q hq=>by
 rcases Cw.1 hq with⟨p,hp,h⟩|h
 ·rcases List.mem_or_eq_of_mem_set hp with hp|rfl
  ·exact mem_append.2 (.inr (Cw.2 (.inl ⟨p,hp,h⟩)))
  ·exact mem_append.2 (.inl (by rw [mem_toList];exact h))
 ·exact mem_append.2 (.inr (Cw.2 (.inr h)))
theorem Mem.mN (k:Nat) {b:Nat} {l:List Value} (hk:ps[k]? =some (.box b l)):b∈ms ps m0:=Cw.2 (.inl ⟨_,mem_of_getElem? hk,rfl⟩)
theorem Mem.fp:Step (ms ps m0) w m0 w:=Step.drop w fun _ h=>Cw.2 (.inr h)
theorem Mem.erase (o:Mem n0 rs m0 fr ds w ps) (k:Nat):Mem n0 rs m0 fr ds w (ps.eraseIdx k):=
 ⟨o.le,o.lt,o.aP,fun f hf=>⟨(o.ik f hf).1,fun p hp=>(o.ik f hf).2 p (List.mem_of_mem_eraseIdx hp)⟩,fun p hp=>o.holds p (List.mem_of_mem_eraseIdx hp),fun p hp=>o.ku p (List.mem_of_mem_eraseIdx hp),o.eO.sublist (List.eraseIdx_sublist ps k),o.marks⟩
theorem Mem.Blz (k:Nat):Step (ms ps m0) w (ms (ps.eraseIdx k) m0) w:=Step.drop w fun j hk=>by
 rcases Cw.1 hk with⟨p,hp,h⟩|h
 ·exact Cw.2 (.inl ⟨p,List.mem_of_mem_eraseIdx hp,h⟩)
 ·exact Cw.2 (.inr h)
theorem Mem.front (o:Mem n0 rs m0 fr ds w ps) (k:Nat) {p:Pc} (hk:ps[k]? =some p):Mem n0 rs m0 fr ds w (p::ps.eraseIdx k):=by
 have hp:=mem_of_getElem? hk;have kT:∀q∈p::ps.eraseIdx k,q∈ps:=fun q hq=>by
  rcases mem_cons.1 hq with rfl|h
  ·exact hp
  ·exact List.mem_of_mem_eraseIdx h
 refine⟨o.le,o.lt,o.aP,fun f hf=>⟨(o.ik f hf).1,fun q hq=>(o.ik f hf).2 q (kT q hq)⟩,fun q hq=>o.holds q (kT q hq),fun q hq=>o.ku q (kT q hq),List.pairwise_cons.2 ⟨fun q hq b h1 h2=> ?_,o.eO.sublist (List.eraseIdx_sublist ps k)⟩,o.marks⟩;obtain⟨i,hi⟩:=getElem?_of_mem hq;rw [List.getElem?_eraseIdx]at hi;split at hi
 ·exact Od o.eO hi hk (by omega) h2 h1
 ·exact Od o.eO hi hk (by omega) h2 h1
theorem Mem.NT (o:Mem n0 rs m0 fr ds w ps) (k:Nat) {p:Pc} {b:Nat} (hk:ps[k]? =some p) (hp:p.bG=some b) (hr:b∉rs):b∉ms (ps.eraseIdx k) m0:=by
 intro hm;have gP:=mem_of_getElem? hk;rcases Cw.1 hm with⟨q,hq,h⟩|h
 ·obtain⟨i,hi⟩:=getElem?_of_mem hq;rw [List.getElem?_eraseIdx]at hi;split at hi
  ·exact Od o.eO hi hk (by omega) h hp
  ·exact Od o.eO hi hk (by omega) h hp
 ·rcases o.ku _ gP b hp with h2|h2
  ·exact hr h2
  ·have:=o.lt _ h;omega
theorem Mem.freeze (o:Mem n0 rs m0 fr ds w ps) (k:Nat) {e:Nat} {α:Type} {c:cO α} {a:Option Addr} {n cap:Nat} {xs:List Value} {l:List α} (hk:ps[k]? =some (.row e c.size a n cap xs)) (hr:∀b∈rs,b∉Vc.bG a) (he:El c (ms (ps.eraseIdx k) m0) w l xs):br c (ms (ps.eraseIdx k) m0) w a l:=by
 have nJ:=o.rowAt k hk;have nV:=nJ.sl;by_cases hl:l=[]
 ·exact .inl hl
 ·right;have hx:xs≠[]:=by
   intro h;have:=he.len;rw [h]at this;have hp:=c.pos;have h2:=List.length_pos_iff.2 hl;have h3:=Nat.mul_pos h2 hp;simp only [List.length_nil]at this;omega
  obtain⟨p,rfl,hc⟩:=nV.BX hx;exact⟨p,xs,rfl,o.NT k hk rfl (fun h=>hr _ h (by simp [Vc.bG])),hc,he⟩
theorem Mem.NU (o:Mem n0 rs m0 fr ds w ps) (k:Nat) {b:Nat} {l:List Value} (hk:ps[k]? =some (.box b l)) (hr:b∉rs):G0 (ms (ps.eraseIdx k) m0) w ⟨b,0,none⟩ l:=
 ⟨⟨o.NT k hk rfl hr,(o.holds _ (mem_of_getElem? hk)).cells rfl⟩,(o.at k hk).whole⟩
theorem Mem.recv {b:Nat} {l:List Value} (hm:∀b∈m0,b<w.heap.size) (_:b∈m0) (hb:df w b l):Mem w.heap.size [b] m0 [([b],w.heap.size,w)] [] w [.box b l]:=
 ⟨le_refl _,hm,fun f hf=>by simp at hf;subst hf;exact O4.refl _ _ _,fun f hf=>by simp at hf;subst hf;exact⟨le_refl _,fun p hp c hc=>by simp at hp;subst hp;cases hc;exact .inl (by simp)⟩,
  fun p hp=>by simp at hp;subst hp;exact hb,fun p hp c hc=>by simp at hp;subst hp;cases hc;exact .inl (by simp),List.pairwise_singleton _ _,Kp _ _⟩
theorem Mem.qW {b:Nat} {l:List Value} (hi:b∈m0) (_:df w b l):Step m0 w (ms [.box b l] m0) w:=Step.drop w fun k hk=>by
 rcases Cw.1 hk with⟨p,hp,h⟩|h
 ·simp at hp;subst hp;cases h;exact hi
 ·exact h
theorem Mem.given {e size n c:Nat} {a:Option Addr} {xs:List Value} (hm:∀b∈m0,b<w.heap.size) (hb:Rw w 0 e size a n c xs):Mem w.heap.size (Vc.bG a).toList m0 [((Vc.bG a).toList,w.heap.size,w)] [] w [.row e size a n c xs]:=
 ⟨le_refl _,hm,fun f hf=>by simp at hf;subst hf;exact O4.refl _ _ _,fun f hf=>by simp at hf;subst hf;exact⟨le_refl _,fun p hp c hc=>by simp at hp;subst hp;exact .inl (by simpa [Pc.bG] using hc)⟩,
  fun p hp=>by simp at hp;subst hp;exact hb,fun p hp c hc=>by simp at hp;subst hp;exact .inl (by simpa [Pc.bG] using hc),List.pairwise_singleton _ _,Kp _ _⟩
theorem Mem.Bl0 {e size n c:Nat} {a:Option Addr} {xs:List Value} (hi:∀b,Vc.bG a=some b->b∈m0):Step m0 w (ms [.row e size a n c xs] m0) w:=Step.drop w fun k hk=>by
 rcases Cw.1 hk with⟨p,hp,h⟩|h
 ·simp at hp;subst hp;exact hi k h
 ·exact h
theorem Mem.NV (k:Nat) {e size n c:Nat} {a:Option Addr} {xs:List Value} (hk:ps[k]? =some (.row e size a n c xs)):∀b,Vc.bG a=some b->b∈ms ps m0:=fun _ hb=>Cw.2 (.inl ⟨_,mem_of_getElem? hk,hb⟩)
theorem _root_.Go.Vc.Ai.Bk5 {a:Option Addr} (h:Ai (Vc.bG a).toList w w'):w.grownBy w' (Vc.bG a):=⟨h.os,h.tape,h.output,h.size,fun j hj hm=>h.block j hj (by simpa [eq_comm] using hm)⟩
theorem Mem.neq (o:Mem n0 rs m0 fr ds w ps) (i j:Nat) {b c:Nat} {l l':List Value} (hi:ps[i]? =some (.box b l)) (hj:ps[j]? =some (.box c l')) (lG:i≠j) (h:b=c):False:=
 Od o.eO hi hj lG (b:=b) rfl (by rw [h];rfl)
theorem Mem.app (o:Mem n0 rs m0 fr ds w ps) (k:Nat) {e size n c n' c':Nat} {a a':Option Addr} {xs gM:List Value} (hk:ps[k]? =some (.row e size a n c xs)) (hr:Rw w' 0 e size a' n' c' gM) (hg:w.grownBy w' (Vc.bG a)) (fG:Vc.bG a'=Vc.bG a\/Vc.bG a'=some w.heap.size):Mem n0 rs m0 fr ds w' (ps.set k (.row e size a' n' c' gM)):=
 o.kB k hk (Ai.grown hg) hr fun b hb=>by
  rcases fG with h|h
  ·exact .inl (h.symm.trans hb)
  ·exact .inr (by have:some b=some w.heap.size:=hb.symm.trans h;cases this;exact le_refl _)
theorem Mem.Bqf (k:Nat) {e size n c n' c':Nat} {a a':Option Addr} {xs gM:List Value} (hk:ps[k]? =some (.row e size a n c xs)) (_:Rw w' 0 e size a' n' c' gM) (hg:w.grownBy w' (Vc.bG a)) (fG:Vc.bG a'=Vc.bG a\/Vc.bG a'=some w.heap.size):Step (ms ps m0) w (ms (ps.set k (.row e size a' n' c' gM)) m0) w':=
 Mem.qV (p':= .row e size a' n' c' gM) k hk (Ai.grown hg) fun b hb=>by
  rcases fG with h|h
  ·exact .inl (h.symm.trans hb)
  ·exact .inr (by have:some b=some w.heap.size:=hb.symm.trans h;cases this;exact le_refl _)
theorem Atn {R:List Nat} {w0 w1 w2:World} {a:Option Addr} (t:Ai R w0 w1) (hg:w1.grownBy w2 (Vc.bG a)) (hf:∀q,Vc.bG a=some q->q∈R\/w0.heap.size<=q):Ai R w0 w2:=
 ⟨hg.os.trans t.os,hg.tape.trans t.tape,hg.output.trans t.output,le_trans t.size hg.size,fun j hj hm=>(hg.block j (Nat.lt_of_lt_of_le hj t.size) fun e=>by
  rcases hf j e.symm with h|h
  ·exact hm h
  ·omega).trans (t.block j hj hm)⟩
theorem Sw {R:List Nat} {w0 w1 w2:World} {b:Nat} (t:Ai R w0 w1) (k:Ai (some b).toList w1 w2) (hf:∀q,Vc.bG (some ⟨b,0,none⟩)=some q->q∈R\/w0.heap.size<=q):Ai R w0 w2:=
 Atn (a:=some ⟨b,0,none⟩) t (Ai.Bk5 (a:=some ⟨b,0,none⟩) k) hf
theorem Qg {w u:World} {q:Addr} {cs:List Value} (h:Ad w q cs) (hu:Ai [] w u):Ad u q cs:=Ad.kept h fun bZ=>hu.block _ (Ad.lt h bZ) (by simp)
theorem B_ {P:World->Prop} {w:World} (h:P w):∀u,u=w->P u:=fun _ hu=>hu▸h
theorem V9 {R:List Nat} {w0 w1:World} {b:Nat} (hb:b=w1.heap.size) (t:Ai R w0 w1):∀q,Vc.bG (some ⟨b,0,none⟩)=some q->q∈R\/w0.heap.size<=q:=fun q hq=>by
 cases hq
 exact .inr (by rw [hb];exact t.size)
theorem Mem.xE (_:Mem n0 rs m0 fr ds w ps) (e:Ai [] w w'):Step (ms ps m0) w (ms ps m0) w':=Mem.Bp9 e
theorem Mem.xB (_:Mem n0 rs m0 fr ds w ps) {b:Nat} {cs:Array Value} {T:TypeId} (hb:b=w.heap.size) (e:w'=w.alloc (.cells cs T)):Step (ms ps m0) w (ms (.box b cs.toList::ps) m0) w':=Mem.NR hb e
theorem Mem.xL (_:Mem n0 rs m0 fr ds w ps) {b:Nat} {cs:Array Value} {T:TypeId} (hb:b=w.heap.size) (e:w'=w.alloc (.cells cs T)) (size n:Nat):Step (ms ps m0) w (ms (.row T size (some ⟨b,0,none⟩) n n cs.toList::ps) m0) w':=Mem.Bqb hb e size n
theorem Mem.xN (_:Mem n0 rs m0 fr ds w ps) (e size:Nat):Step (ms ps m0) w (ms (.row e size none 0 0 []::ps) m0) w:=Mem.Bqc e size
theorem Mem.xS (_:Mem n0 rs m0 fr ds w ps) (k:Nat) {b i:Nat} {l:List Value} {v:Value} (e:w'=w.setCell ⟨b,i,none⟩ v) (hk:ps[k]? =some (.box b l)):Step (ms ps m0) w (ms (ps.set k (.box b (l.set i v))) m0) w':=Mem.Bqe k e hk
theorem Mem.xSs (_:Mem n0 rs m0 fr ds w ps) (k:Nat) {b i:Nat} {l vs:List Value} (e:w'=setCells w ⟨b,i,none⟩ vs) (hk:ps[k]? =some (.box b l)):Step (ms ps m0) w (ms (ps.set k (.box b (over l i vs))) m0) w':=Mem.Bog k e hk
theorem Mem.xX (_:Mem n0 rs m0 fr ds w ps) (k:Nat):Step (ms ps m0) w (ms (ps.eraseIdx k) m0) w:=Mem.Blz k
theorem Mem.xA (_:Mem n0 rs m0 fr ds w ps) (k:Nat) {e size n c n' c':Nat} {a a':Option Addr} {xs gM:List Value} (hk:ps[k]? =some (.row e size a n c xs)) (hr:Rw w' 0 e size a' n' c' gM) (hg:w.grownBy w' (Vc.bG a)) (fG:Vc.bG a'=Vc.bG a\/Vc.bG a'=some w.heap.size):Step (ms ps m0) w (ms (ps.set k (.row e size a' n' c' gM)) m0) w':=Mem.Bqf k hk hr hg fG
theorem Mem.xC (_:Mem n0 rs m0 fr ds w ps) (k:Nat) {b:Nat} {l l':List Value} (hK:Ai [b] w w') (hk:ps[k]? =some (.box b l)):Step (ms ps m0) w (ms (ps.set k (.box b l')) m0) w':=Mem.Boh k hK hk
theorem Mem.dC (o:Mem n0 rs m0 fr ds w ps) (k:Nat) {b:Nat} {l l':List Value} (hK:Ai [b] w w') (hb:df w' b l') (hk:ps[k]? =some (.box b l)):Step (ms ps m0) w (ms (ps.set k (.box b l')) m0) w'/\Mem n0 rs m0 fr ds w' (ps.set k (.box b l')):=⟨o.xC k hK hk,o.call k hK hb hk⟩
theorem Mem.CA (_:Mem n0 rs m0 fr ds w ps) (k:Nat) {e size:Nat} {a:Option Addr} {n c:Nat} {xs:List Value} (hk:ps[k]? =some (.row e size a n c xs)):Step (ms ps m0) w ((Vc.bG a).toList++m0) w:=Mem.Boe k hk
theorem Mem.dE (o:Mem n0 rs m0 fr ds w ps) (e:Ai [] w w'):Step (ms ps m0) w (ms ps m0) w'/\Mem n0 rs m0 fr ds w' ps:=⟨o.xE e,o.ext e⟩
theorem Mem.dD (o:Mem n0 rs m0 fr ds w ps) (e:w'=w.drew):Step (ms ps m0) w (ms ps m0) w'/\Mem n0 rs m0 fr ds w' ps:=o.dE (NQ e)
theorem Mem.dB (o:Mem n0 rs m0 fr ds w ps) {b:Nat} {cs:Array Value} {T:TypeId} (hb:b=w.heap.size) (e:w'=w.alloc (.cells cs T)) (tS:qB cs.toList T:=by first|exact trivial|exact fun h k=>by first|rfl|(simp at h;done)|(simp [zu]at k;done)):Step (ms ps m0) w (ms (.box b cs.toList::ps) m0) w'/\Mem n0 rs m0 fr ds w' (.box b cs.toList::ps):=⟨o.xB hb e,o.box hb e tS⟩
theorem Mem.dS (o:Mem n0 rs m0 fr ds w ps) (k:Nat) {b i:Nat} {l:List Value} {v:Value} (e:w'=w.setCell ⟨b,i,none⟩ v) (hk:ps[k]? =some (.box b l)) (tT:Gv v:=by first|exact trivial|exact rfl):Step (ms ps m0) w (ms (ps.set k (.box b (l.set i v))) m0) w'/\Mem n0 rs m0 fr ds w' (ps.set k (.box b (l.set i v))):=⟨o.xS k e hk,o.set k e hk tT⟩
theorem Mem.dz (o:Mem n0 rs m0 fr ds w ps) (k:Nat) {b i:Nat} {l vs:List Value} (e:w'=setCells w ⟨b,i,none⟩ vs) (hk:ps[k]? =some (.box b l)) (tU:qC vs:=by first|exact trivial|exact rfl):Step (ms ps m0) w (ms (ps.set k (.box b (over l i vs))) m0) w'/\Mem n0 rs m0 fr ds w' (ps.set k (.box b (over l i vs))):=⟨o.xSs k e hk,o.zw k e hk tU⟩
theorem Mem.dX (o:Mem n0 rs m0 fr ds w ps) (k:Nat):Step (ms ps m0) w (ms (ps.eraseIdx k) m0) w/\Mem n0 rs m0 fr ds w (ps.eraseIdx k):=⟨o.xX k,o.erase k⟩
theorem NW {M:List Nat} {B B':Nat} {W:World} (h:O4 M B W w) (hG:Grown B' w w') (hB:B<=W.heap.size) (sw:W.heap.size<=B'):O4 M B W w':=by
 have key:∀k,k<W.heap.size->w'.heap[k]? =w.heap[k]? :=fun k hk=>by
  have aO:k<w.heap.size:=Nat.lt_of_lt_of_le hk h.kp.size;have:=hG.block k _ (Array.getElem?_eq_getElem aO) (.inl (by omega));rw [this,Array.getElem?_eq_getElem aO]
 refine⟨⟨hG.os.trans h.kp.os,hG.tape.trans h.kp.tape,hG.output.trans h.kp.output,le_trans h.kp.size hG.size,fun k hk hm=>(key k (by omega)).trans (h.kp.block k hk hm)⟩,fun k o hk ho hc=> ?_⟩;rw [key k (Array.getElem?_eq_some_iff.1 ho).1];exact h.rest k o hk ho hc
theorem Mem.grow {B:Nat} (o:Mem n0 rs m0 fr ds w ps) (hG:Grown B w w') (hB:∀f∈fr,f.2.2.heap.size<=B) (hd:∀D∈ds,D<B):Mem n0 rs m0 fr ds w' ps:=
 ⟨le_trans o.le hG.size,o.lt,fun f hf=>NW (o.aP f hf) hG (o.ik f hf).1 (hB f hf),o.ik,fun p hp=>(o.holds p hp).kept fun b hb=>by
  obtain⟨ob,h1,h2⟩:=(o.holds p hp).cells hb;rw [hG.block b ob h1 (.inr h2),h1],o.ku,o.eO,⟨o.marks.1.1,fun D hD=>hG.block D _ (o.marks.1.2 D hD) (.inl (hd D hD))⟩,o.marks.2⟩
theorem Mem.round (o:Mem n0 rs m0 fr ds w ps) {M:List Nat} {B:Nat} (hB:B<=w.heap.size) (hM:∀k∈ms ps m0,k∈M\/B<=k):Mem n0 rs m0 ((M,B,w)::fr) ds w ps:=
 ⟨o.le,o.lt,fun f hf=>by cases hf with|head=>exact O4.refl _ _ _|tail _ hf=>exact o.aP f hf,
  fun f hf=>by cases hf with|head=>exact⟨hB,fun p hp b hb=>hM b (Cw.2 (.inl ⟨p,hp,hb⟩))⟩|tail _ hf=>exact o.ik f hf,o.holds,o.ku,o.eO,o.marks⟩
theorem Mem.NY {M:List Nat} {B:Nat} {W:World} (o:Mem n0 rs m0 ((M,B,W)::fr) ds w ps):O4 M B W w/\Mem n0 rs m0 fr ds w ps:=
 ⟨o.aP _ List.mem_cons_self,o.le,o.lt,fun f hf=>o.aP f (List.mem_cons_of_mem _ hf),fun f hf=>o.ik f (List.mem_cons_of_mem _ hf),o.holds,o.ku,o.eO,o.marks⟩
theorem _root_.Go.Vc.t6.all {M:List Nat} {W W':World} (h:t6 M W.heap.size W W'):Ai M W W':=⟨h.os,h.tape,h.output,h.size,h.block⟩
theorem Mem.mark (o:Mem n0 rs m0 fr ds w ps) {D B:Nat} (hD:w.heap[D]? =some (.deferred (some []))) (hB:B<=D) (hn:n0<=B) (hd:∀E∈ds,E<B):Mem n0 rs m0 fr (D::ds) w ps:=
 ⟨o.le,o.lt,o.aP,o.ik,o.holds,o.ku,o.eO,⟨List.nodup_cons.2 ⟨fun h=>by have:=hd D h;omega,o.marks.1.1⟩,fun E hE=>by cases hE with|head=>exact hD|tail _ hE=>exact o.marks.1.2 E hE⟩,fun E hE=>by cases hE with|head=>omega|tail _ hE=>exact o.marks.2 E hE⟩
theorem Sx (n:Nat):∀(ds:List Nat) (w:World),Ca ds w->(∀D∈ds,n<=D)->Grown n w (shut ds w)
 |[],w,_,_=>Grown.refl _ _
 |D::ds,w,h,hn=>by
  have h1:Grown n w (w.putObj D (.deferred none)):=by
   refine⟨rfl,rfl,rfl,by simp [World.putObj],fun k ob hk hc=> ?_⟩;rw [World.putObj_heap_other (fun e=> ?_)]
   ·exact hk
   ·subst e;have h2:=h.2 k (by simp);rw [hk]at h2;cases h2
    rcases hc with hc|hc
    ·have:=hn k (by simp);omega
    ·cases hc
  exact h1.trans (Sx n ds _ (I8 h _) fun E hE=>hn E (by simp [hE]))
theorem Mem.NZ {w0:World} (o:Mem w0.heap.size rs m0 [(rs,w0.heap.size,w0)] ds w ps):Ai rs w0 (shut ds w):=by
 have hG:=Sx w0.heap.size ds w o.marks.1 o.marks.2;have h:=NW (o.aP _ List.mem_cons_self) hG (le_refl _) (le_refl _);exact⟨h.kp.os,h.kp.tape,h.kp.output,h.kp.size,h.kp.block⟩
theorem Mem.N_ (o:Mem n0 rs m0 fr ds w ps) (k:Nat) {b:Nat} {l:List Value} (hk:ps[k]? =some (.box b l)):df (shut ds w) b l:=by
 have hG:=Sx n0 ds w o.marks.1 o.marks.2;obtain⟨T,hT,hg⟩:=o.at k hk;exact⟨T,hG.block b _ hT (.inr rfl),hg⟩
end
theorem Mem.dsl {n0:Nat} {rs m0:List Nat} {fr:List (List Nat×Nat×World)} {ds:List Nat} {w:World} {ps:List Pc} (o:Mem n0 rs m0 fr ds w ps):∀D∈ds,D<w.heap.size:=fun D hD=>(Array.getElem?_eq_some_iff.1 (o.marks.1.2 D hD)).1
def Gh {α:Type} (J Jx:List α->World->Prop) (pre:List α) (stop:Bool) (W:World):Prop:=cond stop (Jx pre W) (J pre W)
theorem OA {α:Type} {J Jx:List α->World->Prop} {pre xs:List α} {stop:Bool} {W:World} (h:Gh J Jx pre stop W) (hp:pre<+:xs) (he:stop=false->pre=xs):J xs W\/∃pre,pre<+:xs/\Jx pre W:=by
 cases stop
 ·rw [←he rfl];exact .inl h
 ·exact .inr ⟨pre,hp,h⟩
theorem Ali {α:Type} {pre xs:List α} {x:α} (h:pre<+:xs) (hx:xs[pre.length]? =some x):(pre++[x])<+:xs:=by
 obtain⟨t,rfl⟩:=h;cases t with
 |nil=>simp at hx
 |cons y t=>simp at hx;subst hx;exact⟨t,by simp⟩
theorem _root_.Go.Vc.Grown.Boj {w W:World} (h:Grown w.heap.size w W) (m:List Nat):Ai m w W:=⟨h.os,h.tape,h.output,h.size,fun k hk _=>by
 have:=h.block k _ (Array.getElem?_eq_getElem hk) (.inl hk);rw [this,Array.getElem?_eq_getElem hk]⟩
theorem _root_.Go.Vc.Ai.kpm {m:List Nat} {w W W':World} (h:Ai m w W) (k:t6 m w.heap.size W W'):Ai m w W':=
 ⟨k.os.trans h.os,k.tape.trans h.tape,k.output.trans h.output,le_trans h.size k.size,fun j hj hm=>(k.block j hj hm).trans (h.block j hj hm)⟩
theorem _root_.Go.Vc.Ai.oJ {m:List Nat} {w W:World} (h:Ai m w W):Step m w m W:=⟨h.d,fun _ h=> .inl h⟩
theorem OB (w:World):Ca [] w:=⟨List.nodup_nil,by simp⟩
theorem Qh {p:Nat->Prop} (h:∃n,p n):∃n,p n/\∀k,p k->n<=k:=by
 obtain⟨n,hn⟩:=h
 induction n using Nat.strongRecOn with
 |_ n ih=>
  by_cases hk:∃k,k<n/\p k
  ·obtain⟨k,h1,h2⟩:=hk;exact ih k h1 h2
  ·exact⟨n,hn,fun k CB=>by
    rcases Nat.lt_or_ge k n with h|h
    ·exact absurd ⟨k,h,CB⟩ hk
    ·exact h⟩
open Classical in
noncomputable def bX (p:Nat->Prop):Nat:=if h:∃n,p n then Classical.choose (Qh h)else 0
theorem Au {p:Nat->Prop} (h:∃n,p n):p (bX p):=by unfold bX;rw [dif_pos h];exact(Classical.choose_spec (Qh h)).1
theorem Arj {p:Nat->Prop} {n:Nat} (h:p n):bX p<=n:=by unfold bX;rw [dif_pos ⟨n,h⟩];exact(Classical.choose_spec (Qh ⟨n,h⟩)).2 n h
theorem Aa {b:Bool} {A B A' B':Prop} (h1:A->A') (h2:B->B') (h:cond b A B):cond b A' B':=by cases b;exact h2 h;exact h1 h
theorem _root_.Go.Vc.df.aP {w u:World} {b:Nat} {l:List Value} (h:df w b l) {r:List Nat} (hu:Ai r w u) (hr:b∉r):df u b l:=by
 obtain⟨T,hT⟩:=h;exact⟨T,by rw [hu.block b (Array.getElem?_eq_some_iff.1 hT.1).1 hr];exact hT⟩
theorem _root_.Go.Vc.Rw.cap {w:World} {base e size:Nat} {a:Option Addr} {n c:Nat} {xs:List Value} (h:Rw w base e size a n c xs):n<=c:=by
 rcases h.2 with⟨hv,hn⟩|⟨g,cap,cur,hv,_,_,hc,_⟩
 ·omega
 ·cases hv;exact hc
theorem Nf {α:Type} {c:cO α} {m:List Nat} {w:World} {e n cap:Nat} {a:Option Addr} {xs:List Value} {l:List α} (hr:Rw w 0 e c.size a n cap xs) (he:El c m w l xs) {i:Int} (hi:0<=i/\i<(l.length:Int)): ∃p x cs,a=some p/\l[i.toNat]? =some x/\(True/\Ad w (p.add (i.toNat*c.size)) cs)/\c.rep m w x cs:=by
 have aO:i.toNat<l.length:=by omega
 obtain⟨cs,ys,zs,hx,hy,pT⟩:=he.get (getElem?_eq_getElem aO);have bZ:cs≠[]:=fun e=>by have:=c.len pT;rw [e]at this;have:=c.pos;simp at*;omega
 have nV:=hr.sl;rw [hx]at nV;obtain⟨p,hp,hc⟩:=nV.BX (by simp [bZ]);have eV:=Ad.sub hc bZ;rw [hy]at eV;exact⟨p,_,cs,hp,getElem?_eq_getElem aO,⟨trivial,eV⟩,pT⟩
theorem Um {α:Type} {c:cO α} {m:List Nat} {w:World} {e n cap:Nat} {a:Option Addr} {xs:List Value} {l:List α} (hr:Rw w 0 e c.size a n cap xs) (he:El c m w l xs):n=l.length:=
 Nat.eq_of_mul_eq_mul_right c.pos (hr.len.symm.trans he.len)
theorem Rh {α:Type} {c:cO α} {m:List Nat} {w:World} {e n cap:Nat} {a:Option Addr} {xs:List Value} {l:List α} (hr:Rw w 0 e c.size a n cap xs) (he:El c m w l xs) {i:Int} (hi:0<=i/\i<(n:Int)):
 ∃p x cs,a=some p/\l[i.toNat]? =some x/\(True/\Ad w (p.add (i.toNat*c.size)) cs)/\c.rep m w x cs:=Nf hr he (by rw [Um hr he]at hi;exact hi)
theorem CC:∀(vs l:List Value) (i:Nat),(over l i vs).length=l.length
 |[],_,_=>rfl
 |v::vs,l,i=>by rw [over,CC];simp
theorem OC (k:Nat):∀(vs l:List Value) (i:Nat),(over l i vs).take k=over (l.take k) i vs
 |[],_,_=>rfl
 |v::vs,l,i=>by rw [over,OC,over,List.take_set]
theorem Ark (A B:List Value):∀(vs:List Value) (i:Nat),i+vs.length<=A.length->over (A++B) i vs=over A i vs++B:=by
 intro vs
 induction vs generalizing A with
 |nil=>intro i _;rfl
 |cons v vs ih=>
  intro i h;simp only [List.length_cons]at h;rw [over,over,List.set_append_left _ _ (by omega)];exact ih (A.set i v) (i+1) (by simp;omega)
theorem An5 (A B:List Value):∀(vs:List Value) (i:Nat),over (A++B) (A.length+i) vs=A++over B i vs:=by
 intro vs
 induction vs generalizing B with
 |nil=>intro i;rfl
 |cons v vs ih=>
  intro i;rw [over,over,List.set_append_right _ _ (by omega),show A.length+i-A.length=i by omega];exact ih (B.set i v) (i+1)
theorem Atq:∀(cs vs:List Value),vs.length=cs.length->over cs 0 vs=vs:=by
 intro cs
 suffices∀(vs A cs:List Value),vs.length=cs.length->over (A++cs) A.length vs=A++vs by
  intro vs h;exact this vs [] cs h
 intro vs
 induction vs with
 |nil=>intro A cs h;cases cs with|nil=>rfl|cons=>simp at h
 |cons v vs ih=>
  intro A cs h;cases cs with
  |nil=>simp at h
  |cons c cs=>
   have:=ih (A++[v]) cs (by simpa using h);rw [over,List.set_append_right _ _ (le_refl _),Nat.sub_self,List.set_cons_zero];simpa using this
theorem An6 {b T:Nat} :∀(vs:List Value) (w:World) (i j:Nat) (l:List Value),w.heap[b]? =some (.cells ⟨l⟩ T (0,0))->(Bi w ⟨b,i,none⟩ j vs).heap[b]? =some (.cells ⟨over l (i+j) vs⟩ T (0,0)):=by
 intro vs
 induction vs with
 |nil=>intro w i j l h;exact h
 |cons v vs ih=>
  intro w i j l h;simp only [Bi,over];have:=ih (w.setCell ((⟨b,i,none⟩:Addr).add j) v) i (j+1) (l.set (i+j) v) (by rw [Fc,heap_setCell,if_pos rfl,h];simp)
  rwa [show i+(j+1)=i+j+1 by omega]at this
theorem _root_.Go.Vc.Rw.store {w:World} {e size n c:Nat} {p:Addr} {xs:List Value} (h:Rw w 0 e size (some p) n c xs) {j:Nat} {vs:List Value} (hj:j+vs.length<=n*size): Ag w (p.add j) vs.length/\∀w',w'=setCells w (p.add j) vs->Rw w' 0 e size (some p) n c (over xs j vs)/\w.grownBy w' (some p.block):=by
 rcases h.2 with⟨hv,_⟩|⟨g,cap,cur,hv,hg,hh,hn,OD,eb,ht⟩
 ·cases hv
 ·obtain⟨rfl,rfl⟩:p=⟨g,0,none⟩/\c=cap:=by cases hv;exact⟨rfl,rfl⟩
  have hwr:∀ {i n:Nat},i+n<=cur.toList.length->Ag w ⟨g,i,none⟩ n:=fun {i n} hn j hj=>by
   rw [Fc];have aO:i+j<cur.toList.length:=by omega
   exact⟨⟨cur.toList[i+j],by simp [World.cell?,hh]⟩,by simp [World.frozen?,hh]⟩
  have hmul:n*size<=c*size:=Nat.mul_le_mul_right _ hn;have hlen:cur.toList.length=c*size:=by simpa using eb
  have ea:(⟨g,0,none⟩:Addr).add j=⟨g,j,none⟩:=by rw [Fc,Nat.zero_add]
  rw [ea];refine⟨hwr (by omega),fun w' hw=>⟨⟨by rw [CC];exact h.1,.inr ⟨g,c,⟨over cur.toList j vs⟩,rfl,hg,?_,hn,OD,by rw [←eb];simp [CC],?_⟩⟩,?_⟩⟩
  ·subst hw;exact An6 vs w j 0 cur.toList hh
  ·show(over cur.toList j vs).take _=_
   rw [OC,ht]
  ·have:=Kq hw;exact⟨this.os,this.tape,this.output,this.size,fun k hk hm=>this.block k hk (by simpa [eq_comm] using fun e=>hm (by rw [e]))⟩
theorem El.put {α:Type} {c:cO α} {m:List Nat} {w:World} {l:List α} {xs:List Value} (h:El c m w l xs) {i:Nat} {x:α} (hx:l[i]? =some x): ∃cs,(∃ys zs,xs=ys++cs++zs/\ys.length=i*c.size)/\cs.length=c.size/\i*c.size+c.size<=xs.length/\∀x' off vs,off+vs.length<=c.size->c.rep m w x' (over cs off vs)->El c m w (l.set i x') (over xs (i*c.size+off) vs):=by
 obtain⟨cs,ys,zs,oL,hy,pT⟩:=h.get hx;have hl:=c.len pT;refine⟨cs,⟨ys,zs,oL,hy⟩,hl,by rw [oL];simp;omega,fun x' off vs yq hr=> ?_⟩;have hi:i<l.length:=(List.getElem?_eq_some_iff.1 hx).1;have h1:=h.take i;have h2:=h.drop (i+1);have e1:xs.take (i*c.size)=ys:=by rw [oL,List.append_assoc,←hy];simp
 have e2:xs.drop ((i+1)*c.size)=zs:=by
  rw [oL,show(i+1)*c.size=(ys++cs).length by simp [hy,hl,succ_mul]];simp
 rw [e1]at h1;rw [e2]at h2;rw [List.set_eq_take_append_cons_drop,if_pos hi];have:=h1.app (El.cons hr h2);rw [oL,←hy,List.append_assoc,An5,Ark _ _ _ _ (by omega)];exact this
theorem Awh {α:Type} {c:cO α} {m:List Nat} {w:World} {e n cap:Nat} {a:Option Addr} {xs:List Value} {l:List α} (hr:Rw w 0 e c.size a n cap xs) (he:El c m w l xs) {i:Nat} {x:α} {p:Addr} {cs:List Value} (ha:a=some p) (hx:l[i]? =some x) (hc:Ad w (p.add (i*c.size)) cs) (fY:cs.length=c.size) (off:Nat) (vs:List Value) (yq:off+vs.length<=c.size): Ag w ((p.add (i*c.size)).add off) vs.length/\∀w',w'=setCells w ((p.add (i*c.size)).add off) vs->∃gM,Rw w' 0 e c.size a n cap gM/\w.grownBy w' (Vc.bG a)/\∀x',c.rep m w x' (over cs off vs)->El c m w (l.set i x') gM:=by
 subst ha;obtain⟨fk,⟨ys,zs,oL,hy⟩,yr,hle,jM⟩:=he.put hx;have bZ:fk≠[]:=fun e=>by rw [e]at yr;have:=c.pos;simp at yr;omega
 have nV:=hr.sl;rw [oL]at nV;obtain⟨q,hq,eV⟩:=nV.BX (by simp [bZ]);cases hq
 have sk:=Ad.sub eV bZ;rw [hy]at sk;have ecs:cs=fk:=by
  apply List.ext_getElem (fY.trans yr.symm);intro j h1 h2;have a1:=hc j h1;have a2:=sk j h2;exact Option.some.inj (a1.symm.trans a2)
 subst ecs;have ea:(p.add (i*c.size)).add off=p.add (i*c.size+off):=by
  rcases hr.2 with⟨hv,_⟩|⟨g,cap,cur,hv,_⟩
  ·cases hv
  ·cases hv;rw [Fc,Fc,Fc,Nat.add_assoc]
 rw [ea];have hlx:=hr.len;obtain⟨hw,hs⟩:=hr.store (j:=i*c.size+off) (vs:=vs) (by omega);exact⟨hw,fun w' jW=>⟨_,(hs w' jW).1,(hs w' jW).2,fun x' kA=>jM x' off vs yq kA⟩⟩
theorem Atr {α:Type} {c:cO α} {m:List Nat} {w:World} {e n cap:Nat} {a:Option Addr} {xs:List Value} {l:List α} (hr:Rw w 0 e c.size a n cap xs) (he:El c m w l xs) {i:Nat} {p:Addr} (ha:a=some p) (hi:i<n) (vs:List Value) (hv:vs.length=c.size): Ag w (p.add (i*c.size)) c.size/\∀w',w'=setCells w (p.add (i*c.size)) vs->∃gM,Rw w' 0 e c.size a n cap gM/\w.grownBy w' (Vc.bG a)/\∀x',c.rep m w x' vs->El c m w (l.set i x') gM:=by
 subst ha;rw [Um hr he]at hi;obtain⟨fk,_,yr,hle,jM⟩:=he.put (getElem?_eq_getElem hi);have hlx:=hr.len;obtain⟨hw,hs⟩:=hr.store (j:=i*c.size) (vs:=vs) (by omega);refine⟨hv▸hw,fun w' jW=>⟨_,(hs w' jW).1,(hs w' jW).2,fun x' kA=> ?_⟩⟩;have:=jM x' 0 vs (by omega) (by rw [Atq _ _ (by omega)];exact kA);simpa using this
theorem OE {α:Type} {c:cO α} {m:List Nat} {w:World} {e n cap:Nat} {a:Option Addr} {xs:List Value} {l:List α} (hr:Rw w 0 e c.size a n cap xs) (he:El c m w l xs) {i:Nat} {x:α} {p:Addr} {cs:List Value} (ha:a=some p) (hx:l[i]? =some x) (hc:Ad w (p.add (i*c.size)) cs) (fY:cs.length=c.size) (off:Nat) (v:Value) (yq:off+1<=c.size): Ag w ((p.add (i*c.size)).add off) 1/\∀w',w'=w.setCell ((p.add (i*c.size)).add off) v->∃gM,Rw w' 0 e c.size a n cap gM/\w.grownBy w' (Vc.bG a)/\∀x',c.rep m w x' (cs.set off v)->El c m w (l.set i x') gM:=by
 obtain⟨hw,hs⟩:=Awh hr he ha hx hc fY off [v] yq;exact⟨hw,fun w' jW=>hs w' (by rw [jW];exact(Tw _ _ _).symm)⟩
theorem br.none {α:Type} {c:cO α} {m:List Nat} {w:World} {a:Option Addr} {l:List α} (h:br c m w a l) (ha:a.isNone=true):l=[]:=by
 rcases h with h|⟨p,xs,rfl,_⟩
 ·exact h
 ·cases ha
theorem br.cells {α:Type} {c:cO α} {m:List Nat} {w:World} {a:Option Addr} {l:List α} (h:br c m w a l):∃xs,vm w a xs/\El c m w l xs:=by
 rcases h with rfl|⟨p,xs,rfl,_,hc,he⟩
 ·refine⟨[],?_,El.nil _ _ _⟩;cases a with
  |none=>rfl
  |some p=>intro i hi;simp at hi
 ·exact⟨xs,hc,he⟩
theorem Aq {p q:Nat->Prop} {N n:Nat} (hn:N=bX p) (h:q n) (hl:n<N):(∃n,q n)/\bX q<bX p:=⟨⟨n,h⟩,Nat.lt_of_le_of_lt (Arj h) (hn▸hl)⟩
theorem Arl {P:Program} {t e:TypeId} {k:IntKind} {i:TypeInfo} (hu:P.underlying t=some (.array 2 e)) (he:P.underlying e=some (.int k)) (hc:P.cellsOf e=1) (hi:P.info? e=some i) (a b c d:Int) (w:World): (Op.equal t (.agg #[.int k a,.int k b]) (.agg #[.int k c,.int k d])).run P w= .ok ((a==c)&&(b==d)) w:=by
 unfold Op.equal Op.maxDepth;rw [show(10000:Nat)=9998+1+1 from rfl,run_equalIn_array w _ _ _ hu hi,hc];have hp:∀(xs:Array Value) (j:Nat) (v:Value),xs.toList[j]? =some v->(part e xs (j*1)).run P w= .ok v w:=fun xs j v hv=>Ku he rfl (by rw [Nat.mul_one];exact hv)
 have e2:List.range 2=[0,1]:=rfl;rw [e2];simp only [Op.eqItems,Sem.run_bind];rw [hp #[.int k a,.int k b] 0 (.int k a) rfl,Result.andThen_ok,hp #[.int k c,.int k d] 0 (.int k c) rfl,Result.andThen_ok,run_equalIn_int w _ e k _ a c he,Result.andThen_ok];cases og:(a==c)with
 |false=>simp
 |true=>
  simp only [Bool.not_true,Bool.false_eq_true,if_false,Sem.run_bind];rw [hp #[.int k a,.int k b] 1 (.int k b) rfl,Result.andThen_ok,hp #[.int k c,.int k d] 1 (.int k d) rfl,Result.andThen_ok,run_equalIn_int w _ e k _ b d he,Result.andThen_ok];cases hbd:(b==d)<;>simp
theorem Ats {P:Program} {t e:TypeId} {k:IntKind} {i:TypeInfo} (hu:P.underlying t=some (.array 2 e)) (he:P.underlying e=some (.int k)) (hc:P.cellsOf e=1) (hg:P.eqGuardType P.depth t=false) (hi:P.info? e=some i) {a b c d:Int} {w:World} {x y:Operand} {K:Value->World->Prop} (h:K (.bool ((a==c)&&(b==d))) w):Bl P (do eqGuard .eql t x y (.agg #[.int k a,.int k b]) (.agg #[.int k c,.int k d]);binOp .eql t (.agg #[.int k a,.int k b]) (.agg #[.int k c,.int k d])) K w:=by
 refine⟨_,w,?_,h⟩;simp [run_eqGuard_agg w .eql t x y _ _ hg,binOp,Arl hu he hc hi]
def Ng (x:List UInt8):List Int:=x.map fun c=>(c.toNat:Int)
theorem Awi {α:Type} {c:cO α} {m:List Nat} {w:World} {x:α} {zc:List Value} (h:c.rep m w x zc) (n:Nat):El c m w (replicate n x) (replicate n zc).flatten:=by
 refine⟨replicate n zc,rfl,?_⟩
 induction n with
 |zero=>exact trivial
 |succ n ih=>rw [List.replicate_succ,List.replicate_succ];exact⟨h,ih⟩
theorem Aia (zc:List Value) (n:Nat):(replicate n zc).flatten.length=n*zc.length:=by simp
theorem Uo (zc:List Value):∀(n j:Nat),j<n*zc.length->(replicate n zc).flatten[j]? =zc[j%zc.length]?
 |0,j,h=>by simp at h
 |n+1,j,h=>by
  rw [List.replicate_succ,flatten_cons];by_cases hj:j<zc.length
  ·rw [List.getElem?_append_left hj,Nat.mod_eq_of_lt hj]
  ·rw [List.getElem?_append_right (by omega),Uo zc n (j-zc.length) (by rw [succ_mul]at h;omega)];congr 1;have:j=(j-zc.length)+zc.length:=by omega
   conv=>rhs;rw [this,Nat.add_mod_right]
theorem Arm {P:Program} {t e size bytes:Nat} (hT:oH P t e size bytes) {z:Value} {zc:List Value} (hz:∀i,P.info? e=some i->i.zero=some z) (oz:z.cells=⟨zc⟩) (n:Int) (h0:0<=n) (hn:n<4294967296) (hb:bytes<2^10) {w:World} {K:Value->World->Prop} (hk:∀b w',b=w.heap.size->w'=w.alloc (.cells ⟨(replicate n.toNat zc).flatten⟩ e)->K (.slice (some ⟨b,0,none⟩) n.toNat n.toNat) w'):Bl P (Instr.makeSlice t (.int .i64 n) (.int .i64 n)) K w:=by
 obtain⟨i,z',ht,hi,lH,eb,ym,nK,gX⟩:=hT;have:=hz i hi;rw [lH]at this;cases this
 have CD:zc.length=size:=by rw [oz]at nK;exact nK
 have hle:(i.bytes:Int)*n<=1024*4294967296:=Int.mul_le_mul (by rw [ym];omega) (by omega) h0 (by omega);refine⟨_,_,run_make w (P:=P) t e i _ ht hi lH .i64 .i64 n n (by omega) (by omega) (by omega) (by omega),?_⟩;refine hk _ _ rfl ?_;congr 2;rw [eb,oz];apply Array.ext';apply List.ext_getElem?;intro j;by_cases hj:j<n.toNat*size
 ·rw [Uo zc n.toNat j (by rw [CD];exact hj)];have hm:j%zc.length<zc.length:=Nat.mod_lt _ (by rw [CD];exact gX);rw [getElem?_eq_getElem hm];simp [madeCells,hj,hm]
 ·exact(List.getElem?_eq_none (by simp [madeCells];omega)).trans (List.getElem?_eq_none (by rw [Aia,CD];omega)).symm
def Ayu:TypeDesc->Bool
 | .struct _=>true| .array _ _=>true|_=>false
theorem An7 {P:Program} {t len e sz:Nat} (ht:P.underlying t=some (.array len e)) {d:TypeDesc} (hd:P.underlying e=some d) (hn:Ayu d=true) (hi:(P.info? e).map (·.size)=some sz) {k:IntKind} {i:Int} {α:Type} (f:α->List Value) (hf:∀x,(f x).length=sz) (l:List α) (zE:l.length=len) {cs:List Value} (hc:cs=l.flatMap f) (h0:0<=i) (h1:i<(len:Int)) {w:World} {K:Value->World->Prop} (hk:∀y,l[i.toNat]? =some y->K (.agg ⟨f y⟩) w):Bl P (Instr.index t (.agg ⟨cs⟩) (.int k i)) K w:=by
 obtain⟨Brx,eN,hs⟩:=Option.map_eq_some_iff.1 hi;have aO:i.toNat<l.length:=by omega
 have hy:l[i.toNat]? =some l[i.toNat]:=getElem?_eq_getElem aO;refine⟨_,w,?_,hk _ hy⟩;have hr:(isAgg e).run P w= .ok true w:=by
  rw [G9 hd];cases d<;>first|rfl|cases hn
 subst hc;have hlen:∀m:List α,(m.flatMap f).length=m.length*sz:=by
  intro m
  induction m with
  |nil=>simp
  |cons a m ih=>simp [List.flatMap_cons,hf,ih,Nat.add_mul];omega
 have h2:l=l.take i.toNat++(l[i.toNat]::l.drop (i.toNat+1)):=by simp
 have OG:=congrArg (List.flatMap f) h2;rw [List.flatMap_append,List.flatMap_cons]at OG;have fg:((l.take i.toNat).flatMap f).length=i.toNat*sz:=by rw [hlen,List.length_take,Nat.min_eq_left (by omega)]
 have Bqg:((l.flatMap f).drop (i.toNat*sz)).take sz=f l[i.toNat]:=by
  rw [OG,←fg,List.drop_left,←hf l[i.toNat],List.take_left]
 simp [Instr.index,asIntOf,underlying,ht,h0,h1,part,hr,sizeOf,typeInfo,eN,hs,Bqg]
abbrev MS (w:World) (m:List Nat) (wa:World) (pa:List Pc) (w2:World) (ps:List Pc):Prop:=Mem w.heap.size [] m [([],w.heap.size,w)] [] w2 ps/\Step (ms pa m) wa (ms ps m) w2
abbrev MT (w:World) (m:List Nat) (wa w2:World) (ps:List Pc):Prop:=MS w m wa ps w2 ps
end Go.Lv
