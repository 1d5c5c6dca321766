/- What code does with memory, told in plain values: pieces that a call owns, data that stays, and how they pass from world to world. -/
import Derived.Test.YthkbhlmijkegiaaGreatMemE
import Derived.Test.YthkbhlmijkegiaaGreatVcI
import Derived.Test.YthkbhlmijkegiaaGreatHeld
import Derived.ChangeKeysEq
import Derived.Lib.ConvBytes
import Derived.Lib.AppendStr
import Derived.Laws.BytesArg
open List (mem_of_getElem? getElem?_eq_getElem mem_append flatten_cons replicate getElem?_of_mem pairwise_cons mem_cons)
open Nat (le_refl le_trans succ_mul)
open Option (mem_toList)
namespace Go.Lv
open Go.Vc
open Go.RowKit (Below)
theorem _root_.Go.Vc.Ai.refl (m:List Nat) (w:World):Ai m w w:=⟨rfl,rfl,rfl,le_refl _,fun _ _ _=>rfl⟩
theorem _root_.Go.Vc.Ai.trans {m:List Nat} {a b c:World} (h:Ai m a b) (k:Ai m b c):Ai m a c:=
 ⟨k.os.trans h.os,k.tape.trans h.tape,k.output.trans h.output,le_trans h.size k.size,fun j hj hm=>(k.block j (Nat.lt_of_lt_of_le hj h.size) hm).trans (h.block j hj hm)⟩
theorem _root_.Go.Vc.Ai.mono {m m':List Nat} {a b:World} (h:Ai m a b) (hs:∀k∈m,k∈m'):Ai m' a b:=
 ⟨h.os,h.tape,h.output,h.size,fun j hj hm=>h.block j hj fun h=>hm (hs j h)⟩
theorem _root_.Go.Vc.Ai.oD {a b:World} (h:Ext a b):Ai [] a b:=⟨h.os,h.tape,h.output,h.size,fun j hj _=>Below.block h j hj⟩
theorem _root_.Go.Vc.Ai.ext {a b:World} (h:Ai [] a b):Ext a b:=⟨h.os,h.tape,h.output,h.size,fun j hj=>h.block j hj (by simp)⟩
theorem _root_.Go.Vc.Ai.grown {a b:World} {row:Option Nat} (h:a.grownBy b row):Ai row.toList a b:=⟨h.os,h.tape,h.output,h.size,fun j hj hm=>h.block j hj fun e=>hm (by simp [←e])⟩
structure bB (m:List Nat) (w:World):Prop where
 lt:∀b∈m,b<w.heap.size
 off:∀b∈held.bs,b∉m
 lD:held.T w
theorem bB.nil {w:World} (h:held.T w):bB [] w:=⟨fun _ h=>(by cases h),fun _ _ h=>(by cases h),h⟩
structure IJ (m:List Nat) (w w':World):Prop where
 size:w.heap.size<=w'.heap.size
 block:∀k o,w.heap[k]? =some o->k∉m->H3 o=true->w'.heap[k]? =some o
theorem _root_.Go.Vc.Ai.d {m:List Nat} {w w':World} (h:Ai m w w'):IJ m w w':=⟨h.size,fun k o hk hm _=>by rw [h.block k (Array.getElem?_eq_some_iff.1 hk).1 hm];exact hk⟩
structure Step (m:List Nat) (w:World) (m':List Nat) (w':World):Prop where
 bo:IJ m w w'
 sub:∀k∈m',k∈m\/w.heap.size<=k
theorem Step.trans {m m' IK:List Nat} {w w' jr:World} (h:Step m w m' w') (k:Step m' w' IK jr):Step m w IK jr:=by
 refine⟨⟨le_trans h.bo.size k.bo.size,fun j o hj hm hc=>k.bo.block j o (h.bo.block j o hj hm hc) (fun jq=>(h.sub j jq).elim hm (fun hx=>by have:=(Array.getElem?_eq_some_iff.1 hj).1;omega)) hc⟩,fun j hj=> ?_⟩;rcases k.sub j hj with h1|h1
 ·exact h.sub j h1
 ·exact .inr (le_trans h.bo.size h1)
theorem Step.refl (m:List Nat) (w:World):Step m w m w:=⟨(Ai.refl _ _).d,fun _ h=> .inl h⟩
theorem Step.drop {m m':List Nat} (w:World) (h:∀k∈m',k∈m):Step m w m' w:=⟨(Ai.refl _ _).d,fun k hk=> .inl (h k hk)⟩
theorem As9 {w:World} {p:Addr} {v:Value} (h:w.cell? p=some v):∃o,w.heap[p.block]? =some o/\H3 o=true:=by
 unfold World.cell? at h;split at h
 ·rename_i hh;exact⟨_,hh,rfl⟩
 ·cases h
theorem IL {w:World} {p:Addr} {xs:List Value} (h:Ad w p xs) (hx:xs≠[]):∃o,w.heap[p.block]? =some o/\H3 o=true:=by
 have:=As9 (h 0 (List.length_pos_iff.2 hx))
 rwa [Rm]at this
def Hz {α β:Type} (R:α->β->Prop):List α->List β->Prop
 |[],[]=>True|a::l,b::m=>R a b/\Hz R l m|_,_=>False
theorem Hz.mono {α β:Type} {R R':α->β->Prop} (h:∀a b,R a b->R' a b):∀ {l:List α} {m:List β},Hz R l m->Hz R' l m
 |[],[],_=>trivial
 |_::_,_::_,⟨h1,h2⟩=>⟨h _ _ h1,Hz.mono h h2⟩
theorem Hz.length {α β:Type} {R:α->β->Prop} :∀ {l:List α} {m:List β},Hz R l m->l.length=m.length
 |[],[],_=>rfl
 |_::_,_::_,⟨_,h2⟩=>by simp [Hz.length h2]
theorem Hz.append {α β:Type} {R:α->β->Prop} :∀ {l l':List α} {m m':List β},Hz R l m->Hz R l' m'->Hz R (l++l') (m++m')
 |[],_,[],_,_,h=>h
 |_::_,_,_::_,_,⟨h1,h2⟩,h=>⟨h1,Hz.append h2 h⟩
theorem Hz.get {α β:Type} {R:α->β->Prop} {x:α} :∀ {l:List α} {m:List β} {i:Nat},Hz R l m->l[i]? =some x->∃y,m[i]? =some y/\R x y
 |[],[],i,_,h=>(by simp at h)
 |_::_,b::_,0,⟨h1,_⟩,h=>⟨b,rfl,by simp at h;exact h▸h1⟩
 |_::l,_::m,i+1,⟨_,h2⟩,h=>by
  have:=Hz.get (l:=l) (m:=m) (i:=i) h2 (by simpa using h);simpa using this
theorem Hz.take {α β:Type} {R:α->β->Prop} :∀ {l:List α} {m:List β} (i:Nat),Hz R l m->Hz R (l.take i) (m.take i)
 |_,_,0,_=>trivial
 |[],[],_+1,_=>trivial
 |_::_,_::_,_+1,⟨h1,h2⟩=>⟨h1,Hz.take _ h2⟩
theorem Hz.drop {α β:Type} {R:α->β->Prop} :∀ {l:List α} {m:List β} (i:Nat),Hz R l m->Hz R (l.drop i) (m.drop i)
 |_,_,0,h=>h
 |[],[],_+1,_=>trivial
 |_::l,_::m,i+1,⟨_,h2⟩=>Hz.drop (l:=l) (m:=m) i h2
structure dd (α:Type) where
 size:Nat
 pos:0<size
 rep:List Nat->World->α->List Value->Prop
 len:∀ {m w x cs},rep m w x cs->cs.length=size
 one:∀ {m w x cs},rep m w x cs->∀u∈cs,u.oneCell'=true
 st:∀ {m w x cs m' w'},rep m w x cs->Step m w m' w'->rep m' w' x cs
def A8 (k:IntKind):dd Int:= { size:=1,pos:=by decide,rep:=fun _ _ x cs=>cs=[.int k x],len:=fun h=>by subst h;rfl,one:=fun h u hu=>by subst h;simp at hu;subst hu;rfl,st:=fun h _=>h }
def xO:dd Bool:= { size:=1,pos:=by decide,rep:=fun _ _ x cs=>cs=[.bool x],len:=fun h=>by subst h;rfl,one:=fun h u hu=>by subst h;simp at hu;subst hu;rfl,st:=fun h _=>h }
def Yd:dd (List UInt8):= { size:=1,pos:=by decide,rep:=fun _ _ x cs=>cs=[.string (bS x)],len:=fun h=>by subst h;rfl,one:=fun h u hu=>by subst h;simp at hu;subst hu;rfl,st:=fun h _=>h }
def Bz {α β:Type} (c:dd α) (d:dd β):dd (α×β) where
 size:=c.size+d.size
 pos:=by have:=c.pos;omega
 rep:=fun m w x cs=>∃a b,cs=a++b/\c.rep m w x.1 a/\d.rep m w x.2 b
 len:=by rintro m w x cs ⟨a,b,rfl,h1,h2⟩;simp [c.len h1,d.len h2]
 one:=by
  rintro m w x cs ⟨a,b,rfl,h1,h2⟩ u hu;rcases mem_append.1 hu with h|h
  ·exact c.one h1 u h
  ·exact d.one h2 u h
 st:=by rintro m w x cs m' w' ⟨a,b,rfl,h1,h2⟩ s;exact⟨a,b,rfl,c.st h1 s,d.st h2 s⟩
def Su {α β:Type} (f:β->α) (c:dd α):dd β:= { size:=c.size,pos:=c.pos,rep:=fun m w x cs=>c.rep m w (f x) cs,len:=c.len,one:=c.one,st:=c.st }
theorem P7 {dx:List (List Value)} {k:Nat} (h:∀cs∈dx,cs.length=k):dx.flatten.length=dx.length*k:=by
 induction dx with
 |nil=>simp
 |cons a l ih=>rw [flatten_cons,List.length_append,h a (by simp),ih (fun c hc=>h c (by simp [hc])),List.length_cons,succ_mul];omega
theorem P8 {α:Type} (c:dd α) {m:List Nat} {w:World} :∀ {l:List α} {dx:List (List Value)},Hz (c.rep m w) l dx->∀cs∈dx,cs.length=c.size
 |[],[],_,_,h=>(by cases h)
 |_::_,_::_,⟨h1,h2⟩,cs,h=>by
  cases h with
  |head=>exact c.len h1
  |tail _ h=>exact P8 c h2 cs h
theorem IM {α:Type} (c:dd α) {m:List Nat} {w:World} :∀ {l:List α} {dx:List (List Value)},Hz (c.rep m w) l dx->∀u∈dx.flatten,u.oneCell'=true
 |[],[],_,_,h=>(by simp at h)
 |_::_,_::_,⟨h1,h2⟩,u,h=>by
  rw [flatten_cons]at h;rcases mem_append.1 h with h|h
  ·exact c.one h1 u h
  ·exact IM c h2 u h
def El {α:Type} (c:dd α) (m:List Nat) (w:World) (l:List α) (xs:List Value):Prop:=∃dx,xs=dx.flatten/\Hz (c.rep m w) l dx
theorem El.st {α:Type} {c:dd α} {m m':List Nat} {w w':World} {l:List α} {xs:List Value} (h:El c m w l xs) (s:Step m w m' w'):El c m' w' l xs:=by
 obtain⟨dx,rfl,h⟩:=h;exact⟨dx,rfl,h.mono fun _ _ h=>c.st h s⟩
theorem El.nil {α:Type} (c:dd α) (m:List Nat) (w:World):El c m w [] []:=⟨[],rfl,trivial⟩
theorem El.cons {α:Type} {c:dd α} {m:List Nat} {w:World} {x:α} {cs:List Value} {l:List α} {xs:List Value} (h:c.rep m w x cs) (k:El c m w l xs):El c m w (x::l) (cs++xs):=by
 obtain⟨dx,rfl,k⟩:=k;exact⟨cs::dx,rfl,h,k⟩
theorem El.app {α:Type} {c:dd α} {m:List Nat} {w:World} {l l':List α} {xs ie:List Value} (h:El c m w l xs) (k:El c m w l' ie):El c m w (l++l') (xs++ie):=by
 obtain⟨dx,rfl,h⟩:=h;obtain⟨Bp1,rfl,k⟩:=k;exact⟨dx++Bp1,by simp,h.append k⟩
theorem El.len {α:Type} {c:dd α} {m:List Nat} {w:World} {l:List α} {xs:List Value} (h:El c m w l xs):xs.length=l.length*c.size:=by
 obtain⟨dx,rfl,h⟩:=h;rw [P7 (P8 c h),h.length]
theorem El.one {α:Type} {c:dd α} {m:List Nat} {w:World} {l:List α} {xs:List Value} (h:El c m w l xs):∀u∈xs,u.oneCell'=true:=by
 obtain⟨dx,rfl,h⟩:=h;exact IM c h
theorem Ars {dx:List (List Value)} {k:Nat} (h:∀cs∈dx,cs.length=k):∀(i:Nat),dx.flatten.take (i*k)=(dx.take i).flatten:=by
 induction dx with
 |nil=>intro i;simp
 |cons a l ih=>
  intro i;cases i with
  |zero=>simp
  |succ i=>
   have ha:=h a (by simp);rw [flatten_cons,List.take_succ_cons,flatten_cons,←ih (fun c hc=>h c (by simp [hc])),List.take_append,ha,succ_mul,Nat.add_sub_cancel,List.take_of_length_le (by omega)]
theorem Art {dx:List (List Value)} {k:Nat} (h:∀cs∈dx,cs.length=k):∀(i:Nat),dx.flatten.drop (i*k)=(dx.drop i).flatten:=by
 induction dx with
 |nil=>intro i;simp
 |cons a l ih=>
  intro i;cases i with
  |zero=>simp
  |succ i=>
   have ha:=h a (by simp);rw [flatten_cons,List.drop_succ_cons,←ih (fun c hc=>h c (by simp [hc])),List.drop_append,ha,succ_mul,Nat.add_sub_cancel,List.drop_of_length_le (by omega)];simp
theorem El.take {α:Type} {c:dd α} {m:List Nat} {w:World} {l:List α} {xs:List Value} (h:El c m w l xs) (i:Nat):El c m w (l.take i) (xs.take (i*c.size)):=by
 obtain⟨dx,rfl,h⟩:=h;exact⟨dx.take i,Ars (P8 c h) i,h.take i⟩
theorem El.drop {α:Type} {c:dd α} {m:List Nat} {w:World} {l:List α} {xs:List Value} (h:El c m w l xs) (i:Nat):El c m w (l.drop i) (xs.drop (i*c.size)):=by
 obtain⟨dx,rfl,h⟩:=h;exact⟨dx.drop i,Art (P8 c h) i,h.drop i⟩
theorem El.get {α:Type} {c:dd α} {m:List Nat} {w:World} {l:List α} {xs:List Value} (h:El c m w l xs) {i:Nat} {x:α} (hx:l[i]? =some x):∃cs ys zs,xs=ys++cs++zs/\ys.length=i*c.size/\c.rep m w x cs:=by
 obtain⟨dx,rfl,h⟩:=h;obtain⟨cs,hc,hr⟩:=h.get hx;have hi:i<dx.length:=(List.getElem?_eq_some_iff.1 hc).1;have mb:dx[i]=cs:=(List.getElem?_eq_some_iff.1 hc).2;refine⟨cs,(dx.take i).flatten,(dx.drop (i+1)).flatten,?_,?_,hr⟩
 ·have:dx=dx.take i++([cs]++dx.drop (i+1)):=by rw [←mb];simp
  conv=>lhs;rw [this]
  simp
 ·rw [P7 (k:=c.size) (fun cs mb=>P8 c h cs (List.mem_of_mem_take mb)),List.length_take,Nat.min_eq_left (by omega)]
theorem Ad.sub {w:World} {p:Addr} {cs ys zs:List Value} (h:Ad w p (ys++cs++zs)) (hc:cs≠[]):Ad w (p.add ys.length) cs:=Ad.piece h hc
def aW {α:Type} (c:dd α) (m:List Nat) (w:World) (a:Option Addr) (l:List α):Prop:=l=[]\/∃p xs,a=some p/\p.block∉m/\Ad w p xs/\El c m w l xs
theorem Ad.lt {w:World} {p:Addr} {xs:List Value} (h:Ad w p xs) (hx:xs≠[]):p.block<w.heap.size:=by
 have:=Awp (h 0 (List.length_pos_iff.2 hx))
 rwa [Rm]at this
theorem Ad.kept {w w':World} {p:Addr} {xs:List Value} (h:Ad w p xs) (hk:xs≠[]->w'.heap[p.block]? =w.heap[p.block]?):Ad w' p xs:=by
 intro i hi;have:=h i hi;have cf:xs≠[]:=by intro e;subst e;simp at hi
 unfold World.cell? at this⊢;rw [Rm]at this⊢;rw [hk cf];exact this
theorem aW.st {α:Type} {c:dd α} {m m':List Nat} {w w':World} {a:Option Addr} {l:List α} (h:aW c m w a l) (s:Step m w m' w'):aW c m' w' a l:=by
 rcases h with h|⟨p,xs,rfl,hp,hc,he⟩
 ·exact .inl h
 ·by_cases hx:xs=[]
  ·left;have:=he.len;rw [hx]at this;have hp:=c.pos;cases l with
   |nil=>rfl
   |cons a l=>
    exfalso;have h2:=Nat.mul_pos (Nat.succ_pos l.length) hp;rw [List.length_cons,List.length_nil]at this;rw [←this]at h2;exact Nat.lt_irrefl _ h2
  ·have aP:=Ad.lt hc hx;obtain⟨ob,h1,h2⟩:=IL hc hx;exact .inr ⟨p,xs,rfl,fun hm=>(s.sub _ hm).elim hp (by omega),Ad.kept hc fun _=>by rw [s.bo.block _ ob h1 hp h2,h1],he.st s⟩
def H0 (m:List Nat) (w:World) (q:Addr) (cs:List Value):Prop:=(q.block∉m/\∃o,w.heap[q.block]? =some o/\H3 o=true)/\Ad w q cs
theorem H0.st {m m':List Nat} {w w':World} {q:Addr} {cs:List Value} (h:H0 m w q cs) (s:Step m w m' w'):H0 m' w' q cs:=by
 obtain⟨⟨hm,o,ho,hc⟩,h2⟩:=h;have aP:=(Array.getElem?_eq_some_iff.1 ho).1;have hk:=s.bo.block _ o ho hm hc;exact⟨⟨fun jq=>(s.sub _ jq).elim hm (by omega),o,hk,hc⟩,Ad.kept h2 fun _=>by rw [hk,ho]⟩
theorem H0.held {m r:List Nat} {w u:World} {q:Addr} {cs:List Value} (h:H0 m w q cs) (hu:Ai r w u) (hr:∀b∈r,b∈m):Ad u q cs:=
 Ad.kept h.2 fun hx=>hu.block _ (Ad.lt h.2 hx) fun hm=>h.1.1 (hr _ hm)
theorem Ad.head {w:World} {q:Addr} {c:Value} {cs:List Value} (h:Ad w q (c::cs)):w.cell? q=some c:=by
 have:=h 0 (by simp);simpa [Addr.add] using this
theorem aW.nil {α:Type} (c:dd α) (m:List Nat) (w:World) (a:Option Addr):aW c m w a []:= .inl rfl
theorem aW.elem {α:Type} {c:dd α} {m:List Nat} {w:World} {a:Option Addr} {l:List α} (h:aW c m w a l) {i:Int} (hi:0<=i/\i<(l.length:Int)): ∃p x cs,a=some p/\l[i.toNat]? =some x/\H0 m w (p.add (i.toNat*c.size)) cs/\c.rep m w x cs:=by
 rcases h with rfl|⟨p,xs,rfl,hp,hc,he⟩
 ·simp at hi;omega
 ·have aP:i.toNat<l.length:=by omega
  obtain⟨cs,ys,zs,hx,hy,hr⟩:=he.get (getElem?_eq_getElem aP);subst hx;have cf:cs≠[]:=fun e=>by have:=c.len hr;rw [e]at this;have:=c.pos;simp at*;omega
  have fH:=Ad.sub hc cf;rw [hy]at fH;exact⟨p,_,cs,rfl,getElem?_eq_getElem aP,⟨⟨by rw [Rm];exact hp,IL fH cf⟩,fH⟩,hr⟩
def oE {α:Type} (c:dd α):dd (List α) where
 size:=1
 pos:=by decide
 rep:=fun m w l cs=>∃a cap,cs=[.slice a l.length cap]/\l.length<=cap/\aW c m w a l
 len:=by rintro m w x cs ⟨a,cap,rfl,_⟩;rfl
 one:=by rintro m w x cs ⟨a,cap,rfl,_⟩ u hu;simp at hu;subst hu;rfl
 st:=by rintro m w x cs m' w' ⟨a,cap,rfl,h1,h2⟩ s;exact⟨a,cap,rfl,h1,h2.st s⟩
inductive Pc where
 |box (b:Nat) (l:List Value)
 |row (e size:Nat) (a:Option Addr) (n c:Nat) (xs:List Value)
 |vb (a:Option Addr) (xs rest:List Value) (T:Nat) (fz:Nat×Nat)
 |raw (b:Nat) (ob:Obj)
def Wn (w:World) (a:Option Addr) (xs rest:List Value) (T:Nat) (fz:Nat×Nat):Prop:=(a=none/\xs=[])\/∃g,a=some ⟨g,0,none⟩/\w.heap[g]? =some (.cells ⟨xs++rest⟩ T fz)/\(fz=(0,0)\/xs.length<=fz.1)
def Pc.bK:Pc->Option Nat
 | .box b _=>some b| .row _ _ a _ _ _=>Vc.bK a| .vb a _ _ _ _=>Vc.bK a| .raw b _=>some b
def Pc.holds (w:World):Pc->Prop
 | .box b l=>dc w b l| .row e size a n c xs=>Rw w 0 e size a n c xs| .vb a xs rest T fz=>Wn w a xs rest T fz| .raw b ob=>w.heap[b]? =some ob/\H3 ob=true
theorem Pc.holds.lt {w:World} {p:Pc} (h:p.holds w) {b:Nat} (hb:p.bK=some b):b<w.heap.size:=by
 cases p with
 |box b' l=>cases hb;exact dc.lt h
 |row e size a n c xs=>exact(Rw.lt h b hb).2
 |vb a xs rest T fz=>
  rcases h with⟨rfl,_⟩|⟨g,rfl,hg,_⟩
  ·cases hb
  ·cases hb;exact(Array.getElem?_eq_some_iff.1 hg).1
 |raw b' ob=>cases hb;exact(Array.getElem?_eq_some_iff.1 h.1).1
theorem Pc.holds.kept {w w':World} {p:Pc} (h:p.holds w) (hk:∀b,p.bK=some b->w'.heap[b]? =w.heap[b]?):p.holds w':=by
 cases p with
 |box b l=>obtain⟨T,hT⟩:=h;exact⟨T,by rw [hk b rfl];exact hT⟩
 |row e size a n c xs=>exact Rw.kept h hk
 |vb a xs rest T fz=>
  rcases h with h|⟨g,rfl,hg,hf⟩
  ·exact .inl h
  ·exact .inr ⟨g,rfl,by rw [hk g rfl];exact hg,hf⟩
 |raw b ob=>exact⟨by rw [hk b rfl];exact h.1,h.2⟩
def ms:List Pc->List Nat->List Nat
 |[],m=>m|p::ps,m=>p.bK.toList++ms ps m
theorem Ce {ps:List Pc} {m:List Nat} {k:Nat} :k∈ms ps m↔(∃p∈ps,p.bK=some k)\/k∈m:=by
 induction ps with
 |nil=>simp [ms]
 |cons p ps ih=>
  simp only [ms,mem_append,ih,mem_toList,mem_cons];constructor
  ·rintro(h|⟨q,hq,h⟩|h)
   ·exact .inl ⟨p,.inl rfl,h⟩
   ·exact .inl ⟨q,.inr hq,h⟩
   ·exact .inr h
  ·rintro(⟨q,rfl|hq,h⟩|h)
   ·exact .inl h
   ·exact .inr (.inl ⟨q,hq,h⟩)
   ·exact .inr (.inr h)
theorem Pc.holds.cells {w:World} {p:Pc} (h:p.holds w) {b:Nat} (hb:p.bK=some b):∃o,w.heap[b]? =some o/\H3 o=true:=by
 cases p with
 |box b' l=>cases hb;obtain⟨T,hT,_⟩:=h;exact⟨_,hT,rfl⟩
 |row e size a n c xs=>
  rcases h.2 with⟨hv,_⟩|⟨g,cap,cur,hv,_,hh,_⟩
  ·cases hv;cases hb
  ·cases hv;cases hb;exact⟨_,hh,rfl⟩
 |vb a xs rest T fz=>
  rcases h with⟨rfl,_⟩|⟨g,rfl,hg,_⟩
  ·cases hb
  ·cases hb;exact⟨_,hg,rfl⟩
 |raw b' ob=>cases hb;exact⟨_,h.1,h.2⟩
structure Mem (n0:Nat) (rs m0:List Nat) (fr:List (List Nat×Nat×World)) (ds:List Nat) (w:World) (ps:List Pc):Prop where
 le:n0<=w.heap.size
 lt:∀b∈m0,b<n0
 bo:∀f∈fr,Pa f.1 f.2.1 f.2.2 w
 g_:∀f∈fr,f.2.1<=f.2.2.heap.size/\∀p∈ps,∀b,p.bK=some b->b∈f.1\/f.2.1<=b
 holds:∀p∈ps,p.holds w
 jy:∀p∈ps,∀b,p.bK=some b->b∈rs\/n0<=b
 ff:ps.Pairwise fun p q=>∀b,p.bK=some b->q.bK≠some b
 marks:Cc ds w/\∀D∈ds,n0<=D
section
variable {n0:Nat} {rs m0:List Nat} {fr:List (List Nat×Nat×World)} {ds:List Nat} {w w':World} {ps:List Pc}
theorem Kq (w:World) (n:Nat):Cc [] w/\∀D∈([]:List Nat),n<=D:=⟨⟨List.nodup_nil,by simp⟩,by simp⟩
theorem Mem.start (h:∀b∈m0,b<w.heap.size):Mem w.heap.size [] m0 [([],w.heap.size,w)] [] w []:=
 ⟨le_refl _,h,fun f hf=>by simp at hf;subst hf;exact Pa.refl _ _ _,fun f hf=>by simp at hf;subst hf;exact⟨le_refl _,fun _ h=>(by cases h)⟩,fun _ h=>(by cases h),fun _ h=>(by cases h),List.Pairwise.nil,Kq _ _⟩
theorem Mem.Bnt (o:Mem n0 rs m0 fr ds w ps) (k:Nat) {e size:Nat} {a:Option Addr} {n n' c:Nat} {xs:List Value} (hk:ps[k]? =some (.row e size a n c xs)) (h:n=n'):Mem n0 rs m0 fr ds w (ps.set k (.row e size a n' c xs)):=by
 subst h;have:ps.set k (.row e size a n c xs)=ps:=by
  apply List.ext_getElem?;intro i;rw [List.getElem?_set];split
  ·rename_i hi;subst hi;split
   ·exact hk.symm
   ·rename_i aP;rw [List.getElem?_eq_none (by omega)]at hk;cases hk
  ·rfl
 rw [this];exact o
theorem Mem.mlt (o:Mem n0 rs m0 fr ds w ps):∀b∈ms ps m0,b<w.heap.size:=by
 intro b hb;rcases Ce.1 hb with⟨p,hp,h⟩|h
 ·exact(o.holds p hp).lt h
 ·exact Nat.lt_of_lt_of_le (o.lt b h) o.le
theorem Mem.mo {w0:World} (o:Mem w0.heap.size rs m0 fr ds w ps) (hm:bB m0 w0) (hr:∀b∈rs,b∈m0) (hf:(rs,w0.heap.size,w0)∈fr):bB (ms ps m0) w where
 lt:=o.mlt
 off:=fun b hb jq=>by
  rcases Ce.1 jq with⟨p,hp,h⟩|h
  ·rcases o.jy p hp b h with h1|h1
   ·exact hm.off b hb (hr b h1)
   ·exact absurd (held.lt w0 hm.lD b hb) (Nat.not_lt.2 h1)
  ·exact hm.off b hb h
 lD:=held.Bm1 w0 w (fun b hb=>(o.bo _ hf).kp.block b (held.lt w0 hm.lD b hb) (fun h=>hm.off b hb (hr b h))) hm.lD
theorem Mem.mn {w0:World} {fr:List (List Nat×Nat×World)} (o:Mem w0.heap.size [] m0 (([],w0.heap.size,w0)::fr) ds w ps) (hm:bB m0 w0):bB (ms ps m0) w:=o.mo hm (by simp) (.head _)
theorem Mem.mp {w0:World} {fr:List (List Nat×Nat×World)} (o:Mem w0.heap.size rs m0 ((rs,w0.heap.size,w0)::fr) ds w ps) (hm:bB m0 w0) (hr:∀b∈rs,b∈m0):bB (ms ps m0) w:=o.mo hm hr (.head _)
theorem Mem.done {w0:World} (o:Mem n0 rs m0 [(rs,w0.heap.size,w0)] ds w ps):Ai rs w0 w:=by
 have h:=o.bo _ (List.mem_cons_self);exact⟨h.kp.os,h.kp.tape,h.kp.output,h.kp.size,h.kp.block⟩
theorem IP {M l:List Nat} {B:Nat} {W:World} (h:Pa M B W w) (hB:B<=W.heap.size) (hK:Ai l w w') (hl:∀b∈l,(b∈M\/B<=b)/\∃o,w.heap[b]? =some o/\H3 o=true):Pa M B W w':=by
 refine⟨⟨hK.os.trans h.kp.os,hK.tape.trans h.kp.tape,hK.output.trans h.kp.output,le_trans h.kp.size hK.size,fun k hk hm=> ?_⟩,fun k ob hk ho hc=> ?_⟩
 ·rw [hK.block k (Nat.lt_of_lt_of_le hk (le_trans hB h.kp.size)) (fun ic=> ?_),h.kp.block k hk hm];rcases(hl k ic).1 with h1|h1
  ·exact hm h1
  ·omega
 ·have h2:=h.rest k ob hk ho hc;rw [hK.block k (Array.getElem?_eq_some_iff.1 h2).1 (fun ic=> ?_),h2];obtain⟨o',h3,h4⟩:=(hl k ic).2;rw [h2]at h3;cases h3
  rw [hc]at h4;cases h4
theorem IQ {l:List Nat} (h:Cc ds w) (hK:Ai l w w') (hl:∀b∈l,∃o,w.heap[b]? =some o/\H3 o=true):Cc ds w':=
 ⟨h.1,fun D hD=>by
  have h2:=h.2 D hD;rw [hK.block D (Array.getElem?_eq_some_iff.1 h2).1 (fun ic=> ?_),h2];obtain⟨o',h3,h4⟩:=hl D ic;rw [h2]at h3;cases h3;cases h4⟩
theorem Mem.ext (o:Mem n0 rs m0 fr ds w ps) (e:Ai [] w w'):Mem n0 rs m0 fr ds w' ps:=
 ⟨le_trans o.le e.size,o.lt,fun f hf=>IP (o.bo f hf) (o.g_ f hf).1 e (by simp),o.g_,fun p hp=>(o.holds p hp).kept fun b hb=>e.block b ((o.holds p hp).lt hb) (by simp),o.jy,o.ff,IQ o.marks.1 e (by simp),o.marks.2⟩
theorem Mem.Bp2 (e:Ai [] w w'):Step (ms ps m0) w (ms ps m0) w':=⟨(e.mono (by simp)).d,fun _ h=> .inl h⟩
theorem Aru (h:w'=w.drew):Ai [] w w':=Ai.oD (.drew h)
theorem Aq {ob:Obj} (h:w'=w.alloc ob):Ai [] w w':=Ai.oD (.alloc h)
theorem Mem.push (o:Mem n0 rs m0 fr ds w ps) {b:Nat} {ob:Obj} (hb:b=w.heap.size) (e:w'=w.alloc ob) (p:Pc) (hp:p.bK=some b) (hh:p.holds w'):Mem n0 rs m0 fr ds w' (p::ps):=by
 have o':=o.ext (Aq e);refine⟨o'.le,o.lt,o'.bo,fun f hf=>⟨(o.g_ f hf).1,fun q hq c hc=> ?_⟩,fun q hq=> ?_,fun q hq=> ?_,?_,o'.marks⟩
 ·cases hq with
  |head=>
   rw [hp]at hc;cases hc;have h1:=(o.bo f hf).kp.size;have h2:=(o.g_ f hf).1;exact .inr (by omega)
  |tail _ hq=>exact(o.g_ f hf).2 q hq c hc
 ·cases hq with
  |head=>exact hh
  |tail _ hq=>exact o'.holds q hq
 ·cases hq with
  |head=>intro c hc;rw [hp]at hc;cases hc;exact .inr (hb▸o.le)
  |tail _ hq=>exact o.jy q hq
 ·refine pairwise_cons.2 ⟨fun q hq c hc z3=> ?_,o.ff⟩;rw [hp]at hc;cases hc;have:=(o.holds q hq).lt z3;omega
theorem Mem.Bp3 (e:Ai [] w w') (p:Pc) (hp:p.bK=some w.heap.size):Step (ms ps m0) w (ms (p::ps) m0) w':=
 ⟨(e.mono (by simp)).d,fun k hk=>by
   rcases Ce.1 hk with⟨q,hq,h⟩|h
   ·cases hq with
    |head=>rw [hp]at h;cases h;exact .inr (le_refl _)
    |tail _ hq=>exact .inl (Ce.2 (.inl ⟨q,hq,h⟩))
   ·exact .inl (Ce.2 (.inr h))⟩
theorem Mem.xP (o:Mem n0 rs m0 fr ds w ps) (e:Ai [] w w') (p:Pc) (hp:∀b,p.bK=some b->w.heap.size<=b) (hh:p.holds w'):Mem n0 rs m0 fr ds w' (p::ps):=by
 have o':=o.ext e;refine⟨o'.le,o.lt,o'.bo,fun f hf=>⟨(o.g_ f hf).1,fun q hq c hc=> ?_⟩,fun q hq=> ?_,fun q hq=> ?_,?_,o'.marks⟩
 ·cases hq with
  |head=>
   have h1:=(o.bo f hf).kp.size;have h2:=(o.g_ f hf).1;have h3:=hp c hc;exact .inr (by omega)
  |tail _ hq=>exact(o.g_ f hf).2 q hq c hc
 ·cases hq with
  |head=>exact hh
  |tail _ hq=>exact o'.holds q hq
 ·cases hq with
  |head=>intro c hc;exact .inr (le_trans o.le (hp c hc))
  |tail _ hq=>exact o.jy q hq
 ·refine pairwise_cons.2 ⟨fun q hq c hc z3=> ?_,o.ff⟩;have:=(o.holds q hq).lt z3;have:=hp c hc;omega
theorem Mem.xQ (e:Ai [] w w') (p:Pc) (hp:∀b,p.bK=some b->w.heap.size<=b):Step (ms ps m0) w (ms (p::ps) m0) w':=
 ⟨(e.mono (by simp)).d,fun k hk=>by
   rcases Ce.1 hk with⟨q,hq,h⟩|h
   ·cases hq with
    |head=>exact .inr (hp k h)
    |tail _ hq=>exact .inl (Ce.2 (.inl ⟨q,hq,h⟩))
   ·exact .inl (Ce.2 (.inr h))⟩
theorem Mem.Bnu (k:Nat) {e size:Nat} {a:Option Addr} {n c:Nat} {xs:List Value} (hk:ps[k]? =some (.row e size a n c xs)):Step (ms ps m0) w ((Vc.bK a).toList++m0) w:=Step.drop w fun j hj=>by
 rcases mem_append.1 hj with h|h
 ·exact Ce.2 (.inl ⟨_,mem_of_getElem? hk,by rwa [mem_toList]at h⟩)
 ·exact Ce.2 (.inr h)
theorem Mem.box (o:Mem n0 rs m0 fr ds w ps) {b:Nat} {cs:Array Value} {T:TypeId} (hb:b=w.heap.size) (e:w'=w.alloc (.cells cs T)) (uY:qG cs.toList T:=by first|exact trivial|exact fun h k=>by first|rfl|(simp at h;done)|(simp [zX]at k;done)):Mem n0 rs m0 fr ds w' (.box b cs.toList::ps):=
 o.push hb e (.box b cs.toList) rfl (dc.new hb e uY)
theorem Mem.IU {b:Nat} {cs:Array Value} {T:TypeId} (hb:b=w.heap.size) (e:w'=w.alloc (.cells cs T)):Step (ms ps m0) w (ms (.box b cs.toList::ps) m0) w':=
 ⟨((Aq e).mono (by simp)).d,fun k hk=>by
  simp only [ms,Pc.bK,Option.toList_some,List.singleton_append,mem_cons]at hk;rcases hk with rfl|hk
  ·exact .inr (hb▸le_refl _)
  ·exact .inl hk⟩
theorem Mem.lit (o:Mem n0 rs m0 fr ds w ps) {b:Nat} {cs:Array Value} {T:TypeId} (hb:b=w.heap.size) (e:w'=w.alloc (.cells cs T)) (size n:Nat) (hn:n<=maxLen) (hs:cs.size=n*size):Mem n0 rs m0 fr ds w' (.row T size (some ⟨b,0,none⟩) n n cs.toList::ps):=
 o.push hb e (.row T size (some ⟨b,0,none⟩) n n cs.toList) rfl (Rw.lit hb e (Nat.zero_le _) hn hs)
theorem Mem.Bp4 {b:Nat} {cs:Array Value} {T:TypeId} (hb:b=w.heap.size) (e:w'=w.alloc (.cells cs T)) (size n:Nat):Step (ms ps m0) w (ms (.row T size (some ⟨b,0,none⟩) n n cs.toList::ps) m0) w':=Mem.IU (ps:=ps) (m0:=m0) (T:=T) (cs:=cs) hb e
theorem Mem.xR (o:Mem n0 rs m0 fr ds w ps) (e size:Nat):Mem n0 rs m0 fr ds w (.row e size none 0 0 []::ps):=by
 refine⟨o.le,o.lt,o.bo,fun f hf=>⟨(o.g_ f hf).1,fun q hq c hc=> ?_⟩,fun q hq=> ?_,fun q hq=> ?_,pairwise_cons.2 ⟨fun q _ c hc=>(by cases hc),o.ff⟩,o.marks⟩
 ·cases hq with
  |head=>cases hc
  |tail _ hq=>exact(o.g_ f hf).2 q hq c hc
 ·cases hq with
  |head=>exact Rw.nil w 0 e size
  |tail _ hq=>exact o.holds q hq
 ·cases hq with
  |head=>intro c hc;cases hc
  |tail _ hq=>exact o.jy q hq
theorem Mem.Bp5 (e size:Nat):Step (ms ps m0) w (ms (.row e size none 0 0 []::ps) m0) w:=Step.drop w fun _ h=>h
theorem Mem.at (o:Mem n0 rs m0 fr ds w ps) (k:Nat) {b:Nat} {l:List Value} (hk:ps[k]? =some (.box b l)):dc w b l:=o.holds _ (mem_of_getElem? hk)
theorem Mem.rowAt (o:Mem n0 rs m0 fr ds w ps) (k:Nat) {e size:Nat} {a:Option Addr} {n c:Nat} {xs:List Value} (hk:ps[k]? =some (.row e size a n c xs)):Rw w 0 e size a n c xs:=o.holds _ (mem_of_getElem? hk)
theorem Mem.wr (o:Mem n0 rs m0 fr ds w ps) (k:Nat) {b i n:Nat} {l:List Value} (hk:ps[k]? =some (.box b l)) (hn:Nat.ble (i+n) l.length=true):Af w ⟨b,i,none⟩ n:=(o.at k hk).Bkw (Nat.le_of_ble_eq_true hn)
theorem Mt (hd:ps.Pairwise fun p q=>∀b,p.bK=some b->q.bK≠some b) {i j:Nat} {p q:Pc} (hi:ps[i]? =some p) (hj:ps[j]? =some q) (lE:i≠j) {b:Nat} (hp:p.bK=some b) (hq:q.bK=some b):False:=by
 obtain⟨cj,eV⟩:=List.getElem?_eq_some_iff.1 hi;obtain⟨vc,vd⟩:=List.getElem?_eq_some_iff.1 hj;have hd:=List.pairwise_iff_getElem.1 hd;rcases Nat.lt_or_gt_of_ne lE with h|h
 ·exact hd i j cj vc h b (by rw [eV];exact hp) (by rw [vd];exact hq)
 ·exact hd j i vc cj h b (by rw [vd];exact hq) (by rw [eV];exact hp)
theorem Mem.kG (o:Mem n0 rs m0 fr ds w ps) (k:Nat) {p p':Pc} (hk:ps[k]? =some p) (hK:Ai p.bK.toList w w') (hp:p'.holds w') (hb:∀b,p'.bK=some b->p.bK=some b\/w.heap.size<=b):Mem n0 rs m0 fr ds w' (ps.set k p'):=by
 have ia:=mem_of_getElem? hk;have ic:=(List.getElem?_eq_some_iff.1 hk).1;have key:∀i q,(ps.set k p')[i]? =some q->(i=k/\q=p')\/(i≠k/\ps[i]? =some q):=by
  intro i q h;rw [List.getElem?_set]at h;split at h
  ·rename_i e;subst e;simp at h;exact .inl ⟨rfl,h.symm⟩
  ·rename_i e;exact .inr ⟨fun h=>e h.symm,h⟩
 have oG:∀b∈p.bK.toList,∃o,w.heap[b]? =some o/\H3 o=true:=fun b hb=>(o.holds p ia).cells (by rwa [mem_toList]at hb)
 refine⟨le_trans o.le hK.size,o.lt,fun f hf=>IP (o.bo f hf) (o.g_ f hf).1 hK (fun b hb=>⟨(o.g_ f hf).2 p ia b (by rwa [mem_toList]at hb),oG b hb⟩),fun f hf=>⟨(o.g_ f hf).1,fun q hq b ve=> ?_⟩,fun q hq=> ?_,fun q hq b ve=> ?_,?_,IQ o.marks.1 hK oG,o.marks.2⟩
 ·obtain⟨i,hi⟩:=getElem?_of_mem hq;rcases key i q hi with⟨_,rfl⟩|⟨cf,hi⟩
  ·rcases hb b ve with h|h
   ·exact(o.g_ f hf).2 p ia b h
   ·have h1:=(o.bo f hf).kp.size;have h2:=(o.g_ f hf).1;exact .inr (by omega)
  ·exact(o.g_ f hf).2 q (mem_of_getElem? hi) b ve
 ·obtain⟨i,hi⟩:=getElem?_of_mem hq;rcases key i q hi with⟨_,rfl⟩|⟨cf,hi⟩
  ·exact hp
  ·have r_:=mem_of_getElem? hi;refine(o.holds q r_).kept fun b hb=>hK.block b ((o.holds q r_).lt hb) fun hm=> ?_
   rw [mem_toList]at hm;exact Mt o.ff hi hk cf hb hm
 ·obtain⟨i,hi⟩:=getElem?_of_mem hq;rcases key i q hi with⟨_,rfl⟩|⟨cf,hi⟩
  ·rcases hb b ve with h|h
   ·exact o.jy p ia b h
   ·exact .inr (le_trans o.le h)
  ·exact o.jy q (mem_of_getElem? hi) b ve
 ·rw [List.pairwise_iff_getElem];intro i j hi hj lE b ot vf;have gi:=getElem?_eq_getElem hi;have gj:=getElem?_eq_getElem hj;rcases key i _ gi with⟨e1,e2⟩|⟨cf,ft⟩<;>rcases key j _ gj with⟨e3,e4⟩|⟨Bp6,nE⟩
  ·omega
  ·rw [e2]at ot;rcases hb b ot with h|h
   ·exact Mt o.ff hk nE (Ne.symm Bp6) h vf
   ·have:=(o.holds _ (mem_of_getElem? nE)).lt vf;omega
  ·rw [e4]at vf;rcases hb b vf with h|h
   ·exact Mt o.ff ft hk cf ot h
   ·have:=(o.holds _ (mem_of_getElem? ft)).lt ot;omega
  ·exact Mt o.ff ft nE (by omega) ot vf
theorem Mem.qI (k:Nat) {p p':Pc} (hk:ps[k]? =some p) (hK:Ai p.bK.toList w w') (hb:∀b,p'.bK=some b->p.bK=some b\/w.heap.size<=b):Step (ms ps m0) w (ms (ps.set k p') m0) w':=by
 have ia:=mem_of_getElem? hk;refine⟨(hK.mono fun j hj=>Ce.2 (.inl ⟨p,ia,by rwa [mem_toList]at hj⟩)).d,fun j hj=> ?_⟩;rcases Ce.1 hj with⟨q,hq,h⟩|h
 ·rcases List.mem_or_eq_of_mem_set hq with hq|rfl
  ·exact .inl (Ce.2 (.inl ⟨q,hq,h⟩))
  ·rcases hb j h with h|h
   ·exact .inl (Ce.2 (.inl ⟨p,ia,h⟩))
   ·exact .inr h
 ·exact .inl (Ce.2 (.inr h))
theorem Gl {b i:Nat} {v:Value} (e:w'=w.setCell ⟨b,i,none⟩ v):Ai (some b).toList w w':=Ai.grown (L9 e)
theorem Kr {b i:Nat} {vs:List Value} (e:w'=setCells w ⟨b,i,none⟩ vs):Ai (some b).toList w w':=by
 subst e;unfold setCells
 suffices∀(vs:List Value) (w:World) (j:Nat),Ai (some b).toList w (Bi w ⟨b,i,none⟩ j vs) from this vs w 0
 intro vs
 induction vs with
 |nil=>intro w j;exact Ai.refl _ _
 |cons v vs ih=>intro w j;simp only [Bi];rw [Fe];exact(Gl rfl).trans (ih _ _)
theorem Mem.set (o:Mem n0 rs m0 fr ds w ps) (k:Nat) {b i:Nat} {l:List Value} {v:Value} (e:w'=w.setCell ⟨b,i,none⟩ v) (hk:ps[k]? =some (.box b l)) (uZ:Gv v:=by first|exact trivial|exact rfl):Mem n0 rs m0 fr ds w' (ps.set k (.box b (l.set i v))):=
 o.kG k hk (Gl e) ((o.at k hk).set e uZ) fun _ h=> .inl h
theorem Mem.Bp7 (k:Nat) {b i:Nat} {l:List Value} {v:Value} (e:w'=w.setCell ⟨b,i,none⟩ v) (hk:ps[k]? =some (.box b l)):Step (ms ps m0) w (ms (ps.set k (.box b (l.set i v))) m0) w':=
 Mem.qI k hk (Gl e) fun _ h=> .inl h
theorem Mem.zY (o:Mem n0 rs m0 fr ds w ps) (k:Nat) {b i:Nat} {l vs:List Value} (e:w'=setCells w ⟨b,i,none⟩ vs) (hk:ps[k]? =some (.box b l)) (u0:qH vs:=by first|exact trivial|exact rfl):Mem n0 rs m0 fr ds w' (ps.set k (.box b (D0 l i vs))):=
 o.kG k hk (Kr e) ((o.at k hk).zY e u0) fun _ h=> .inl h
theorem Mem.Bnw (k:Nat) {b i:Nat} {l vs:List Value} (e:w'=setCells w ⟨b,i,none⟩ vs) (hk:ps[k]? =some (.box b l)):Step (ms ps m0) w (ms (ps.set k (.box b (D0 l i vs))) m0) w':=
 Mem.qI k hk (Kr e) fun _ h=> .inl h
theorem Mem.call (o:Mem n0 rs m0 fr ds w ps) (k:Nat) {b:Nat} {l l':List Value} (hK:Ai [b] w w') (hb:dc w' b l') (hk:ps[k]? =some (.box b l)):Mem n0 rs m0 fr ds w' (ps.set k (.box b l')):=
 o.kG k hk hK hb fun _ h=> .inl h
theorem Mem.Bnx (k:Nat) {b:Nat} {l l':List Value} (hK:Ai [b] w w') (hk:ps[k]? =some (.box b l)):Step (ms ps m0) w (ms (ps.set k (.box b l')) m0) w':=
 Mem.qI k hk hK fun _ h=> .inl h
theorem Mem.IV (k:Nat) {e size:Nat} {a':Option Addr} {n' c':Nat} {ie:List Value} :Step ((Vc.bK a').toList++ms ps m0) w (ms (ps.set k (.row e size a' n' c' ie)) m0) w:=Step.drop w fun q hq=>by
 rcases Ce.1 hq with⟨p,hp,h⟩|h
 ·rcases List.mem_or_eq_of_mem_set hp with hp|rfl
  ·exact mem_append.2 (.inr (Ce.2 (.inl ⟨p,hp,h⟩)))
  ·exact mem_append.2 (.inl (by rw [mem_toList];exact h))
 ·exact mem_append.2 (.inr (Ce.2 (.inr h)))
theorem Mem.kH (k:Nat) {b:Nat} {l:List Value} (hk:ps[k]? =some (.box b l)):b∈ms ps m0:=Ce.2 (.inl ⟨_,mem_of_getElem? hk,rfl⟩)
theorem Mem.d_:Step (ms ps m0) w m0 w:=Step.drop w fun _ h=>Ce.2 (.inr h)
theorem Mem.erase (o:Mem n0 rs m0 fr ds w ps) (k:Nat):Mem n0 rs m0 fr ds w (ps.eraseIdx k):=
 ⟨o.le,o.lt,o.bo,fun f hf=>⟨(o.g_ f hf).1,fun p hp=>(o.g_ f hf).2 p (List.mem_of_mem_eraseIdx hp)⟩,fun p hp=>o.holds p (List.mem_of_mem_eraseIdx hp),fun p hp=>o.jy p (List.mem_of_mem_eraseIdx hp),o.ff.sublist (List.eraseIdx_sublist ps k),o.marks⟩
theorem Mem.Bm2 (k:Nat):Step (ms ps m0) w (ms (ps.eraseIdx k) m0) w:=Step.drop w fun j hk=>by
 rcases Ce.1 hk with⟨p,hp,h⟩|h
 ·exact Ce.2 (.inl ⟨p,List.mem_of_mem_eraseIdx hp,h⟩)
 ·exact Ce.2 (.inr h)
theorem Mem.front (o:Mem n0 rs m0 fr ds w ps) (k:Nat) {p:Pc} (hk:ps[k]? =some p):Mem n0 rs m0 fr ds w (p::ps.eraseIdx k):=by
 have hp:=mem_of_getElem? hk;have jP:∀q∈p::ps.eraseIdx k,q∈ps:=fun q hq=>by
  rcases mem_cons.1 hq with rfl|h
  ·exact hp
  ·exact List.mem_of_mem_eraseIdx h
 refine⟨o.le,o.lt,o.bo,fun f hf=>⟨(o.g_ f hf).1,fun q hq=>(o.g_ f hf).2 q (jP q hq)⟩,fun q hq=>o.holds q (jP q hq),fun q hq=>o.jy q (jP q hq),pairwise_cons.2 ⟨fun q hq b h1 h2=> ?_,o.ff.sublist (List.eraseIdx_sublist ps k)⟩,o.marks⟩;obtain⟨i,hi⟩:=getElem?_of_mem hq;rw [List.getElem?_eraseIdx]at hi;split at hi
 ·exact Mt o.ff hi hk (by omega) h2 h1
 ·exact Mt o.ff hi hk (by omega) h2 h1
theorem Mem.IW (o:Mem n0 rs m0 fr ds w ps) (k:Nat) {p:Pc} {b:Nat} (hk:ps[k]? =some p) (hp:p.bK=some b) (hr:b∉rs):b∉ms (ps.eraseIdx k) m0:=by
 intro hm;have ia:=mem_of_getElem? hk;rcases Ce.1 hm with⟨q,hq,h⟩|h
 ·obtain⟨i,hi⟩:=getElem?_of_mem hq;rw [List.getElem?_eraseIdx]at hi;split at hi
  ·exact Mt o.ff hi hk (by omega) h hp
  ·exact Mt o.ff hi hk (by omega) h hp
 ·rcases o.jy _ ia b hp with h2|h2
  ·exact hr h2
  ·have:=o.lt _ h;omega
theorem Mem.freeze (o:Mem n0 rs m0 fr ds w ps) (k:Nat) {e:Nat} {α:Type} {c:dd α} {a:Option Addr} {n cap:Nat} {xs:List Value} {l:List α} (hk:ps[k]? =some (.row e c.size a n cap xs)) (hr:∀b∈rs,b∉Vc.bK a) (he:El c (ms (ps.eraseIdx k) m0) w l xs):aW c (ms (ps.eraseIdx k) m0) w a l:=by
 have nF:=o.rowAt k hk;have nG:=nF.sl;by_cases hl:l=[]
 ·exact .inl hl
 ·right;have hx:xs≠[]:=by
   intro h;have:=he.len;rw [h]at this;have hp:=c.pos;have h2:=List.length_pos_iff.2 hl;have h3:=Nat.mul_pos h2 hp;simp only [List.length_nil]at this;omega
  obtain⟨p,rfl,hc⟩:=nG.zZ hx;exact⟨p,xs,rfl,o.IW k hk rfl (fun h=>hr _ h (by simp [Vc.bK])),hc,he⟩
theorem Mem.IX (o:Mem n0 rs m0 fr ds w ps) (k:Nat) {b:Nat} {l:List Value} (hk:ps[k]? =some (.box b l)) (hr:b∉rs):H0 (ms (ps.eraseIdx k) m0) w ⟨b,0,none⟩ l:=
 ⟨⟨o.IW k hk rfl hr,(o.holds _ (mem_of_getElem? hk)).cells rfl⟩,(o.at k hk).whole⟩
theorem Mem.recv {b:Nat} {l:List Value} (hm:∀b∈m0,b<w.heap.size) (_:b∈m0) (hb:dc w b l):Mem w.heap.size [b] m0 [([b],w.heap.size,w)] [] w [.box b l]:=
 ⟨le_refl _,hm,fun f hf=>by simp at hf;subst hf;exact Pa.refl _ _ _,fun f hf=>by simp at hf;subst hf;exact⟨le_refl _,fun p hp c hc=>by simp at hp;subst hp;cases hc;exact .inl (by simp)⟩,
  fun p hp=>by simp at hp;subst hp;exact hb,fun p hp c hc=>by simp at hp;subst hp;cases hc;exact .inl (by simp),List.pairwise_singleton _ _,Kq _ _⟩
theorem Mem.oH {b:Nat} {l:List Value} (hi:b∈m0) (_:dc w b l):Step m0 w (ms [.box b l] m0) w:=Step.drop w fun k hk=>by
 rcases Ce.1 hk with⟨p,hp,h⟩|h
 ·simp at hp;subst hp;cases h;exact hi
 ·exact h
theorem Mem.given {e size n c:Nat} {a:Option Addr} {xs:List Value} (hm:∀b∈m0,b<w.heap.size) (hb:Rw w 0 e size a n c xs):Mem w.heap.size (Vc.bK a).toList m0 [((Vc.bK a).toList,w.heap.size,w)] [] w [.row e size a n c xs]:=
 ⟨le_refl _,hm,fun f hf=>by simp at hf;subst hf;exact Pa.refl _ _ _,fun f hf=>by simp at hf;subst hf;exact⟨le_refl _,fun p hp c hc=>by simp at hp;subst hp;exact .inl (by simpa [Pc.bK] using hc)⟩,
  fun p hp=>by simp at hp;subst hp;exact hb,fun p hp c hc=>by simp at hp;subst hp;exact .inl (by simpa [Pc.bK] using hc),List.pairwise_singleton _ _,Kq _ _⟩
theorem Mem.Bm3 {e size n c:Nat} {a:Option Addr} {xs:List Value} (hi:∀b,Vc.bK a=some b->b∈m0):Step m0 w (ms [.row e size a n c xs] m0) w:=Step.drop w fun k hk=>by
 rcases Ce.1 hk with⟨p,hp,h⟩|h
 ·simp at hp;subst hp;exact hi k h
 ·exact h
theorem Mem.IY (k:Nat) {e size n c:Nat} {a:Option Addr} {xs:List Value} (hk:ps[k]? =some (.row e size a n c xs)):∀b,Vc.bK a=some b->b∈ms ps m0:=fun _ hb=>Ce.2 (.inl ⟨_,mem_of_getElem? hk,hb⟩)
theorem _root_.Go.Vc.Ai.Bma {a:Option Addr} (h:Ai (Vc.bK a).toList w w'):w.grownBy w' (Vc.bK a):=⟨h.os,h.tape,h.output,h.size,fun j hj hm=>h.block j hj (by simpa [eq_comm] using hm)⟩
theorem Mem.neq (o:Mem n0 rs m0 fr ds w ps) (i j:Nat) {b c:Nat} {l l':List Value} (hi:ps[i]? =some (.box b l)) (hj:ps[j]? =some (.box c l')) (lE:i≠j) (h:b=c):False:=
 Mt o.ff hi hj lE (b:=b) rfl (by rw [h];rfl)
theorem Mem.Bm4 {b:Nat} (o:Mem n0 rs m0 fr ds w ps) (k:Nat) {e size n cap:Nat} {a:Option Addr} {xs:List Value} (hk:ps[k]? =some (.row e size a n cap xs)) (j:Nat) {l:List Value} (hj:ps[j]? =some (.box b l)) (z4:k≠j):∀c∈[b],c∉Vc.bK a:=by
 intro c hc ha;rw [List.mem_singleton.1 hc]at ha;exact Mt o.ff hk hj z4 (b:=b) ha rfl
theorem Mem.app (o:Mem n0 rs m0 fr ds w ps) (k:Nat) {e size n c n' c':Nat} {a a':Option Addr} {xs ie:List Value} (hk:ps[k]? =some (.row e size a n c xs)) (hr:Rw w' 0 e size a' n' c' ie) (hg:w.grownBy w' (Vc.bK a)) (dZ:Vc.bK a'=Vc.bK a\/Vc.bK a'=some w.heap.size):Mem n0 rs m0 fr ds w' (ps.set k (.row e size a' n' c' ie)):=
 o.kG k hk (Ai.grown hg) hr fun b hb=>by
  rcases dZ with h|h
  ·exact .inl (h.symm.trans hb)
  ·exact .inr (by have:some b=some w.heap.size:=hb.symm.trans h;cases this;exact le_refl _)
theorem Mem.Bp8 (k:Nat) {e size n c n' c':Nat} {a a':Option Addr} {xs ie:List Value} (hk:ps[k]? =some (.row e size a n c xs)) (_:Rw w' 0 e size a' n' c' ie) (hg:w.grownBy w' (Vc.bK a)) (dZ:Vc.bK a'=Vc.bK a\/Vc.bK a'=some w.heap.size):Step (ms ps m0) w (ms (ps.set k (.row e size a' n' c' ie)) m0) w':=
 Mem.qI (p':= .row e size a' n' c' ie) k hk (Ai.grown hg) fun b hb=>by
  rcases dZ with h|h
  ·exact .inl (h.symm.trans hb)
  ·exact .inr (by have:some b=some w.heap.size:=hb.symm.trans h;cases this;exact le_refl _)
theorem P9 {R:List Nat} {w0 w1 w2:World} {a:Option Addr} (t:Ai R w0 w1) (hg:w1.grownBy w2 (Vc.bK a)) (hf:∀q,Vc.bK a=some q->q∈R\/w0.heap.size<=q):Ai R w0 w2:=
 ⟨hg.os.trans t.os,hg.tape.trans t.tape,hg.output.trans t.output,le_trans t.size hg.size,fun j hj hm=>(hg.block j (Nat.lt_of_lt_of_le hj t.size) fun e=>by
  rcases hf j e.symm with h|h
  ·exact hm h
  ·omega).trans (t.block j hj hm)⟩
theorem Sv {R:List Nat} {w0 w1 w2:World} {b:Nat} (t:Ai R w0 w1) (k:Ai (some b).toList w1 w2) (hf:∀q,Vc.bK (some ⟨b,0,none⟩)=some q->q∈R\/w0.heap.size<=q):Ai R w0 w2:=
 P9 (a:=some ⟨b,0,none⟩) t (Ai.Bma (a:=some ⟨b,0,none⟩) k) hf
theorem Qa {w u:World} {q:Addr} {cs:List Value} (h:Ad w q cs) (hu:Ai [] w u):Ad u q cs:=Ad.kept h fun cf=>hu.block _ (Ad.lt h cf) (by simp)
theorem IZ {P:World->Prop} {w:World} (h:P w):∀u,u=w->P u:=fun _ hu=>hu▸h
theorem H4 {R:List Nat} {w0 w1:World} {b:Nat} (hb:b=w1.heap.size) (t:Ai R w0 w1):∀q,Vc.bK (some ⟨b,0,none⟩)=some q->q∈R\/w0.heap.size<=q:=fun q hq=>by
 cases hq
 exact .inr (by rw [hb];exact t.size)
theorem Mem.xE (_:Mem n0 rs m0 fr ds w ps) (e:Ai [] w w'):Step (ms ps m0) w (ms ps m0) w':=Mem.Bp2 e
theorem Mem.xB (_:Mem n0 rs m0 fr ds w ps) {b:Nat} {cs:Array Value} {T:TypeId} (hb:b=w.heap.size) (e:w'=w.alloc (.cells cs T)):Step (ms ps m0) w (ms (.box b cs.toList::ps) m0) w':=Mem.IU hb e
theorem Mem.xL (_:Mem n0 rs m0 fr ds w ps) {b:Nat} {cs:Array Value} {T:TypeId} (hb:b=w.heap.size) (e:w'=w.alloc (.cells cs T)) (size n:Nat):Step (ms ps m0) w (ms (.row T size (some ⟨b,0,none⟩) n n cs.toList::ps) m0) w':=Mem.Bp4 hb e size n
theorem Mem.xN (_:Mem n0 rs m0 fr ds w ps) (e size:Nat):Step (ms ps m0) w (ms (.row e size none 0 0 []::ps) m0) w:=Mem.Bp5 e size
theorem Mem.xS (_:Mem n0 rs m0 fr ds w ps) (k:Nat) {b i:Nat} {l:List Value} {v:Value} (e:w'=w.setCell ⟨b,i,none⟩ v) (hk:ps[k]? =some (.box b l)):Step (ms ps m0) w (ms (ps.set k (.box b (l.set i v))) m0) w':=Mem.Bp7 k e hk
theorem Mem.xSs (_:Mem n0 rs m0 fr ds w ps) (k:Nat) {b i:Nat} {l vs:List Value} (e:w'=setCells w ⟨b,i,none⟩ vs) (hk:ps[k]? =some (.box b l)):Step (ms ps m0) w (ms (ps.set k (.box b (D0 l i vs))) m0) w':=Mem.Bnw k e hk
theorem Mem.xX (_:Mem n0 rs m0 fr ds w ps) (k:Nat):Step (ms ps m0) w (ms (ps.eraseIdx k) m0) w:=Mem.Bm2 k
theorem Mem.xA (_:Mem n0 rs m0 fr ds w ps) (k:Nat) {e size n c n' c':Nat} {a a':Option Addr} {xs ie:List Value} (hk:ps[k]? =some (.row e size a n c xs)) (hr:Rw w' 0 e size a' n' c' ie) (hg:w.grownBy w' (Vc.bK a)) (dZ:Vc.bK a'=Vc.bK a\/Vc.bK a'=some w.heap.size):Step (ms ps m0) w (ms (ps.set k (.row e size a' n' c' ie)) m0) w':=Mem.Bp8 k hk hr hg dZ
theorem Mem.xC (_:Mem n0 rs m0 fr ds w ps) (k:Nat) {b:Nat} {l l':List Value} (hK:Ai [b] w w') (hk:ps[k]? =some (.box b l)):Step (ms ps m0) w (ms (ps.set k (.box b l')) m0) w':=Mem.Bnx k hK hk
theorem Mem.dC (o:Mem n0 rs m0 fr ds w ps) (k:Nat) {b:Nat} {l l':List Value} (hK:Ai [b] w w') (hb:dc w' b l') (hk:ps[k]? =some (.box b l)):Step (ms ps m0) w (ms (ps.set k (.box b l')) m0) w'/\Mem n0 rs m0 fr ds w' (ps.set k (.box b l')):=⟨o.xC k hK hk,o.call k hK hb hk⟩
theorem Mem.vg (_:Mem n0 rs m0 fr ds w ps) (k:Nat) {e size:Nat} {a:Option Addr} {n c:Nat} {xs:List Value} (hk:ps[k]? =some (.row e size a n c xs)):Step (ms ps m0) w ((Vc.bK a).toList++m0) w:=Mem.Bnu k hk
theorem Mem.dE (o:Mem n0 rs m0 fr ds w ps) (e:Ai [] w w'):Step (ms ps m0) w (ms ps m0) w'/\Mem n0 rs m0 fr ds w' ps:=⟨o.xE e,o.ext e⟩
theorem Mem.dD (o:Mem n0 rs m0 fr ds w ps) (e:w'=w.drew):Step (ms ps m0) w (ms ps m0) w'/\Mem n0 rs m0 fr ds w' ps:=o.dE (Aru e)
theorem Mem.dB (o:Mem n0 rs m0 fr ds w ps) {b:Nat} {cs:Array Value} {T:TypeId} (hb:b=w.heap.size) (e:w'=w.alloc (.cells cs T)) (uY:qG cs.toList T:=by first|exact trivial|exact fun h k=>by first|rfl|(simp at h;done)|(simp [zX]at k;done)):Step (ms ps m0) w (ms (.box b cs.toList::ps) m0) w'/\Mem n0 rs m0 fr ds w' (.box b cs.toList::ps):=⟨o.xB hb e,o.box hb e uY⟩
theorem Mem.dS (o:Mem n0 rs m0 fr ds w ps) (k:Nat) {b i:Nat} {l:List Value} {v:Value} (e:w'=w.setCell ⟨b,i,none⟩ v) (hk:ps[k]? =some (.box b l)) (uZ:Gv v:=by first|exact trivial|exact rfl):Step (ms ps m0) w (ms (ps.set k (.box b (l.set i v))) m0) w'/\Mem n0 rs m0 fr ds w' (ps.set k (.box b (l.set i v))):=⟨o.xS k e hk,o.set k e hk uZ⟩
theorem Mem.cH (o:Mem n0 rs m0 fr ds w ps) (k:Nat) {b i:Nat} {l vs:List Value} (e:w'=setCells w ⟨b,i,none⟩ vs) (hk:ps[k]? =some (.box b l)) (u0:qH vs:=by first|exact trivial|exact rfl):Step (ms ps m0) w (ms (ps.set k (.box b (D0 l i vs))) m0) w'/\Mem n0 rs m0 fr ds w' (ps.set k (.box b (D0 l i vs))):=⟨o.xSs k e hk,o.zY k e hk u0⟩
theorem Mem.dX (o:Mem n0 rs m0 fr ds w ps) (k:Nat):Step (ms ps m0) w (ms (ps.eraseIdx k) m0) w/\Mem n0 rs m0 fr ds w (ps.eraseIdx k):=⟨o.xX k,o.erase k⟩
theorem I0 {M:List Nat} {B B':Nat} {W:World} (h:Pa M B W w) (hG:Grown B' w w') (hB:B<=W.heap.size) (r7:W.heap.size<=B'):Pa M B W w':=by
 have key:∀k,k<W.heap.size->w'.heap[k]? =w.heap[k]? :=fun k hk=>by
  have aP:k<w.heap.size:=Nat.lt_of_lt_of_le hk h.kp.size;have:=hG.block k _ (Array.getElem?_eq_getElem aP) (.inl (by omega));rw [this,Array.getElem?_eq_getElem aP]
 refine⟨⟨hG.os.trans h.kp.os,hG.tape.trans h.kp.tape,hG.output.trans h.kp.output,le_trans h.kp.size hG.size,fun k hk hm=>(key k (by omega)).trans (h.kp.block k hk hm)⟩,fun k o hk ho hc=> ?_⟩;rw [key k (Array.getElem?_eq_some_iff.1 ho).1];exact h.rest k o hk ho hc
theorem Mem.grow {B:Nat} (o:Mem n0 rs m0 fr ds w ps) (hG:Grown B w w') (hB:∀f∈fr,f.2.2.heap.size<=B) (hd:∀D∈ds,D<B):Mem n0 rs m0 fr ds w' ps:=
 ⟨le_trans o.le hG.size,o.lt,fun f hf=>I0 (o.bo f hf) hG (o.g_ f hf).1 (hB f hf),o.g_,fun p hp=>(o.holds p hp).kept fun b hb=>by
  obtain⟨ob,h1,h2⟩:=(o.holds p hp).cells hb;rw [hG.block b ob h1 (.inr h2),h1],o.jy,o.ff,⟨o.marks.1.1,fun D hD=>hG.block D _ (o.marks.1.2 D hD) (.inl (hd D hD))⟩,o.marks.2⟩
theorem Mem.round (o:Mem n0 rs m0 fr ds w ps) {M:List Nat} {B:Nat} (hB:B<=w.heap.size) (hM:∀k∈ms ps m0,k∈M\/B<=k):Mem n0 rs m0 ((M,B,w)::fr) ds w ps:=
 ⟨o.le,o.lt,fun f hf=>by cases hf with|head=>exact Pa.refl _ _ _|tail _ hf=>exact o.bo f hf,
  fun f hf=>by cases hf with|head=>exact⟨hB,fun p hp b hb=>hM b (Ce.2 (.inl ⟨p,hp,hb⟩))⟩|tail _ hf=>exact o.g_ f hf,o.holds,o.jy,o.ff,o.marks⟩
theorem Mem.I3 {M:List Nat} {B:Nat} {W:World} (o:Mem n0 rs m0 ((M,B,W)::fr) ds w ps):Pa M B W w/\Mem n0 rs m0 fr ds w ps:=
 ⟨o.bo _ List.mem_cons_self,o.le,o.lt,fun f hf=>o.bo f (List.mem_cons_of_mem _ hf),fun f hf=>o.g_ f (List.mem_cons_of_mem _ hf),o.holds,o.jy,o.ff,o.marks⟩
theorem _root_.Go.Vc.tV.all {M:List Nat} {W W':World} (h:tV M W.heap.size W W'):Ai M W W':=⟨h.os,h.tape,h.output,h.size,h.block⟩
theorem Mem.mark (o:Mem n0 rs m0 fr ds w ps) {D B:Nat} (hD:w.heap[D]? =some (.deferred (some []))) (hB:B<=D) (hn:n0<=B) (hd:∀E∈ds,E<B):Mem n0 rs m0 fr (D::ds) w ps:=
 ⟨o.le,o.lt,o.bo,o.g_,o.holds,o.jy,o.ff,⟨List.nodup_cons.2 ⟨fun h=>by have:=hd D h;omega,o.marks.1.1⟩,fun E hE=>by cases hE with|head=>exact hD|tail _ hE=>exact o.marks.1.2 E hE⟩,fun E hE=>by cases hE with|head=>omega|tail _ hE=>exact o.marks.2 E hE⟩
theorem Sw (n:Nat):∀(ds:List Nat) (w:World),Cc ds w->(∀D∈ds,n<=D)->Grown n w (shut ds w)
 |[],w,_,_=>Grown.refl _ _
 |D::ds,w,h,hn=>by
  have h1:Grown n w (w.putObj D (.deferred none)):=by
   refine⟨rfl,rfl,rfl,by simp [World.putObj],fun k ob hk hc=> ?_⟩;rw [World.putObj_heap_other (fun e=> ?_)]
   ·exact hk
   ·subst e;have h2:=h.2 k (by simp);rw [hk]at h2;cases h2
    rcases hc with hc|hc
    ·have:=hn k (by simp);omega
    ·cases hc
  exact h1.trans (Sw n ds _ (IH h _) fun E hE=>hn E (by simp [hE]))
theorem Mem.I4 {w0:World} (o:Mem w0.heap.size rs m0 [(rs,w0.heap.size,w0)] ds w ps):Ai rs w0 (shut ds w):=by
 have hG:=Sw w0.heap.size ds w o.marks.1 o.marks.2;have h:=I0 (o.bo _ List.mem_cons_self) hG (le_refl _) (le_refl _);exact⟨h.kp.os,h.kp.tape,h.kp.output,h.kp.size,h.kp.block⟩
theorem Mem.I5 (o:Mem n0 rs m0 fr ds w ps) (k:Nat) {b:Nat} {l:List Value} (hk:ps[k]? =some (.box b l)):dc (shut ds w) b l:=by
 have hG:=Sw n0 ds w o.marks.1 o.marks.2;obtain⟨T,hT,hg⟩:=o.at k hk;exact⟨T,hG.block b _ hT (.inr rfl),hg⟩
end
theorem Mem.dsl {n0:Nat} {rs m0:List Nat} {fr:List (List Nat×Nat×World)} {ds:List Nat} {w:World} {ps:List Pc} (o:Mem n0 rs m0 fr ds w ps):∀D∈ds,D<w.heap.size:=fun D hD=>(Array.getElem?_eq_some_iff.1 (o.marks.1.2 D hD)).1
def Gh {α:Type} (J Jx:List α->World->Prop) (pre:List α) (stop:Bool) (W:World):Prop:=cond stop (Jx pre W) (J pre W)
theorem I6 {α:Type} {J Jx:List α->World->Prop} {pre xs:List α} {stop:Bool} {W:World} (h:Gh J Jx pre stop W) (hp:pre<+:xs) (he:stop=false->pre=xs):J xs W\/∃pre,pre<+:xs/\Jx pre W:=by
 cases stop
 ·rw [←he rfl];exact .inl h
 ·exact .inr ⟨pre,hp,h⟩
theorem Alp {α:Type} {pre xs:List α} {x:α} (h:pre<+:xs) (hx:xs[pre.length]? =some x):(pre++[x])<+:xs:=by
 obtain⟨t,rfl⟩:=h;cases t with
 |nil=>simp at hx
 |cons y t=>simp at hx;subst hx;exact⟨t,by simp⟩
theorem _root_.Go.Vc.Grown.Bnz {w W:World} (h:Grown w.heap.size w W) (m:List Nat):Ai m w W:=⟨h.os,h.tape,h.output,h.size,fun k hk _=>by
 have:=h.block k _ (Array.getElem?_eq_getElem hk) (.inl hk);rw [this,Array.getElem?_eq_getElem hk]⟩
theorem _root_.Go.Vc.Ai.kpm {m:List Nat} {w W W':World} (h:Ai m w W) (k:tV m w.heap.size W W'):Ai m w W':=
 ⟨k.os.trans h.os,k.tape.trans h.tape,k.output.trans h.output,le_trans h.size k.size,fun j hj hm=>(k.block j hj hm).trans (h.block j hj hm)⟩
theorem _root_.Go.Vc.Ai.oI {m:List Nat} {w W:World} (h:Ai m w W):Step m w m W:=⟨h.d,fun _ h=> .inl h⟩
theorem I7 (w:World):Cc [] w:=⟨List.nodup_nil,by simp⟩
theorem Qb {p:Nat->Prop} (h:∃n,p n):∃n,p n/\∀k,p k->n<=k:=by
 obtain⟨n,hn⟩:=h
 induction n using Nat.strongRecOn with
 |_ n ih=>
  by_cases hk:∃k,k<n/\p k
  ·obtain⟨k,h1,h2⟩:=hk;exact ih k h1 h2
  ·exact⟨n,hn,fun k z5=>by
    rcases Nat.lt_or_ge k n with h|h
    ·exact absurd ⟨k,h,z5⟩ hk
    ·exact h⟩
open Classical in
noncomputable def b8 (p:Nat->Prop):Nat:=if h:∃n,p n then Classical.choose (Qb h)else 0
theorem Aw {p:Nat->Prop} (h:∃n,p n):p (b8 p):=by unfold b8;rw [dif_pos h];exact(Classical.choose_spec (Qb h)).1
theorem Arv {p:Nat->Prop} {n:Nat} (h:p n):b8 p<=n:=by unfold b8;rw [dif_pos ⟨n,h⟩];exact(Classical.choose_spec (Qb ⟨n,h⟩)).2 n h
theorem Aa {b:Bool} {A B A' B':Prop} (h1:A->A') (h2:B->B') (h:cond b A B):cond b A' B':=by cases b;exact h2 h;exact h1 h
theorem _root_.Go.Vc.dc.bo {w u:World} {b:Nat} {l:List Value} (h:dc w b l) {r:List Nat} (hu:Ai r w u) (hr:b∉r):dc u b l:=by
 obtain⟨T,hT⟩:=h;exact⟨T,by rw [hu.block b (Array.getElem?_eq_some_iff.1 hT.1).1 hr];exact hT⟩
theorem _root_.Go.Vc.Rw.cap {w:World} {base e size:Nat} {a:Option Addr} {n c:Nat} {xs:List Value} (h:Rw w base e size a n c xs):n<=c:=by
 rcases h.2 with⟨hv,hn⟩|⟨g,cap,cur,hv,_,_,hc,_⟩
 ·omega
 ·cases hv;exact hc
theorem Nj {α:Type} {c:dd α} {m:List Nat} {w:World} {e n cap:Nat} {a:Option Addr} {xs:List Value} {l:List α} (hr:Rw w 0 e c.size a n cap xs) (he:El c m w l xs) {i:Int} (hi:0<=i/\i<(l.length:Int)): ∃p x cs,a=some p/\l[i.toNat]? =some x/\(True/\Ad w (p.add (i.toNat*c.size)) cs)/\c.rep m w x cs:=by
 have aP:i.toNat<l.length:=by omega
 obtain⟨cs,ys,zs,hx,hy,jQ⟩:=he.get (getElem?_eq_getElem aP);have cf:cs≠[]:=fun e=>by have:=c.len jQ;rw [e]at this;have:=c.pos;simp at*;omega
 have nG:=hr.sl;rw [hx]at nG;obtain⟨p,hp,hc⟩:=nG.zZ (by simp [cf]);have fH:=Ad.sub hc cf;rw [hy]at fH;exact⟨p,_,cs,hp,getElem?_eq_getElem aP,⟨trivial,fH⟩,jQ⟩
theorem Uk {α:Type} {c:dd α} {m:List Nat} {w:World} {e n cap:Nat} {a:Option Addr} {xs:List Value} {l:List α} (hr:Rw w 0 e c.size a n cap xs) (he:El c m w l xs):n=l.length:=
 Nat.eq_of_mul_eq_mul_right c.pos (hr.len.symm.trans he.len)
theorem Rn {α:Type} {c:dd α} {m:List Nat} {w:World} {e n cap:Nat} {a:Option Addr} {xs:List Value} {l:List α} (hr:Rw w 0 e c.size a n cap xs) (he:El c m w l xs) {i:Int} (hi:0<=i/\i<(n:Int)):
 ∃p x cs,a=some p/\l[i.toNat]? =some x/\(True/\Ad w (p.add (i.toNat*c.size)) cs)/\c.rep m w x cs:=Nj hr he (by rw [Uk hr he]at hi;exact hi)
theorem z6:∀(vs l:List Value) (i:Nat),(D0 l i vs).length=l.length
 |[],_,_=>rfl
 |v::vs,l,i=>by rw [D0,z6];simp
theorem I8 (k:Nat):∀(vs l:List Value) (i:Nat),(D0 l i vs).take k=D0 (l.take k) i vs
 |[],_,_=>rfl
 |v::vs,l,i=>by rw [D0,I8,D0,List.take_set]
theorem Arw (A B:List Value):∀(vs:List Value) (i:Nat),i+vs.length<=A.length->D0 (A++B) i vs=D0 A i vs++B:=by
 intro vs
 induction vs generalizing A with
 |nil=>intro i _;rfl
 |cons v vs ih=>
  intro i h;simp only [List.length_cons]at h;rw [D0,D0,List.set_append_left _ _ (by omega)];exact ih (A.set i v) (i+1) (by simp;omega)
theorem Aoj (A B:List Value):∀(vs:List Value) (i:Nat),D0 (A++B) (A.length+i) vs=A++D0 B i vs:=by
 intro vs
 induction vs generalizing B with
 |nil=>intro i;rfl
 |cons v vs ih=>
  intro i;rw [D0,D0,List.set_append_right _ _ (by omega),show A.length+i-A.length=i by omega];exact ih (B.set i v) (i+1)
theorem Atc:∀(cs vs:List Value),vs.length=cs.length->D0 cs 0 vs=vs:=by
 intro cs
 suffices∀(vs A cs:List Value),vs.length=cs.length->D0 (A++cs) A.length vs=A++vs by
  intro vs h;exact this vs [] cs h
 intro vs
 induction vs with
 |nil=>intro A cs h;cases cs with|nil=>rfl|cons=>simp at h
 |cons v vs ih=>
  intro A cs h;cases cs with
  |nil=>simp at h
  |cons c cs=>
   have:=ih (A++[v]) cs (by simpa using h);rw [D0,List.set_append_right _ _ (le_refl _),Nat.sub_self,List.set_cons_zero];simpa using this
theorem Aok {b T:Nat} :∀(vs:List Value) (w:World) (i j:Nat) (l:List Value),w.heap[b]? =some (.cells ⟨l⟩ T (0,0))->(Bi w ⟨b,i,none⟩ j vs).heap[b]? =some (.cells ⟨D0 l (i+j) vs⟩ T (0,0)):=by
 intro vs
 induction vs with
 |nil=>intro w i j l h;exact h
 |cons v vs ih=>
  intro w i j l h;simp only [Bi,D0];have:=ih (w.setCell ((⟨b,i,none⟩:Addr).add j) v) i (j+1) (l.set (i+j) v) (by rw [Fe,heap_setCell,if_pos rfl,h];simp)
  rwa [show i+(j+1)=i+j+1 by omega]at this
theorem _root_.Go.Vc.Rw.store {w:World} {e size n c:Nat} {p:Addr} {xs:List Value} (h:Rw w 0 e size (some p) n c xs) {j:Nat} {vs:List Value} (hj:j+vs.length<=n*size): Af w (p.add j) vs.length/\∀w',w'=setCells w (p.add j) vs->Rw w' 0 e size (some p) n c (D0 xs j vs)/\w.grownBy w' (some p.block):=by
 rcases h.2 with⟨hv,_⟩|⟨g,cap,cur,hv,hg,hh,hn,I9,eU,ht⟩
 ·cases hv
 ·obtain⟨rfl,rfl⟩:p=⟨g,0,none⟩/\c=cap:=by cases hv;exact⟨rfl,rfl⟩
  have hwr:∀ {i n:Nat},i+n<=cur.toList.length->Af w ⟨g,i,none⟩ n:=fun {i n} hn j hj=>by
   rw [Fe];have aP:i+j<cur.toList.length:=by omega
   exact⟨⟨cur.toList[i+j],by simp [World.cell?,hh]⟩,by simp [World.frozen?,hh]⟩
  have hmul:n*size<=c*size:=Nat.mul_le_mul_right _ hn;have hlen:cur.toList.length=c*size:=by simpa using eU
  have ea:(⟨g,0,none⟩:Addr).add j=⟨g,j,none⟩:=by rw [Fe,Nat.zero_add]
  rw [ea];refine⟨hwr (by omega),fun w' hw=>⟨⟨by rw [z6];exact h.1,.inr ⟨g,c,⟨D0 cur.toList j vs⟩,rfl,hg,?_,hn,I9,by rw [←eU];simp [z6],?_⟩⟩,?_⟩⟩
  ·subst hw;exact Aok vs w j 0 cur.toList hh
  ·show(D0 cur.toList j vs).take _=_
   rw [I8,ht]
  ·have:=Kr hw;exact⟨this.os,this.tape,this.output,this.size,fun k hk hm=>this.block k hk (by simpa [eq_comm] using fun e=>hm (by rw [e]))⟩
theorem El.put {α:Type} {c:dd α} {m:List Nat} {w:World} {l:List α} {xs:List Value} (h:El c m w l xs) {i:Nat} {x:α} (hx:l[i]? =some x): ∃cs,(∃ys zs,xs=ys++cs++zs/\ys.length=i*c.size)/\cs.length=c.size/\i*c.size+c.size<=xs.length/\∀x' off vs,off+vs.length<=c.size->c.rep m w x' (D0 cs off vs)->El c m w (l.set i x') (D0 xs (i*c.size+off) vs):=by
 obtain⟨cs,ys,zs,oJ,hy,jQ⟩:=h.get hx;have hl:=c.len jQ;refine⟨cs,⟨ys,zs,oJ,hy⟩,hl,by rw [oJ];simp;omega,fun x' off vs xT hr=> ?_⟩;have hi:i<l.length:=(List.getElem?_eq_some_iff.1 hx).1;have h1:=h.take i;have h2:=h.drop (i+1);have e1:xs.take (i*c.size)=ys:=by rw [oJ,List.append_assoc,←hy];simp
 have e2:xs.drop ((i+1)*c.size)=zs:=by
  rw [oJ,show(i+1)*c.size=(ys++cs).length by simp [hy,hl,succ_mul]];simp
 rw [e1]at h1;rw [e2]at h2;rw [List.set_eq_take_append_cons_drop,if_pos hi];have:=h1.app (El.cons hr h2);rw [oJ,←hy,List.append_assoc,Aoj,Arw _ _ _ _ (by omega)];exact this
theorem Awq {α:Type} {c:dd α} {m:List Nat} {w:World} {e n cap:Nat} {a:Option Addr} {xs:List Value} {l:List α} (hr:Rw w 0 e c.size a n cap xs) (he:El c m w l xs) {i:Nat} {x:α} {p:Addr} {cs:List Value} (ha:a=some p) (hx:l[i]? =some x) (hc:Ad w (p.add (i*c.size)) cs) (gN:cs.length=c.size) (off:Nat) (vs:List Value) (xT:off+vs.length<=c.size): Af w ((p.add (i*c.size)).add off) vs.length/\∀w',w'=setCells w ((p.add (i*c.size)).add off) vs->∃ie,Rw w' 0 e c.size a n cap ie/\w.grownBy w' (Vc.bK a)/\∀x',c.rep m w x' (D0 cs off vs)->El c m w (l.set i x') ie:=by
 subst ha;obtain⟨c_,⟨ys,zs,oJ,hy⟩,xU,hle,jM⟩:=he.put hx;have cf:c_≠[]:=fun e=>by rw [e]at xU;have:=c.pos;simp at xU;omega
 have nG:=hr.sl;rw [oJ]at nG;obtain⟨q,hq,fH⟩:=nG.zZ (by simp [cf]);cases hq
 have se:=Ad.sub fH cf;rw [hy]at se;have ecs:cs=c_:=by
  apply List.ext_getElem (gN.trans xU.symm);intro j h1 h2;have a1:=hc j h1;have a2:=se j h2;exact Option.some.inj (a1.symm.trans a2)
 subst ecs;have ea:(p.add (i*c.size)).add off=p.add (i*c.size+off):=by
  rcases hr.2 with⟨hv,_⟩|⟨g,cap,cur,hv,_⟩
  ·cases hv
  ·cases hv;rw [Fe,Fe,Fe,Nat.add_assoc]
 rw [ea];have hlx:=hr.len;obtain⟨hw,hs⟩:=hr.store (j:=i*c.size+off) (vs:=vs) (by omega);exact⟨hw,fun w' j1=>⟨_,(hs w' j1).1,(hs w' j1).2,fun x' kI=>jM x' off vs xT kI⟩⟩
theorem Atd {α:Type} {c:dd α} {m:List Nat} {w:World} {e n cap:Nat} {a:Option Addr} {xs:List Value} {l:List α} (hr:Rw w 0 e c.size a n cap xs) (he:El c m w l xs) {i:Nat} {p:Addr} (ha:a=some p) (hi:i<n) (vs:List Value) (hv:vs.length=c.size): Af w (p.add (i*c.size)) c.size/\∀w',w'=setCells w (p.add (i*c.size)) vs->∃ie,Rw w' 0 e c.size a n cap ie/\w.grownBy w' (Vc.bK a)/\∀x',c.rep m w x' vs->El c m w (l.set i x') ie:=by
 subst ha;rw [Uk hr he]at hi;obtain⟨c_,_,xU,hle,jM⟩:=he.put (getElem?_eq_getElem hi);have hlx:=hr.len;obtain⟨hw,hs⟩:=hr.store (j:=i*c.size) (vs:=vs) (by omega);refine⟨hv▸hw,fun w' j1=>⟨_,(hs w' j1).1,(hs w' j1).2,fun x' kI=> ?_⟩⟩;have:=jM x' 0 vs (by omega) (by rw [Atc _ _ (by omega)];exact kI);simpa using this
theorem I_ {α:Type} {c:dd α} {m:List Nat} {w:World} {e n cap:Nat} {a:Option Addr} {xs:List Value} {l:List α} (hr:Rw w 0 e c.size a n cap xs) (he:El c m w l xs) {i:Nat} {x:α} {p:Addr} {cs:List Value} (ha:a=some p) (hx:l[i]? =some x) (hc:Ad w (p.add (i*c.size)) cs) (gN:cs.length=c.size) (off:Nat) (v:Value) (xT:off+1<=c.size): Af w ((p.add (i*c.size)).add off) 1/\∀w',w'=w.setCell ((p.add (i*c.size)).add off) v->∃ie,Rw w' 0 e c.size a n cap ie/\w.grownBy w' (Vc.bK a)/\∀x',c.rep m w x' (cs.set off v)->El c m w (l.set i x') ie:=by
 obtain⟨hw,hs⟩:=Awq hr he ha hx hc gN off [v] xT;exact⟨hw,fun w' j1=>hs w' (by rw [j1];exact(T9 _ _ _).symm)⟩
theorem aW.none {α:Type} {c:dd α} {m:List Nat} {w:World} {a:Option Addr} {l:List α} (h:aW c m w a l) (ha:a.isNone=true):l=[]:=by
 rcases h with h|⟨p,xs,rfl,_⟩
 ·exact h
 ·cases ha
theorem aW.cells {α:Type} {c:dd α} {m:List Nat} {w:World} {a:Option Addr} {l:List α} (h:aW c m w a l):∃xs,u9 w a xs/\El c m w l xs:=by
 rcases h with rfl|⟨p,xs,rfl,_,hc,he⟩
 ·refine⟨[],?_,El.nil _ _ _⟩;cases a with
  |none=>rfl
  |some p=>intro i hi;simp at hi
 ·exact⟨xs,hc,he⟩
theorem As {p q:Nat->Prop} {N n:Nat} (hn:N=b8 p) (h:q n) (hl:n<N):(∃n,q n)/\b8 q<b8 p:=⟨⟨n,h⟩,Nat.lt_of_le_of_lt (Arv h) (hn▸hl)⟩
def Nk (x:List UInt8):List Int:=x.map fun c=>(c.toNat:Int)
theorem Awr {α:Type} {c:dd α} {m:List Nat} {w:World} {x:α} {zc:List Value} (h:c.rep m w x zc) (n:Nat):El c m w (replicate n x) (replicate n zc).flatten:=by
 refine⟨replicate n zc,rfl,?_⟩
 induction n with
 |zero=>exact trivial
 |succ n ih=>rw [List.replicate_succ,List.replicate_succ];exact⟨h,ih⟩
theorem Ah4 (zc:List Value) (n:Nat):(replicate n zc).flatten.length=n*zc.length:=by simp
theorem Ul (zc:List Value):∀(n j:Nat),j<n*zc.length->(replicate n zc).flatten[j]? =zc[j%zc.length]?
 |0,j,h=>by simp at h
 |n+1,j,h=>by
  rw [List.replicate_succ,flatten_cons];by_cases hj:j<zc.length
  ·rw [List.getElem?_append_left hj,Nat.mod_eq_of_lt hj]
  ·rw [List.getElem?_append_right (by omega),Ul zc n (j-zc.length) (by rw [succ_mul]at h;omega)];congr 1;have:j=(j-zc.length)+zc.length:=by omega
   conv=>rhs;rw [this,Nat.add_mod_right]
theorem Arx {P:Program} {t e size bytes:Nat} (hT:oC P t e size bytes) {z:Value} {zc:List Value} (hz:∀i,P.info? e=some i->i.zero=some z) (oG:z.cells=⟨zc⟩) (n:Int) (h0:0<=n) (hn:n<4294967296) (hb:bytes<2^10) {w:World} {K:Value->World->Prop} (hk:∀b w',b=w.heap.size->w'=w.alloc (.cells ⟨(replicate n.toNat zc).flatten⟩ e)->K (.slice (some ⟨b,0,none⟩) n.toNat n.toNat) w'):Bd P (Instr.makeSlice t (.int .i64 n) (.int .i64 n)) K w:=by
 obtain⟨i,z',ht,hi,lF,eU,xK,nD,iq⟩:=hT;have:=hz i hi;rw [lF]at this;cases this
 have z7:zc.length=size:=by rw [oG]at nD;exact nD
 have hle:(i.bytes:Int)*n<=1024*4294967296:=Int.mul_le_mul (by rw [xK];omega) (by omega) h0 (by omega);refine⟨_,_,run_make w (P:=P) t e i _ ht hi lF .i64 .i64 n n (by omega) (by omega) (by omega) (by omega),?_⟩;refine hk _ _ rfl ?_;congr 2;rw [eU,oG];apply Array.ext';apply List.ext_getElem?;intro j;by_cases hj:j<n.toNat*size
 ·rw [Ul zc n.toNat j (by rw [z7];exact hj)];have hm:j%zc.length<zc.length:=Nat.mod_lt _ (by rw [z7];exact iq);rw [getElem?_eq_getElem hm];simp [madeCells,hj,hm]
 ·exact(List.getElem?_eq_none (by simp [madeCells];omega)).trans (List.getElem?_eq_none (by rw [Ah4,z7];omega)).symm
def Aza:TypeDesc->Bool
 | .struct _=>true| .array _ _=>true|_=>false
theorem Aol {P:Program} {t len e sz:Nat} (ht:P.underlying t=some (.array len e)) {d:TypeDesc} (hd:P.underlying e=some d) (hn:Aza d=true) (hi:(P.info? e).map (·.size)=some sz) {k:IntKind} {i:Int} {α:Type} (f:α->List Value) (hf:∀x,(f x).length=sz) (l:List α) (z8:l.length=len) {cs:List Value} (hc:cs=l.flatMap f) (h0:0<=i) (h1:i<(len:Int)) {w:World} {K:Value->World->Prop} (hk:∀y,l[i.toNat]? =some y->K (.agg ⟨f y⟩) w):Bd P (Instr.index t (.agg ⟨cs⟩) (.int k i)) K w:=by
 obtain⟨Br3,ft,hs⟩:=Option.map_eq_some_iff.1 hi;have aP:i.toNat<l.length:=by omega
 have hy:l[i.toNat]? =some l[i.toNat]:=getElem?_eq_getElem aP;refine⟨_,w,?_,hk _ hy⟩;have hr:(isAgg e).run P w= .ok true w:=by
  rw [Hc hd];cases d<;>first|rfl|cases hn
 subst hc;have hlen:∀m:List α,(m.flatMap f).length=m.length*sz:=by
  intro m
  induction m with
  |nil=>simp
  |cons a m ih=>simp [List.flatMap_cons,hf,ih,Nat.add_mul];omega
 have h2:l=l.take i.toNat++(l[i.toNat]::l.drop (i.toNat+1)):=by simp
 have JA:=congrArg (List.flatMap f) h2;rw [List.flatMap_append,List.flatMap_cons]at JA;have fU:((l.take i.toNat).flatMap f).length=i.toNat*sz:=by rw [hlen,List.length_take,Nat.min_eq_left (by omega)]
 have Bp9:((l.flatMap f).drop (i.toNat*sz)).take sz=f l[i.toNat]:=by
  rw [JA,←fU,List.drop_left,←hf l[i.toNat],List.take_left]
 simp [Instr.index,asIntOf,underlying,ht,h0,h1,part,hr,sizeOf,typeInfo,ft,hs,Bp9]
abbrev MS (w:World) (m:List Nat) (wa:World) (pa:List Pc) (w2:World) (ps:List Pc):Prop:=Mem w.heap.size [] m [([],w.heap.size,w)] [] w2 ps/\Step (ms pa m) wa (ms ps m) w2
abbrev MT (w:World) (m:List Nat) (wa w2:World) (ps:List Pc):Prop:=MS w m wa ps w2 ps
end Go.Lv
