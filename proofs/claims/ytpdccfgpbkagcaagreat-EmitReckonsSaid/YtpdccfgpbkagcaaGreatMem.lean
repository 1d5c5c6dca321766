/- Memory: what a call leaves alone, and the boxes of its own. -/
import Derived.Test.YtpdccfgpbkagcaaGreatVcF
namespace Go.Vc
open Go.RowKit (Below)
def Ext (w w':World):Prop:=Below w.heap.size w w'
theorem Ext.refl (w:World):Ext w w:=Below.refl _ _
theorem Ext.size {w w':World} (h:Ext w w'):w.heap.size<=w'.heap.size:=Below.size h
theorem Ext.trans {a b c:World} (h:Ext a b) (k:Ext b c):Ext a c:=Below.trans h (Below.mono k h.size)
theorem Ext.alloc {w w':World} {o:Obj} (h:w'=w.alloc o):Ext w w':=h▸(Below.refl _ _).alloc (Nat.le_refl _) _
theorem Ext.drew {w w':World} (h:w'=w.drew):Ext w w':=h▸(Below.refl _ _).drew
theorem OG {w:World} {p:Addr} {v:Value} (h:w.cell? p=some v):p.block<w.heap.size:=by
 unfold World.cell? at h;split at h
 ·rename_i hh;exact(Array.getElem?_eq_some_iff.1 hh).1
 ·cases h
theorem Ext.cell {w w':World} (h:Ext w w') {p:Addr} {v:Value} (hc:w.cell? p=some v):w'.cell? p=some v:=by
 rw [Below.cell h (OG hc)];exact hc
theorem Ext.block {w w':World} (h:Ext w w') {b:Nat} {o:Obj} (hc:w.heap[b]? =some o):w'.heap[b]? =some o:=by
 rw [Below.block h b (Array.getElem?_eq_some_iff.1 hc).1];exact hc
theorem Ext.cells {w w':World} (h:Ext w w') {p:Addr} {l:List Value} (hc:Ac w p l):Ac w' p l:=fun i hi=>h.cell (hc i hi)
def DX:Value->Bool
 | .pointer _=>true|_=>false
def s6 (_l:List Value) (_T:TypeId):Prop:=True
def Gv (_v:Value):Prop:=True
def s7 (_vs:List Value):Prop:=True
theorem s7.cons {v:Value} {vs:List Value} (_h:s7 (v::vs)):Gv v/\s7 vs:=⟨trivial,trivial⟩
theorem s6.set {l:List Value} {T:TypeId} {v:Value} (i:Nat) (_h:s6 l T) (_hv:Gv v):s6 (l.set i v) T:=trivial
def cB (w:World) (b:Nat) (l:List Value):Prop:=∃T,w.heap[b]? =some (.cells ⟨l⟩ T (0,0))/\s6 l T
theorem cB.lt {w:World} {b:Nat} {l:List Value} (h:cB w b l):b<w.heap.size:=by
 obtain⟨T,h,_⟩:=h;exact(Array.getElem?_eq_some_iff.1 h).1
theorem cB.ext {w w':World} {b:Nat} {l:List Value} (h:cB w b l) (e:Ext w w'):cB w' b l:=by
 obtain⟨T,h,hg⟩:=h;exact⟨T,e.block h,hg⟩
theorem cB.new {w w':World} {b:Nat} {cs:Array Value} {T:TypeId} (hb:b=w.heap.size) (h:w'=w.alloc (.cells cs T)) (wQ:s6 cs.toList T:=by first|exact trivial|exact fun h k=>by first|rfl|(simp at h;done)|(simp [DX]at k;done)):cB w' b cs.toList:=by
 subst hb h;exact⟨T,by show(w.heap.push (.cells cs T))[w.heap.size]? =_;simp,wQ⟩
theorem cB.cell {w:World} {b:Nat} {l:List Value} (h:cB w b l) {i:Nat} {v:Value} (hv:l[i]? =some v):w.cell? ⟨b,i,none⟩=some v:=by
 obtain⟨T,h,_⟩:=h;simp [World.cell?,h,hv]
theorem cB.frozen {w:World} {b:Nat} {l:List Value} (h:cB w b l) (i:Nat):w.frozen? ⟨b,i,none⟩=false:=by
 obtain⟨T,h,_⟩:=h;simp [World.frozen?,h]
theorem Bo (b i j:Nat):(⟨b,i,none⟩:Addr).add j=⟨b,i+j,none⟩:=by
 unfold Addr.add;split
 ·subst_vars;rfl
 ·rfl
theorem cB.Bjj {w:World} {b:Nat} {l:List Value} (h:cB w b l) {i n:Nat} (hn:i+n<=l.length):Af w ⟨b,i,none⟩ n:=by
 intro j hj;rw [Bo];have aE:i+j<l.length:=by omega
 exact⟨⟨_,h.cell (List.getElem?_eq_getElem aE)⟩,h.frozen _⟩
theorem cB.cells {w:World} {b:Nat} {l:List Value} (h:cB w b l) (i:Nat) {m:List Value} (hm:∀j (hj:j<m.length),l[i+j]? =some m[j]):Ac w ⟨b,i,none⟩ m:=by
 intro j hj;rw [Bo];exact h.cell (hm j hj)
theorem cB.whole {w:World} {b:Nat} {l:List Value} (h:cB w b l):Ac w ⟨b,0,none⟩ l:=h.cells 0 fun j hj=>by simp
theorem heap_setCell {w:World} {b i:Nat} {v:Value} {k:Nat} :(w.setCell ⟨b,i,none⟩ v).heap[k]? =if b=k then(w.heap[k]?).map (fun| .cells c e f=> .cells (c.setIfInBounds i v) e f|o=>o)else w.heap[k]? :=by
 simp only [World.setCell,Array.getElem?_modify];split
 ·rename_i h;cases w.heap[k]? with
  |none=>rfl
  |some o=>cases o<;>simp
 ·rfl
theorem cB.set {w w':World} {b i:Nat} {l:List Value} {v:Value} (h:cB w b l) (e:w'=w.setCell ⟨b,i,none⟩ v) (s8:Gv v:=by first|exact trivial|exact rfl):cB w' b (l.set i v):=by
 subst e;obtain⟨T,h,hg⟩:=h;exact⟨T,by rw [heap_setCell,if_pos rfl,h];simp,hg.set i s8⟩
def over:List Value->Nat->List Value->List Value
 |l,_,[]=>l|l,i,v::vs=>over (l.set i v) (i+1) vs
theorem cB.Bjk {b:Nat} :∀(vs:List Value) (w:World) (i j:Nat) (l:List Value),cB w b l->s7 vs->cB (Bp w ⟨b,i,none⟩ j vs) b (over l (i+j) vs):=by
 intro vs
 induction vs with
 |nil=>intro w i j l h _;exact h
 |cons v vs ih=>
  intro w i j l h hg;simp only [Bp,over];have:=ih (w.setCell ((⟨b,i,none⟩:Addr).add j) v) i (j+1) (l.set (i+j) v) (by rw [Bo];exact h.set rfl hg.cons.1) hg.cons.2
  rwa [show i+(j+1)=i+j+1 by omega]at this
theorem cB.l9 {w w':World} {b i:Nat} {l vs:List Value} (h:cB w b l) (e:w'=setCells w ⟨b,i,none⟩ vs) (wR:s7 vs:=by first|exact trivial|exact rfl):cB w' b (over l i vs):=by
 subst e;exact cB.Bjk vs w i 0 l h wR
theorem Aa {b:Bool} {A B:Prop} (h1:b=true->A) (h2:b=false->B):cond b A B:=by
 cases b
 ·exact h2 rfl
 ·exact h1 rfl
theorem B3 {b:Bool} {A B:Prop} (hb:b=true) (h:A):cond b A B:=by subst hb;exact h
theorem Ba {b:Bool} {A B:Prop} (hb:b=false) (h:B):cond b A B:=by subst hb;exact h
theorem Ae {p:Option Addr} {a:Addr} {K:Addr->Prop} (hp:p=some a) (h:K a):Ak p K:=by subst hp;exact h
theorem Au {n:Int} (h1: -9223372036854775808<=n) (h2:n<=9223372036854775807):IntKind.i64.wrap n=n:=IntWalk.i64_in n ⟨h1,h2⟩
theorem Ad {P:Program} {f:FuncId} {args:Array Value} {w:World} {K K':Value->World->Prop} (h:Calls P f args w (aD K)) (hk:∀v w',K v w'->K' v w'):Calls P f args w (aD K'):=
 h.mono fun e w' h=>by cases e with
  |returned v=>exact hk v w' h
  |panicked c=>exact h
  |outgrown=>exact h
end Go.Vc
