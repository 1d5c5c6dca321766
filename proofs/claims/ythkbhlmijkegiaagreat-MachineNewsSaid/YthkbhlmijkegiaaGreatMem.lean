/- Memory: what a call leaves alone, and the boxes of its own. -/
import Derived.Test.YthkbhlmijkegiaaGreatVcF
namespace Go.Vc
open Go.RowKit (Below)
def Ext (w w':World):Prop:=Below w.heap.size w w'
theorem Ext.refl (w:World):Ext w w:=Below.refl _ _
theorem Ext.size {w w':World} (h:Ext w w'):w.heap.size<=w'.heap.size:=Below.size h
theorem Ext.trans {a b c:World} (h:Ext a b) (k:Ext b c):Ext a c:=Below.trans h (Below.mono k h.size)
theorem Ext.alloc {w w':World} {o:Obj} (h:w'=w.alloc o):Ext w w':=h▸(Below.refl _ _).alloc (Nat.le_refl _) _
theorem Ext.drew {w w':World} (h:w'=w.drew):Ext w w':=h▸(Below.refl _ _).drew
theorem Awp {w:World} {p:Addr} {v:Value} (h:w.cell? p=some v):p.block<w.heap.size:=by
 unfold World.cell? at h;split at h
 ·rename_i hh;exact(Array.getElem?_eq_some_iff.1 hh).1
 ·cases h
def zX:Value->Bool
 | .pointer _=>true|_=>false
def qG (_l:List Value) (_T:TypeId):Prop:=True
def Gv (_v:Value):Prop:=True
def qH (_vs:List Value):Prop:=True
theorem qH.cons {v:Value} {vs:List Value} (_h:qH (v::vs)):Gv v/\qH vs:=⟨trivial,trivial⟩
theorem qG.set {l:List Value} {T:TypeId} {v:Value} (i:Nat) (_h:qG l T) (_hv:Gv v):qG (l.set i v) T:=trivial
def dc (w:World) (b:Nat) (l:List Value):Prop:=∃T,w.heap[b]? =some (.cells ⟨l⟩ T (0,0))/\qG l T
theorem dc.lt {w:World} {b:Nat} {l:List Value} (h:dc w b l):b<w.heap.size:=by
 obtain⟨T,h,_⟩:=h;exact(Array.getElem?_eq_some_iff.1 h).1
theorem dc.new {w w':World} {b:Nat} {cs:Array Value} {T:TypeId} (hb:b=w.heap.size) (h:w'=w.alloc (.cells cs T)) (uY:qG cs.toList T:=by first|exact trivial|exact fun h k=>by first|rfl|(simp at h;done)|(simp [zX]at k;done)):dc w' b cs.toList:=by
 subst hb h;exact⟨T,by show(w.heap.push (.cells cs T))[w.heap.size]? =_;simp,uY⟩
theorem dc.cell {w:World} {b:Nat} {l:List Value} (h:dc w b l) {i:Nat} {v:Value} (hv:l[i]? =some v):w.cell? ⟨b,i,none⟩=some v:=by
 obtain⟨T,h,_⟩:=h;simp [World.cell?,h,hv]
theorem dc.frozen {w:World} {b:Nat} {l:List Value} (h:dc w b l) (i:Nat):w.frozen? ⟨b,i,none⟩=false:=by
 obtain⟨T,h,_⟩:=h;simp [World.frozen?,h]
theorem Fe (b i j:Nat):(⟨b,i,none⟩:Addr).add j=⟨b,i+j,none⟩:=by
 unfold Addr.add;split
 ·subst_vars;rfl
 ·rfl
theorem dc.Bkw {w:World} {b:Nat} {l:List Value} (h:dc w b l) {i n:Nat} (hn:i+n<=l.length):Af w ⟨b,i,none⟩ n:=by
 intro j hj;rw [Fe];have aP:i+j<l.length:=by omega
 exact⟨⟨_,h.cell (List.getElem?_eq_getElem aP)⟩,h.frozen _⟩
theorem dc.cells {w:World} {b:Nat} {l:List Value} (h:dc w b l) (i:Nat) {m:List Value} (hm:∀j (hj:j<m.length),l[i+j]? =some m[j]):Ad w ⟨b,i,none⟩ m:=by
 intro j hj;rw [Fe];exact h.cell (hm j hj)
theorem dc.whole {w:World} {b:Nat} {l:List Value} (h:dc w b l):Ad w ⟨b,0,none⟩ l:=h.cells 0 fun j hj=>by simp
theorem heap_setCell {w:World} {b i:Nat} {v:Value} {k:Nat} :(w.setCell ⟨b,i,none⟩ v).heap[k]? =if b=k then(w.heap[k]?).map (fun| .cells c e f=> .cells (c.setIfInBounds i v) e f|o=>o)else w.heap[k]? :=by
 simp only [World.setCell,Array.getElem?_modify];split
 ·rename_i h;cases w.heap[k]? with
  |none=>rfl
  |some o=>cases o<;>simp
 ·rfl
theorem dc.set {w w':World} {b i:Nat} {l:List Value} {v:Value} (h:dc w b l) (e:w'=w.setCell ⟨b,i,none⟩ v) (uZ:Gv v:=by first|exact trivial|exact rfl):dc w' b (l.set i v):=by
 subst e;obtain⟨T,h,hg⟩:=h;exact⟨T,by rw [heap_setCell,if_pos rfl,h];simp,hg.set i uZ⟩
def D0:List Value->Nat->List Value->List Value
 |l,_,[]=>l|l,i,v::vs=>D0 (l.set i v) (i+1) vs
theorem dc.Bkx {b:Nat} :∀(vs:List Value) (w:World) (i j:Nat) (l:List Value),dc w b l->qH vs->dc (Bi w ⟨b,i,none⟩ j vs) b (D0 l (i+j) vs):=by
 intro vs
 induction vs with
 |nil=>intro w i j l h _;exact h
 |cons v vs ih=>
  intro w i j l h hg;simp only [Bi,D0];have:=ih (w.setCell ((⟨b,i,none⟩:Addr).add j) v) i (j+1) (l.set (i+j) v) (by rw [Fe];exact h.set rfl hg.cons.1) hg.cons.2
  rwa [show i+(j+1)=i+j+1 by omega]at this
theorem dc.zY {w w':World} {b i:Nat} {l vs:List Value} (h:dc w b l) (e:w'=setCells w ⟨b,i,none⟩ vs) (u0:qH vs:=by first|exact trivial|exact rfl):dc w' b (D0 l i vs):=by
 subst e;exact dc.Bkx vs w i 0 l h u0
theorem Ab {b:Bool} {A B:Prop} (h1:b=true->A) (h2:b=false->B):cond b A B:=by
 cases b
 ·exact h2 rfl
 ·exact h1 rfl
theorem Cu {b:Bool} {A B:Prop} (hb:b=true) (h:A):cond b A B:=by subst hb;exact h
theorem Bj {b:Bool} {A B:Prop} (hb:b=false) (h:B):cond b A B:=by subst hb;exact h
theorem Ae {p:Option Addr} {a:Addr} {K:Addr->Prop} (hp:p=some a) (h:K a):Ak p K:=by subst hp;exact h
theorem A3 {n:Int} (h1: -9223372036854775808<=n) (h2:n<=9223372036854775807):IntKind.i64.wrap n=n:=IntWalk.i64_in n ⟨h1,h2⟩
theorem Ac {P:Program} {f:FuncId} {args:Array Value} {w:World} {K K':Value->World->Prop} (h:Calls P f args w (aG K)) (hk:∀v w',K v w'->K' v w'):Calls P f args w (aG K'):=
 h.mono fun e w' h=>by cases e with
  |returned v=>exact hk v w' h
  |panicked c=>exact h
  |outgrown=>exact h
end Go.Vc
