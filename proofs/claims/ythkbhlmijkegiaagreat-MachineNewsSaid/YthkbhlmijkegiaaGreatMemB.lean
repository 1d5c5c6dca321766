/- Slices: rows that a call appends to; slices that are read. -/
import Derived.Test.YthkbhlmijkegiaaGreatMem
namespace Go.Vc
open Go.RowKit (Below)
def u9 (w:World) (a:Option Addr) (xs:List Value):Prop:=
 match a with
 |some p=>Ad w p xs|none=>xs=[]
theorem u9.zZ {w:World} {a:Option Addr} {xs:List Value} (h:u9 w a xs) (hx:xs≠[]):∃p,a=some p/\Ad w p xs:=by
 cases a with
 |none=>exact absurd h hx
 |some p=>exact⟨p,rfl,h⟩
theorem add_add (p:Addr) (i j:Nat) (hi:0<i\/p.spot=none):(p.add i).add j=p.add (i+j):=by
 obtain⟨b,o,sp⟩:=p;unfold Addr.add;by_cases h1:i=0
 ·subst h1;simp
 ·by_cases h2:j=0
  ·subst h2;simp
  ·simp [h1,h2];omega
theorem Arq {w:World} {p:Addr} {v:Value} (h:w.cell? p=some v):p.spot=none:=by
 unfold World.cell? at h;split at h
 ·split at h
  ·cases h
  ·rename_i hs;simpa using hs
 ·cases h
theorem Ad.piece {w:World} {p:Addr} {xs ys zs:List Value} (h:Ad w p (xs++ys++zs)) (hy:ys≠[]):Ad w (p.add xs.length) ys:=by
 intro i hi;have h0:p.spot=none\/0<xs.length:=by
  cases xs with
  |cons _ _=>right;simp
  |nil=>
   left;have:=h 0 (by simp;cases ys with|nil=>exact absurd rfl hy|cons _ _=>simp;omega);simpa [Addr.add] using Arq this
 rw [add_add _ _ _ (h0.symm)];have:=h (xs.length+i) (by simp;omega);rw [this];simp [List.getElem_append_left,hi]
def Rw (w:World) (base e size:Nat) (a:Option Addr) (n c:Nat) (xs:List Value):Prop:=w.ownsRow base e size (.slice a n c) n xs
def bK (a:Option Addr):Option Nat:=a.map (·.block)
theorem Xk (a:Option Addr) (n c:Nat):(Value.slice a n c).ownBlock=bK a:=by cases a<;>rfl
theorem Rw.nil (w:World) (base e size:Nat):Rw w base e size none 0 0 []:=World.ownsRow_nil w base e size
theorem Rw.len {w:World} {base e size:Nat} {a:Option Addr} {n c:Nat} {xs:List Value} (h:Rw w base e size a n c xs):xs.length=n*size:=h.1
theorem Rw.lt {w:World} {base e size:Nat} {a:Option Addr} {n c:Nat} {xs:List Value} (h:Rw w base e size a n c xs):∀k,bK a=some k->base<=k/\k<w.heap.size:=by
 intro k hk;exact World.ownsRow.lt h k (by rw [Xk];exact hk)
theorem Rw.kept {w w':World} {base e size:Nat} {a:Option Addr} {n c:Nat} {xs:List Value} (h:Rw w base e size a n c xs) (hb:∀k,bK a=some k->w'.heap[k]? =w.heap[k]?):Rw w' base e size a n c xs:=by
 refine⟨h.1,?_⟩;rcases h.2 with hn|⟨g,cap,cur,hv,hg,hh,r⟩
 ·exact .inl hn
 ·refine .inr ⟨g,cap,cur,hv,hg,?_,r⟩;cases hv
  rw [hb g rfl];exact hh
theorem Rw.sl {w:World} {base e size:Nat} {a:Option Addr} {n c:Nat} {xs:List Value} (h:Rw w base e size a n c xs):u9 w a xs:=by
 cases a with
 |none=>
  rcases h.2 with⟨_,hn⟩|⟨g,cap,cur,hv,_⟩
  ·have:=h.1;rw [hn]at this;simp at this;exact this
  ·cases hv
 |some p=>
  intro i hi;rcases h.2 with⟨hv,_⟩|⟨g,cap,cur,hv,_⟩
  ·cases hv
  ·cases hv
   exact World.ownsRow.cells h (g:=g) rfl i _ (List.getElem?_eq_getElem hi)
def oC (P:Program) (t e size bytes:Nat):Prop:=∃i z,P.underlying t=some (.slice e)/\P.info? e=some i/\i.zero=some z/\i.size=size/\i.bytes=bytes/\z.cells.size=size/\0<size
def flat {α:Type} (f:α->List Value) (l:List α):List Value:=l.flatMap f
theorem P7 {α:Type} {f:α->List Value} {k:Nat} (hf:∀x,(f x).length=k):∀l:List α,(flat f l).length=l.length*k
 |[]=>by simp [flat]
 |x::l=>by
  have:=P7 hf l;simp only [flat,List.flatMap_cons,List.length_append,List.length_cons]at this⊢;rw [this,hf,Nat.add_mul];omega
end Go.Vc
