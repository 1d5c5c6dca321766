/- Slices: rows that a call appends to; slices that are read. -/
import Derived.Test.YtpdccfgpbkagcaaGreatMem
namespace Go.Vc
open Go.RowKit (Below)
def Ss (w:World) (a:Option Addr) (xs:List Value):Prop:=
 match a with
 |some p=>Ac w p xs|none=>xs=[]
theorem Ss.ext {w w':World} {a:Option Addr} {xs:List Value} (h:Ss w a xs) (e:Ext w w'):Ss w' a xs:=by
 cases a with
 |none=>exact h
 |some p=>exact e.cells h
theorem Ss.wS {w:World} {a:Option Addr} {xs:List Value} (h:Ss w a xs) (hx:xs≠[]):∃p,a=some p/\Ac w p xs:=by
 cases a with
 |none=>exact absurd h hx
 |some p=>exact⟨p,rfl,h⟩
theorem add_add (p:Addr) (i j:Nat) (hi:0<i\/p.spot=none):(p.add i).add j=p.add (i+j):=by
 obtain⟨b,o,sp⟩:=p;unfold Addr.add;by_cases h1:i=0
 ·subst h1;simp
 ·by_cases h2:j=0
  ·subst h2;simp
  ·simp [h1,h2];omega
theorem Api {w:World} {p:Addr} {v:Value} (h:w.cell? p=some v):p.spot=none:=by
 unfold World.cell? at h;split at h
 ·split at h
  ·cases h
  ·rename_i hs;simpa using hs
 ·cases h
theorem Ac.piece {w:World} {p:Addr} {xs ys zs:List Value} (h:Ac w p (xs++ys++zs)) (hy:ys≠[]):Ac w (p.add xs.length) ys:=by
 intro i hi;have h0:p.spot=none\/0<xs.length:=by
  cases xs with
  |cons _ _=>right;simp
  |nil=>
   left;have:=h 0 (by simp;cases ys with|nil=>exact absurd rfl hy|cons _ _=>simp;omega);simpa [Addr.add] using Api this
 rw [add_add _ _ _ (h0.symm)];have:=h (xs.length+i) (by simp;omega);rw [this];simp [List.getElem_append_left,hi]
def Rw (w:World) (base e size:Nat) (a:Option Addr) (n c:Nat) (xs:List Value):Prop:=w.ownsRow base e size (.slice a n c) n xs
def aY (a:Option Addr):Option Nat:=a.map (·.block)
theorem Wc (a:Option Addr) (n c:Nat):(Value.slice a n c).ownBlock=aY a:=by cases a<;>rfl
theorem Rw.nil (w:World) (base e size:Nat):Rw w base e size none 0 0 []:=World.ownsRow_nil w base e size
theorem Rw.len {w:World} {base e size:Nat} {a:Option Addr} {n c:Nat} {xs:List Value} (h:Rw w base e size a n c xs):xs.length=n*size:=h.1
theorem Rw.lt {w:World} {base e size:Nat} {a:Option Addr} {n c:Nat} {xs:List Value} (h:Rw w base e size a n c xs):∀k,aY a=some k->base<=k/\k<w.heap.size:=by
 intro k hk;exact World.ownsRow.lt h k (by rw [Wc];exact hk)
theorem Rw.kept {w w':World} {base e size:Nat} {a:Option Addr} {n c:Nat} {xs:List Value} (h:Rw w base e size a n c xs) (hb:∀k,aY a=some k->w'.heap[k]? =w.heap[k]?):Rw w' base e size a n c xs:=by
 refine⟨h.1,?_⟩;rcases h.2 with hn|⟨g,cap,cur,hv,hg,hh,r⟩
 ·exact .inl hn
 ·refine .inr ⟨g,cap,cur,hv,hg,?_,r⟩;cases hv
  rw [hb g rfl];exact hh
theorem Rw.sl {w:World} {base e size:Nat} {a:Option Addr} {n c:Nat} {xs:List Value} (h:Rw w base e size a n c xs):Ss w a xs:=by
 cases a with
 |none=>
  rcases h.2 with⟨_,hn⟩|⟨g,cap,cur,hv,_⟩
  ·have:=h.1;rw [hn]at this;simp at this;exact this
  ·cases hv
 |some p=>
  intro i hi;rcases h.2 with⟨hv,_⟩|⟨g,cap,cur,hv,_⟩
  ·cases hv
  ·cases hv
   exact World.ownsRow.cells h (g:=g) rfl i _ (List.getElem?_eq_getElem hi)
def Y9 (P:Program) (t e size bytes:Nat):Prop:=∃i z,P.underlying t=some (.slice e)/\P.info? e=some i/\i.zero=some z/\i.size=size/\i.bytes=bytes/\z.cells.size=size/\0<size
def flat {α:Type} (f:α->List Value) (l:List α):List Value:=l.flatMap f
theorem Hr {α:Type} {f:α->List Value} {k:Nat} (hf:∀x,(f x).length=k):∀l:List α,(flat f l).length=l.length*k
 |[]=>by simp [flat]
 |x::l=>by
  have:=Hr hf l;simp only [flat,List.flatMap_cons,List.length_append,List.length_cons]at this⊢;rw [this,hf,Nat.add_mul];omega
theorem Pu {α:Type} (f:α->List Value) (l:List α) (x:α):flat f (l++[x])=flat f l++f x:=by simp [flat]
theorem Ss.elem {α:Type} {f:α->List Value} {k:Nat} (hf:∀x,(f x).length=k) (hk:0<k) {w:World} {a:Option Addr} {l:List α} (h:Ss w a (flat f l)) {i:Nat} (hi:i<l.length):∃p,a=some p/\Ac w (p.add (i*k)) (f l[i]):=by
 have bA:flat f l≠[]:=by
  intro e;have:=Hr hf l;rw [e]at this;have h2:0<l.length*k:=Nat.mul_pos (by omega) hk;simp only [List.length_nil]at this;omega
 obtain⟨p,rfl,hc⟩:=h.wS bA;refine⟨p,rfl,?_⟩;have s9:flat f l=flat f (l.take i)++f l[i]++flat f (l.drop (i+1)):=by
  have:l=l.take i++([l[i]]++l.drop (i+1)):=by simp
  conv=>lhs;rw [this]
  simp only [flat,List.flatMap_append,List.flatMap_cons,List.flatMap_nil,List.append_nil,List.append_assoc]
 rw [s9]at hc;have hlen:(flat f (l.take i)).length=i*k:=by rw [Hr hf,List.length_take,Nat.min_eq_left (by omega)]
 have:=hc.piece (by intro e;have:=hf l[i];rw [e]at this;simp at this;omega)
 rwa [hlen]at this
end Go.Vc
