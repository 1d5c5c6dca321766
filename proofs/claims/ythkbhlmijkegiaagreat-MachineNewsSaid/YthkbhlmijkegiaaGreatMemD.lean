/- Slices that are read while other things are written; append of any slice to a row of one's own. -/
import Derived.Test.YthkbhlmijkegiaaGreatMemC
import Derived.Laws.OwnMore
namespace Go.Vc
open Go.RowKit (Below)
theorem Rm (p:Addr) (i:Nat):(p.add i).block=p.block:=by unfold Addr.add;split<;>rfl
theorem Rw.lit {w w':World} {base e size n b:Nat} {cs:Array Value} (hb:b=w.heap.size) (hw:w'=w.alloc (.cells cs e)) (u_:base<=b) (hn:n<=maxLen) (hs:cs.size=n*size): Rw w' base e size (some ⟨b,0,none⟩) n n cs.toList:=by
 subst hb hw;exact World.ownsRow_lit w cs n u_ hn hs
theorem Aln {P:Program} {w:World} {base t ty e size bytes:Nat} {a:Option Addr} {n c d:Nat} {xs:List Value} {K:Value->World->Prop} (hT:oC P t e size bytes) (h:Rw w base e size a n c xs) (hk:K (.slice a n c) w):Bd P (Builtin.append_ #[t,t] ty #[.slice a n c,.slice none 0 d]) K w:=by
 obtain⟨i,z,ht,hi,hz,eU,hb,nD,iq⟩:=hT;refine⟨_,_,?_,hk⟩;rcases h.2 with⟨hv,rfl⟩|⟨g,cap,cur,hv,_,_,hnc,_⟩
 ·cases hv
  simp [Builtin.append_,run_underlying ht,sizeOf,typeInfo,hi,Builtin.lenOf,Builtin.firstCells]
 ·cases hv
  simp [Builtin.append_,run_underlying ht,sizeOf,typeInfo,hi,Builtin.lenOf,Builtin.firstCells,hnc,storeCells]
theorem Ca {P:Program} {w:World} {base t ty e size bytes:Nat} {a:Option Addr} {n c:Nat} {xs news:List Value} {src:Option Addr} {m mc:Nat} {K:Value->World->Prop} (hT:oC P t e size bytes) (h:Rw w base e size a n c xs) (hs:u9 w src news) (hl:news.length=m*size) (h1:∀u∈news,u.oneCell'=true) (hm:n+m<2^32) (xK:bytes<2^10) (u_:base<=w.heap.size) (hk:∀a' c' w',Rw w' base e size a' (n+m) c' (xs++news)->w.grownBy w' (bK a)->(bK a'=bK a\/bK a'=some w.heap.size)->K (.slice a' (n+m) c') w'): Bd P (Builtin.append_ #[t,t] ty #[.slice a n c,.slice src m mc]) K w:=by
 cases src with
 |some p=>exact Arr hT h hs hl h1 hm xK u_ hk
 |none=>
  have iq:0<size:=by obtain⟨i,z,_,_,_,_,_,_,iq⟩:=hT;exact iq
  have hn:news=[]:=hs;subst hn;have pI:m=0:=by
   rcases Nat.eq_zero_or_pos m with h|h
   ·exact h
   ·have:=Nat.mul_pos h iq;rw [List.length_nil]at hl;omega
  subst pI;refine Aln hT h ?_;have:=hk a c w (by rw [List.append_nil];exact h) ⟨rfl,rfl,rfl,Nat.le_refl _,fun _ _ _=>rfl⟩ (.inl rfl);exact this
end Go.Vc
