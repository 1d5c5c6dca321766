/- Arguments, opened, in plain values. -/
import Derived.Test.YthkbhlmijkegiaaGreatOpen
import Derived.Test.YthkbhlmijkegiaaGreatLv
namespace Go.Lv
open Go.Vc
def og {α:Type} (P:Program) (w:World) (t:TypeId) (c:dd α) (Q:α->Prop):Prop:=∀m cs,gu P w m t cs->∃x,c.rep [] w x cs/\Q x
theorem Je {P:Program} {w:World} {t:TypeId} {k:IntKind} (h:P.underlying t=some (.int k)):og P w t (A8 k) (fun x=>k.min<=x/\x<=k.max):=by
 intro m cs ht;obtain⟨i,e,h1,h2⟩:=ht.int h;exact⟨i,e,h1,h2⟩
theorem SV {P:Program} {w:World} {t:TypeId} (h:P.underlying t=some .string):og P w t Yd (fun s=>s.length<=wI):=by
 intro m cs ht;obtain⟨i,e,h1⟩:=ht.string h;exact⟨i,e,h1⟩
theorem SW {α:Type} (f:α->List Value):∀(l:List α),flat f l=(l.map f).flatten
 |[]=>rfl
 |a::l=>by show f a++flat f l=_;rw [SW f l];rfl
theorem og.list {α:Type} {P:Program} {w:World} {t e:TypeId} {c:dd α} {Q:α->Prop} (he:og P w e c Q) (ht:P.underlying t=some (.slice e)) (hc:P.cellsOf e=c.size) {n:Nat} {a:Option Addr} {len cap:Nat} (h:gu P w n t [.slice a len cap]): ∃l:List α,len=l.length/\len<=cap/\cap<=maxLen/\aW c [] w a l/\∀x∈l,Q x:=by
 rcases h.slice ht with e'|⟨p,Br5,Br6,m,_,e',hl,hm,o1⟩
 ·simp at e';obtain⟨rfl,rfl,rfl⟩:=e';exact⟨[],rfl,Nat.le_refl _,Nat.zero_le _,.inl rfl,by simp⟩
 ·simp at e';obtain⟨rfl,rfl,rfl⟩:=e';have hx:∀i,i<len->∃(x:α) (cs: { cs:List Value//cs.length=c.size }),Ad w (p.add (i*c.size)) cs.1/\c.rep [] w x cs.1/\Q x:=fun i hi=>by
   obtain⟨gO,h1,h2,h3⟩:=o1 i hi;obtain⟨x,hr,hq⟩:=he m gO h3;rw [hc]at h1;exact⟨x,⟨gO,c.len hr⟩,h1,hr,hq⟩
  suffices∀j,j<=len->∃(l:List α) (dx:List { cs:List Value//cs.length=c.size }),j=l.length/\l.length=dx.length/\Hz (c.rep [] w) l (dx.map (·.1))/\(∀i (hi:i<dx.length),Ad w (p.add (i*c.size)) (dx[i]).1)/\∀x∈l,Q x by
   obtain⟨l,dx,h1,_,h2,h3,h4⟩:=this len (Nat.le_refl _);refine⟨l,h1,hl,hm,.inr ⟨p,_,rfl,by simp,Ad.Blm (f:=fun cs: { cs:List Value//cs.length=c.size } =>cs.1) (k:=c.size) (fun x=>x.2) c.pos h3,?_⟩,h4⟩;exact⟨dx.map (·.1),SW _ _,h2⟩
  intro j
  induction j with
  |zero=>intro _;exact⟨[],[],rfl,rfl,trivial,fun i hi=>by simp at hi,by simp⟩
  |succ j ih=>
   intro hj;obtain⟨l,dx,h1,h0,h2,h3,h4⟩:=ih (by omega);obtain⟨x,cs,ph,oe,hx3⟩:=hx j (by omega);refine⟨l++[x],dx++[cs],by simp [h1],by simp [h0],?_,fun i hi=> ?_,fun y hy=> ?_⟩
   ·rw [List.map_append];exact h2.append ⟨oe,trivial⟩
   ·rcases Nat.lt_or_ge i dx.length with h|h
    ·rw [List.getElem_append_left h];exact h3 i h
    ·have:i=dx.length:=by simp at hi;omega
     subst this;rw [List.getElem_append_right (Nat.le_refl _)];simp only [Nat.sub_self,List.getElem_cons_zero];rw [←h0,←h1];exact ph
   ·rcases List.mem_append.1 hy with h|h
    ·exact h4 y h
    ·rw [List.mem_singleton.1 h];exact hx3
theorem W9 {α:Type} {P:Program} {w:World} {t e:TypeId} {c:dd α} {Q:α->Prop} (he:og P w e c Q) (ht:P.underlying t=some (.slice e)) (hc:P.cellsOf e=c.size):og P w t (oE c) (fun l=>l.length<=maxLen/\∀x∈l,Q x):=by
 intro m cs h;rcases h.slice ht with rfl|⟨a,len,cap,m',_,rfl,_⟩
 ·obtain⟨l,h1,h2,h3,h4,h5⟩:=he.list ht hc h;refine⟨l,⟨none,0,by rw [←h1],by omega,h4⟩,by omega,h5⟩
 ·obtain⟨l,h1,h2,h3,h4,h5⟩:=he.list ht hc h;exact⟨l,⟨some a,cap,by rw [←h1],by omega,h4⟩,by omega,h5⟩
theorem Ey {α β:Type} {c:dd α} {d:dd β} {w:World} {x:α} {y:β} {cs:List Value} {off s:Nat} (h1:c.rep [] w x ((cs.drop off).take s)) (h2:d.rep [] w y (cs.drop (off+s))):(Bz c d).rep [] w (x,y) (cs.drop off):=
 ⟨_,_,(List.take_append_drop s (cs.drop off)).symm,h1,by rw [List.drop_drop];exact h2⟩
theorem Rv {α:Type} {c:dd α} {w:World} {x:α} {cs:List Value} {off s:Nat} (hl:cs.length=off+s) (h1:c.rep [] w x ((cs.drop off).take s)):c.rep [] w x (cs.drop off):=by
 rwa [List.take_of_length_le (by rw [List.length_drop];omega)]at h1
end Go.Lv
