/- Arguments, opened, in plain values. -/
import Derived.Test.YtpdccfgpbkagcaaGreatOpen
import Derived.Test.YtpdccfgpbkagcaaGreatLv
namespace Go.Lv
open Go.Vc
def uh {α:Type} (P:Program) (w:World) (t:TypeId) (c:dz α) (Q:α->Prop):Prop:=∀m cs,jK P w m t cs->∃x,c.rep [] w x cs/\Q x
theorem Ul {P:Program} {w:World} {t:TypeId} {k:IntKind} (h:P.underlying t=some (.int k)):uh P w t (Bz k) (fun x=>k.min<=x/\x<=k.max):=by
 intro m cs ht;obtain⟨i,e,h1,h2⟩:=ht.int h;exact⟨i,e,h1,h2⟩
theorem Awa {P:Program} {w:World} {t:TypeId} (h:P.underlying t=some .string):uh P w t Oc (fun s=>s.length<=CZ):=by
 intro m cs ht;obtain⟨i,e,h1⟩:=ht.string h;exact⟨i,e,h1⟩
theorem Alc {α:Type} (f:α->List Value):∀(l:List α),flat f l=(l.map f).flatten
 |[]=>rfl
 |a::l=>by show f a++flat f l=_;rw [Alc f l];rfl
theorem uh.list {α:Type} {P:Program} {w:World} {t e:TypeId} {c:dz α} {Q:α->Prop} (he:uh P w e c Q) (ht:P.underlying t=some (.slice e)) (hc:P.cellsOf e=c.size) {n:Nat} {a:Option Addr} {len cap:Nat} (h:jK P w n t [.slice a len cap]): ∃l:List α,len=l.length/\len<=cap/\cap<=maxLen/\aF c [] w a l/\∀x∈l,Q x:=by
 rcases h.slice ht with e'|⟨p,Bs8,Br0,m,_,e',hl,hm,qJ⟩
 ·simp at e';obtain⟨rfl,rfl,rfl⟩:=e';exact⟨[],rfl,Nat.le_refl _,Nat.zero_le _,.inl rfl,by simp⟩
 ·simp at e';obtain⟨rfl,rfl,rfl⟩:=e';have hx:∀i,i<len->∃(x:α) (cs: { cs:List Value//cs.length=c.size }),Ac w (p.add (i*c.size)) cs.1/\c.rep [] w x cs.1/\Q x:=fun i hi=>by
   obtain⟨dr,h1,h2,h3⟩:=qJ i hi;obtain⟨x,hr,hq⟩:=he m dr h3;rw [hc]at h1;exact⟨x,⟨dr,c.len hr⟩,h1,hr,hq⟩
  suffices∀j,j<=len->∃(l:List α) (cZ:List { cs:List Value//cs.length=c.size }),j=l.length/\l.length=cZ.length/\G6 (c.rep [] w) l (cZ.map (·.1))/\(∀i (hi:i<cZ.length),Ac w (p.add (i*c.size)) (cZ[i]).1)/\∀x∈l,Q x by
   obtain⟨l,cZ,h1,_,h2,h3,h4⟩:=this len (Nat.le_refl _);refine⟨l,h1,hl,hm,.inr ⟨p,_,rfl,by simp,Ac.Bkv (f:=fun cs: { cs:List Value//cs.length=c.size } =>cs.1) (k:=c.size) (fun x=>x.2) c.pos h3,?_⟩,h4⟩;exact⟨cZ.map (·.1),Alc _ _,h2⟩
  intro j
  induction j with
  |zero=>intro _;exact⟨[],[],rfl,rfl,trivial,fun i hi=>by simp at hi,by simp⟩
  |succ j ih=>
   intro hj;obtain⟨l,cZ,h1,h0,h2,h3,h4⟩:=ih (by omega);obtain⟨x,cs,jw,jZ,zT⟩:=hx j (by omega);refine⟨l++[x],cZ++[cs],by simp [h1],by simp [h0],?_,fun i hi=> ?_,fun y hy=> ?_⟩
   ·rw [List.map_append];exact h2.append ⟨jZ,trivial⟩
   ·rcases Nat.lt_or_ge i cZ.length with h|h
    ·rw [List.getElem_append_left h];exact h3 i h
    ·have:i=cZ.length:=by simp at hi;omega
     subst this;rw [List.getElem_append_right (Nat.le_refl _)];simp only [Nat.sub_self,List.getElem_cons_zero];rw [←h0,←h1];exact jw
   ·rcases List.mem_append.1 hy with h|h
    ·exact h4 y h
    ·rw [List.mem_singleton.1 h];exact zT
theorem P7 {α β:Type} {c:dz α} {d:dz β} {w:World} {x:α} {y:β} {cs:List Value} {off s:Nat} (h1:c.rep [] w x ((cs.drop off).take s)) (h2:d.rep [] w y (cs.drop (off+s))):(F2 c d).rep [] w (x,y) (cs.drop off):=
 ⟨_,_,(List.take_append_drop s (cs.drop off)).symm,h1,by rw [List.drop_drop];exact h2⟩
theorem Aqs {α:Type} {c:dz α} {w:World} {x:α} {cs:List Value} {off s:Nat} (hl:cs.length=off+s) (h1:c.rep [] w x ((cs.drop off).take s)):c.rep [] w x (cs.drop off):=by
 rwa [List.take_of_length_le (by rw [List.length_drop];omega)]at h1
end Go.Lv
