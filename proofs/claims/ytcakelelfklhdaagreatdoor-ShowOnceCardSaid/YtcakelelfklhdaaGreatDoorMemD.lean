/- Slices that are read while other things are written; append of any slice to a row of one's own. -/
import Derived.Test.YtcakelelfklhdaaGreatDoorMemC
import Derived.Laws.OwnMore
namespace Go.Vc
open Go.RowKit (Below)
theorem Nt (p:Addr) (i:Nat):(p.add i).block=p.block:=by unfold Addr.add;split<;>rfl
theorem Rw.lit {w w':World} {base e size n b:Nat} {cs:Array Value} (hb:b=w.heap.size) (hw:w'=w.alloc (.cells cs e)) (Baa:base<=b) (hn:n<=maxLen) (hs:cs.size=n*size):
 Rw w' base e size (some ⟨b,0,none⟩) n n cs.toList:=by
 subst hb hw
 exact World.ownsRow_lit w cs n Baa hn hs
theorem Af1 {P:Program} {w:World} {base t ty e size bytes:Nat} {a:Option Addr} {n c d:Nat} {xs:List Value} {K:Value->World->Prop}
 (hT:Wx P t e size bytes) (h:Rw w base e size a n c xs) (hk:K (.slice a n c) w):Bl P (Builtin.append_ #[t,t] ty #[.slice a n c,.slice none 0 d]) K w:=by
 obtain⟨i,z,ht,hi,hz,hsz,hb,hzs,Azk⟩:=hT
 refine⟨_,_,?_,hk⟩
 rcases h.2 with⟨hv,rfl⟩|⟨g,cap,cur,hv,_,_,hnc,_⟩
 ·cases hv
  simp [Builtin.append_,run_underlying ht,sizeOf,typeInfo,hi,Builtin.lenOf,Builtin.firstCells]
 ·cases hv
  simp [Builtin.append_,run_underlying ht,sizeOf,typeInfo,hi,Builtin.lenOf,Builtin.firstCells,hnc,storeCells]
theorem Fh {P:Program} {w:World} {base t ty e size bytes:Nat} {a:Option Addr} {n c:Nat} {xs news:List Value} {src:Option Addr} {m mc:Nat} {K:Value->World->Prop}
 (hT:Wx P t e size bytes) (h:Rw w base e size a n c xs) (hs:Af0 w src news) (hl:news.length=m*size) (h1:∀u∈news,u.oneCell'=true) (hm:n+m<2^32) (hby:bytes<2^10) (Baa:base<=w.heap.size)
 (hk:∀a' c' w',Rw w' base e size a' (n+m) c' (xs++news)->w.grownBy w' (blk a)->(blk a'=blk a\/blk a'=some w.heap.size)->K (.slice a' (n+m) c') w'):
 Bl P (Builtin.append_ #[t,t] ty #[.slice a n c,.slice src m mc]) K w:=by
 cases src with
 |some p=>exact Ak7 hT h hs hl h1 hm hby Baa hk
 |none=>
  have Azk:0<size:=by obtain⟨i,z,_,_,_,_,_,_,Azk⟩:=hT;exact Azk
  have hn:news=[]:=hs
  subst hn
  have hm0:m=0:=by
   rcases Nat.eq_zero_or_pos m with h|h
   ·exact h
   ·have:=Nat.mul_pos h Azk
    rw [List.length_nil]at hl
    omega
  subst hm0
  refine Af1 hT h ?_
  have:=hk a c w (by rw [List.append_nil];exact h) ⟨rfl,rfl,rfl,Nat.le_refl _,fun _ _ _=>rfl⟩ (.inl rfl)
  exact this
theorem Af2 {P:Program} {w:World} {t ty e size bytes:Nat} {a b:Option Addr} {n m c2:Nat} {xs ys:List Value} {K:Value->World->Prop}
 (hT:Wx P t e size bytes) (hx:Af0 w a xs) (hxl:xs.length=n*size) (hy:Af0 w b ys) (hyl:ys.length=m*size) (h1:∀u∈xs,u.oneCell'=true) (h2:∀u∈ys,u.oneCell'=true) (hm1:0<m) (hm:n+m<2^32) (hby:bytes<2^10)
 (hk:∀a' c' w',Rw w' 0 e size a' (n+m) c' (xs++ys)->w.grownBy w' (blk none)->(blk a'=blk none\/blk a'=some w.heap.size)->K (.slice a' (n+m) c') w'):
 Bl P (Builtin.append_ #[t,t] ty #[.slice a n n,.slice b m c2]) K w:=by
 have hT':=hT
 obtain⟨i,z,ht,hi,hz,hsz,hb,hzs,Azk⟩:=hT
 cases a with
 |none=>
  have hx:xs=[]:=hx
  subst hx
  have hn:n=0:=by
   rcases Nat.eq_zero_or_pos n with h|h
   ·exact h
   ·have:=Nat.mul_pos h Azk
    simp at hxl;omega
  subst hn
  exact Fh hT' (Rw.nil w 0 e size) hy hyl h2 (by omega) hby (Nat.zero_le _) hk
 |some p=>
  cases b with
  |none=>
   have hy:ys=[]:=hy
   subst hy
   have:=Nat.mul_pos hm1 Azk
   simp at hyl;omega
  |some q=>
   have hx:Ae w p xs:=hx
   have hy:Ae w q ys:=hy
   have h48:(n+m)*bytes<=140737488355328:=by
    have:(n+m)*bytes<=2^32*2^10:=Nat.mul_le_mul (by omega) (by omega)
    omega
   have hr:=run_append_grow (P:=P) w t ty e i z ht hi hz p n n xs (by rw [hsz];exact hxl) (fun j v hv=>by obtain⟨h',e'⟩:=List.getElem?_eq_some_iff.1 hv;rw [←e'];exact hx j h') q m c2 ys (by rw [hsz];exact hyl)
    (fun j v hv=>by obtain⟨h',e'⟩:=List.getElem?_eq_some_iff.1 hv;rw [←e'];exact hy j h') (by omega) (by omega) (growslice_fits (by omega) (by rw [hb];exact h48))
   have hge:=grownCap_ge w (n+m) n e
   have hcm:grownCap w (n+m) n e<=maxLen:=grownCap_le_maxLen w (n+m) n e (by unfold maxLen;omega)
   have hlen:(xs++ys).length=(n+m)*size:=by rw [List.length_append,hxl,hyl,Nat.add_mul]
   refine⟨_,_,hr,hk _ _ _ ⟨hlen,.inr ⟨w.heap.size,_,_,rfl,Nat.zero_le _,heap_alloc_new w.drew _,hge,hcm,?_,?_⟩⟩ ⟨rfl,rfl,rfl,by simp,fun k hk _=>by
    show(w.heap.push _)[k]? =w.heap[k]?
    rw [Array.getElem?_push_lt hk]
    exact(Array.getElem?_eq_getElem hk).symm⟩ (.inr rfl)⟩
   ·simp only [Array.size_append,List.size_toArray,size_zeroCells,hzs,hxl,hyl,←Nat.add_mul]
    congr 1
    omega
   ·simp only [Array.toList_append,List.append_assoc]
    rw [←List.append_assoc,←hlen]
    exact List.take_left
end Go.Vc
