/- Arguments, opened: what is known of the cells of an argument of a type. -/
import Derived.Test.YthkbhlmijkegiaaGreatMemC
import Derived.WalkKit
import Derived.ProofKit
import Derived.OpenShut
import Derived.ChangeArms
import Derived.ChangeOld
import Derived.Test.YthkbhlmijkegiaaGreatHeld
namespace Go.Vc
open Go.RowKit (Below)
def wI:Nat:=cond Go.Lv.sized reachBytes maxLen
theorem Pm {H:Type} {P:Program} {k:Nat} :∀ {ts:List TypeId} {ds:List (DataW H)} {i:Nat} {t:TypeId} {d:DataW H},ts[i]? =some t->ds[i]? =some d->k∈d.weights P t->k∈DataW.weightsEach P ts ds
 |[],_,_,_,_,h,_,_=>by simp at h
 |_::_,[],_,_,_,_,h,_=>by simp at h
 |_::ts,_::ds,0,_,_,h,g,hk=>by
  simp only [List.getElem?_cons_zero,Option.some.injEq]at h g;subst h g;simp only [DataW.weightsEach];exact List.mem_append_left _ hk
 |_::ts,_::ds,i+1,_,_,h,g,hk=>by
  simp only [List.getElem?_cons_succ]at h g;simp only [DataW.weightsEach];exact List.mem_append_right _ (Pm h g hk)
theorem Rf {H:Type} {P:Program} {e:TypeId} {k:Nat} :∀ {ds:List (DataW H)} {i:Nat} {d:DataW H},ds[i]? =some d->k∈d.weights P e->k∈DataW.weightsAll P e ds
 |[],_,_,h,_=>by simp at h
 |_::ds,0,_,h,hk=>by
  simp only [List.getElem?_cons_zero,Option.some.injEq]at h;subst h;simp only [DataW.weightsAll];exact List.mem_append_left _ hk
 |_::ds,i+1,_,h,hk=>by
  simp only [List.getElem?_cons_succ]at h;simp only [DataW.weightsAll];exact List.mem_append_right _ (Rf h hk)
def gu (P:Program) (w:World) (n:Nat) (t:TypeId) (cs:List Value):Prop:=∃(H:Type) (enc:TypeId×Value->H) (base:Nat) (spare:Nat->Bool) (held:Bool) (x:DataW H×List MemPlace),DataW.trod enc P w base spare held n t cs=some x/\(Go.Lv.sized=true->∀k∈x.1.weights P t,k<=reachBytes)
theorem gu.ofW {P:Program} {w:World} {H:Type} {enc:TypeId×Value->H} {base:Nat} {spare:Nat->Bool} {held:Bool} {t:TypeId} {v:Value} {d:DataW H} {ps:List MemPlace} (h:DataW.Trod enc P w base spare held t v d ps) (hw:Go.Lv.sized=true->∀k∈d.weights P t,k<=reachBytes):∃n,gu P w n t v.cells.toList:=by
 obtain⟨n,h⟩:=h;exact⟨n,H,enc,base,spare,held,_,h,hw⟩
theorem gu.int {P:Program} {w:World} {n:Nat} {t:TypeId} {cs:List Value} {k:IntKind} (h:gu P w n t cs) (ht:P.underlying t=some (.int k)):∃i,cs=[.int k i]/\k.min<=i/\i<=k.max:=by
 obtain⟨H,enc,base,spare,held,x,h,_⟩:=h;obtain⟨b,e,_,hw⟩:=DataW.trod_int ht h;exact⟨b,e,of_decide_eq_true (Bool.and_eq_true_iff.1 hw).1,of_decide_eq_true (Bool.and_eq_true_iff.1 hw).2⟩
theorem gu.string {P:Program} {w:World} {n:Nat} {t:TypeId} {cs:List Value} (h:gu P w n t cs) (ht:P.underlying t=some .string):∃s:List UInt8,cs=[.string (bS s)]/\s.length<=wI:=by
 obtain⟨H,enc,base,spare,held,x,h,hs⟩:=h;obtain⟨b,e,rfl,hw⟩:=DataW.trod_string ht h;refine⟨sl b,e,?_⟩;unfold wI;cases hz:Go.Lv.sized with
 |false=>exact hw
 |true=>exact hs hz _ (by simp only [DataW.weights];exact List.mem_singleton.2 rfl)
theorem gu.struct {P:Program} {w:World} {n:Nat} {t:TypeId} {cs:List Value} {fs:Array Field} (h:gu P w n t cs) (ht:P.underlying t=some (.struct fs)): ∃m,n=m+1/\cs.length=P.cellsOf t/\∀(i:Nat) (f:Field),fs[i]? =some f->gu P w m f.type ((cs.drop f.offset).take (P.cellsOf f.type)):=by
 obtain⟨H,enc,base,spare,held,x,h,hs⟩:=h;obtain⟨xs,m,e,rfl,hl,hn,hf⟩:=DataW.trod_struct ht h;refine⟨m,e,hl,fun i f hi=> ?_⟩;have ft:i<xs.length:=by rw [hn];exact(Array.getElem?_eq_some_iff.1 hi).1
 refine⟨H,enc,base,spare,held,xs[i],by rw [hf i f hi];simp,fun hz k hk=>hs hz k ?_⟩;simp only [DataW.weights,ht];exact Pm (i:=i) (by simp [hi]) (by simp [ft]) hk
theorem SS {w:World} {base:Nat} {a:Addr} {n:Nat} {cs:List Value} (h:w.cells? base a n=some cs):Ad w a cs/\cs.length=n:=by
 unfold World.cells? at h;split at h
 ·have hl:=mapM_some_length h;refine⟨fun i hi=> ?_,by simpa using hl⟩;have:=mapM_some_get h i i (by rw [List.getElem?_range (by simpa [hl] using hi)]);rw [List.getElem?_eq_getElem hi]at this;exact this
 ·cases h
theorem gu.slice {P:Program} {w:World} {n:Nat} {t e:TypeId} {cs:List Value} (h:gu P w n t cs) (ht:P.underlying t=some (.slice e)): cs=[.slice none 0 0]\/∃a len cap m,n=m+1/\cs=[.slice (some a) len cap]/\len<=cap/\cap<=maxLen/\∀i,i<len->∃gO,Ad w (a.add (i*P.cellsOf e)) gO/\gO.length=P.cellsOf e/\gu P w m e gO:=by
 obtain⟨H,enc,base,spare,held,x,h,hs⟩:=h;rcases DataW.trod_slice ht h with⟨e,_⟩|⟨a,len,cap,elems,rest,m,e1,e2,e3,_,hl,hm,hlen,o1,_⟩
 ·exact .inl e
 ·refine .inr ⟨a,len,cap,m,e1,e2,hl,hm,fun i hi=> ?_⟩;have:=o1 i hi;rw [List.getElem?_eq_getElem (by omega),Option.bind_eq_some_iff]at this;obtain⟨gO,h1,h2⟩:=this;refine⟨gO,(SS h1).1,(SS h1).2,H,enc,base,spare,held,_,h2,fun hz k hk=>hs hz k ?_⟩;subst e3;simp only [DataW.weights,ht];exact List.mem_cons_of_mem _ (List.mem_append_left _ (Rf (i:=i) (by simp [show i<elems.length by omega]) hk))
theorem SU {α:Type} {f:α->List Value} {k:Nat} (hf:∀x,(f x).length=k) (hk:0<k):∀(l:List α) (j:Nat) (hj:j<l.length*k),
 (flat f l)[j]? =(f (l[j/k]'(Nat.div_lt_of_lt_mul (by rw [Nat.mul_comm];exact hj))))[j%k]?
 |[],j,hj=>by simp at hj
 |x::l,j,hj=>by
  show(f x++flat f l)[j]? =_
  rcases Nat.lt_or_ge j k with h|h
  ·rw [List.getElem?_append_left (by rw [hf];exact h)];have h0:j/k=0:=Nat.div_eq_of_lt h;simp only [h0,List.getElem_cons_zero,Nat.mod_eq_of_lt h]
  ·rw [List.getElem?_append_right (by rw [hf];exact h),hf];have nE:j-k<l.length*k:=by simp [Nat.add_mul]at hj;omega
   rw [SU hf hk l (j-k) nE];have h1:j/k=(j-k)/k+1:=by
    rw [Nat.div_eq_sub_div hk h]
   have h2:j%k=(j-k)%k:=by rw [Nat.mod_eq_sub_mod h]
   simp only [h1,List.getElem_cons_succ,←h2]
theorem Ad.Blm {α:Type} {f:α->List Value} {k:Nat} (hf:∀x,(f x).length=k) (hk:0<k) {w:World} {p:Addr} {l:List α} (h:∀i (hi:i<l.length),Ad w (p.add (i*k)) (f l[i])):Ad w p (flat f l):=by
 intro j hj;have nE:j<l.length*k:=by rw [P7 hf]at hj;exact hj
 have hd:j/k<l.length:=Nat.div_lt_of_lt_mul (by rw [Nat.mul_comm];exact nE);have hm:j%k<k:=Nat.mod_lt _ hk;have h1:=h (j/k) hd (j%k) (by rw [hf];exact hm);have h2:=SU hf hk l j nE;rw [List.getElem?_eq_getElem hj,List.getElem?_eq_getElem (by rw [hf];exact hm),Option.some.injEq]at h2;rw [h2,←h1];congr 1;have e:j/k*k+j%k=j:=by rw [Nat.mul_comm];exact Nat.div_add_mod j k
 obtain⟨b,o,sp⟩:=p;unfold Addr.add;by_cases h0:j/k*k=0
 ·rw [if_pos h0];have:j%k=j:=by omega
  rw [this]
 ·rw [if_neg h0,if_neg (show j≠0 by omega)];split
  ·simp only [Addr.mk.injEq,and_true,true_and];omega
  ·simp only [Addr.mk.injEq,and_true,true_and];omega
def NA (s:List UInt8):List Value:=[.string (bS s)]
end Go.Vc
