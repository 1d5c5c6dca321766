/- More about slices: where an appended row lies; bytes made and turned into a string. -/
import Derived.Test.YthkbhlmijkegiaaGreatMemB
import Derived.Maps.AppendAt
import Derived.Laws.MakeOwn
import Derived.Laws.IdiomStrings
namespace Go.Vc
open Go.RowKit (Below)
theorem Arr {P:Program} {w:World} {base t ty e size bytes:Nat} {a:Option Addr} {n c:Nat} {xs news:List Value} {src:Addr} {m mc:Nat} {K:Value->World->Prop} (hT:oC P t e size bytes) (h:Rw w base e size a n c xs) (hs:Ad w src news) (hl:news.length=m*size) (h1:∀u∈news,u.oneCell'=true) (hm:n+m<2^32) (xK:bytes<2^10) (u_:base<=w.heap.size) (hk:∀a' c' w',Rw w' base e size a' (n+m) c' (xs++news)->w.grownBy w' (bK a)->(bK a'=bK a\/bK a'=some w.heap.size)->K (.slice a' (n+m) c') w'): Bd P (Builtin.append_ #[t,t] ty #[.slice a n c,.slice (some src) m mc]) K w:=by
 obtain⟨i,z,ht,hi,hz,eU,hb,nD,iq⟩:=hT;obtain⟨v',w',eD,xM,hg,_,dZ⟩:=run_append_own_at w base t ty e i z size bytes ht hi hz eU hb nD iq (.slice a n c) n xs h src m mc news hl
  (fun j u hu=>by obtain⟨h',e'⟩:=List.getElem?_eq_some_iff.1 hu;rw [←e'];exact hs j h') h1 (by unfold maxLen;omega) (by
   have:(n+m)*bytes<=2^32*2^10:=Nat.mul_le_mul (by omega) (by omega);omega) u_
 rw [Xk a n c]at dZ hg;rcases xM.2 with⟨hv,hn⟩|⟨g,cap,cur,hv,_⟩
 ·subst hv;refine⟨_,w',eD,?_⟩;have:=hk none 0 w' (by rw [hn];rw [hn]at xM;exact xM) hg dZ;rw [hn]at this;exact this
 ·subst hv;exact⟨_,w',eD,hk _ _ w' xM hg dZ⟩
end Go.Vc
