/- More about slices: where an appended row lies; bytes made and turned into a string. -/
import Derived.Test.YtcakelelfklhdaaGreatDoorMemB
import Derived.Maps.AppendAt
import Derived.Laws.MakeOwn
import Derived.Laws.IdiomStrings
namespace Go.Vc
open Go.RowKit (Below)
theorem Ak7 {P:Program} {w:World} {base t ty e size bytes:Nat} {a:Option Addr} {n c:Nat} {xs news:List Value} {src:Addr} {m mc:Nat} {K:Value->World->Prop}
 (hT:Wx P t e size bytes) (h:Rw w base e size a n c xs) (hs:Ae w src news) (hl:news.length=m*size) (h1:∀u∈news,u.oneCell'=true) (hm:n+m<2^32) (hby:bytes<2^10) (Baa:base<=w.heap.size)
 (hk:∀a' c' w',Rw w' base e size a' (n+m) c' (xs++news)->w.grownBy w' (blk a)->(blk a'=blk a\/blk a'=some w.heap.size)->K (.slice a' (n+m) c') w'):
 Bl P (Builtin.append_ #[t,t] ty #[.slice a n c,.slice (some src) m mc]) K w:=by
 obtain⟨i,z,ht,hi,hz,hsz,hb,hzs,Azk⟩:=hT
 obtain⟨v',w',Azu,Ba0,hg,_,hat⟩:=run_append_own_at w base t ty e i z size bytes ht hi hz hsz hb hzs Azk (.slice a n c) n xs h src m mc news hl
  (fun j u hu=>by obtain⟨h',e'⟩:=List.getElem?_eq_some_iff.1 hu;rw [←e'];exact hs j h') h1 (by unfold maxLen;omega) (by
   have:(n+m)*bytes<=2^32*2^10:=Nat.mul_le_mul (by omega) (by omega)
   omega) Baa
 rw [P1 a n c]at hat hg
 rcases Ba0.2 with⟨hv,hn⟩|⟨g,cap,cur,hv,_⟩
 ·subst hv
  refine⟨_,w',Azu,?_⟩
  have:=hk none 0 w' (by rw [hn];rw [hn]at Ba0;exact Ba0) hg hat
  rw [hn]at this
  exact this
 ·subst hv
  exact⟨_,w',Azu,hk _ _ w' Ba0 hg hat⟩
end Go.Vc
