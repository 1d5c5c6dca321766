/- Loops over the places of a list. -/
import Derived.Test.YthkbhlmijkegiaaGreatLv
namespace Go.Lv
open Go.Vc
def At (len:Nat) (P:Nat->Prop) (i:Int) (n:Nat):Prop:=∃k:Nat,i=k/\k<=len/\n=len-k/\P k
theorem At.start {len:Nat} {P:Nat->Prop} (h:P 0):At len P 0 len:=⟨0,rfl,Nat.zero_le _,rfl,h⟩
theorem At.next {len k:Nat} {P:Nat->Prop} (hl:len<4611686018427387904) (hk:k<len) (h:P (k+1)):∃n1,n1<len-k/\At len P (IntKind.i64.wrap ((k:Int)+1)) n1:=
 ⟨len-(k+1),by omega,k+1,by rw [A3 (by omega) (by omega)];omega,by omega,rfl,h⟩
theorem At.cond {len k:Nat} {A B:Prop} (hk:k<=len) (ha:k<len->A) (hb:k=len->B):cond (decide ((k:Int)<(len:Int))) A B:=
 Ab (fun hc=>ha (by simpa using hc)) fun hc=>hb (by simp at hc;omega)
theorem Ax {α:Type} {l:List α} {k:Nat} {A:α->Prop} (hk:k<l.length) (h:A l[k]):((0:Int)<=(k:Int)/\(k:Int)<(l.length:Int))/\∀x,l[(k:Int).toNat]? =some x->A x:=
 ⟨⟨by omega,by omega⟩,fun x hx=>by
   rw [Int.toNat_natCast,List.getElem?_eq_getElem hk]at hx;cases hx;exact h⟩
theorem DP {α:Type} {l:List α} {i:Int} {A:α->Prop} (h0:0<=i) (hk:i.toNat<l.length) (h:A l[i.toNat]):((0:Int)<=i/\i<(l.length:Int))/\∀x,l[i.toNat]? =some x->A x:=
 ⟨⟨h0,by omega⟩,fun x hx=>by
   rw [List.getElem?_eq_getElem hk]at hx;cases hx;exact h⟩
theorem F9 {α:Type} {l:List α} {k:Nat} (h:k<l.length):l.take (k+1)=l.take k++[l[k]]:=by
 rw [List.take_add_one,List.getElem?_eq_getElem h];rfl
theorem X0 {α:Type} {l:List α} {k:Nat} (p:α->Bool) (h:k<l.length):(l.take (k+1)).filter p=(l.take k).filter p++(if p l[k]then [l[k]]else []):=by
 rw [F9 h,List.filter_append];congr 1;by_cases hp:p l[k]<;>simp [hp]
end Go.Lv
