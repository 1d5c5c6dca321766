/- A part of the proof: conditions of the code, contracts, the plain law. -/
import Derived.Test.YthkbhlmijkegiaaGreatM6
import Derived.Deep.AppendSrc
import Derived.MapKept
import Derived.Laws.IdiomStrings
import Derived.Lib.ConvBytes
import Derived.Orders
import Derived.Test.YthkbhlmijkegiaaGreatVcI
open Nat (le_of_ble_eq_true eq_of_beq_eq_true le_refl zero_add add_mul zero_le lt_irrefl le_succ)
open Bool (and_eq_true)
open List (length_cons getElem?_append_left length_append drop_zero length_take getElem?_drop mem_append range')
open Array (ext' getD_eq_getD_getElem? toList_append)
namespace Go.Am
open Go.Vc
variable {R:Type}
def fL:List AV->(List AV->Option R)->Option R
 |[],K=>K []|a::l,K=>fL l fun l=>K (a::l)
theorem Se:∀(l:List AV) (K:List AV->Option R),fL l K=K l
 |[],_=>rfl
 |b::l,K=>by simp only [fL,Se l]
def o8:List AV->Nat->List AV->(List AV->Option R)->Option R
 |l,_,[],K=>K l|[],_,_::_,_=>none|_::l,0,a::az,K=>o8 l 0 az fun t=>K (a::t)
 |x::l,k+1,a::az,K=>o8 l k (a::az) fun t=>K (x::t)
theorem LL (x a:AV) (l az:List AV):∀i,Uz (x::l) (i+1) az=x::Uz l i az:=by
 induction az generalizing l with
 |nil=>intro i;rfl
 |cons b az ih=>intro i;simp only [Uz,List.set_cons_succ];exact ih _ _
theorem Qz {r:R} :∀ {l:List AV} {k:Nat} {az:List AV} {K:List AV->Option R},o8 l k az K=some r->K (Uz l k az)=some r/\k+az.length<=max l.length k
 |l,k,[],K,h=>by
  have h':K l=some r:=by cases l<;>cases k<;>exact h
  exact⟨h',by simp only [List.length_nil];omega⟩
 |[],k,a::az,K,h=>by cases k<;>cases h
 |x::l,0,a::az,K,h=>by
  simp only [o8]at h;obtain⟨h1,h2⟩:=Qz h;refine⟨?_,by simp only [length_cons]at h2⊢;omega⟩;simp only [Uz,List.set_cons_zero];rw [LL a a];exact h1
 |x::l,k+1,a::az,K,h=>by
  simp only [o8]at h;obtain⟨h1,h2⟩:=Qz h;refine⟨?_,by simp only [length_cons]at h2⊢;omega⟩;rw [LL x a];exact h1
theorem vA {b:Nat} {rw:Bool} :∀(vs:List Value) (o:Nat) (w:World) (l:List Value),L0 w b rw l->L0 (w.setCells b o vs) b rw (D0 l o vs)/\w.grownBy (w.setCells b o vs) (some b)
 |[],o,w,l,h=>⟨h,⟨rfl,rfl,rfl,le_refl _,fun _ _ _=>rfl⟩⟩
 |v::vs,o,w,l,h=>by
  have h1:L0 (w.setCell ⟨b,o,none⟩ v) b rw (l.set o v):=h.set rfl;obtain⟨h2,h3⟩:=vA vs (o+1) _ _ h1;refine⟨h2,⟨h3.os,h3.tape,h3.output,?_,fun k hk hm=> ?_⟩⟩
  ·have:(w.setCell ⟨b,o,none⟩ v).heap.size=w.heap.size:=by simp [World.setCell]
   rw [←this];exact h3.size
  ·have hs:k<(w.setCell ⟨b,o,none⟩ v).heap.size:=by simpa [World.setCell] using hk
   show(World.setCells (w.setCell ⟨b,o,none⟩ v) b (o+1) vs).heap[k]? =_
   rw [h3.block k hs hm,heap_setCell,if_neg (fun e=>hm (by rw [e]))]
theorem Wv {b i:Nat} :∀(vs:List Value) (j:Nat) (w:World),Bi w ⟨b,i,none⟩ j vs=w.setCells b (i+j) vs
 |[],_,_=>rfl
 |v::vs,j,w=>by
  simp only [Bi,World.setCells];rw [Wv vs (j+1),Fe];rfl
theorem U3 {w:World} {b i:Nat} {rw:Bool} {l:List Value} (h:L0 w b rw l) {n:Nat} (hn:i+n<=l.length):∀j,j<n->(∃v,w.cell? ((⟨b,i,none⟩:Addr).add (0+j))=some v)/\w.frozen? ((⟨b,i,none⟩:Addr).add (0+j))=false:=by
 intro j hj;rw [zero_add,Fe];exact⟨⟨_,h.cell (List.getElem?_eq_getElem (show i+j<l.length by omega))⟩,h.frozen (by omega)⟩
theorem BW:∀(us A B:List Value) (i:Nat),i+us.length<=A.length->D0 (A++B) i us=D0 A i us++B
 |[],_,_,_,_=>rfl
 |u::us,A,B,i,h=>by
  simp only [length_cons]at h;simp only [D0];rw [List.set_append_left _ _ (by omega),BW us _ _ _ (by simp;omega)]
theorem BX:∀(us A:List Value) (i:Nat),i+us.length<=A.length->D0 A i us=A.take i++us++A.drop (i+us.length)
 |[],A,i,_=>by simp [D0]
 |u::us,A,i,h=>by
  simp only [length_cons]at h;simp only [D0];rw [BX us _ _ (by simp;omega)];have h1:(A.set i u).take (i+1)=A.take i++[u]:=by
   rw [List.take_add_one,List.take_set_of_le (le_refl _)];simp [show i<A.length by omega]
  have h2:(A.set i u).drop (i+1+us.length)=A.drop (i+(u::us).length):=by
   rw [List.drop_set_of_lt (by omega)];simp only [length_cons];congr 1;omega
  rw [h1,h2];simp
def fM (P:Program) (tm:Tm) (o:Oper) (M:Tr aL) (n:Nat) (av:AV) (M':Tr aL) (n':Nat):Prop:=∀b0 e a w,Bc b0 e M.get n w->Qv e tm a o.op.operands.toList->∀next:Value->World->Prop,(∀e' v w',A0 e e'->Bc b0 e' M'.get n' w'->av.rep e' v->next v w')->D6 P next ((execOp a.eval o).run P w)
theorem fM.pure {P:Program} {tm:Tm} {o:Oper} {M:Tr aL} {n:Nat} {av:AV} (h:Ny P tm o av):fM P tm o M n av M n:=by
 intro b0 e a w hM hT next hk;obtain⟨v,h1,h2⟩:=h e a hT;rw [h2 w];exact hk e v w (A0.refl e) hM h1
def FU:Nat:=40
def sM (P:Program) (tm:Tm) (t:TypeId) (x:Operand) (M:Tr aL) (K:AV->Option R):Option R:=match cV tm x with
 |some (.ptr b k)=>match M.get b with
  |some (.cells l _)=>match o7 P t with
   |some true=>match P.info? t with
    |some i=>cond (Nat.ble (k+i.size) l.length) (fL ((l.drop k).take i.size) fun cs=>K (.agg cs)) none
    |none=>none
   |some false=>match l[k]? with
    |some av=>K av|none=>none
   |none=>none
  |_=>none
 |_=>none
theorem BZ {P:Program} {tm:Tm} {o:Oper} {t:TypeId} {x:Operand} {M:Tr aL} {n:Nat} {K:AV->Option R} {r:R} (ho:o.op= .load t x) (h:sM P tm t x M K=some r):∃av,K av=some r/\fM P tm o M n av M n:=by
 unfold sM at h;split at h
 case h_2=>cases h
 rename_i b k hx;split at h
 case h_2=>cases h
 rename_i l rw hb;have base:∀ {b0:Base} {e:Env} {a:Act} {w:World},Bc b0 e M.get n w->Qv e tm a o.op.operands.toList->∃B vs rest,a.eval x= .pointer (some ⟨B,k,none⟩)/\L0 w B rw (vs++rest)/\AV.bI e l vs:=by
  intro b0 e a w hM hT;obtain⟨B,t,vs,rest,h1,h2,h3,h4,h5⟩:=hM.bK b _ hb;have hr:=hT _ (by simp [ho,Op.operands]) _ hx;simp only [AV.rep]at hr;obtain⟨B',t',g1,g2⟩:=hr;rw [h1]at g1;cases g1;exact⟨B,vs,rest,g2,h2,h4⟩
 split at h
 ·rename_i ha;split at h
  case h_2=>cases h
  rename_i i hi;cases hc:Nat.ble (k+i.size) l.length with
  |false=>rw [hc]at h;cases h
  |true=>
   rw [hc]at h;simp only [cond_true,Se]at h;have hle:=le_of_ble_eq_true hc;refine⟨_,h,fun b0 e a w hM hT next hk=> ?_⟩;obtain⟨B,vs,rest,g1,g2,g3⟩:=base hM hT;have hlen:=A7 g3;have hs:((vs.drop k).take i.size).length=i.size:=by simp;omega
   have mb:Ad w ⟨B,k,none⟩ ((vs.drop k).take i.size):=g2.cells k fun j hj=>by
    rw [hs]at hj;rw [getElem?_append_left (by omega),List.getElem?_eq_getElem (by omega)];simp
   have hl:=H7 (P:=P) (w:=w) (a:=⟨B,k,none⟩) ((vs.drop k).take i.size) 0 #[] (fun j hj=>by simpa using mb j hj);rw [hs]at hl;simp only [execOp,ho,Instr.loadAt,g1,Instr.sureAddr,loadVar,Sem.run_bind,Sem.run_pure,Result.andThen_ok,Nz ha,if_true,sizeOf,typeInfo,run_program,hi,loadCells,hl,D6];exact hk e _ w (A0.refl e) hM (by simp only [AV.rep];exact⟨_,by simp,Ew (F7 g3)⟩)
 ·rename_i ha;split at h
  case h_2=>cases h
  rename_i av fh;refine⟨_,h,fun b0 e a w hM hT next hk=> ?_⟩;obtain⟨B,vs,rest,g1,g2,g3⟩:=base hM hT;obtain⟨v,hv,hr⟩:=Jm g3 fh;have aP:=(List.getElem?_eq_some_iff.1 hv).1;have hc:w.cell? ⟨B,k,none⟩=some v:=g2.cell (by rw [getElem?_append_left aP];exact hv);simp only [execOp,ho,Instr.loadAt,g1,Instr.sureAddr,loadVar,Sem.run_bind,Sem.run_pure,Result.andThen_ok,Nz ha,Bool.false_eq_true,if_false,run_load,hc,D6];exact hk e v w (A0.refl e) hM hr
 ·cases h
def n9:List AV->Bool
 |[]=>true|a::l=>a.one&&n9 l
theorem U4 {e:Env} :∀ {l:List AV} {vs:List Value},n9 l=true->AV.bI e l vs->∀v∈vs,v.oneCell'=true
 |[],_,_,h,v,hv=>by simp only [AV.bI]at h;subst h;cases hv
 |_::_,_,ho,h,v,hv=>by
  simp only [AV.bI]at h;obtain⟨x,xs,rfl,h1,h2⟩:=h;simp only [n9,and_eq_true]at ho;rcases List.mem_cons.1 hv with rfl|hv
  ·exact Aws ho.1 h1
  ·exact U4 ho.2 h2 v hv
def yp (P:Program) (tm:Tm) (t:TypeId) (x v:Operand) (M:Tr aL) (K:Tr aL->Option R):Option R:=match cV tm x,cV tm v with
 |some (.ptr b k),some av=>match M.get b with
  |some (.cells l rw)=>match P.info? t with
   |some i=>cond (Nat.beq av.cells.length i.size&&n9 av.cells&&Nat.ble (k+i.size) l.length) (o8 l k av.cells fun l=>Tr.i5 FU M b (some (.cells l rw)) K) none
   |none=>none
  |_=>none
 |_,_=>none
theorem LM {P:Program} {tm:Tm} {o:Oper} {t:TypeId} {x v:Operand} {M:Tr aL} {n:Nat} {K:Tr aL->Option R} {r:R} (ho:o.op= .store t x v) (h:yp P tm t x v M K=some r):∃M',K M'=some r/\fM P tm o M n (.lit undef) M' n:=by
 unfold yp at h;split at h
 case h_2=>cases h
 rename_i b k av hx hv;split at h
 case h_2=>cases h
 rename_i l rw hb;split at h
 case h_2=>cases h
 rename_i i hi;cases hc:(Nat.beq av.cells.length i.size&&n9 av.cells&&Nat.ble (k+i.size) l.length)with
 |false=>rw [hc]at h;cases h
 |true=>
  rw [hc]at h;simp only [and_eq_true]at hc;obtain⟨⟨c1,c2⟩,c3⟩:=hc;have c1:=eq_of_beq_eq_true c1;have c3:=le_of_ble_eq_true c3;obtain⟨h1,_⟩:=Qz h;obtain⟨M',h2,f_⟩:=Tr.jF (f:=FU) h1;refine⟨M',h2,fun b0 e a w hM hT next hk=> ?_⟩;obtain⟨B,tt,vs,rest,g1,g2,g3,g4,g5⟩:=hM.bK b _ hb;have hr:=hT _ (by simp [ho,Op.operands]) _ hx;simp only [AV.rep]at hr;obtain⟨B',t',q1,q2⟩:=hr;rw [g1]at q1;cases q1;have B_:=Nx (hT _ (by simp [ho,Op.operands]) _ hv);have vB:=A7 B_;have z8:=A7 g4;have eU:(a.eval v).cells.size=i.size:=by rw [←c1,←vB];simp
  have eJ:=Hr (P:=P) (a:=⟨B,k,none⟩) (a.eval v).cells.toList w 0 (U4 c2 B_) (U3 g2 (by simp only [length_append];omega));rw [Wv,Nat.add_zero]at eJ;obtain⟨s1,s2⟩:=vA (a.eval v).cells.toList k w _ g2;rw [BW _ _ _ _ (by omega)]at s1;simp only [execOp,ho,Instr.storeAt,q2,Instr.sureAddr,storeVar,sizeOf,typeInfo,hi,eU,eJ,Sem.run_bind,Sem.run_pure,Result.andThen_ok,run_program,ne_eq,not_true_eq_false,if_false,D6];refine hk e _ _ (A0.refl e) (hM.kG hb g1 g5 s2 f_ ⟨B,tt,_,rest,g1,s1,?_,U0 k B_ g4,g5⟩) (by simp only [AV.rep]);rw [←g3];simp [Ws]
theorem LN {b0:Base} {w:World} {e:Env} {M:Mm} {M':Mm} {n n' i:Nat} {z:List AV} {zs:List Value} (T:TypeId) (hM:Bc b0 e M n w) (hi:e i=none) (hR:¬b0.R i) (hn:n<=n') (jP:i<n') (hz:AV.bI e z zs) (f_:∀j,M' j=if j=i then some (.cells z true)else M j): A0 e (e.put i (w.heap.size,zs.length))/\Bc b0 (e.put i (w.heap.size,zs.length)) M' n' (w.alloc (.cells ⟨zs⟩ T)):=by
 refine⟨A0.put hi _,hM.push rfl hi hR hn jP f_ ⟨w.heap.size,zs.length,zs,[],Gi _ _ _,?_,by simp,Er (A0.put hi _) hz,fun hx=> ?_⟩⟩
 ·rw [List.append_nil];exact KP (dc.new rfl rfl)
 ·have:=b0.lt _ hx;have:=hM.kept.size;omega
def pW (M:Tr aL) (n:Nat) (z:List AV) (K:Tr aL->Nat->Option R):Option R:=fL z fun z=>Tr.i5 FU M n (some (.cells z true)) fun M'=>fN (n+1) fun n'=>K M' n'
theorem U5 {M:Tr aL} {n:Nat} {z:List AV} {K:Tr aL->Nat->Option R} {r:R} (h:pW M n z K=some r):∃M',K M' (n+1)=some r/\∀j,M'.get j=if j=n then some (.cells z true)else M.get j:=by
 unfold pW at h;rw [Se]at h;obtain⟨M',h1,h2⟩:=Tr.jF (f:=FU) h;rw [Ez]at h1;exact⟨M',h1,h2⟩
def Tn (P:Program) (tm:Tm) (o:Oper) (z:List AV) (f:Nat->AV):Prop:=∀e a w,Qv e tm a o.op.operands.toList->∃zs T v,(execOp a.eval o).run P w= .ok (.value v) (w.alloc (.cells ⟨zs⟩ T))/\AV.bI e z zs/\∀(e':Env) i,e' i=some (w.heap.size,zs.length)->(f i).rep e' v
theorem Tn.LO {P:Program} {tm:Tm} {o:Oper} {z:List AV} {f:Nat->AV} (h:Tn P tm o z f) {M M':Tr aL} {n:Nat} (f_:∀j,M'.get j=if j=n then some (.cells z true)else M.get j):fM P tm o M n (f n) M' (n+1):=by
 intro b0 e a w hM hT next hk;obtain⟨zs,T,v,h1,h2,h3⟩:=h e a w hT;obtain⟨l1,l2⟩:=LN T hM (hM.new n (.inl (le_refl _))) (fun h=>lt_irrefl _ (hM.res n h)) (le_succ n) (Nat.lt_succ_self n) h2 f_;rw [h1];exact hk _ v _ l1 l2 (h3 _ n (Gi _ _ _))
theorem Mj {α:Type} (z:List α):∀n,(H6 z n).length=n*z.length
 |0=>by simp [H6]
 |n+1=>by simp only [H6,length_append,Mj z n,add_mul];omega
theorem Xx {α:Type} (z:List α):∀(n i:Nat),i<n*z.length->(H6 z n)[i]? =z[i%z.length]?
 |0,i,h=>by omega
 |n+1,i,h=>by
  simp only [H6];have hz:0<z.length:=by
   rcases Nat.eq_zero_or_pos z.length with e|e
   ·rw [e]at h;omega
   ·exact e
  by_cases hi:i<z.length
  ·rw [getElem?_append_left hi,Nat.mod_eq_of_lt hi]
  ·rw [List.getElem?_append_right (by omega),Xx z n _ (by rw [add_mul]at h;omega),←Nat.mod_eq_sub_mod (by omega)]
theorem LP {e:Env} {z:List AV} {zs:Array Value} (h:AV.bI e z zs.toList) (len:Nat):AV.bI e (H6 z len) ((Array.range (len*zs.size)).map (zs[·%zs.size]!)).toList:=by
 have hl:zs.size=z.length:=by have:=A7 h;simpa using this
 refine BK (by simp [Mj,hl]) fun i a hi=> ?_
 have aP:i<len*z.length:=by have:=(List.getElem?_eq_some_iff.1 hi).1;rwa [Mj]at this
 rw [Xx z len i aP]at hi;obtain⟨v,hv,hr⟩:=Jm h hi;refine⟨v,?_,hr⟩;have h1:i%zs.size<zs.size:=by rw [hl];exact(List.getElem?_eq_some_iff.1 hi).1
 have h2:zs[i%zs.size]! =v:=by
  rw [hl]at h1⊢;have:zs[i%z.length]? =some v:=by simpa using hv
  rw [getElem!_pos zs _ (by rw [hl];exact h1)];rw [Array.getElem?_eq_getElem (by rw [hl];exact h1)]at this;exact Option.some.inj this
 simp [hl,aP];rw [hl]at h2;exact h2
def Q0 (P:Program) (tm:Tm) (t:TypeId) (len:Nat) (ps:List (Nat×Operand)):Option (List AV×(Nat->AV)):=match P.underlying t with
 |some (.slice e)=>match P.info? e,Lb P e,pT tm ps with
  |some i,some z,some az=>cond (Nat.beq z.length i.size&&Nat.ble (len*i.size) 16777216) (match Pg (fun k=>some (k*i.size,i.size)) (H6 z len) az with
   |some row=>some (row,fun n=> .slice n 0 len i.size len true)
   |none=>none) none
  |_,_,_=>none
 |_=>none
theorem Acb {P:Program} {tm:Tm} {o:Oper} {t:TypeId} {len:Nat} {ps:Array (Nat×Operand)} {z:List AV} {f:Nat->AV} (ho:o.op= .buildSlice t len ps) (h:Q0 P tm t len ps.toList=some (z,f)):Tn P tm o z f:=by
 unfold Q0 at h;split at h
 case h_2=>cases h
 rename_i el hu;split at h
 case h_2=>cases h
 rename_i i zc az hi hz has;cases hc:(Nat.beq zc.length i.size&&Nat.ble (len*i.size) 16777216)with
 |false=>rw [hc]at h;cases h
 |true=>
 rw [hc]at h;simp only [and_eq_true]at hc;have c1:=eq_of_beq_eq_true hc.1;have c2:=le_of_ble_eq_true hc.2;simp only [cond_true]at h;split at h
 case h_2=>cases h
 rename_i row nF;cases h
 intro e a w hT;obtain⟨zv,z1,z2⟩:=Wu hz;have nD:zv.cells.size=i.size:=by have:=A7 (z1 e);rw [←c1,←this];simp
 obtain⟨p1,p2⟩:=BS (hT.sub fun y hy=>by simpa [ho,Op.operands] using hy) has;have LQ:=LP (e:=e) (zs:=zv.cells) (z1 e) len;rw [nD]at LQ;obtain⟨gO,g1,g2⟩:=U1 (cs:=(Array.range (len*i.size)).map (zv.cells[·%i.size]!)) nF LQ p1 p2;have mf:(ps.map fun(i,x)=>(i,a.eval x)).toList=ps.toList.map fun p=>(p.1,a.eval p.2):=by simp
 have eD:(execOp a.eval o).run P w= .ok (.value (.slice (some ⟨w.heap.size,0,none⟩) len len)) (w.alloc (.cells gO el)):=by
  by_cases h0:len*i.size=0
  ·have CA:∀f:Nat->Value,(Array.range (len*i.size)).map f= #[]:=fun f=>by rw [h0];simp
   rw [CA]at g1;simp only [execOp,ho,Instr.buildSlice,underlying,Sem.run_bind,run_program,Result.andThen_ok,hu,Sem.run_pure,sizeOf,typeInfo,hi,mf];rw [if_neg (by omega)];simp only [h0,if_true,Sem.run_bind,Sem.run_pure,Result.andThen_ok];rw [h0]at CA;simp only [CA,g1];rfl
  ·simp only [execOp,ho,Instr.buildSlice,underlying,Sem.run_bind,run_program,Result.andThen_ok,hu,Sem.run_pure,sizeOf,typeInfo,hi,mf];rw [if_neg (by omega)];simp only [h0,if_false,Sem.run_bind,z2 w,Sem.run_pure,Result.andThen_ok,nD,g1];rfl
 have hlen:gO.size=len*i.size:=by
  have h3:=A7 g2;have h4:∀ {place:Nat->Option (Nat×Nat)} {l l':List AV} {r:List (Nat×AV)},Pg place l r=some l'->l'.length=l.length:=by
   intro place l l' r
   induction r generalizing l with
   |nil=>intro h;simp only [Pg]at h;cases h;rfl
   |cons p r ih=>
    intro h;obtain⟨j,b⟩:=p;simp only [Pg]at h;split at h
    ·rename_i off size hp;cases fH:(Nat.beq b.cells.length size&&Nat.ble (off+size) l.length)with
     |false=>rw [fH]at h;cases h
     |true=>rw [fH]at h;rw [ih h,LC]
    ·cases h
  have h5:=h4 nF;rw [Mj,c1]at h5;have:gO.toList.length=gO.size:=by simp
  omega
 refine⟨gO.toList,el,_,eD,g2,fun e' n hn=> ?_⟩;simp only [AV.rep];exact⟨_,_,len,_,hn,rfl,.inl rfl,le_refl _,le_refl _,fun _=>rfl,by rw [Array.length_toList,hlen];omega⟩
def Oy (P:Program) (tm:Tm) (o:Oper):Option (List AV×(Nat->AV)):=match o.op with
 | .alloc t=>match Lb P t with
  |some z=>some (z,fun n=> .ptr n 0)
  |none=>none
 | .box _ x=>match cV tm x with
  |some av=>some (av.cells,fun n=> .ptr n 0)
  |none=>none
 | .buildSlice t len ps=>Q0 P tm t len ps.toList|_=>none
theorem LR {P:Program} {tm:Tm} {o:Oper} {z:List AV} {f:Nat->AV} (h:Oy P tm o=some (z,f)):Tn P tm o z f:=by
 unfold Oy at h;split at h
 ·rename_i t ho;split at h
  case h_2=>cases h
  rename_i z' hz;cases h
  intro e a w hT;obtain⟨zv,z1,z2⟩:=Wu hz;refine⟨zv.cells.toList,t,.pointer (some ⟨w.heap.size,0,none⟩),?_,z1 e,fun e' i hi=>by simp only [AV.rep];exact⟨_,_,hi,rfl⟩⟩;simp only [execOp,ho,Instr.alloc,Sem.run_bind,z2 w,Result.andThen_ok];rfl
 ·rename_i t x ho;split at h
  case h_2=>cases h
  rename_i av hx;cases h
  intro e a w hT;refine⟨(a.eval x).cells.toList,t,.pointer (some ⟨w.heap.size,0,none⟩),?_,Nx (hT _ (by simp [ho,Op.operands]) _ hx),fun e' i hi=>by simp only [AV.rep];exact⟨_,_,hi,rfl⟩⟩;simp only [execOp,ho,Instr.box];rfl
 ·rename_i t len ps ho;exact Acb ho h
 ·cases h
def Ww (P:Program) (tm:Tm) (o:Oper) (M:Tr aL) (n:Nat) (K:AV->Tr aL->Nat->Option R):Option R:=match Oy P tm o with
 |some (z,f)=>pW M n z fun M' n'=>fA (f n) fun av=>K av M' n'
 |none=>none
theorem Ro {P:Program} {tm:Tm} {o:Oper} {M:Tr aL} {n:Nat} {K:AV->Tr aL->Nat->Option R} {r:R} (h:Ww P tm o M n K=some r):∃av M' n',K av M' n'=some r/\fM P tm o M n av M' n':=by
 unfold Ww at h;split at h
 ·rename_i z f hz;obtain⟨M',h1,h2⟩:=U5 h;rw [Qu]at h1;exact⟨_,_,_,h1,(LR hz).LO h2⟩
 ·cases h
def CB (tx:Option TypeDesc) (M:Tr aL) (sz:Nat):AV->Option (Nat×List AV)
 | .slice b o n rk _ _=>match tx,M.get b with
  |some (.slice _),some (.cells l _)=>cond (Nat.beq rk sz&&Nat.ble (o+n*sz) l.length&&n9 ((l.drop o).take (n*sz))) (some (n,(l.drop o).take (n*sz))) none|_,_=>none
 | .lit (.slice none 0 _)=>match tx with
  |some (.slice _)=>some (0,[])|_=>none
 | .lit (.string s)=>match tx with
  |some .string=>cond (Nat.beq sz 1) (some (s.size,(byteCells s).map .lit)) none|_=>none
 |_=>none
theorem Rp {P:Program} {b0:Base} {w:World} {e:Env} {M:Tr aL} {n:Nat} (hM:Bc b0 e M.get n w) {tx:TypeId} {sz:Nat} {x:AV} {v:Value} (hx:x.rep e v) {m:Nat} {news:List AV} (h:CB (P.underlying tx) M sz x=some (m,news)): ∃us,AV.bI e news us/\Src P sz tx v m us w:=by
 unfold CB at h;split at h
 ·rename_i b o n' rk c ex;split at h
  case h_2=>cases h
  rename_i e' l rw hk hb;cases hc:(Nat.beq rk sz&&Nat.ble (o+n'*sz) l.length&&n9 ((l.drop o).take (n'*sz)))with
  |false=>rw [hc]at h;cases h
  |true=>
   rw [hc]at h;cases h;simp only [and_eq_true]at hc;obtain⟨⟨c1,c2⟩,c3⟩:=hc;have c2:=le_of_ble_eq_true c2;simp only [AV.rep]at hx;obtain⟨B',t',k,A,q1,q2,q3,q4,_⟩:=hx;obtain⟨B,tt,vs,rest,h1,h2,h3,h4,h5⟩:=hM.bK b _ hb;rw [h1]at q1;cases q1;have hlen:=A7 h4;have hr:=Ew (n:=m*sz) (F7 (n:=o) h4);refine⟨_,hr,?_⟩;subst q2;refine Src.ofSlice w hk A m k _ (by simp;omega) (fun j u hj=> ?_) (U4 c3 hr);have aP:j<m*sz:=by
    have:=(List.getElem?_eq_some_iff.1 hj).1;simp only [length_take]at this;omega
   have pI:0<m:=by rcases Nat.eq_zero_or_pos m with e0|e0;(rw [e0]at aP;omega);exact e0
   rcases q3 with rfl|q3
   rotate_left
   ·omega
   rw [Fe];rw [List.getElem?_take_of_lt aP,getElem?_drop]at hj;exact h2.cell (by rw [getElem?_append_left (by omega)];exact hj)
 ·split at h
  ·rename_i e' hk;cases h
   simp only [AV.rep]at hx;subst hx;exact⟨[],by simp [AV.bI],Src.ofNil w hk _⟩
  ·cases h
 ·rename_i s;split at h
  ·rename_i hk;cases hc:Nat.beq sz 1 with
   |false=>rw [hc]at h;cases h
   |true=>
    rw [hc]at h;cases h;have:=eq_of_beq_eq_true hc;subst this;have hv:v= .string s:=by simpa only [AV.rep] using hx
    subst hv;exact⟨_,La _,Src.ofString w hk s⟩
  ·cases h
 ·cases h
def CC (P:Program) (tm:Tm) (t tx:TypeId) (s x:Operand) (M:Tr aL) (n:Nat) (K:AV->Tr aL->Nat->Option R):Option R:=match P.underlying t with
 |some (.slice e)=>match P.info? e,cV tm s,cV tm x with
  |some i,some sv,some xv=>match i.zero,CB (P.underlying tx) M i.size xv with
   |some z,some (m,news)=>cond (Nat.beq z.cells.size i.size) (match sv with
    | .lit (.slice none 0 0)=>cond (Nat.beq m 0) (K (.lit (.slice none 0 0)) M n)
     (cond (Nat.ble (m*i.bytes) 140737488355328&&Nat.ble m 4611686018427387904) (fN m fun m=>pW M n news fun M' n'=>K (.slice n 0 m i.size m false) M' n') none)
    | .slice b o k sz c ex=>cond (Nat.beq sz i.size) (match M.get b with
     |some (.cells l rw)=>cond (Nat.beq m 0) (K (.slice b o k sz c ex) M n)
      (cond (Nat.ble (k+m) c&&rw&&Nat.ble (o+k*sz) l.length)
       (fL (l.take (o+k*sz)++news++l.drop (o+k*sz+m*sz)) fun l'=>Tr.i5 FU M b (some (.cells l' true)) fun M'=>fN (k+m) fun km=>K (.slice b o km sz c ex) M' n)
       (cond (Nat.ble ((k+m)*i.bytes) 140737488355328&&Nat.ble (k+m) 4611686018427387904&&Nat.ble (o+k*sz) l.length&&Nat.ble (c+1) (k+m))
        (cond ex (fN (k+m) fun km=>pW M n ((l.drop o).take (k*sz)++news) fun M' n'=>K (.slice n 0 km sz km false) M' n')
         (cond (Nat.beq o 0&&rw) (fN (k+m) fun km=>Tr.i5 FU M b none fun M1=>pW M1 n (l.take (k*sz)++news) fun M' n'=>K (.slice n 0 km sz km false) M' n') none))
        none))
     |_=>none) none
    |_=>none) none
   |_,_=>none
  |_,_,_=>none
 |_=>none
theorem Aov {b0:Base} {w:World} {e:Env} {M M':Mm} {n:Nat} (hM:Bc b0 e M n w) {row:List AV} {us:List Value} (hr:AV.bI e row us) (el:TypeId) (rest:Array Value) (f_:∀j,M' j=if j=n then some (.cells row true)else M j): ∃e',A0 e e'/\Bc b0 e' M' (n+1) (w.drew.alloc (.cells (us.toArray++rest) el))/\e' n=some (w.heap.size,us.length+rest.size):=by
 have CD:Bc b0 e M n w.drew:=hM.drew _;have jG:e n=none:=hM.new n (.inl (le_refl _));refine⟨_,A0.put jG (w.heap.size,us.length+rest.size),CD.push rfl jG (fun h=>lt_irrefl _ (hM.res n h)) (le_succ n) (Nat.lt_succ_self n) f_ ⟨w.heap.size,us.length+rest.size,us,rest.toList,Gi _ _ _,?_,by simp,Er (A0.put jG _) hr,fun hx=> ?_⟩,Gi _ _ _⟩
 ·have:=dc.new (w:=w.drew) (cs:=us.toArray++rest) (T:=el) (b:=w.heap.size) rfl rfl;exact KP (by simpa using this)
 ·have:=b0.lt _ hx;have:=hM.kept.size;omega
theorem Aow {P:Program} {tm:Tm} {o:Oper} {c:Call} {t tx:TypeId} {s x:Operand} {M:Tr aL} {n:Nat} {K:AV->Tr aL->Nat->Option R} {r:R} (ho:o.op= .call c) (fH:c.callee= .builtin .append) (n_:c.args= #[s,x]) (vC:c.argTypes= #[t,tx]) (h:CC P tm t tx s x M n K=some r):∃av M' n',K av M' n'=some r/\fM P tm o M n av M' n':=by
 have key:∀ {a:Act} {w w':World} {v:Value} {next:Value->World->Prop},(Builtin.append_ #[t,tx] o.type #[a.eval s,a.eval x]).run P w= .ok v w'->next v w'->D6 P next ((execOp a.eval o).run P w):=by
  intro a w w' v next h1 h2;have:(execOp a.eval o).run P w= .ok (.value v) w':=by
   simp only [execOp,ho,resolve,fH,n_,vC,invoke,builtin,Sem.run_bind,Sem.run_pure,Result.andThen_ok];rw [show(#[s,x].map a.eval)= #[a.eval s,a.eval x] from by simp,h1];rfl
  rw [this];exact h2
 have rl:s∈o.op.operands.toList:=by simp [ho,Op.operands,Call.operands,fH,n_]
 have sN:x∈o.op.operands.toList:=by simp [ho,Op.operands,Call.operands,fH,n_]
 unfold CC at h;split at h
 case h_2=>cases h
 rename_i el hu;split at h
 case h_2=>cases h
 rename_i i sv xv hi CE sO;split at h
 case h_2=>cases h
 rename_i z m news hz sP;cases se:Nat.beq z.cells.size i.size with
 |false=>rw [se]at h;cases h
 |true=>
 rw [se]at h;have nD:=eq_of_beq_eq_true se;simp only [cond_true]at h;have grow:∀ {M1 M':Tr aL} {row:List AV} {pX:Nat},(∀j,M'.get j=if j=n then some (.cells row true)else M1.get j)->∀ {b0:Base} {e:Env} {a:Act} {w:World} {us:List Value} {kk:Nat} {next:Value->World->Prop},Bc b0 e M1.get n w->AV.bI e row us->us.length=pX*i.size->pX<=kk->
  (∀e' v w',A0 e e'->Bc b0 e' M'.get (n+1) w'->(AV.slice n 0 pX i.size pX false).rep e' v->next v w')->
  (Builtin.append_ #[t,tx] o.type #[a.eval s,a.eval x]).run P w= .ok (.slice (some ⟨w.heap.size,0,none⟩) pX kk) (w.drew.alloc (.cells (us.toArray++Builtin.zeroCells z.cells (kk-pX)) el))->D6 P next ((execOp a.eval o).run P w):=by
  intro M1 M' row pX f_ b0 e a w us kk next hM hr hl hle hk eD;obtain⟨e',l1,l2,l3⟩:=Aov hM hr el (Builtin.zeroCells z.cells (kk-pX)) f_;refine key eD (hk e' _ _ l1 l2 ?_);simp only [AV.rep];refine⟨_,_,kk,_,l3,rfl,.inl rfl,hle,hle,nofun,?_⟩;rw [size_zeroCells,nD,hl,←add_mul,zero_add];exact Nat.mul_le_mul_right _ (by omega)
 split at h
 ·
  have sQ:∀ {e a},Qv e tm a o.op.operands.toList->a.eval s= .slice none 0 0:=fun hT=>by have:=hT s rl _ CE;simpa only [AV.rep] using this
  cases hm:Nat.beq m 0 with
  |true=>
   rw [hm]at h;have:=eq_of_beq_eq_true hm;subst this;refine⟨_,_,_,h,fun b0 e a w hM hT next hk=> ?_⟩;obtain⟨us,i6,hs⟩:=Rp hM (hT x sN _ sO) sP;refine key (v:= .slice none 0 0) (w':=w) ?_ (hk e _ w (A0.refl e) hM (by simp only [AV.rep]));rw [sQ hT];rcases hs.kind with⟨e',hk⟩|hk<;>simp [Builtin.append_,run_underlying hu,run_underlying hk,sizeOf,typeInfo,hi,hs.len,hs.cells]
  |false=>
   rw [hm]at h;simp only [cond_false]at h;have pI:m≠0:=fun e=>by subst e;cases hm
   cases hb:(Nat.ble (m*i.bytes) 140737488355328&&Nat.ble m 4611686018427387904)with
   |false=>rw [hb]at h;cases h
   |true=>
    rw [hb]at h;simp only [cond_true,Ez]at h;simp only [and_eq_true]at hb;have b1:=le_of_ble_eq_true hb.1;have b2:=le_of_ble_eq_true hb.2;obtain⟨M',h1,h2⟩:=U5 h;refine⟨_,_,_,h1,fun b0 e a w hM hT next hk=> ?_⟩;obtain⟨us,i6,hs⟩:=Rp hM (hT x sN _ sO) sP;have eD:=run_append_grow_src (P:=P) w t tx o.type el i z hu hi hz none 0 0 [] (run_firstCells_none w.drew i.size 0 0 0) (a.eval x) m us hs (by omega) (by omega) (growslice_fits (by omega) (by rw [zero_add];exact b1));rw [←sQ hT,zero_add,List.nil_append]at eD;exact grow h2 hM i6 hs.newsLen (grownCap_ge _ _ _ _) hk eD
 ·rename_i b gI k sz cc ex;cases cN:Nat.beq sz i.size with
  |false=>rw [cN]at h;cases h
  |true=>
  rw [cN]at h;have:=eq_of_beq_eq_true cN;subst this;simp only [cond_true]at h;split at h
  case h_2=>cases h
  rename_i l sR hb;have sQ:∀ {b0:Base} {e:Env} {a:Act} {w:World},Bc b0 e M.get n w->Qv e tm a o.op.operands.toList->∃B tt kk A vs rest,e b=some (B,tt)/\a.eval s= .slice (some A) k kk/\(A=⟨B,gI,none⟩\/kk=0)/\k<=kk/\cc<=kk/\(ex=true->kk=cc)/\gI+kk*i.size<=tt/\L0 w B sR (vs++rest)/\(vs++rest).length=tt/\AV.bI e l vs/\¬b0.X B:=by
   intro b0 e a w hM hT;have hr:=hT s rl _ CE;simp only [AV.rep]at hr;obtain⟨B',t',kk,A,q1,q2,q3,q4,q5,q6,q7⟩:=hr;obtain⟨B,tt,vs,rest,h1,h2,h3,h4,h5⟩:=hM.bK b _ hb;rw [h1]at q1;cases q1;exact⟨_,_,kk,A,vs,rest,h1,q2,q3,q4,q5,q6,q7,h2,h3,h4,h5⟩
  cases hm:Nat.beq m 0 with
  |true=>
   rw [hm]at h;have:=eq_of_beq_eq_true hm;subst this;refine⟨_,_,_,h,fun b0 e a w hM hT next hk=> ?_⟩;obtain⟨us,i6,hs⟩:=Rp hM (hT x sN _ sO) sP;have hr:=hT s rl _ CE;have mi:=hr;simp only [AV.rep]at mi;obtain⟨B',t',kk,A,q1,q2,q3,q4,_⟩:=mi;have Bof:us=[]:=by have:=hs.newsLen;rw [Nat.zero_mul]at this;exact List.eq_nil_of_length_eq_zero this
   refine key (v:=a.eval s) (w':=w) ?_ (hk e _ w (A0.refl e) hM hr);rw [q2];have LS:=hs.cells;rw [Bof]at LS;rcases hs.kind with⟨e',hk⟩|hk<;>simp [Builtin.append_,run_underlying hu,run_underlying hk,sizeOf,typeInfo,hi,hs.len,LS,q4,storeCells]
  |false=>
   rw [hm]at h;simp only [cond_false]at h;have pI:m≠0:=fun e=>by subst e;cases hm
   cases hA:(Nat.ble (k+m) cc&&sR&&Nat.ble (gI+k*i.size) l.length)with
   |true=>
    rw [hA]at h;simp only [cond_true,Se]at h;simp only [and_eq_true]at hA;obtain⟨⟨a1,a2⟩,a3⟩:=hA;have a1:=le_of_ble_eq_true a1;have a3:=le_of_ble_eq_true a3;obtain⟨M',h1,h2⟩:=Tr.jF (f:=FU) h;rw [Ez]at h1;refine⟨_,_,_,h1,fun b0 e a w hM hT next hk=> ?_⟩;obtain⟨us,i6,hs⟩:=Rp hM (hT x sN _ sO) sP;obtain⟨B,tt,kk,A,vs,rest,g1,g2,g3,g4,g5,g6,g7,g8,g9,kT,sS⟩:=sQ hM hT;rcases g3 with rfl|g3
    rotate_left
    ·omega
    have g8:L0 w B true (vs++rest):=by rw [a2]at g8;exact g8
    have yq:=hs.newsLen;have vB:=A7 kT;have h_:gI+k*i.size+us.length<=(vs++rest).length:=by
     rw [g9,yq];have:(k+m)*i.size<=kk*i.size:=Nat.mul_le_mul_right _ (by omega);rw [add_mul]at this;omega
    have oG:∀j,j<us.length->∃v,w.cell? ⟨B,gI+k*i.size+j,none⟩=some v:=fun j hj=>⟨_,g8.cell (List.getElem?_eq_getElem (by omega))⟩
    have eD:=run_append_room_src (P:=P) w t tx o.type el i hu hi B gI k kk (a.eval x) m us hs (by omega) (fun j hj=>by obtain⟨v,hv⟩:=oG j hj;rw [hv];rfl) (fun j hj=>g8.frozen (by omega));rw [←g2]at eD;obtain⟨s1,s2⟩:=vA us (gI+k*i.size) w _ g8;rw [BX _ _ _ h_]at s1;have vD:(vs++rest).take (gI+k*i.size)++us++(vs++rest).drop (gI+k*i.size+us.length)=(vs.take (gI+k*i.size)++us++vs.drop (gI+k*i.size+m*i.size))++rest.drop (gI+k*i.size+m*i.size-vs.length):=by
     rw [List.take_append_of_le_length (by omega),List.drop_append,yq];simp
    refine key eD (hk e _ _ (A0.refl e) (hM.kG hb g1 sS s2 h2 ⟨B,tt,_,rest.drop (gI+k*i.size+m*i.size-vs.length),g1,?_,?_,D4 (D4 (Ew kT) i6) (F7 kT),sS⟩) ?_)
    ·rw [←vD];exact s1
    ·rw [←vD,←g9];simp only [length_append,length_take,List.length_drop]at h_⊢;omega
    ·simp only [AV.rep];exact⟨B,tt,kk,_,g1,rfl,.inl rfl,by omega,g5,g6,g7⟩
   |false=>
    rw [hA]at h;simp only [cond_false]at h;cases hB:(Nat.ble ((k+m)*i.bytes) 140737488355328&&Nat.ble (k+m) 4611686018427387904&&Nat.ble (gI+k*i.size) l.length&&Nat.ble (cc+1) (k+m))with
    |false=>rw [hB]at h;cases h
    |true=>
    rw [hB]at h;simp only [cond_true]at h;simp only [and_eq_true]at hB;obtain⟨⟨⟨b1,b2⟩,b3⟩,b4⟩:=hB;have b1:=le_of_ble_eq_true b1;have b2:=le_of_ble_eq_true b2;have b3:=le_of_ble_eq_true b3;have b4:=le_of_ble_eq_true b4;have LU:∀ {e:Env} {a:Act} {w:World} {us:List Value} {B kk:Nat} {A:Addr} {vs rest:List Value},Src P i.size tx (a.eval x) m us w->a.eval s= .slice (some A) k kk->(A=⟨B,gI,none⟩\/kk=0)->k<=kk->L0 w B sR (vs++rest)->AV.bI e l vs->kk<k+m->
     (Builtin.append_ #[t,tx] o.type #[a.eval s,a.eval x]).run P w= .ok (.slice (some ⟨w.heap.size,0,none⟩) (k+m) (grownCap w (k+m) kk el)) (w.drew.alloc (.cells (((vs.drop gI).take (k*i.size)++us).toArray++Builtin.zeroCells z.cells (grownCap w (k+m) kk el-(k+m))) el)):=by
     intro e a w us B kk A vs rest hs g2 g3 g4 g8 kT aP;have vB:=A7 kT;rw [g2];refine run_append_grow_src (P:=P) w t tx o.type el i z hu hi hz (some A) k kk ((vs.drop gI).take (k*i.size)) ?_ (a.eval x) m us hs (by omega) (by omega) (growslice_fits (by omega) b1);refine run_firstCells_some w.drew i.size k A k kk _ (by simp;omega) fun j u hj=> ?_
     have aP:j<k*i.size:=by
      have:=(List.getElem?_eq_some_iff.1 hj).1;simp only [length_take]at this;omega
     have lp:0<k:=by rcases Nat.eq_zero_or_pos k with e0|e0;(rw [e0]at aP;omega);exact e0
     rcases g3 with rfl|g3
     rotate_left
     ·omega
     rw [Fe];rw [List.getElem?_take_of_lt aP,getElem?_drop]at hj;exact g8.cell (by rw [getElem?_append_left (by omega)];exact hj)
    have LV:∀ {e:Env} {us vs:List Value},us.length=m*i.size->AV.bI e l vs->((vs.drop gI).take (k*i.size)++us).length=(k+m)*i.size:=by
     intro e us vs h1 h2;have:=A7 h2;simp only [length_append,length_take,List.length_drop,h1,add_mul];omega
    cases hex:ex with
    |true=>
     rw [hex]at h;simp only [cond_true,Ez]at h;obtain⟨M',h1,h2⟩:=U5 h;refine⟨_,_,_,h1,fun b0 e a w hM hT next hk=> ?_⟩;obtain⟨us,i6,hs⟩:=Rp hM (hT x sN _ sO) sP;obtain⟨B,tt,kk,A,vs,rest,g1,g2,g3,g4,g5,g6,g7,g8,g9,kT,sS⟩:=sQ hM hT;have:=g6 hex;exact grow h2 hM (D4 (Ew (F7 kT)) i6) (LV hs.newsLen kT) (grownCap_ge _ _ _ _) hk (LU hs g2 g3 g4 g8 kT (by omega))
    |false=>
     rw [hex]at h;simp only [cond_false]at h;cases vE:(Nat.beq gI 0&&sR)with
     |false=>rw [vE]at h;cases h
     |true=>
     rw [vE]at h;simp only [cond_true,Ez]at h;simp only [and_eq_true]at vE;have:=eq_of_beq_eq_true vE.1;subst this;obtain⟨M1,h1,h2⟩:=Tr.jF (f:=FU) h;obtain⟨M',h3,h4⟩:=U5 h1;refine⟨_,_,_,h3,fun b0 e a w hM hT next hk=> ?_⟩;obtain⟨us,i6,hs⟩:=Rp hM (hT x sN _ sO) sP;obtain⟨B,tt,kk,A,vs,rest,g1,g2,g3,g4,g5,g6,g7,g8,g9,kT,sS⟩:=sQ hM hT;by_cases pY:k+m<=kk
     ·have jG:e n=none:=hM.new n (.inl (le_refl _));rcases g3 with rfl|g3
      rotate_left
      ·omega
      have g8:L0 w B true (vs++rest):=by rw [vE.2]at g8;exact g8
      have yq:=hs.newsLen;have vB:=A7 kT;rw [zero_add]at b3 g7;have h_:k*i.size+us.length<=(vs++rest).length:=by
       rw [g9,yq];have:(k+m)*i.size<=kk*i.size:=Nat.mul_le_mul_right _ pY;rw [add_mul]at this;omega
      have oG:∀j,j<us.length->∃v,w.cell? ⟨B,0+k*i.size+j,none⟩=some v:=fun j hj=>⟨_,g8.cell (List.getElem?_eq_getElem (by omega))⟩
      have eD:=run_append_room_src (P:=P) w t tx o.type el i hu hi B 0 k kk (a.eval x) m us hs pY (fun j hj=>by obtain⟨v,hv⟩:=oG j hj;rw [hv];rfl) (fun j hj=>g8.frozen (by omega));rw [←g2]at eD;obtain⟨s1,s2⟩:=vA us (0+k*i.size) w _ g8;rw [zero_add]at s1 eD s2;rw [BX _ _ _ h_]at s1;have vD:(vs++rest).take (k*i.size)++us++(vs++rest).drop (k*i.size+us.length)=(vs.take (k*i.size)++us)++(vs++rest).drop (k*i.size+us.length):=by
       rw [List.take_append_of_le_length (by omega)]
      have sU:∀j,M'.get j=if j=n then some (.cells (l.take (k*i.size)++news) true)else if j=b then none else M.get j:=fun j=>by rw [h4,h2]
      refine key eD (hk (e.put n (B,tt)) _ _ (A0.put jG _) (hM.move hb g1 sS s2 sU ⟨B,tt,vs.take (k*i.size)++us,(vs++rest).drop (k*i.size+us.length),?_,?_,?_,Er (A0.put jG _) (D4 (Ew kT) i6),sS⟩) ?_)
      ·exact Gi _ _ _
      ·rw [←vD];exact s1
      ·rw [←vD,←g9];simp only [length_append,length_take,List.length_drop]at h_⊢;omega
      ·simp only [AV.rep];exact⟨B,tt,kk,_,Gi _ _ _,rfl,.inl rfl,pY,pY,nofun,by omega⟩
     ·have CD:=hM.drop h2;have hr:=LU hs g2 g3 g4 g8 kT (by omega);rw [drop_zero]at hr;have LW:=LV hs.newsLen kT;rw [drop_zero]at LW;exact grow h4 CD (D4 (Ew kT) i6) LW (grownCap_ge _ _ _ _) hk hr
 ·cases h
open Go.MapKept (IsKey run_checkKey run_findKey run_setObj_map)
open Go.Lib (bytesWorld bytesCells bytesWorld_at_old bytesWorld_at_new bytesWorld_size)
variable {R:Type}
def pZ (d:TypeDesc) (v:Value):Bool:=match d,v with
 | .int k,.int k' _=>decide (k'=k)| .string,.string _=>true| .bool,.bool _=>true|_,_=>false
theorem CF {d:TypeDesc} {v:Value} (h:pZ d v=true):IsKey d v:=by
 unfold pZ at h;split at h
 ·simpa [IsKey] using h
 ·trivial
 ·trivial
 ·cases h
def Xy (d:TypeDesc) (k:Value):List (Value×AV)->Nat->Option (Option (Nat×AV))
 |[],_=>some none|(k',a)::es,i=>match Instr.sameNow d k k' with
  |some true=>some (some (i,a))|some false=>Xy d k es (i+1)|none=>none
theorem Oz {e:Env} {d:TypeDesc} {k:Value} :∀ {es:List (Value×AV)} {ms:List MapEntry} {i:Nat},B6 e es ms->Xy d k es i=some none->Instr.findNow d k ms i=some none
 |[],ms,i,h,_=>by simp only [B6]at h;subst h;rfl
 |(k',a)::es,ms,i,h,hf=>by
  obtain⟨m,iM,rfl,rfl,h3,h4⟩:=h;simp only [Xy]at hf;simp only [Instr.findNow];split at hf
  ·cases hf
  ·rename_i hs;rw [hs];exact Oz h4 hf
  ·cases hf
theorem O0 {e:Env} {d:TypeDesc} {k:Value} :∀ {es:List (Value×AV)} {ms:List MapEntry} {i j:Nat} {a:AV},B6 e es ms->Xy d k es i=some (some (j,a))->
 ∃v m,Instr.findNow d k ms i=some (some (j,v))/\a.rep e v/\i<=j/\ms[j-i]? =some m/\Instr.sameNow d k m.key=some true
 |[],ms,i,j,a,h,hf=>by cases hf
 |(k',a')::es,ms,i,j,a,h,hf=>by
  obtain⟨m,iM,rfl,rfl,h3,h4⟩:=h;simp only [Xy]at hf;simp only [Instr.findNow];split at hf
  ·rename_i hs;cases hf
   exact⟨_,m,by rw [hs],h3,le_refl _,by simp,hs⟩
  ·rename_i hs;obtain⟨v,m',g1,g2,g3,g4,g5⟩:=O0 h4 hf;refine⟨v,m',by rw [hs];exact g1,g2,by omega,?_,g5⟩;rw [show j-i=(j-(i+1))+1 by omega];simpa using g4
  ·cases hf
theorem Amf {d:TypeDesc} {k k':Value} (n:Nat) (h:Instr.sameNow d k k'=some true):Instr.sameBits n k' k=true:=by
 unfold Instr.sameNow at h;split at h
 ·rename_i j a j' b;split at h
  ·rename_i hk;subst hk;simp at h;subst h;cases n<;>simp [Instr.sameBits]
  ·cases h
 ·rename_i a b;have h:(a==b)=true:=Option.some.inj h;have e:a=b:=by
   obtain⟨a⟩:=a;obtain⟨b⟩:=b;have h:(a==b)=true:=h;rw [eq_of_beq h]
  subst e;cases n<;>exact h
 ·simp at h;subst h;cases n<;>simp [Instr.sameBits]
 ·cases h
theorem Ph {e:Env} {k:Value} {a:AV} {v:Value} (hv:a.rep e v):∀ {es:List (Value×AV)} {ms:List MapEntry} (i:Nat),B6 e es ms->B6 e (es.set i (k,a)) (ms.modify i fun m=> { m with key:=k,val:=v })
 |[],ms,i,h=>by simp only [B6]at h;subst h;cases i<;>simp [B6]
 |(k',a')::es,ms,0,h=>by
  obtain⟨m,iM,rfl,h2,h3,h4⟩:=h;exact⟨_,iM,rfl,rfl,hv,h4⟩
 |(k',a')::es,ms,i+1,h=>by
  obtain⟨m,iM,rfl,h2,h3,h4⟩:=h;exact⟨m,_,rfl,h2,h3,Ph hv i h4⟩
theorem Sf {e:Env} {k:Value} {a:AV} {v:Value} {c:Nat} (hv:a.rep e v):∀ {es:List (Value×AV)} {ms:List MapEntry},B6 e es ms->B6 e (es++[(k,a)]) (ms++[{ key:=k,val:=v,born:=c }])
 |[],ms,h=>by simp only [B6]at h;subst h;exact⟨_,[],rfl,rfl,hv,rfl⟩
 |(k',a')::es,ms,h=>by
  obtain⟨m,iM,rfl,h2,h3,h4⟩:=h;exact⟨m,_,rfl,h2,h3,Sf hv h4⟩
def sV:List (Value×AV)->Nat->(Value×AV)->(List (Value×AV)->Option R)->Option R
 |[],_,_,K=>K []|_::es,0,x,K=>K (x::es)|y::es,i+1,x,K=>sV es i x fun es=>K (y::es)
theorem LX:∀(es:List (Value×AV)) (i:Nat) (x:Value×AV) (K:List (Value×AV)->Option R),sV es i x K=K (es.set i x)
 |[],_,_,_=>by simp [sV]
 |_::_,0,_,_=>by simp [sV]
 |_::es,i+1,x,K=>by simp [sV,LX es]
def yr:List (Value×AV)->(Value×AV)->(List (Value×AV)->Option R)->Option R
 |[],x,K=>K [x]|y::es,x,K=>yr es x fun es=>K (y::es)
theorem LY:∀(es:List (Value×AV)) (x:Value×AV) (K:List (Value×AV)->Option R),yr es x K=K (es++[x])
 |[],_,_=>rfl
 |_::es,x,K=>by simp [yr,LY es]
def CG (P:Program) (tm:Tm) (t:TypeId):Option Operand->Bool
 |none=>true|some x=>match U2 tm x,P.underlying t with
  |some _,some (.map _ _)=>true|_,_=>false
def CH (P:Program) (tm:Tm) (t:TypeId) (r:Option Operand) (M:Tr aL) (n:Nat) (K:AV->Tr aL->Nat->Option R):Option R:=cond (CG P tm t r) (Tr.i5 FU M n (some (.map [] 0)) fun M'=>fN (n+1) fun n'=>K (.map n) M' n') none
theorem Amh {P:Program} {tm:Tm} {o:Oper} {t:TypeId} {x:Option Operand} {M:Tr aL} {n:Nat} {K:AV->Tr aL->Nat->Option R} {r:R} (ho:o.op= .makeMap t x) (h:CH P tm t x M n K=some r):∃av M' n',K av M' n'=some r/\fM P tm o M n av M' n':=by
 unfold CH at h;cases hc:CG P tm t x with
 |false=>rw [hc]at h;cases h
 |true=>
  rw [hc]at h;obtain⟨M',h1,h2⟩:=Tr.jF (f:=FU) h;rw [Ez]at h1;refine⟨_,_,_,h1,fun b0 e a w hM hT next hk=> ?_⟩;have eD:(execOp a.eval o).run P w= .ok (.value (.map (some w.heap.size))) (w.alloc (.map #[] 0)):=by
   cases x with
   |none=>simp only [execOp,ho];rfl
   |some y=>
    simp only [CG]at hc;split at hc
    case h_2=>cases hc
    rename_i k kt et hy hu;obtain⟨kk,oq⟩:=Eg hT (by simp [ho,Op.operands]) hy;simp [execOp,ho,Instr.makeMap,underlying,hu,oq,asInt,asIntOf]
  rw [eD];have jG:e n=none:=hM.new n (.inl (le_refl _));refine hk (e.put n (w.heap.size,0)) _ _ (A0.put jG _) (hM.push (M':=M'.get) rfl jG (fun h=>lt_irrefl _ (hM.res n h)) (le_succ n) (Nat.lt_succ_self n) h2 ⟨w.heap.size,0,[],Gi _ _ _,by simp [World.alloc,-World.alloc_eq],rfl,fun hx=> ?_⟩) (by simp only [AV.rep];exact⟨_,_,Gi _ _ _,rfl⟩);have:=b0.lt _ hx;have:=hM.kept.size;omega
def yu (P:Program) (t:TypeId) (ok:Bool):Option AV:=match P.info? t with
 |some i=>match i.zero with
  |some z=>some (cond ok (.tuple [.lit z,.lit (.bool false)]) (.lit z))|none=>none
 |none=>none
def CI (P:Program) (tm:Tm) (t:TypeId) (x ix:Operand) (ok:Bool) (M:Tr aL):Option AV:=match P.underlying t with
 |some (.map kt el)=>match P.underlying kt with
  |some d=>match cV tm ix with
   |some (.lit kv)=>cond (pZ d kv) (match cV tm x with
    |some (.map b)=>match M.get b with
     |some (.map es _)=>match Xy d kv es 0 with
      |some (some (_,a))=>some (Tj ok a)|some none=>yu P el ok|none=>none
     |_=>none
    |some (.lit (.map none))=>yu P el ok|_=>none) none
   |_=>none
  |none=>none
 |_=>none
theorem Aox {e:Env} {ok:Bool} {b:AV} {v:Value} (hb:b.rep e v):(Tj ok b).rep e (if ok then .tuple #[v,.bool true]else v):=by
 cases ok with
 |true=>simp only [Tj,cond_true,if_true,AV.rep];exact⟨[v,.bool true],rfl,by simp only [AV.bI];exact⟨_,_,rfl,hb,_,_,rfl,by simp only [AV.rep],rfl⟩⟩
 |false=>exact hb
theorem LZ {P:Program} {t:TypeId} {ok:Bool} {av:AV} (h:yu P t ok=some av) (e:Env):∃z,(∀w,(zeroValue t).run P w= .ok z w)/\av.rep e (if ok then .tuple #[z,.bool false]else z):=by
 unfold yu at h;split at h
 case h_2=>cases h
 rename_i i hi;split at h
 case h_2=>cases h
 rename_i z hz;cases h
 refine⟨z,fun w=>by simp [zeroValue,typeInfo,hi,hz],?_⟩;cases ok with
 |true=>simp only [cond_true,if_true,AV.rep];exact⟨[z,.bool false],rfl,by simp only [AV.bI,AV.rep];exact⟨_,_,rfl,rfl,_,_,rfl,rfl,rfl⟩⟩
 |false=>simp only [cond_false,AV.rep];rfl
theorem Aoy {P:Program} {tm:Tm} {o:Oper} {t:TypeId} {x ix:Operand} {ok:Bool} {M:Tr aL} {n:Nat} {av:AV} (ho:o.op= .lookup t x ix ok) (h:CI P tm t x ix ok M=some av):fM P tm o M n av M n:=by
 intro b0 e a w hM hT next hk;unfold CI at h;split at h
 case h_2=>cases h
 rename_i kt el hu;split at h
 case h_2=>cases h
 rename_i d hd;split at h
 case h_2=>cases h
 rename_i kv vF;cases hc:pZ d kv with
 |false=>rw [hc]at h;cases h
 |true=>
 rw [hc]at h;simp only [cond_true]at h;have rm:=hT _ (by simp [ho,Op.operands]) _ vF;simp only [AV.rep]at rm;have gW:∀b,(Instr.checkKey b 10000 kt kv).run P w= .ok () w:=fun b=>run_checkKey hd (CF hc) b 9999
 split at h
 ·rename_i b hx;split at h
  case h_2=>cases h
  rename_i es clock hb;have hr:=hT _ (by simp [ho,Op.operands]) _ hx;simp only [AV.rep]at hr;obtain⟨B,tt,q1,q2⟩:=hr;obtain⟨B',t',ms,g1,g2,g3,g4⟩:=hM.bK b _ hb;rw [q1]at g1;cases g1;have gJ:=MapKept.run_getObj_map (P:=P) g2;split at h
  ·rename_i j CJ hf;cases h
   obtain⟨v,m,f1,f2,_⟩:=O0 g3 hf;have lV:=run_findKey (P:=P) (w:=w) hd f1;have eD:(execOp a.eval o).run P w= .ok (.value (if ok then .tuple #[v,.bool true]else v)) w:=by
    simp [execOp,ho,Instr.lookup,underlying,hu,q2,rm,gJ,gW,lV]
   rw [eD];exact hk e _ w (A0.refl e) hM (Aox f2)
  ·rename_i hf;have f1:=Oz g3 hf;have lV:=run_findKey (P:=P) (w:=w) hd f1;obtain⟨z,z1,z2⟩:=LZ h e;have eD:(execOp a.eval o).run P w= .ok (.value (if ok then .tuple #[z,.bool false]else z)) w:=by
    simp [execOp,ho,Instr.lookup,underlying,hu,q2,rm,gJ,gW,lV,z1]
   rw [eD];exact hk e _ w (A0.refl e) hM z2
  ·cases h
 ·rename_i hx;have hr:=hT _ (by simp [ho,Op.operands]) _ hx;simp only [AV.rep]at hr;have lV:=run_findKey (P:=P) (w:=w) (l:=[]) hd (show Instr.findNow d kv [] 0=some none from rfl);obtain⟨z,z1,z2⟩:=LZ h e;have eD:(execOp a.eval o).run P w= .ok (.value (if ok then .tuple #[z,.bool false]else z)) w:=by
   simp [execOp,ho,Instr.lookup,underlying,hu,hr,rm,gW,lV,z1]
  rw [eD];exact hk e _ w (A0.refl e) hM z2
 ·cases h
def Zu (P:Program) (tm:Tm) (t:TypeId) (m k x:Operand) (M:Tr aL) (K:Tr aL->Option R):Option R:=match P.underlying t with
 |some (.map kt _)=>match P.underlying kt with
  |some d=>match cV tm k with
   |some (.lit kv)=>cond (pZ d kv) (match cV tm x with
    |some av=>match cV tm m with
     |some (.map b)=>match M.get b with
      |some (.map es c)=>match Xy d kv es 0 with
       |some (some (i,_))=>sV es i (kv,av) fun es=>Tr.i5 FU M b (some (.map es c)) K
       |some none=>yr es (kv,av) fun es=>fN (c+1) fun c=>Tr.i5 FU M b (some (.map es c)) K
       |none=>none
      |_=>none
     |_=>none
    |none=>none) none
   |_=>none
  |none=>none
 |_=>none
theorem L9 (w:World) (B:Nat) (ob:Obj):w.grownBy { w with heap:=w.heap.setIfInBounds B ob } (some B):=
 ⟨rfl,rfl,rfl,by simp,fun k hk cf=>by
  simp only [Array.getElem?_setIfInBounds];rw [if_neg (fun h=>cf (by rw [h]))]⟩
theorem L_ {P:Program} {tm:Tm} {o:Oper} {t:TypeId} {m k x:Operand} {M:Tr aL} {n:Nat} {K:Tr aL->Option R} {r:R} (ho:o.op= .mapUpdate t m k x\/o.op= .insert t m k x) (h:Zu P tm t m k x M K=some r): ∃M',K M'=some r/\fM P tm o M n (.lit undef) M' n:=by
 unfold Zu at h;split at h
 case h_2=>cases h
 rename_i kt el hu;split at h
 case h_2=>cases h
 rename_i d hd;split at h
 case h_2=>cases h
 rename_i kv vF;cases hc:pZ d kv with
 |false=>rw [hc]at h;cases h
 |true=>
 rw [hc]at h;simp only [cond_true]at h;split at h
 case h_2=>cases h
 rename_i av hx;split at h
 case h_2=>cases h
 rename_i b hm;split at h
 case h_2=>cases h
 rename_i es c hb;have sW:∀y,y=m\/y=k\/y=x->y∈o.op.operands.toList:=by
  intro y hy;rcases ho with ho|ho<;>rcases hy with rfl|rfl|rfl<;>simp [ho,Op.operands]
 have sX:∀(a:Act) (w w':World),(Instr.mapUpdate t (a.eval m) (a.eval k) (a.eval x)).run P w= .ok () w'->(execOp a.eval o).run P w= .ok .skip w':=by
  intro a w w' hr;rcases ho with ho|ho<;>simp [execOp,ho,hr]
 have gW:∀w b,(Instr.checkKey b 10000 kt kv).run P w= .ok () w:=fun w b=>run_checkKey hd (CF hc) b 9999
 have fin:∀(nq:List (Value×AV)) (c':Nat) (M':Tr aL),(∀j,M'.get j=if j=b then some (.map nq c')else M.get j)->
  (∀(a:Act) (e:Env) (w:World) (B:Nat) (ms:List MapEntry),a.eval m= .map (some B)->a.eval k=kv->av.rep e (a.eval x)->w.heap[B]? =some (.map ⟨ms⟩ c)->B6 e es ms->∃iM,B6 e nq iM/\(Instr.mapUpdate t (a.eval m) (a.eval k) (a.eval x)).run P w= .ok () { w with heap:=w.heap.setIfInBounds B (.map ⟨iM⟩ c') })->
  fM P tm o M n (.lit undef) M' n:=by
  intro nq c' M' f_ eD b0 e a w hM hT next hk;have hr:=hT _ (sW m (.inl rfl)) _ hm;simp only [AV.rep]at hr;obtain⟨B,tt,q1,q2⟩:=hr;obtain⟨B',t',ms,g1,g2,g3,g4⟩:=hM.bK b _ hb;rw [q1]at g1;cases g1;have lW:=hT _ (sW k (.inr (.inl rfl))) _ vF;simp only [AV.rep]at lW;obtain⟨iM,r1,r2⟩:=eD a e w B ms q2 lW (hT _ (sW x (.inr (.inr rfl))) _ hx) g2 g3;rw [sX a w _ r2];have aP:=(Array.getElem?_eq_some_iff.1 g2).1;refine hk e _ _ (A0.refl e) (hM.kG hb q1 g4 (L9 w B _) f_ ⟨B,tt,iM,q1,by simp [aP],r1,g4⟩) (by simp only [AV.rep])
 split at h
 ·rename_i i a' hf;rw [LX]at h;obtain⟨M',h1,h2⟩:=Tr.jF (f:=FU) h;refine⟨M',h1,fin _ _ M' h2 fun a e w B ms q2 lW CK g2 g3=> ?_⟩;obtain⟨v,me,f1,f2,f3,f4,f5⟩:=O0 g3 hf;rw [Nat.sub_zero]at f4;have lV:=run_findKey (P:=P) (w:=w) hd f1;have gJ:=MapKept.run_getObj_map (P:=P) g2;have hme:(⟨ms⟩:Array MapEntry)[i]? =some me:=by simpa using f4
  have eJ:∀w:World,(Instr.keyThatStays me.key kv).run P w= .ok kv w:=fun w=>by
   unfold Instr.keyThatStays;rw [if_pos (Amf 10000 f5)];rfl
  refine⟨_,Ph CK i g3,?_⟩;have oa:=run_setObj_map (P:=P) (.map ((⟨ms⟩:Array MapEntry).modify i fun e=> { e with key:=kv,val:=a.eval x }) c) g2;simp only [Instr.mapUpdate,underlying,hu,Sem.run_bind,run_program,Sem.run_pure,Result.andThen_ok,q2,gJ,lW,gW,lV,hme,Option.map_some,Option.getD_some,eJ,oa];congr 4;apply ext';simp
 ·rename_i hf;rw [LY,Ez]at h;obtain⟨M',h1,h2⟩:=Tr.jF (f:=FU) h;refine⟨M',h1,fin _ _ M' h2 fun a e w B ms q2 lW CK g2 g3=> ?_⟩;have f1:=Oz g3 hf;have lV:=run_findKey (P:=P) (w:=w) hd f1;have gJ:=MapKept.run_getObj_map (P:=P) g2;refine⟨_,Sf (c:=c) CK g3,?_⟩;have oa:=run_setObj_map (P:=P) (.map ((⟨ms⟩:Array MapEntry).push { key:=kv,val:=a.eval x,born:=c }) (c+1)) g2;simp only [Instr.mapUpdate,underlying,hu,Sem.run_bind,run_program,Sem.run_pure,Result.andThen_ok,q2,gJ,lW,gW,lV,oa];congr 4;apply ext';simp
 ·cases h
def sY:List (Value×AV)->Nat->(List (Value×AV)->Option R)->Option R
 |[],_,K=>K []|_::es,0,K=>K es|y::es,i+1,K=>sY es i fun es=>K (y::es)
theorem MB:∀(es:List (Value×AV)) (i:Nat) (K:List (Value×AV)->Option R),sY es i K=K (es.eraseIdx i)
 |[],_,_=>by simp [sY]
 |_::_,0,_=>by simp [sY]
 |_::es,i+1,K=>by simp [sY,MB es]
theorem Q1 {e:Env} :∀ {es:List (Value×AV)} {ms:List MapEntry} (i:Nat),B6 e es ms->B6 e (es.eraseIdx i) (ms.eraseIdx i)
 |[],ms,i,h=>by simp only [B6]at h;subst h;simp [B6]
 |(k,a)::es,ms,0,h=>by
  obtain⟨m,iM,rfl,h2,h3,h4⟩:=h;exact h4
 |(k,a)::es,ms,i+1,h=>by
  obtain⟨m,iM,rfl,h2,h3,h4⟩:=h;exact⟨m,_,rfl,h2,h3,Q1 i h4⟩
def CL (P:Program) (tm:Tm) (t:TypeId) (m k:Operand) (M:Tr aL) (K:Tr aL->Option R):Option R:=match P.underlying t with
 |some (.map kt _)=>match P.underlying kt with
  |some d=>match cV tm k with
   |some (.lit kv)=>cond (pZ d kv) (match cV tm m with
    |some (.map b)=>match M.get b with
     |some (.map es c)=>match Xy d kv es 0 with
      |some (some (i,_))=>sY es i fun es=>Tr.i5 FU M b (some (.map es c)) K
      |some none=>Tr.i5 FU M b (some (.map es c)) K|none=>none
     |_=>none
    |_=>none) none
   |_=>none
  |none=>none
 |_=>none
theorem Aoz {P:Program} {tm:Tm} {o:Oper} {t tk:TypeId} {m k:Operand} {c0:Call} {M:Tr aL} {n:Nat} {K:Tr aL->Option R} {r:R} (ho:o.op= .call c0) (fH:c0.callee= .builtin .delete) (n_:c0.args=⟨[m,k]⟩) (vC:c0.argTypes=⟨[t,tk]⟩) (h:CL P tm t m k M K=some r): ∃M',K M'=some r/\fM P tm o M n (.lit (.tuple #[])) M' n:=by
 unfold CL at h;split at h
 case h_2=>cases h
 rename_i kt el hu;split at h
 case h_2=>cases h
 rename_i d hd;split at h
 case h_2=>cases h
 rename_i kv vF;cases hc:pZ d kv with
 |false=>rw [hc]at h;cases h
 |true=>
 rw [hc]at h;simp only [cond_true]at h;split at h
 case h_2=>cases h
 rename_i b hm;split at h
 case h_2=>cases h
 rename_i es c hb;have sW:∀y,y=m\/y=k->y∈o.op.operands.toList:=by
  intro y hy;rcases hy with rfl|rfl<;>simp [ho,Op.operands,Call.operands,n_,fH]
 have sX:∀ {a:Act} {w w':World} {v:Value},(Builtin.delete_ #[t,tk] o.type #[a.eval m,a.eval k]).run P w= .ok v w'->(execOp a.eval o).run P w= .ok (.value v) w':=by
  intro a w w' v hr;simp [execOp,ho,resolve,fH,n_,vC,invoke,builtin,hr]
 have gW:∀w b,(Instr.checkKey b 10000 kt kv).run P w= .ok () w:=fun w b=>run_checkKey hd (CF hc) b 9999
 have fin:∀(nq:List (Value×AV)) (M':Tr aL),(∀j,M'.get j=if j=b then some (.map nq c)else M.get j)->
  (∀(a:Act) (e:Env) (w:World) (B:Nat) (ms:List MapEntry),a.eval m= .map (some B)->a.eval k=kv->w.heap[B]? =some (.map ⟨ms⟩ c)->B6 e es ms->∃iM,B6 e nq iM/\(Builtin.delete_ #[t,tk] o.type #[a.eval m,a.eval k]).run P w= .ok (.tuple #[]) { w with heap:=w.heap.setIfInBounds B (.map ⟨iM⟩ c) })->
  fM P tm o M n (.lit (.tuple #[])) M' n:=by
  intro nq M' f_ eD b0 e a w hM hT next hk;have hr:=hT _ (sW m (.inl rfl)) _ hm;simp only [AV.rep]at hr;obtain⟨B,tt,q1,q2⟩:=hr;obtain⟨B',t',ms,g1,g2,g3,g4⟩:=hM.bK b _ hb;rw [q1]at g1;cases g1;have lW:=hT _ (sW k (.inr rfl)) _ vF;simp only [AV.rep]at lW;obtain⟨iM,r1,r2⟩:=eD a e w B ms q2 lW g2 g3;rw [sX r2];have aP:=(Array.getElem?_eq_some_iff.1 g2).1;refine hk e _ _ (A0.refl e) (hM.kG hb q1 g4 (L9 w B _) f_ ⟨B,tt,iM,q1,by simp [aP],r1,g4⟩) (by simp only [AV.rep])
 split at h
 ·rename_i i a' hf;rw [MB]at h;obtain⟨M',h1,h2⟩:=Tr.jF (f:=FU) h;refine⟨M',h1,fin _ M' h2 fun a e w B ms q2 lW g2 g3=> ?_⟩;obtain⟨v,me,f1,f2,f3,f4,f5⟩:=O0 g3 hf;rw [Nat.sub_zero]at f4;have lV:=run_findKey (P:=P) (w:=w) hd f1;have gJ:=MapKept.run_getObj_map (P:=P) g2;refine⟨_,Q1 i g3,?_⟩;have oa:=run_setObj_map (P:=P) (.map (ms.eraseIdx i).toArray c) g2;simp [Builtin.delete_,run_underlying hu,q2,gJ,lW,gW,lV,oa,Result.andThen]
 ·rename_i hf;obtain⟨M',h1,h2⟩:=Tr.jF (f:=FU) h;refine⟨M',h1,fin _ M' h2 fun a e w B ms q2 lW g2 g3=> ?_⟩;have f1:=Oz g3 hf;have lV:=run_findKey (P:=P) (w:=w) hd f1;have gJ:=MapKept.run_getObj_map (P:=P) g2;refine⟨ms,g3,?_⟩;have oa:=run_setObj_map (P:=P) (.map (⟨ms⟩:Array MapEntry) c) g2;simp [Builtin.delete_,run_underlying hu,q2,gJ,lW,gW,lV,oa,Result.andThen]
 ·cases h
def Tp (P:Program) (tm:Tm) (t:TypeId) (l c:Operand):Option (List AV×(Nat->AV)):=match P.underlying t with
 |some (.slice e)=>match P.info? e,Lb P e,U2 tm l,U2 tm c with
  |some i,some z,some l,some c=>cond (decide (0<=l)&&decide (l<=c)&&Nat.beq z.length i.size&&decide ((i.bytes:Int)*c<=281474976710656)&&decide (c<=9223372036854775807)) (some (H6 z c.toNat,fun n=> .slice n 0 l.toNat i.size c.toNat true)) none
  |_,_,_,_=>none
 |_=>none
theorem Ae2 {P:Program} {tm:Tm} {o:Oper} {t:TypeId} {l c:Operand} {z:List AV} {f:Nat->AV} (ho:o.op= .makeSlice t l c) (h:Tp P tm t l c=some (z,f)):Tn P tm o z f:=by
 unfold Tp at h;split at h
 case h_2=>cases h
 rename_i el hu;split at h
 case h_2=>cases h
 rename_i i z' ln cn hi hz hl hc;cases hb:(decide (0<=ln)&&decide (ln<=cn)&&Nat.beq z'.length i.size&&decide ((i.bytes:Int)*cn<=281474976710656)&&decide (cn<=9223372036854775807))with
 |false=>rw [hb]at h;cases h
 |true=>
 rw [hb]at h;cases h
 simp only [and_eq_true,decide_eq_true_eq]at hb;obtain⟨⟨⟨⟨b1,b2⟩,b3⟩,b4⟩,b5⟩:=hb;have b3:=eq_of_beq_eq_true b3;intro e a w hT;obtain⟨kl,hl⟩:=Eg hT (by simp [ho,Op.operands]) hl;obtain⟨kc,hc⟩:=Eg hT (by simp [ho,Op.operands]) hc;unfold Lb at hz;rw [hi]at hz;simp only at hz;split at hz
 case h_2=>cases hz
 rename_i zv hzv;cases hz
 have MC:AV.bI e (AV.cells (.lit zv)) zv.cells.toList:=Nx (by simp only [AV.rep]);have hlen:=A7 MC;have eU:zv.cells.size=i.size:=by rw [←b3,←hlen];simp
 have nF:=LP MC cn.toNat;rw [eU]at nF;refine⟨(madeCells zv.cells (cn.toNat*i.size)).toList,el,.slice (some ⟨w.heap.size,0,none⟩) ln.toNat cn.toNat,?_,?_,fun e' j hj=> ?_⟩
 ·have:=run_make (P:=P) w t el i zv hu hi hzv kl kc ln cn b1 b2 b4 b5;simp only [execOp,ho,hl,hc,Sem.run_bind,this,Result.andThen_ok,Sem.run_pure]
 ·unfold madeCells;rw [eU];exact nF
 ·simp only [AV.rep];refine⟨w.heap.size,_,cn.toNat,_,hj,rfl,.inl rfl,by omega,le_refl _,fun _=>rfl,?_⟩;rw [Array.length_toList,size_madeCells];omega
def vG:List AV->Option (List UInt8)
 |[]=>some []| .lit (.int .u8 n)::l=>cond (decide (0<=n)&&decide (n<256)) (match vG l with
  |some bs=>some (UInt8.ofNat n.toNat::bs)|none=>none) none
 |_::_=>none
theorem MD {e:Env} :∀ {l:List AV} {bs:List UInt8} {vs:List Value},vG l=some bs->AV.bI e l vs->vs=bs.map fun b=> .int .u8 b.toNat
 |[],bs,vs,h,hr=>by simp only [vG]at h;cases h;simp only [AV.bI]at hr;subst hr;rfl
 |a::l,bs,vs,h,hr=>by
  unfold vG at h;split at h
  ·rename_i mw;cases mw
  ·rename_i n l' heq;cases heq
   cases hc:(decide (0<=n)&&decide (n<256))with
   |false=>rw [hc]at h;cases h
   |true=>
    rw [hc]at h;simp only [cond_true]at h;split at h
    case h_2=>cases h
    rename_i bs' CM;cases h
    simp only [and_eq_true,decide_eq_true_eq]at hc;simp only [AV.bI,AV.rep]at hr;obtain⟨x,xs,rfl,rfl,h2⟩:=hr;rw [MD CM h2];simp only [List.map_cons,List.cons.injEq,and_true,Value.int.injEq,true_and];rw [show(UInt8.ofNat n.toNat).toNat=n.toNat by simp;omega];omega
  ·cases h
def yv (P:Program) (tm:Tm) (s d:TypeId) (x:Operand) (M:Tr aL):Option AV:=match cV tm x with
 |some (.slice b o n sz _ _)=>match P.underlying s,P.underlying d with
  |some (.slice e),some .string=>match P.underlying e,M.get b with
   |some (.int .u8),some (.cells l _)=>cond (Nat.beq sz 1&&Nat.ble (o+n) l.length) (match vG ((l.drop o).take n)with
    |some bs=>some (.lit (.string ⟨⟨bs⟩⟩))|none=>none) none
   |_,_=>none
  |_,_=>none
 |_=>none
theorem ME {P:Program} {tm:Tm} {o:Oper} {s d:TypeId} {x:Operand} {M:Tr aL} {n:Nat} {av:AV} (ho:o.op= .convert s d x) (h:yv P tm s d x M=some av):fM P tm o M n av M n:=by
 intro b0 e a w hM hT next hk;unfold yv at h;split at h
 case h_2=>cases h
 rename_i b gI len sz c ex hx;split at h
 case h_2=>cases h
 rename_i el hs hd;split at h
 case h_2=>cases h
 rename_i l rw he hb;cases hc:(Nat.beq sz 1&&Nat.ble (gI+len) l.length)with
 |false=>rw [hc]at h;cases h
 |true=>
 rw [hc]at h;simp only [cond_true]at h;split at h
 case h_2=>cases h
 rename_i bs CM;cases h
 simp only [and_eq_true]at hc;have hle:=le_of_ble_eq_true hc.2;obtain⟨B,tt,vs,rest,g1,g2,g3,g4,g5⟩:=hM.bK b _ hb;have hr:=hT _ (by simp [ho,Op.operands]) _ hx;simp only [AV.rep]at hr;obtain⟨B',t',kk,A,q1,q2,q3,q4,_⟩:=hr;rw [g1]at q1;cases q1;have j0:=MD CM (Ew (n:=len) (F7 (n:=gI) g4));have hlen:=A7 g4;have CN:bs.length=len:=by
  have:=congrArg List.length j0;simp at this;omega
 have eD:=run_convert_bytes_back (P:=P) w s d el A kk bs hs he hd fun j hj=>by
  rcases q3 with rfl|q3
  rotate_left
  ·omega
  rw [Fe];have h1:((vs.drop gI).take len)[j]? =some (.int .u8 (bs[j].toNat:Int)):=by rw [j0];simp [hj]
  rw [List.getElem?_take_of_lt (by omega),getElem?_drop]at h1;exact g2.cell (by rw [getElem?_append_left (by omega)];exact h1)
 rw [CN]at eD;have m_:(execOp a.eval o).run P w= .ok (.value (.string ⟨bs.toArray⟩)) w:=by
  simp only [execOp,ho,q2,Sem.run_bind,eD,Result.andThen_ok,Sem.run_pure]
 rw [m_];exact hk e _ w (A0.refl e) hM (by simp only [AV.rep])
def CO (P:Program) (tm:Tm) (s d:TypeId) (x:Operand) (M:Tr aL) (n:Nat) (K:AV->Tr aL->Nat->Option R):Option R:=match cV tm x with
 |some (.lit (.string t))=>match P.underlying s,P.underlying d with
  |some .string,some (.slice e)=>match P.underlying e with
   |some (.int .u8)=>fL ((byteCells t).map .lit) fun l=>Tr.i5 FU M n (some (.cells l false)) fun M'=>fN (n+1) fun n'=>fN t.size fun z=>K (.slice n 0 z 1 z false) M' n'
   |_=>none
  |_,_=>none
 |_=>none
theorem Ao0 {P:Program} {tm:Tm} {o:Oper} {s d:TypeId} {x:Operand} {M:Tr aL} {n:Nat} {K:AV->Tr aL->Nat->Option R} {r:R} (ho:o.op= .convert s d x) (h:CO P tm s d x M n K=some r):∃av M' n',K av M' n'=some r/\fM P tm o M n av M' n':=by
 unfold CO at h;split at h
 case h_2=>cases h
 rename_i t hx;split at h
 case h_2=>cases h
 rename_i el hs hd;split at h
 case h_2=>cases h
 rename_i he;rw [Se]at h;obtain⟨M',h1,h2⟩:=Tr.jF (f:=FU) h;rw [Ez,Ez]at h1;refine⟨_,_,_,h1,fun b0 e a w hM hT next hk=> ?_⟩;have hr:=hT _ (by simp [ho,Op.operands]) _ hx;simp only [AV.rep]at hr;have eD:(execOp a.eval o).run P w= .ok (.value (.slice (some ⟨w.heap.size,0,none⟩) t.size (grownCap w t.size 0 el))) (bytesWorld w el t):=by
  simp only [execOp,ho,hr,Sem.run_bind,Lib.run_convert_string_bytes w s d el t hs hd he,Result.andThen_ok,Sem.run_pure]
 rw [eD];have jG:e n=none:=hM.new n (.inl (le_refl _));have j9:t.size<=grownCap w t.size 0 el:=by have:=grownCap_ge w t.size 0 el;omega
 have mb:(bytesCells w el t).toList=byteCells t++(Array.replicate (grownCap w t.size 0 el-t.size) (Value.int .u8 0)).toList:=by
  unfold bytesCells byteCells;simp
 have CN:(byteCells t).length=t.size:=byteCells_length t;refine hk (e.put n (w.heap.size,grownCap w t.size 0 el)) _ _ (A0.put jG _) (hM.KQ (M':=M'.get) ⟨rfl,rfl,rfl,?_,fun k hk _=>bytesWorld_at_old w el t k hk⟩ jG (fun h=>lt_irrefl _ (hM.res n h)) (le_succ n) (Nat.lt_succ_self n) h2
  ⟨w.heap.size,grownCap w t.size 0 el,byteCells t,(Array.replicate (grownCap w t.size 0 el-t.size) (Value.int .u8 0)).toList,Gi _ _ _,⟨el,((bytesCells w el t).size,(bytesCells w el t).size+1),?_,by exact .inr ⟨rfl,Nat.le_of_eq (by rw [←mb];simp)⟩⟩,?_,La _,fun hx=> ?_⟩) ?_
 ·rw [bytesWorld_size];omega
 ·rw [bytesWorld_at_new,←mb]
 ·rw [length_append,CN];simp;omega
 ·have:=b0.lt _ hx;have:=hM.kept.size;omega
 ·simp only [AV.rep];exact⟨_,_,grownCap w t.size 0 el,_,Gi _ _ _,rfl,.inl rfl,j9,j9,nofun,by omega⟩
def vH:AV->Option Nat
 | .slice _ _ n _ _ _=>some n| .lit (.slice none n _)=>some n|_=>none
theorem MF {e:Env} {a:AV} {v:Value} {n:Nat} (h:vH a=some n) (hr:a.rep e v):∃base c,v= .slice base n c:=by
 unfold vH at h;split at h
 ·cases h
  simp only [AV.rep]at hr;obtain⟨B,t,k,A,_,rfl,_⟩:=hr;exact⟨_,_,rfl⟩
 ·cases h
  simp only [AV.rep]at hr;exact⟨_,_,hr⟩
 ·cases h
def CP (P:Program) (tm:Tm) (t:TypeId) (d x:Operand) (M:Tr aL) (K:AV->Tr aL->Option R):Option R:=match P.underlying t with
 |some (.slice e)=>match P.info? e,cV tm d,cV tm x with
  |some i,some da,some xa=>match vH da,vH xa with
   |some dl,some xl=>cond (Nat.beq (Nat.min xl dl) 0) (K (.lit (.int .i64 0)) M) (match da,xa with
    | .slice b o _ sz _ _,.slice b2 o2 _ rk _ _=>fN (Nat.min xl dl) fun n=>match M.get b,M.get b2 with
     |some (.cells l true),some (.cells l2 _)=>cond (Nat.beq i.size sz&&Nat.beq rk sz&&Nat.ble (o+n*sz) l.length&&Nat.ble (o2+n*sz) l2.length&&n9 ((l2.drop o2).take (n*sz))) (o8 l o ((l2.drop o2).take (n*sz)) fun l=>Tr.i5 FU M b (some (.cells l true)) fun M'=>K (.lit (.int .i64 n)) M') none
     |_,_=>none
    |_,_=>none)
   |_,_=>none
  |_,_,_=>none
 |_=>none
theorem Atq {P:Program} {tm:Tm} {o:Oper} {c:Call} {t tx:TypeId} {d x:Operand} {M:Tr aL} {n:Nat} {K:AV->Tr aL->Option R} {r:R} (ho:o.op= .call c) (fH:c.callee= .builtin .copy) (n_:c.args= #[d,x]) (vC:c.argTypes= #[t,tx]) (h:CP P tm t d x M K=some r):∃av M',K av M'=some r/\fM P tm o M n av M' n:=by
 have sX:∀ {a:Act} {w w':World} {v:Value},(Builtin.copy_ #[t,tx] o.type #[a.eval d,a.eval x]).run P w= .ok v w'->(execOp a.eval o).run P w= .ok (.value v) w':=by
  intro a w w' v hr;simp [execOp,ho,resolve,fH,n_,vC,invoke,builtin,hr]
 unfold CP at h;split at h
 case h_2=>cases h
 rename_i el hu;split at h
 case h_2=>cases h
 rename_i i da xa hi hd hx;split at h
 case h_2=>cases h
 rename_i dl xl oc gr;have MG:d∈o.op.operands.toList:=by simp [ho,Op.operands,Call.operands,fH,n_]
 have MH:x∈o.op.operands.toList:=by simp [ho,Op.operands,Call.operands,fH,n_]
 cases hz:Nat.beq (Nat.min xl dl) 0 with
 |true=>
  rw [hz]at h;simp only [cond_true]at h;have hz:=eq_of_beq_eq_true hz;refine⟨_,_,h,fun b0 e a w hM hT next hk=> ?_⟩;obtain⟨bd,cd,ed⟩:=MF oc (hT _ MG _ hd);obtain⟨bx,cx,ex⟩:=MF gr (hT _ MH _ hx);have eD:(Builtin.copy_ #[t,tx] o.type #[a.eval d,a.eval x]).run P w= .ok (.int .i64 0) w:=by
   have CQ:(Builtin.firstCells i.size 0 (.slice bx xl cx)).run P w= .ok #[] w:=by
    cases bx with
    |none=>exact run_firstCells_none w _ _ _ _
    |some A=>exact run_firstCells_some w i.size 0 A xl cx [] (by simp) (fun j v hj=>by simp at hj)
   cases bd<;>simp [Builtin.copy_,run_underlying hu,ed,ex,Builtin.lenOf,hz,sizeOf,typeInfo,hi,CQ,storeCells,goInt]
  rw [sX eD];exact hk e _ w (A0.refl e) hM (by simp only [AV.rep])
 |false=>
  rw [hz]at h;simp only [cond_false]at h;have hz:Nat.min xl dl≠0:=fun e=>by rw [e]at hz;cases hz
  split at h
  case h_2=>cases h
  rename_i b gI MI sz cd exd b2 o2 CR rk cx exx;simp only [vH,Option.some.injEq]at oc gr;subst oc;subst gr;rw [Ez]at h;split at h
  case h_2=>cases h
  rename_i l l2 rw2 hb di;generalize hn:Nat.min CR MI=m at h hz;cases hc:(Nat.beq i.size sz&&Nat.beq rk sz&&Nat.ble (gI+m*sz) l.length&&Nat.ble (o2+m*sz) l2.length&&n9 ((l2.drop o2).take (m*sz)))with
  |false=>rw [hc]at h;cases h
  |true=>
  rw [hc]at h;simp only [cond_true]at h;simp only [and_eq_true]at hc;obtain⟨⟨⟨⟨c1,c2⟩,c3⟩,c4⟩,c5⟩:=hc;have c1:=eq_of_beq_eq_true c1;have c3:=le_of_ble_eq_true c3;have c4:=le_of_ble_eq_true c4;obtain⟨h1,_⟩:=Qz h;obtain⟨M',h2,f_⟩:=Tr.jF (f:=FU) h1;refine⟨_,M',h2,fun b0 e a w hM hT next hk=> ?_⟩;obtain⟨B,tt,vs,rest,g1,g2,g3,g4,g5⟩:=hM.bK b _ hb;obtain⟨B2,tt2,vI,Br0,f1,f2,f3,f4,f5⟩:=hM.bK b2 _ di;have hr:=hT _ MG _ hd;simp only [AV.rep]at hr;obtain⟨B',t',k,A,q1,q2,q3,q4,_⟩:=hr;rw [g1]at q1;cases q1;have eZ:=hT _ MH _ hx;simp only [AV.rep]at eZ;obtain⟨B2',t2',k2,A2,p1,p2,p3,p4,_⟩:=eZ;rw [f1]at p1;cases p1;have CS:m<=CR:=hn▸Nat.min_le_left _ _;have kA:m<=MI:=hn▸Nat.min_le_right _ _;rcases q3 with rfl|q3
  rotate_left
  ·omega
  rcases p3 with rfl|p3
  rotate_left
  ·omega
  have js:=Ew (n:=m*sz) (F7 (n:=o2) f4);have Br1:=A7 f4;have hlen:=A7 g4;have i6:((vI.drop o2).take (m*sz)).length=m*sz:=by simp;omega
  have CQ:=run_firstCells_some (P:=P) w i.size m ⟨B2,o2,none⟩ CR k2 ((vI.drop o2).take (m*sz)) (by rw [i6,c1]) (fun j v hj=>by
   have hjl:j<m*sz:=by rw [←i6];exact(List.getElem?_eq_some_iff.1 hj).1
   rw [Fe];rw [List.getElem?_take_of_lt hjl,getElem?_drop]at hj;exact f2.cell (by rw [getElem?_append_left (by omega)];exact hj))
  have eJ:=Hr (P:=P) (a:=⟨B,gI,none⟩) ((vI.drop o2).take (m*sz)) w 0 (U4 c5 js) (U3 g2 (by simp only [length_append];omega));rw [Wv,Nat.add_zero]at eJ;obtain⟨s1,s2⟩:=vA ((vI.drop o2).take (m*sz)) gI w _ g2;rw [BW _ _ _ _ (by omega)]at s1;have eD:(Builtin.copy_ #[t,tx] o.type #[a.eval d,a.eval x]).run P w= .ok (.int .i64 m) (w.setCells B gI ((vI.drop o2).take (m*sz))):=by
   simp [Builtin.copy_,run_underlying hu,q2,p2,Builtin.lenOf,hn,sizeOf,typeInfo,hi,CQ,eJ,goInt]
  rw [sX eD];refine hk e _ _ (A0.refl e) (hM.kG hb g1 g5 s2 f_ ⟨B,_,_,rest,g1,s1,?_,U0 gI js g4,g5⟩) (by simp only [AV.rep]);rw [←g3];simp [Ws]
def vJ (P:Program) (tm:Tm) (o:Oper) (M:Tr aL) (n:Nat) (K:AV->Tr aL->Nat->Option R):Option R:=match o.op with
 | .call { callee:= .builtin .append,args:=⟨[s,x]⟩,argTypes:=⟨[t,tx]⟩ } =>CC P tm t tx s x M n K| .call { callee:= .builtin .copy,args:=⟨[d,x]⟩,argTypes:=⟨[t,_]⟩ } =>CP P tm t d x M fun av M'=>K av M' n
 | .call { callee:= .builtin .delete,args:=⟨[m,k]⟩,argTypes:=⟨[t,_]⟩ } =>CL P tm t m k M fun M'=>K (.lit (.tuple #[])) M' n
 | .convert s d x=>match yv P tm s d x M with
  |some av=>fA av fun av=>K av M n
  |none=>CO P tm s d x M n K
 | .makeMap t x=>CH P tm t x M n K| .lookup t x ix ok=>match CI P tm t x ix ok M with
  |some av=>fA av fun av=>K av M n
  |none=>none
 | .mapUpdate t m k x=>Zu P tm t m k x M fun M'=>K (.lit undef) M' n
 | .insert t m k x=>Zu P tm t m k x M fun M'=>K (.lit undef) M' n
 | .makeSlice t l c=>match Tp P tm t l c with
  |some (z,f)=>pW M n z fun M' n'=>fA (f n) fun av=>K av M' n'
  |none=>none
 |_=>none
theorem Aww {P:Program} {tm:Tm} {o:Oper} {M:Tr aL} {n:Nat} {K:AV->Tr aL->Nat->Option R} {r:R} (h:vJ P tm o M n K=some r):∃av M' n',K av M' n'=some r/\fM P tm o M n av M' n':=by
 unfold vJ at h;split at h
 ·rename_i s x t tx ho;exact Aow ho rfl rfl rfl h
 ·rename_i d x t tx ho;obtain⟨av,M',h1,h2⟩:=Atq ho rfl rfl rfl h;exact⟨_,_,_,h1,h2⟩
 ·rename_i m k t tx ho;obtain⟨M',h1,h2⟩:=Aoz ho rfl rfl rfl h;exact⟨_,_,_,h1,h2⟩
 ·rename_i s d x ho;split at h
  ·rename_i av fh;rw [Qu]at h;exact⟨_,_,_,h,ME ho fh⟩
  ·exact Ao0 ho h
 ·rename_i t x ho;exact Amh ho h
 ·rename_i t x ix ok ho;split at h
  ·rename_i av fh;rw [Qu]at h;exact⟨_,_,_,h,Aoy ho fh⟩
  ·cases h
 ·rename_i t m k x ho;obtain⟨M',h1,h2⟩:=L_ (.inl ho) h;exact⟨_,_,_,h1,h2⟩
 ·rename_i t m k x ho;obtain⟨M',h1,h2⟩:=L_ (.inr ho) h;exact⟨_,_,_,h1,h2⟩
 ·rename_i t l c ho;split at h
  ·rename_i z f hz;obtain⟨M',h1,h2⟩:=U5 h;rw [Qu]at h1;exact⟨_,_,_,h1,(Ae2 ho hz).LO h2⟩
  ·cases h
 ·cases h
variable {R:Type}
def dm:Operand->Bx (Tm->Option AV)
 | .tmp t=>Tm.gB t| .const v=>⟨fun _=>some (.lit v)⟩
 | .func f=>⟨fun _=>some (.lit (.func (.func f) #[] #[]))⟩
 | .global _=>⟨fun _=>none⟩
theorem Ex (x:Operand) (tm:Tm):(dm x).get tm=cV tm x:=by cases x<;>rfl
def b1 {α β:Type} (f:α->β):Bx α->Bx β
 |⟨g⟩=>⟨f g⟩
def b2 {α β γ:Type} (f:α->β->γ):Bx α->Bx β->Bx γ
 |⟨g⟩,⟨h⟩=>⟨f g h⟩
def b3 {α β γ δ:Type} (f:α->β->γ->δ):Bx α->Bx β->Bx γ->Bx δ
 |⟨g⟩,⟨h⟩,⟨i⟩=>⟨f g h i⟩
def yw (v:Value) (f:IntKind->Int->Option R):Option R:=Value.casesOn (motive_1:=fun _=>Option R) v (fun _=>none) f (fun _ _=>none) (fun _ _ _=>none) (fun _=>none) (fun _=>none) (fun _ _ _=>none) (fun _=>none) (fun _=>none) (fun _ _ _=>none) none (fun _ _=>none) none (fun _=>none) (fun _=>none)
def Bas (v:Value) (f:Bool->Option R):Option R:=Value.casesOn (motive_1:=fun _=>Option R) v f (fun _ _=>none) (fun _ _=>none) (fun _ _ _=>none) (fun _=>none) (fun _=>none) (fun _ _ _=>none) (fun _=>none) (fun _=>none) (fun _ _ _=>none) none (fun _ _=>none) none (fun _=>none) (fun _=>none)
def CT (x:AV) (f:Value->Option R):Option R:=AV.casesOn (motive_1:=fun _=>Option R) x f (fun _ _=>none) (fun _ _ _ _ _ _=>none) (fun _=>none) (fun _=>none) (fun _ _ _=>none) (fun _=>none) (fun _ _=>none) (fun _=>none) (fun _ _ _=>none) none (fun _ _ _ _=>none)
def oK {α:Type} (x:Option α) (f:α->Option R):Option R:=Option.casesOn (motive:=fun _=>Option R) x none f
def yx (x:Option AV) (f:IntKind->Int->Option R):Option R:=oK x fun x=>CT x fun v=>yw v f
def vK (x:Option AV) (f:Bool->Option R):Option R:=oK x fun x=>CT x fun v=>Bas v f
theorem Bs {α:Type} {x:Option α} {f:α->Option R} {r:R} (h:oK x f=some r):∃a,x=some a/\f a=some r:=by
 cases x with
 |none=>cases h
 |some a=>exact⟨a,rfl,h⟩
theorem MJ {x:AV} {f:Value->Option R} {r:R} (h:CT x f=some r):∃v,x= .lit v/\f v=some r:=by
 cases x<;>first|exact⟨_,rfl,h⟩|cases h
theorem Wx {x:Option AV} {f:IntKind->Int->Option R} {r:R} (h:yx x f=some r):∃k a,x=some (.lit (.int k a))/\f k a=some r:=by
 obtain⟨a,rfl,h⟩:=Bs h;obtain⟨v,rfl,h⟩:=MJ h;cases v<;>first|exact⟨_,_,rfl,h⟩|cases h
theorem Tq {x:Option AV} {f:Bool->Option R} {r:R} (h:vK x f=some r):∃b,x=some (.lit (.bool b))/\f b=some r:=by
 obtain⟨a,rfl,h⟩:=Bs h;obtain⟨v,rfl,h⟩:=MJ h;cases v<;>first|exact⟨_,rfl,h⟩|cases h
def yy:IntKind->Nat
 | .i8=>127| .i16=>32767| .i32=>2147483647| .i64=>9223372036854775807| .u8=>255| .u16=>65535| .u32=>4294967295| .u64=>18446744073709551615
theorem wrap_small {k:IntKind} {s:Nat} (h:s<=yy k):k.wrap (Int.ofNat s)=Int.ofNat s:=by
 cases k<;>simp only [yy]at h<;>simp only [IntKind.wrap,IntKind.bits,IntKind.signed]<;>simp<;>omega
def sZ:IntKind->Nat
 | .i8=>0| .i16=>1| .i32=>2| .i64=>3| .u8=>4| .u16=>5| .u32=>6| .u64=>7
theorem Aw0 {k k':IntKind} (h:Nat.beq (sZ k) (sZ k')=true):k=k':=by
 cases k<;>cases k'<;>first|rfl|exact absurd h (by decide)
def o9 (a b:Int) (f:Nat->Nat->Option R) (s:Option R):Option R:=Int.casesOn (motive:=fun _=>Option R) a (fun m=>Int.casesOn (motive:=fun _=>Option R) b (fun n=>f m n) (fun _=>s)) (fun _=>s)
def eS (b:Bool) (x y:Option R):Option R:=Bool.casesOn (motive:=fun _=>Option R) b y x
def p_ (k:IntKind) (s:Nat) (K:AV->Option R) (rn:Option R):Option R:=fN s fun s=>eS (Nat.ble s (yy k)) (K (.lit (.int k (.ofNat s)))) rn
def rp (b:Bool) (K:AV->Option R):Option R:=eS b (K (.lit (.bool true))) (K (.lit (.bool false)))
def CU:BinOp->Option (IntKind->Int->Int->AV)
 | .add=>some fun k a b=> .lit (.int k (k.wrap (Int.add a b)))
 | .sub=>some fun k a b=> .lit (.int k (k.wrap (Int.sub a b)))
 | .mul=>some fun k a b=> .lit (.int k (k.wrap (Int.mul a b)))
 | .and=>some fun k a b=> .lit (.int k (k.wrap (BitVec.ofInt k.bits a&&&BitVec.ofInt k.bits b).toNat))
 | .or=>some fun k a b=> .lit (.int k (k.wrap (BitVec.ofInt k.bits a|||BitVec.ofInt k.bits b).toNat))
 | .xor=>some fun k a b=> .lit (.int k (k.wrap (BitVec.ofInt k.bits a^^^BitVec.ofInt k.bits b).toNat))
 | .eql=>some fun _ a b=> .lit (.bool (a==b))
 | .neq=>some fun _ a b=> .lit (.bool (a !=b))
 | .lss=>some fun _ a b=> .lit (.bool (decide (a<b)))
 | .leq=>some fun _ a b=> .lit (.bool (decide (a<=b)))
 | .gtr=>some fun _ a b=> .lit (.bool (decide (a>b)))
 | .geq=>some fun _ a b=> .lit (.bool (decide (a>=b)))
 |_=>none
theorem Aw1 {op:BinOp} {f:IntKind->Int->Int->AV} (h:CU op=some f) {P:Program} {t:TypeId} {k:IntKind} {a b:Int} :∃v,f k a b= .lit v/\∀w,(binOp op t (.int k a) (.int k b)).run P w= .ok v w:=by
 unfold CU at h;split at h<;>first|cases h;exact⟨_,rfl,fun w=>by simp [binOp,Op.intArith,Op.intBits,Op.intCmp]<;>rfl⟩|cases h
abbrev vL (R:Type):Type:=IntKind->Int->Int->(AV->Option R)->Option R
def Jn (f:IntKind->Int->Int->AV):vL R:=fun k a b K=>fA (f k a b) K
def yz:BinOp->Option (Bx (vL R))
 | .add=>some ⟨fun k a b K=>o9 a b (fun m n=>p_ k (Nat.add m n) K (Jn (fun k a b=> .lit (.int k (k.wrap (Int.add a b)))) k a b K)) (Jn (fun k a b=> .lit (.int k (k.wrap (Int.add a b)))) k a b K)⟩
 | .sub=>some ⟨fun k a b K=>o9 a b (fun m n=>eS (Nat.ble n m) (p_ k (Nat.sub m n) K (Jn (fun k a b=> .lit (.int k (k.wrap (Int.sub a b)))) k a b K)) (Jn (fun k a b=> .lit (.int k (k.wrap (Int.sub a b)))) k a b K)) (Jn (fun k a b=> .lit (.int k (k.wrap (Int.sub a b)))) k a b K)⟩
 | .mul=>some ⟨fun k a b K=>o9 a b (fun m n=>p_ k (Nat.mul m n) K (Jn (fun k a b=> .lit (.int k (k.wrap (Int.mul a b)))) k a b K)) (Jn (fun k a b=> .lit (.int k (k.wrap (Int.mul a b)))) k a b K)⟩
 | .and=>some ⟨Jn fun k a b=> .lit (.int k (k.wrap (BitVec.ofInt k.bits a&&&BitVec.ofInt k.bits b).toNat))⟩
 | .or=>some ⟨Jn fun k a b=> .lit (.int k (k.wrap (BitVec.ofInt k.bits a|||BitVec.ofInt k.bits b).toNat))⟩
 | .xor=>some ⟨Jn fun k a b=> .lit (.int k (k.wrap (BitVec.ofInt k.bits a^^^BitVec.ofInt k.bits b).toNat))⟩
 | .eql=>some ⟨fun k a b K=>o9 a b (fun m n=>rp (Nat.beq m n) K) (Jn (fun _ a b=> .lit (.bool (a==b))) k a b K)⟩
 | .neq=>some ⟨fun k a b K=>o9 a b (fun m n=>eS (Nat.beq m n) (K (.lit (.bool false))) (K (.lit (.bool true)))) (Jn (fun _ a b=> .lit (.bool (a !=b))) k a b K)⟩
 | .lss=>some ⟨fun k a b K=>o9 a b (fun m n=>eS (Nat.ble n m) (K (.lit (.bool false))) (K (.lit (.bool true)))) (Jn (fun _ a b=> .lit (.bool (decide (a<b)))) k a b K)⟩
 | .leq=>some ⟨fun k a b K=>o9 a b (fun m n=>rp (Nat.ble m n) K) (Jn (fun _ a b=> .lit (.bool (decide (a<=b)))) k a b K)⟩
 | .gtr=>some ⟨fun k a b K=>o9 a b (fun m n=>eS (Nat.ble m n) (K (.lit (.bool false))) (K (.lit (.bool true)))) (Jn (fun _ a b=> .lit (.bool (decide (a>b)))) k a b K)⟩
 | .geq=>some ⟨fun k a b K=>o9 a b (fun m n=>rp (Nat.ble n m) K) (Jn (fun _ a b=> .lit (.bool (decide (a>=b)))) k a b K)⟩
 |_=>none
theorem Att (f:IntKind->Int->Int->AV) (k:IntKind) (a b:Int) (K:AV->Option R):Jn f k a b K=K (f k a b):=Qu _ _
theorem Azi (k:IntKind) (s:Nat) (K:AV->Option R):p_ k s K (K (.lit (.int k (k.wrap (Int.ofNat s)))))=K (.lit (.int k (k.wrap (Int.ofNat s)))):=by
 unfold p_;rw [Ez];cases h:Nat.ble s (yy k)with
 |false=>rfl
 |true=>rw [wrap_small (le_of_ble_eq_true h)];rfl
theorem CV {k:IntKind} {s:Nat} {z:Int} (hz:z=Int.ofNat s) (K:AV->Option R):p_ k s K (K (.lit (.int k (k.wrap z))))=K (.lit (.int k (k.wrap z))):=by subst hz;exact Azi k s K
theorem CW (b:Bool) (K:AV->Option R):rp b K=K (.lit (.bool b)):=by cases b<;>rfl
theorem U6 (b:Bool) (K:AV->Option R):eS b (K (.lit (.bool false))) (K (.lit (.bool true)))=K (.lit (.bool !b)):=by cases b<;>rfl
theorem q1 (m n:Nat):(Int.ofNat m==Int.ofNat n)=Nat.beq m n:=by
 rw [Bool.eq_iff_iff,beq_iff_eq,Nat.beq_eq];exact⟨fun h=>Int.ofNat.inj h,fun h=>congrArg _ h⟩
theorem q2 (m n:Nat):(Int.ofNat m !=Int.ofNat n)= !Nat.beq m n:=by rw [bne,q1]
theorem q3 (m n:Nat):decide (Int.ofNat m<Int.ofNat n)= !Nat.ble n m:=by
 rw [Bool.eq_iff_iff,decide_eq_true_iff,Bool.not_eq_true',←Bool.not_eq_true,Nat.ble_eq];simp only [Int.ofNat_eq_natCast];omega
theorem q4 (m n:Nat):decide (Int.ofNat m<=Int.ofNat n)=Nat.ble m n:=by
 rw [Bool.eq_iff_iff,decide_eq_true_iff,Nat.ble_eq];simp only [Int.ofNat_eq_natCast];omega
theorem Aw3 {op:BinOp} {q:Bx (vL R)} (h:yz op=some q):∃f,CU op=some f/\∀k a b K,q.get k a b K=K (f k a b):=by
 unfold yz at h;split at h<;>first|(cases h;refine⟨_,rfl,fun k a b K=> ?_⟩;simp only [Att])|cases h
 ·cases a<;>cases b<;>first|rfl|(show p_ _ _ _ _=_;exact CV rfl K)
 ·cases a<;>cases b<;>first|rfl|skip
  rename_i m n;show eS _ _ _=_
  cases hb:Nat.ble n m with
  |false=>rfl
  |true=>exact CV (by have:=le_of_ble_eq_true hb;show((m:Int)-(n:Int))=((m-n:Nat):Int);omega) K
 ·cases a<;>cases b<;>first|rfl|(show p_ _ _ _ _=_;exact CV rfl K)
 all_goals
  cases a<;>cases b<;>first|rfl|skip
  rename_i m n
  first
   |(show rp _ _=_;rw [CW,q1])
   |(show eS _ (K _) (K _)=_;rw [U6,q2])
   |(show eS _ (K _) (K _)=_;rw [U6,q3])
   |(show rp _ _=_;rw [CW,q4])
   |(show eS _ (K _) (K _)=_;rw [U6,gt_iff_lt,q3])
   |(show rp _ _=_;rw [CW];show _=K (AV.lit (.bool (decide (Int.ofNat n<=Int.ofNat m))));rw [q4])
   |(show eS _ (K _) (K _)=_;rw [U6];show _=K (AV.lit (.bool (decide (Int.ofNat n<Int.ofNat m))));rw [q3])
def yA:BinOp->Option (IntKind->Int->Int->AV)
 | .shl=>some fun k a b=> .lit (.int k (k.wrap (a*2^(min b.toNat k.bits))))
 | .shr=>some fun k a b=> .lit (.int k (a.fdiv (2^(min b.toNat k.bits))))
 |_=>none
theorem Azj {op:BinOp} {f:IntKind->Int->Int->AV} (h:yA op=some f) {P:Program} {t:TypeId} {k k':IntKind} {a b:Int} (hb:¬b<0):∃v,f k a b= .lit v/\∀w,(binOp op t (.int k a) (.int k' b)).run P w= .ok v w:=by
 unfold yA at h;split at h<;>first|cases h;exact⟨_,rfl,fun w=>by simp [binOp,Op.shift,hb]⟩|cases h
abbrev iE (R:Type):Type:=Tm->(AV->Option R)->Option R
def N0 (P:Program) (o:Oper) (f:iE R):Prop:=∀tm K r,f tm K=some r->∃av,K av=some r/\Ny P tm o av
theorem N0.of {P:Program} {o:Oper} {f:iE R} (h:∀tm K r,f tm K=some r->∃av,J8 P tm o=some av/\K av=some r):N0 P o f:=fun tm K r hr=>by
 obtain⟨av,h1,h2⟩:=h tm K r hr;exact⟨av,h2,Qx h1⟩
theorem MK {P:Program} {o:Oper} {op:BinOp} {t t':TypeId} {x y:Operand} (ho:o.op= .binOp op t x y t') {tm:Tm} {k k':IntKind} {a b:Int} {v:Value} (hx:cV tm x=some (.lit (.int k a))) (hy:cV tm y=some (.lit (.int k' b))) (hv:∀w,(binOp op t (.int k a) (.int k' b)).run P w= .ok v w):Ny P tm o (.lit v):=by
 intro e ac ht;have rx:=ht x (by simp [ho,Op.operands]) _ hx;have ry:=ht y (by simp [ho,Op.operands]) _ hy;simp only [AV.rep]at rx ry;refine⟨v,by simp only [AV.rep],fun w=> ?_⟩;have hg:(eqGuard op t x y (.int k a) (.int k' b)).run P w= .ok () w:=by
  cases op<;>rfl
 simp only [execOp,ho,rx,ry,Sem.run_bind,hg,hv w,Result.andThen_ok,Sem.run_pure]
def U7 (P:Program) (o:Oper):iE R:=fun tm K=>match J8 P tm o with
 |some av=>fA av K|none=>none
theorem Ts {P:Program} {o:Oper} {tm:Tm} {K:AV->Option R} {r:R} (h:U7 P o tm K=some r):∃av,J8 P tm o=some av/\K av=some r:=by
 unfold U7 at h;split at h
 ·rename_i av fh;rw [Qu]at h;exact⟨av,fh,h⟩
 ·cases h
def CX (x:AV) (f:Value->Option R) (s:Option R):Option R:=AV.casesOn (motive_1:=fun _=>Option R) x f (fun _ _=>none) (fun _ _ _ _ _ _=>none) (fun _=>none) (fun _=>none) (fun _ _ _=>none) (fun _=>none) (fun _ _=>none) (fun _=>none) (fun _ _ _=>s) none (fun _ _ _ _=>s)
theorem ML {x:AV} {f:Value->Option R} {s:Option R} {r:R} (h:CX x f s=some r):(∃v,x= .lit v/\f v=some r)\/s=some r:=by
 cases x<;>first|exact .inl ⟨_,rfl,h⟩|exact .inr h|cases h
theorem MM {v:Value} {f:IntKind->Int->Option R} {r:R} (h:yw v f=some r):∃k a,v= .int k a/\f k a=some r:=by
 cases v<;>first|exact⟨_,_,rfl,h⟩|cases h
def MN (f:vL R) (s:iE R) (gx gy:Tm->Option AV):iE R:=fun tm K=>oK (gx tm) fun x=>CX x (fun u=>yw u fun k a=>oK (gy tm) fun y=>CX y (fun v=>yw v fun k' b=>eS (Nat.beq (sZ k) (sZ k')) (f k a b K) none) (s tm K)) (s tm K)
theorem Aw4 {P:Program} {o:Oper} {op:BinOp} {t t':TypeId} {x y:Operand} (ho:o.op= .binOp op t x y t') {q:Bx (vL R)} (hq:yz op=some q):N0 P o (MN q.get (U7 P o) (dm x).get (dm y).get):=by
 intro tm K r h;have rn:U7 P o tm K=some r->∃av,K av=some r/\Ny P tm o av:=fun h=>by
  obtain⟨av,h1,h2⟩:=Ts h;exact⟨av,h2,Qx h1⟩
 obtain⟨x',hx,h⟩:=Bs h;rcases ML h with⟨u,rfl,h⟩|h
 case inr=>exact rn h
 obtain⟨k,a,rfl,h⟩:=MM h;obtain⟨y',hy,h⟩:=Bs h;rcases ML h with⟨v,rfl,h⟩|h
 case inr=>exact rn h
 obtain⟨k',b,rfl,h9⟩:=MM h;cases hk:Nat.beq (sZ k) (sZ k')with
 |false=>rw [hk]at h9;cases h9
 |true=>
  rw [hk]at h9;have hk:=Aw0 hk;subst hk;obtain⟨f,hf,hK⟩:=Aw3 hq;change q.get k a b K=some r at h9;rw [hK]at h9;refine⟨_,h9,?_⟩;rw [Ex]at hx hy;obtain⟨v,hv,hr⟩:=Aw1 hf (P:=P) (t:=t) (k:=k) (a:=a) (b:=b);rw [hv];exact MK ho hx hy hr
def MO (f:IntKind->Int->Int->AV) (gx gy:Tm->Option AV):iE R:=fun tm K=>yx (gx tm) fun k a=>yx (gy tm) fun _ b=>cond (decide (b<0)) none (fA (f k a b) K)
theorem Azk {P:Program} {o:Oper} {op:BinOp} {t t':TypeId} {x y:Operand} (ho:o.op= .binOp op t x y t') {f:IntKind->Int->Int->AV} (hq:yA op=some f):N0 P o (MO (R:=R) f (dm x).get (dm y).get):=by
 intro tm K r h;obtain⟨k,a,hx,h⟩:=Wx h;obtain⟨k',b,hy,h⟩:=Wx h;rw [Ex]at hx hy;cases hk:decide (b<0)with
 |true=>rw [hk]at h;cases h
 |false=>
  rw [hk]at h;simp only [cond_false,Qu]at h;obtain⟨v,e1,e2⟩:=Azj hq (P:=P) (t:=t) (k:=k) (k':=k') (a:=a) (of_decide_eq_false hk);refine⟨_,h,?_⟩;rw [e1];exact MK ho hx hy e2
def CY (gx:Tm->Option AV):iE R:=fun tm K=>oK (gx tm) K
def MP (gc gx gy:Tm->Option AV):iE R:=fun tm K=>vK (gc tm) fun b=>eS b (oK (gx tm) K) (oK (gy tm) K)
theorem MQ {P:Program} {o:Oper} {x:Operand} (ho:o.op= .move x\/o.op= .assign x):N0 P o (CY (R:=R) (dm x).get):=N0.of fun tm K r h=>by
 obtain⟨a,hx,h⟩:=Bs h;rw [Ex]at hx;refine⟨a,?_,h⟩;rcases ho with ho|ho<;>(unfold J8;rw [ho];exact hx)
theorem Atw {P:Program} {o:Oper} {c x y:Operand} (ho:o.op= .pick c x y):N0 P o (MP (R:=R) (dm c).get (dm x).get (dm y).get):=N0.of fun tm K r h=>by
 obtain⟨b,hx,h⟩:=Tq h;rw [Ex]at hx;unfold J8;rw [ho];cases b with
 |true=>
  obtain⟨a,h1,h2⟩:=Bs (show oK _ K=some r from h);rw [Ex]at h1;exact⟨a,by simp only [hx,cond_true,h1],h2⟩
 |false=>
  obtain⟨a,h1,h2⟩:=Bs (show oK _ K=some r from h);rw [Ex]at h1;exact⟨a,by simp only [hx,cond_false,h1],h2⟩
def MR (gx:Tm->Option AV):iE R:=fun tm K=>vK (gx tm) fun b=>eS b (K (.lit (.bool false))) (K (.lit (.bool true)))
theorem Aw5 {P:Program} {o:Oper} {t:TypeId} {x:Operand} (ho:o.op= .unOp .not t x):N0 P o (MR (R:=R) (dm x).get):=by
 intro tm K r h;obtain⟨b,hx,h⟩:=Tq h;rw [Ex]at hx;rw [U6]at h;refine⟨_,h,fun e a ht=> ?_⟩;have rx:=ht x (by simp [ho,Op.operands]) _ hx;simp only [AV.rep]at rx;exact⟨.bool !b,by simp only [AV.rep],fun w=>by simp only [execOp,ho,rx];rfl⟩
def Bb5 (x:AV) (f:Nat->Nat->Option R):Option R:=AV.casesOn (motive_1:=fun _=>Option R) x (fun _=>none) f (fun _ _ _ _ _ _=>none) (fun _=>none) (fun _=>none) (fun _ _ _=>none) (fun _=>none) (fun _ _=>none) (fun _=>none) (fun _ _ _=>none) none (fun _ _ _ _=>none)
def s0 (x:Option AV) (f:Nat->Nat->Option R):Option R:=oK x fun x=>Bb5 x f
theorem Rq {x:Option AV} {f:Nat->Nat->Option R} {r:R} (h:s0 x f=some r):∃b k,x=some (.ptr b k)/\f b k=some r:=by
 obtain⟨a,rfl,h⟩:=Bs h;cases a<;>first|exact⟨_,_,rfl,h⟩|cases h
def Bb6 (x:AV) (f:Nat->Nat->Nat->Nat->Nat->Bool->Option R) (s:Option R):Option R:=AV.casesOn (motive_1:=fun _=>Option R) x (fun _=>s) (fun _ _=>none) f (fun _=>none) (fun _=>none) (fun _ _ _=>none) (fun _=>none) (fun _ _=>none) (fun _=>none) (fun _ _ _=>none) none (fun _ _ _ _=>none)
def CZ (x:Option AV) (f:Nat->Nat->Nat->Nat->Nat->Bool->Option R) (s:Option R):Option R:=oK x fun x=>Bb6 x f s
theorem MU {x:Option AV} {f:Nat->Nat->Nat->Nat->Nat->Bool->Option R} {s:Option R} {r:R} (h:CZ x f s=some r):(∃b k n sz c ex,x=some (.slice b k n sz c ex)/\f b k n sz c ex=some r)\/(∃v,x=some (.lit v))/\s=some r:=by
 obtain⟨a,rfl,h⟩:=Bs h;cases a<;>first|exact .inl ⟨_,_,_,_,_,_,rfl,h⟩|exact .inr ⟨⟨_,rfl⟩,h⟩|cases h
def MV (x:Option AV) (f:Nat->Option R):Option R:=yx x fun _ a=>Int.casesOn (motive:=fun _=>Option R) a f (fun _=>none)
theorem Ar1 {x:Option AV} {f:Nat->Option R} {r:R} (h:MV x f=some r):∃k i,x=some (.lit (.int k (Int.ofNat i)))/\f i=some r:=by
 obtain⟨k,a,rfl,h⟩:=Wx h;cases a<;>first|exact⟨_,_,rfl,h⟩|cases h
def C_ (P:Program) (t:TypeId) (f:Nat):Option Nat:=match P.underlying t with
 |some (.struct fs)=>match fs[f]? with
  |some kg=>match P.info? kg.type with
   |some i=>cond (Nat.beq i.size 0) none (some kg.offset)|none=>none
  |none=>none
 |_=>none
def MW (off:Nat) (gx:Tm->Option AV):iE R:=fun tm K=>s0 (gx tm) fun b k=>fN (Nat.add k off) fun k=>K (.ptr b k)
theorem Ar2 {P:Program} {o:Oper} {t:TypeId} {x:Operand} {f off:Nat} (ho:o.op= .fieldAddr t x f) (hf:C_ P t f=some off):N0 P o (MW (R:=R) off (dm x).get):=N0.of fun tm K r h=>by
 obtain⟨b,k,hx,h⟩:=Rq h;rw [Ex]at hx;rw [Ez]at h;refine⟨_,?_,h⟩;unfold C_ at hf;unfold J8;rw [ho];split at hf
 case h_2=>cases hf
 rename_i fs hu;split at hf
 case h_2=>cases hf
 rename_i kg dp;split at hf
 case h_2=>cases hf
 rename_i i hi;cases hz:Nat.beq i.size 0 with
 |true=>rw [hz]at hf;cases hf
 |false=>
  rw [hz]at hf;cases hf;simp only [hx,hu,dp,hi,hz,cond_false];rfl
def DA (P:Program) (t:TypeId):Option Nat:=match P.underlying t with
 |some (.slice e)=>match P.info? e with
  |some inf=>some inf.size|none=>none
 |_=>none
def MX (size:Nat) (gx gi:Tm->Option AV):iE R:=fun tm K=>MV (gi tm) fun i=>CZ (gx tm) (fun b k len sz _ _=>eS (Nat.ble (Nat.succ i) len) (eS (Nat.beq size sz) (fN (Nat.add k (Nat.mul i sz)) fun k=>K (.ptr b k)) none) none) none
theorem Ar3 {P:Program} {o:Oper} {t:TypeId} {x i:Operand} {size:Nat} (ho:o.op= .indexAddr t x i) (hf:DA P t=some size):N0 P o (MX (R:=R) size (dm x).get (dm i).get):=N0.of fun tm K r h=>by
 obtain⟨ki,i,hi,h⟩:=Ar1 h;rcases MU h with⟨b,k,len,sz,c,ex,hx,h⟩|⟨_,h⟩
 case inr=>cases h
 rw [Ex]at hx hi;unfold DA at hf;unfold J8;rw [ho];split at hf
 case h_2=>cases hf
 rename_i e hu;split at hf
 case h_2=>cases hf
 rename_i inf tP;cases hf
 cases h1:Nat.ble (Nat.succ i) len with
 |false=>rw [h1]at h;cases h
 |true=>
  rw [h1]at h;change eS (Nat.beq inf.size sz) _ none=some r at h;cases h2:Nat.beq inf.size sz with
  |false=>rw [h2]at h;cases h
  |true=>
   rw [h2]at h;change fN _ _=some r at h;rw [Ez]at h;refine⟨_,?_,h⟩;have aP:=le_of_ble_eq_true h1;have c1:decide ((0:Int)<=Int.ofNat i)=true:=by simp
   have c2:decide (Int.ofNat i<(len:Int))=true:=by simp;omega
   simp only [U2,hi,hx,hu,tP,c1,c2,h2,Bool.and_true,cond_true];rfl
def MY (s:iE R) (gx:Tm->Option AV):iE R:=fun tm K=>CZ (gx tm) (fun _ _ n _ _ _=>K (.lit (.int .i64 (.ofNat n)))) (s tm K)
theorem Aw6 {P:Program} {o:Oper} {x:Operand} {t e:TypeId} (ho:o.op= .call { callee:= .builtin .len,args:=⟨[x]⟩,argTypes:=⟨[t]⟩ }) (ht:P.underlying t=some (.slice e)):N0 P o (MY (R:=R) (U7 P o) (dm x).get):=N0.of fun tm K r h=>by
 rcases MU h with⟨b,k,len,sz,c,ex,hx,h⟩|⟨_,h⟩
 case inr=>exact Ts h
 rw [Ex]at hx;refine⟨_,?_,h⟩;unfold J8;rw [ho];simp only [hx,ht];rfl
def s_:Nat->Bx (List AV->Option AV)
 |0=>⟨fun l=>List.casesOn (motive:=fun _=>Option AV) l none (fun a _=>some a)⟩
 |i+1=>match s_ i with
  |⟨g⟩=>⟨fun l=>List.casesOn (motive:=fun _=>Option AV) l none (fun _ l=>g l)⟩
theorem Zv:∀(i:Nat) (l:List AV),(s_ i).get l=l[i]?
 |0,[]=>rfl
 |0,_::_=>rfl
 |i+1,[]=>rfl
 |i+1,a::l=>by rw [List.getElem?_cons_succ,←Zv i l];rfl
def Bb7 (x:AV) (f:List AV->Option R) (s:Option R):Option R:=AV.casesOn (motive_1:=fun _=>Option R) x (fun _=>s) (fun _ _=>none) (fun _ _ _ _ _ _=>none) (fun _=>none) f (fun _ _ _=>none) (fun _=>none) (fun _ _=>none) (fun _=>none) (fun _ _ _=>none) none (fun _ _ _ _=>none)
def MZ (s:iE R) (g:List AV->Option AV) (gx:Tm->Option AV):iE R:=fun tm K=>oK (gx tm) fun x=>Bb7 x (fun l=>oK (g l) K) (s tm K)
theorem Aw7 {P:Program} {o:Oper} {x:Operand} {i:Nat} (ho:o.op= .extract x i):N0 P o (MZ (R:=R) (U7 P o) (s_ i).get (dm x).get):=N0.of fun tm K r h=>by
 obtain⟨a,hx,h⟩:=Bs h;rw [Ex]at hx;cases a with
 |tuple l=>
  obtain⟨a,h1,h2⟩:=Bs (show oK _ K=some r from h);rw [Zv]at h1;refine⟨a,?_,h2⟩;unfold J8;rw [ho];simp only [hx,h1]
 |lit v=>exact Ts h
 |_=>cases h
def v1 (v:Value):Bool:=Value.casesOn (motive_1:=fun _=>Bool) v (fun _=>true) (fun _ _=>true) (fun _ _=>true) (fun _ _ _=>false) (fun _=>true) (fun _=>true) (fun _ _ _=>true) (fun _=>true) (fun _=>true) (fun _ _ _=>true) true (fun _ _=>true) true (fun _=>false) (fun _=>false)
def a1 (x:AV):Bool:=AV.casesOn (motive_1:=fun _=>Bool) x v1 (fun _ _=>true) (fun _ _ _ _ _ _=>true) (fun _=>false) (fun _=>false) (fun _ _ _=>true) (fun _=>true) (fun _ _=>true) (fun _=>true) (fun _ _ _=>true) true (fun _ _ _ _=>true)
theorem DB {x:AV} (h:a1 x=true):x.one=true/\x.cells=[x]:=by
 cases x with
 |lit v=>cases v<;>first|exact⟨rfl,rfl⟩|cases h
 |agg l=>cases h
 |tuple l=>cases h
 |_=>exact⟨rfl,rfl⟩
theorem Zw:∀(cs pre z:List AV),cs.length<=z.length->Uz (pre++z) pre.length cs=pre++(cs++z.drop cs.length)
 |[],pre,z,_=>by simp [Uz]
 |c::cs,pre,[],h=>by simp at h
 |c::cs,pre,x::z,h=>by
  have:=Zw cs (pre++[c]) z (by simpa using h);simp only [Uz];have e:(pre++x::z).set pre.length c=(pre++[c])++z:=by simp
  rw [e];have e2:pre.length+1=(pre++[c]).length:=by simp
  rw [e2,this];simp
def U8:List AV->List (Nat×Nat×AV)->Option (List AV)
 |l,[]=>some l|l,(off,size,a)::r=>cond (Nat.beq a.cells.length size&&Nat.ble (off+size) l.length) (U8 (Uz l off a.cells) r) none
def qa (tm:Tm):List (Nat×Nat×Operand)->Option (List (Nat×Nat×AV))
 |[]=>some []|(off,size,x)::l=>match cV tm x with
  |some a=>match qa tm l with
   |some r=>some ((off,size,a)::r)|none=>none
  |none=>none
def ta (place:Nat->Option (Nat×Nat)):List (Nat×Operand)->Option (List (Nat×Nat×Operand))
 |[]=>some []|(i,x)::l=>match place i with
  |some (off,size)=>match ta place l with
   |some r=>some ((off,size,x)::r)|none=>none
  |none=>none
theorem Tt {place:Nat->Option (Nat×Nat)} {tm:Tm} :∀ {ps:List (Nat×Operand)} {qs:List (Nat×Nat×Operand)} {vs:List (Nat×Nat×AV)},ta place ps=some qs->qa tm qs=some vs->∃az,pT tm ps=some az/\∀l,Pg place l az=U8 l vs
 |[],qs,vs,h,he=>by
  simp only [ta]at h;cases h;simp only [qa]at he;cases he;exact⟨[],rfl,fun l=>rfl⟩
 |(i,x)::ps,qs,vs,h,he=>by
  simp only [ta]at h;split at h
  case h_2=>cases h
  rename_i off size hp;split at h
  case h_2=>cases h
  rename_i qs' hq;cases h
  simp only [qa]at he;split at he
  case h_2=>cases he
  rename_i a ha;split at he
  case h_2=>cases he
  rename_i vs' hv;cases he
  obtain⟨az,h1,h2⟩:=Tt hq hv;refine⟨(i,a)::az,by simp only [pT,ha,h1],fun l=> ?_⟩;simp only [Pg,U8,hp,h2]
def Wy (x:AV) (f:List AV->Option R):Option R:=AV.casesOn (motive_1:=fun _=>Option R) x (fun v=>f (AV.cells (.lit v))) (fun _ _=>none) (fun _ _ _ _ _ _=>none) f (fun _=>none) (fun _ _ _=>none) (fun _=>none) (fun _ _=>none) (fun _=>none) (fun _ _ _=>none) none (fun _ _ _ _=>none)
theorem Xz {x:AV} {f:List AV->Option R} {r:R} (h:Wy x f=some r):f x.cells=some r:=by
 cases x<;>first|exact h|cases h
def qb:Nat->Bx (List AV->List AV->(List AV->Option R)->Option R)
 |0=>⟨fun cs l K=>List.casesOn (motive:=fun _=>Option R) cs (K l) (fun _ _=>none)⟩
 |s+1=>match qb s with
  |⟨g⟩=>⟨fun cs l K=>List.casesOn (motive:=fun _=>Option R) cs none (fun a cs=>g cs l fun r=>K (a::r))⟩
theorem M_ {l:List AV} {r:R} :∀(s:Nat) {cs:List AV} {K:List AV->Option R},(qb s).get cs l K=some r->cs.length=s/\K (cs++l)=some r:=by
 intro s
 induction s with
 |zero=>
  intro cs K h;cases cs with
  |nil=>exact⟨rfl,h⟩
  |cons a cs=>cases h
 |succ s ih=>
  intro cs K h;cases cs with
  |nil=>cases h
  |cons a cs=>
   obtain⟨h1,h2⟩:=ih (show(qb s).get cs l (fun r=>K (a::r))=some r from h);exact⟨by simp [h1],h2⟩
abbrev qc (R:Type):Type:=Tm->(List AV->Option R)->Option R
def Baz (x:AV) (g:qc R):qc R:=fun tm K=>g tm fun l=>K (x::l)
def NA (gx:Tm->Option AV) (p:List AV->List AV->(List AV->Option R)->Option R) (g:qc R):qc R:=fun tm K=>oK (gx tm) fun a=>eS (a1 a) (g tm fun l=>K (a::l)) (Wy a fun cs=>g tm fun l=>p cs l K)
def Ba1 (gx:Tm->Option AV) (p:List AV->List AV->(List AV->Option R)->Option R) (g:qc R):qc R:=fun tm K=>oK (gx tm) fun a=>Wy a fun cs=>g tm fun l=>p cs l K
def Q2:List AV->Nat->Nat->List (Nat×Nat×Operand)->Bx (qc R)
 |[],_,0,[]=>⟨fun _ K=>K []⟩
 |[],_,_,_=>⟨fun _ _=>none⟩
 |_::z,pos,k+1,qs=>Q2 z (pos+1) k qs|x::z,_,0,[]=>⟨fun _ K=>K (x::z)⟩
 |x::z,pos,0,(off,size,y)::qs=>cond (Nat.beq pos off)
  (match size with
   |0=>⟨fun _ _=>none⟩
   |1=>b3 NA (dm y) (qb 1) (Q2 z (pos+1) 0 qs)|s+2=>b3 Ba1 (dm y) (qb (s+2)) (Q2 z (pos+1) (s+1) qs))
  (b1 (Baz x) (Q2 z (pos+1) 0 ((off,size,y)::qs)))
theorem Ar5 {tm:Tm} {r:R} :∀(z:List AV) (pos k:Nat) (qs:List (Nat×Nat×Operand)) {K:List AV->Option R},(Q2 z pos k qs).get tm K=some r->∃vs out,qa tm qs=some vs/\K out=some r/\k<=z.length/\∀pre:List AV,pre.length=pos+k->U8 (pre++z.drop k) vs=some (pre++out):=by
 intro z
 induction z with
 |nil=>
  intro pos k qs K h;cases k with
  |succ k=>simp only [Q2]at h;cases h
  |zero=>
   cases qs with
   |nil=>exact⟨[],[],rfl,h,le_refl _,fun pre _=>by simp [U8]⟩
   |cons q qs=>simp only [Q2]at h;cases h
 |cons x z ih=>
  intro pos k qs K h;cases k with
  |succ k=>
   simp only [Q2]at h;obtain⟨vs,out,h1,h2,h3,h4⟩:=ih _ _ _ h;exact⟨vs,out,h1,h2,by simp only [length_cons];omega,fun pre hp=>by simpa using h4 pre (by omega)⟩
  |zero=>
   cases qs with
   |nil=>exact⟨[],x::z,rfl,h,zero_le _,fun pre _=>by simp [U8]⟩
   |cons q qs=>
    obtain⟨off,size,y⟩:=q;simp only [Q2]at h;cases hp:Nat.beq pos off with
    |false=>
     rw [hp]at h;obtain⟨vs,out,h1,h2,h3,h4⟩:=ih _ _ _ (show(Q2 z (pos+1) 0 ((off,size,y)::qs)).get tm (fun l=>K (x::l))=some r from h);exact⟨vs,x::out,h1,h2,zero_le _,fun pre fU=>by simpa using h4 (pre++[x]) (by simp;omega)⟩
    |true=>
     rw [hp]at h;have hp:=eq_of_beq_eq_true hp;subst hp;simp only [cond_true]at h;split at h
     ·cases h
     ·obtain⟨a,g1,g2⟩:=Bs (show oK ((dm y).get tm) (fun a=>eS (a1 a) ((Q2 z (pos+1) 0 qs).get tm fun l=>K (a::l)) (Wy a fun cs=>(Q2 z (pos+1) 0 qs).get tm fun l=>(qb 1).get cs l K))=some r from h);rw [Ex]at g1;cases ha:a1 a with
      |false=>
       rw [ha]at g2;have g2:=Xz (show Wy a (fun cs=>(Q2 z (pos+1) 0 qs).get tm fun l=>(qb 1).get cs l K)=some r from g2);obtain⟨vs,out,h1,h2,h3,h4⟩:=ih _ _ _ g2;obtain⟨e1,e2⟩:=M_ _ h2;refine⟨(pos,1,a)::vs,a.cells++out,by simp only [qa,g1,h1],e2,zero_le _,fun pre fU=> ?_⟩;have hb:Nat.ble (pos+1) (pre++x::z).length=true:=Nat.ble_eq_true_of_le (by simp;omega);have hq:Nat.beq a.cells.length 1=true:=by rw [e1];exact Nat.beq_refl _
       have hs:=Zw a.cells pre (x::z) (by rw [e1];simp);have iq:pos=pre.length:=by omega
       simp only [U8,drop_zero,hb,hq,Bool.and_self,cond_true];rw [←iq]at hs;rw [hs];have:=h4 (pre++a.cells) (by simp [e1];omega);rw [e1];simpa [List.append_assoc] using this
      |true=>
       rw [ha]at g2;obtain⟨_,hc⟩:=DB ha;obtain⟨vs,out,h1,h2,h3,h4⟩:=ih _ _ _ (show(Q2 z (pos+1) 0 qs).get tm (fun l=>K (a::l))=some r from g2);refine⟨(pos,1,a)::vs,a::out,by simp only [qa,g1,h1],h2,zero_le _,fun pre fU=> ?_⟩;have hb:Nat.ble (pos+1) (pre++x::z).length=true:=Nat.ble_eq_true_of_le (by simp;omega);have hs:=Zw [a] pre (x::z) (by simp);have iq:pos=pre.length:=by omega
       simp only [U8,hc,drop_zero,length_cons,List.length_nil,hb];rw [←iq]at hs;rw [hs];have:=h4 (pre++[a]) (by simp;omega);simpa using this
     ·rename_i s;obtain⟨a,g1,g2⟩:=Bs (show oK ((dm y).get tm) (fun a=>Wy a fun cs=>(Q2 z (pos+1) (s+1) qs).get tm fun l=>(qb (s+2)).get cs l K)=some r from h);rw [Ex]at g1;have g2:=Xz g2;obtain⟨vs,out,h1,h2,h3,h4⟩:=ih _ _ _ g2;obtain⟨e1,e2⟩:=M_ _ h2;refine⟨(pos,s+2,a)::vs,a.cells++out,by simp only [qa,g1,h1],e2,zero_le _,fun pre fU=> ?_⟩;have hb:Nat.ble (pos+(s+2)) (pre++x::z).length=true:=Nat.ble_eq_true_of_le (by simp;omega);have hq:Nat.beq a.cells.length (s+2)=true:=by rw [e1];exact Nat.beq_refl _
      have hs:=Zw a.cells pre (x::z) (by rw [e1];simp;omega);have iq:pos=pre.length:=by omega
      simp only [U8,drop_zero,hb,hq,Bool.and_self,cond_true];rw [←iq]at hs;rw [hs];have:=h4 (pre++a.cells) (by simp [e1];omega);rw [e1];simpa [List.append_assoc] using this
def Azm (g:qc R):iE R:=fun tm K=>g tm fun l=>K (.agg l)
def NB (P:Program) (t:TypeId) (ps:List (Nat×Operand)):Option (List (Nat×Nat×Operand)):=match P.underlying t with
 |some (.struct fs)=>match Wt P fs.toList with
  |some l=>ta (l[·]?) ps|none=>none
 |some (.array _ e)=>match P.info? e with
  |some i=>ta (fun k=>some (k*i.size,i.size)) ps
  |none=>none
 |_=>none
def DD:Nat->List (Nat×Nat×Operand)->Bool
 |_,[]=>true|pos,(off,size,_)::l=>cond (Nat.ble pos off) (DD (Nat.add off size) l) false
def DE (P:Program) (t:TypeId) (ps:List (Nat×Operand)):Option (Bx (iE R)):=match Lb P t,NB P t ps with
 |some z,some qs=>cond (DD 0 qs) (match nY z some with
  |some z=>some (b1 Azm (Q2 z 0 0 qs))|none=>none) none
 |_,_=>none
theorem Ar6 {P:Program} {o:Oper} {t:TypeId} {ps:Array (Nat×Operand)} {q:Bx (iE R)} (ho:o.op= .build t ps) (h:DE P t ps.toList=some q):N0 P o q.get:=by
 intro tm K r hr;unfold DE at h;split at h
 case h_2=>cases h
 rename_i z qs hz hq;cases nF:DD 0 qs with
 |false=>rw [nF]at h;cases h
 |true=>
 rw [nF]at h;simp only [cond_true,vz]at h;cases h
 obtain⟨vs,out,h1,h2,h3,h4⟩:=Ar5 z 0 0 qs (show(Q2 z 0 0 qs).get tm (fun l=>K (.agg l))=some r from hr);refine⟨_,h2,LG ho ?_⟩;have h4:=h4 [] rfl;simp only [List.nil_append,drop_zero]at h4;unfold NB at hq;unfold yl;split at hq
 ·rename_i fs hu;split at hq
  case h_2=>cases hq
  rename_i l hl;obtain⟨az,e1,e2⟩:=Tt hq h1;simp only [hz,e1,hu,hl,e2,h4]
 ·rename_i n e hu;split at hq
  case h_2=>cases hq
  rename_i i hi;obtain⟨az,e1,e2⟩:=Tt hq h1;simp only [hz,e1,hu,hi,e2,h4]
 ·cases hq
def isInt (P:Program) (t:TypeId):Bool:=match P.underlying t with
 |some (.int _)=>true|_=>false
def yB (P:Program) (o:Oper):Option (Bx (iE R)):=match o.op with
 | .move x=>some (b1 CY (dm x))| .assign x=>some (b1 CY (dm x))| .pick c x y=>some (b3 MP (dm c) (dm x) (dm y))| .binOp op t x y _=>cond (isInt P t) (match yz op with
  |some q=>some (b3 (fun q=>MN q (U7 P o)) q (dm x) (dm y))
  |none=>match yA op with
   |some f=>some (b2 (MO f) (dm x) (dm y))|none=>none) none
 | .unOp .not _ x=>some (b1 MR (dm x))| .fieldAddr t x f=>match C_ P t f with
  |some off=>some (b1 (MW off) (dm x))|none=>none
 | .indexAddr t x i=>match DA P t with
  |some sz=>some (b2 (MX sz) (dm x) (dm i))|none=>none
 | .extract x i=>some (b2 (MZ (U7 P o)) (s_ i) (dm x))| .build t ps=>DE P t ps.toList| .call { callee:= .builtin .len,args:=⟨[x]⟩,argTypes:=⟨[t]⟩ } =>match P.underlying t with
  |some (.slice _)=>some (b1 (MY (U7 P o)) (dm x))|_=>none
 |_=>none
theorem NC {P:Program} {o:Oper} {q:Bx (iE R)} (h:yB P o=some q):N0 P o q.get:=by
 unfold yB at h;split at h
 ·rename_i x ho;cases h;exact MQ (.inl ho)
 ·rename_i x ho;cases h;exact MQ (.inr ho)
 ·rename_i c x y ho;cases h;exact Atw ho
 ·rename_i op t x y t' ho;cases ht:isInt P t with
  |false=>rw [ht]at h;cases h
  |true=>
   rw [ht]at h;simp only [cond_true]at h;split at h
   ·rename_i q hq;cases h;exact Aw4 ho hq
   ·split at h
    ·rename_i f hf;cases h;exact Azk ho hf
    ·cases h
 ·rename_i t x ho;cases h;exact Aw5 ho
 ·rename_i t x f ho;split at h
  ·rename_i off hf;cases h;exact Ar2 ho hf
  ·cases h
 ·rename_i t x i ho;split at h
  ·rename_i sz hf;cases h;exact Ar3 ho hf
  ·cases h
 ·rename_i x i ho;cases h;exact Aw7 ho
 ·rename_i t ps ho;exact Ar6 ho h
 ·rename_i x t ho;split at h
  ·rename_i e he;cases h;exact Aw6 ho he
  ·cases h
 ·cases h
variable {R:Type}
structure Jv (sz:Nat) (d0:List Deferred) (e:Env) (tm:Tm) (a:Act):Prop where
 tm:m8 e tm a
 size:a.tmps.size=sz
 defers:a.defers=d0
theorem Jv.later {sz:Nat} {d0:List Deferred} {e e':Env} {tm:Tm} {a:Act} (h:Jv sz d0 e tm a) (k:A0 e e'):Jv sz d0 e' tm a:=⟨h.tm.later k,h.size,h.defers⟩
def qd (sz:Nat) (tm:Tm) (d:Option Nat) (av:AV) (K:Tm->Option R):Option R:=match d with
 |none=>K tm|some d=>cond (Nat.ble (d+1) sz) (i4 (Tm.sB d) fun s=>s tm (some av) K) none
theorem DF {sz:Nat} {tm:Tm} {d:Option Nat} {av:AV} {K:Tm->Option R} {r:R} (h:qd sz tm d av K=some r):∃bE,K bE=some r/\∀d0 e e' a v,Jv sz d0 e tm a->A0 e e'->av.rep e' v->Jv sz d0 e' bE (a.put d v):=by
 unfold qd at h;split at h
 ·exact⟨tm,h,fun d0 e e' a v ha hl _=>ha.later hl⟩
 ·rename_i d;cases hc:Nat.ble (d+1) sz with
  |false=>rw [hc]at h;cases h
  |true=>
   rw [hc]at h;have hd:=le_of_ble_eq_true hc;obtain⟨bE,h1,h2⟩:=Tm.BJ h;refine⟨bE,h1,fun d0 e e' a v ha hl hv=>⟨⟨fun t x hx=> ?_⟩,?_,ha.defers⟩⟩
   ·rw [h2]at hx;show t<(a.tmps.setIfInBounds d v).size/\_
    split at hx
    ·rename_i DG;subst DG;cases hx
     refine⟨by rw [Array.size_setIfInBounds,ha.size];omega,?_⟩;show av.rep e' ((a.tmps.setIfInBounds t v).getD t undef)
     rw [getD_eq_getD_getElem?,Array.getElem?_setIfInBounds_self_of_lt (by rw [ha.size];omega)];exact hv
    ·rename_i DG;obtain⟨g1,g2⟩:=ha.tm.at_ t x hx;refine⟨by rw [Array.size_setIfInBounds];exact g1,?_⟩;show x.rep e' ((a.tmps.setIfInBounds d v).getD t undef)
     rw [getD_eq_getD_getElem?,Array.getElem?_setIfInBounds_ne (fun e=>DG e.symm),←getD_eq_getD_getElem?];exact E9 hl g2
   ·show(a.tmps.setIfInBounds d v).size=sz
    rw [Array.size_setIfInBounds];exact ha.size
abbrev Ba (R:Type):Type:=FuncId->List AV->Tr aL->Nat->(AV->Tr aL->Nat->Option R)->Option R
def YB:Nat:=1000000
def yC (P:Program) (g:FuncId) (args:List AV) (M:Tr aL) (n:Nat) (av:AV) (M':Tr aL) (n':Nat):Prop:=∀b0 e w vs,Bc b0 e M.get n w->AV.bI e args vs->∀next:Value->World->Prop,(∀e' v w',A0 e e'->Bc b0 e' M'.get n' w'->av.rep e' v->next v w')->D6 P next ((callFunc g ⟨vs⟩).run P w)
def ND (P:Program) (b:Nat) (args:List AV) (M:Tr aL) (n:Nat) (av:AV) (M':Tr aL) (n':Nat):Prop:=∀b0 e w vs,Bc b0 e M.get n w->AV.bI e args vs->∀B t,e b=some (B,t)->∀next:Value->World->Prop,(∀e' v w',A0 e e'->Bc b0 e' M'.get n' w'->av.rep e' v->next v w')->Ky P B ⟨vs⟩ (fun bb w'=>next (.bool bb) w') w
def Ba2 (P:Program) (g:FuncId) (args:List AV) (M:Tr aL) (n:Nat) (av:AV) (M':Tr aL) (n':Nat):Prop:=(g<YB->yC P g args M n av M' n')/\∀b,g=YB+b->ND P b args M n av M' n'
def E5 (P:Program) (call:Ba R):Prop:=∀g args M n K r,call g args M n K=some r->∃av M' n',K av M' n'=some r/\Ba2 P g args M n av M' n'
def Zx (tm:Tm) (call:Ba R) (f:Operand) (args:List Operand) (M:Tr aL) (n:Nat) (K:AV->Tr aL->Nat->Option R):Option R:=match cV tm f,m7 tm args with
 |some (.lit (.func (.func g) l m)),some az=>eS (Nat.ble (Nat.succ g) YB) (call g (l.toList.map .lit++az++m.toList.map .lit) M n K) none
 |some (.func g l m),some az=>eS (Nat.ble (Nat.succ g) YB) (call g (l++az++m) M n K) none
 |_,_=>none
theorem Jo {b:Bool} {x:Option R} {r:R} (h:eS b x none=some r):b=true/\x=some r:=by
 cases b with
 |true=>exact⟨rfl,h⟩
 |false=>cases h
theorem NF {P:Program} {tm:Tm} {call:Ba R} (dL:E5 P call) {o:Oper} {c:Call} {f:Operand} {M:Tr aL} {n:Nat} {K:AV->Tr aL->Nat->Option R} {r:R} (ho:o.op= .call c) (lq:c.callee= .value f) (h:Zx tm call f c.args.toList M n K=some r):∃av M' n',K av M' n'=some r/\fM P tm o M n av M' n':=by
 have key:∀ {a:Act} {g:FuncId} {l m:Array Value} {w:World} {next:Value->World->Prop},a.eval f= .func (.func g) l m->
  D6 P next ((callFunc g (l++c.args.map a.eval++m)).run P w)->D6 P next ((execOp a.eval o).run P w):=by
  intro a g l m w next hf this;simpa only [execOp,ho,resolve,lq,hf,Deferred.ofValue,invoke,Sem.run_bind,Sem.run_pure,Result.andThen_ok,Array.append_assoc] using this
 unfold Zx at h;split at h
 ·rename_i g l m az hf has;obtain⟨hg,h⟩:=Jo h;obtain⟨av,M',n',h1,h2⟩:=dL _ _ _ _ _ _ h;have h2:=h2.1 (le_of_ble_eq_true hg);refine⟨av,M',n',h1,fun b0 e a w hM hT next hk=> ?_⟩;have mj:=hT _ (by simp [ho,Op.operands,Call.operands,lq]) _ hf;simp only [AV.rep]at mj;refine key mj ?_;have:=h2 b0 e w (l.toList++c.args.toList.map a.eval++m.toList) hM (D4 (D4 (La _) (Ow (hT.sub fun y hy=>by simp only [ho,Op.operands,Call.operands,lq,toList_append,mem_append];exact .inr hy) has)) (La _)) next hk;have e1:(⟨l.toList++c.args.toList.map a.eval++m.toList⟩:Array Value)=l++c.args.map a.eval++m:=by apply ext';simp
  rw [e1]at this;exact this
 ·rename_i g l m az hf has;obtain⟨hg,h⟩:=Jo h;obtain⟨av,M',n',h1,h2⟩:=dL _ _ _ _ _ _ h;have h2:=h2.1 (le_of_ble_eq_true hg);refine⟨av,M',n',h1,fun b0 e a w hM hT next hk=> ?_⟩;have mj:=hT _ (by simp [ho,Op.operands,Call.operands,lq]) _ hf;simp only [AV.rep]at mj;obtain⟨vs,us,zO,r1,r2⟩:=mj;refine key zO ?_;have:=h2 b0 e w (vs++c.args.toList.map a.eval++us) hM (D4 (D4 r1 (Ow (hT.sub fun y hy=>by simp only [ho,Op.operands,Call.operands,lq,toList_append,mem_append];exact .inr hy) has)) r2) next hk;have e1:(⟨vs++c.args.toList.map a.eval++us⟩:Array Value)=⟨vs⟩++c.args.map a.eval++⟨us⟩:=by apply ext';simp
  rw [e1]at this;exact this
 ·cases h
def Rs (P:Program) (t:TypeId) (name:String):Option FuncId:=match P.info? t with
 |some i=>match i.methods.toList.find? (·.name==name)with
  |some m=>match m.path.toList with
   |[]=>match m.func with
    |some (f,pr)=>match P.underlying t with
     |some (.pointer _)=>cond pr (some f) none|some _=>cond pr none (some f)|none=>none
    |none=>none
   |_=>none
  |none=>none
 |none=>none
theorem Ao4 {P:Program} {t:TypeId} {name:String} {f:FuncId} (h:Rs P t name=some f) (v:Value) (w:World):(method (P.types.size+Made.depth) t v name).run P w= .ok (f,v) w:=by
 unfold Rs at h;split at h
 case h_2=>cases h
 rename_i i hi;split at h
 case h_2=>cases h
 rename_i m hm;have hm:i.methods.find? (·.name==name)=some m:=by rw [←hm];simp
 have hd:0<Made.depth:=by decide
 obtain⟨k,hk⟩:∃k,P.types.size+Made.depth=k+1:=⟨P.types.size+Made.depth-1,by omega⟩
 rw [hk];split at h
 case h_2=>cases h
 rename_i hp;split at h
 case h_2=>cases h
 rename_i f' pr hf;split at h
 ·rename_i d hu;cases pr with
  |false=>cases h
  |true=>
   cases h
   simp [method,typeInfo,hi,hm,hp,hf,follow,receiverAt,underlying,hu,Place.get]
 ·rename_i d cf hu;cases pr with
  |true=>cases h
  |false=>
   cases h
   cases d<;>first|exact absurd rfl (cf _)|simp [method,typeInfo,hi,hm,hp,hf,follow,receiverAt,underlying,hu,Place.get]
 ·cases h
def DH (P:Program) (tm:Tm) (call:Ba R) (x:Operand) (name:String) (args:List Operand) (M:Tr aL) (n:Nat) (K:AV->Tr aL->Nat->Option R):Option R:=match cV tm x,m7 tm args with
 |some (.iface t a),some az=>match Rs P t name with
  |some g=>eS (Nat.ble (Nat.succ g) YB) (call g (a::az) M n K) none|none=>none
 |some (.lit (.iface t v)),some az=>match Rs P t name with
  |some g=>eS (Nat.ble (Nat.succ g) YB) (call g (.lit v::az) M n K) none|none=>none
 |_,_=>none
theorem Ar7 {P:Program} {tm:Tm} {call:Ba R} (dL:E5 P call) {o:Oper} {c:Call} {x:Operand} {name:String} {M:Tr aL} {n:Nat} {K:AV->Tr aL->Nat->Option R} {r:R} (ho:o.op= .call c) (lq:c.callee= .invoke x name) (h:DH P tm call x name c.args.toList M n K=some r):∃av M' n',K av M' n'=some r/\fM P tm o M n av M' n':=by
 have key:∀ {a:Act} {g:FuncId} {t:TypeId} {v:Value} {w:World} {next:Value->World->Prop},a.eval x= .iface t v->Rs P t name=some g->
  D6 P next ((callFunc g (#[v]++c.args.map a.eval)).run P w)->D6 P next ((execOp a.eval o).run P w):=by
  intro a g t v w next hf hg this;have ee: #[a.eval x]++c.args.map a.eval=⟨a.eval x::(c.args.map a.eval).toList⟩:=by apply ext';simp
  have e1:(#[a.eval x]++c.args.map a.eval).extract 1 (#[a.eval x]++c.args.map a.eval).size=c.args.map a.eval:=by
   rw [ee];apply ext';simp;exact List.take_of_length_le (by simp)
  have e0:(#[a.eval x]++c.args.map a.eval)[0]? =some (.iface t v):=by rw [ee,hf];rfl
  simpa only [execOp,ho,resolve,lq,invoke,Sem.run_bind,Sem.run_pure,Result.andThen_ok,e0,e1,callMethod,run_program,Ao4 hg] using this
 have go:∀ {t:TypeId} {DI:AV} {az:List AV} {g:FuncId},(∀ {e:Env} {a:Act},Qv e tm a o.op.operands.toList->∃v,a.eval x= .iface t v/\DI.rep e v)->m7 tm c.args.toList=some az->Rs P t name=some g->eS (Nat.ble (Nat.succ g) YB) (call g (DI::az) M n K) none=some r->∃av M' n',K av M' n'=some r/\fM P tm o M n av M' n':=by
  intro t DI az g hx has hg h;obtain⟨lX,h⟩:=Jo h;obtain⟨av,M',n',h1,h2⟩:=dL _ _ _ _ _ _ h;have h2:=h2.1 (le_of_ble_eq_true lX);refine⟨av,M',n',h1,fun b0 e a w hM hT next hk=> ?_⟩;obtain⟨v,q1,q2⟩:=hx hT;refine key q1 hg ?_;have:=h2 b0 e w (v::c.args.toList.map a.eval) hM (by simp only [AV.bI];exact⟨_,_,rfl,q2,Ow (hT.sub fun y hy=>by simp only [ho,Op.operands,Call.operands,lq,toList_append,mem_append];exact .inr hy) has⟩) next hk;have e1:(⟨v::c.args.toList.map a.eval⟩:Array Value)= #[v]++c.args.map a.eval:=by apply ext';simp
  rw [e1]at this;exact this
 unfold DH at h;split at h
 ·rename_i t a az hx has;split at h
  case h_2=>cases h
  rename_i g hg;refine go (fun {e ac} hT=> ?_) has hg h;have hv:=hT _ (by simp [ho,Op.operands,Call.operands,lq]) _ hx;simpa only [AV.rep] using hv
 ·rename_i t v az hx has;split at h
  case h_2=>cases h
  rename_i g hg;refine go (fun {e ac} hT=> ?_) has hg h;have hv:=hT _ (by simp [ho,Op.operands,Call.operands,lq]) _ hx;simp only [AV.rep]at hv⊢;exact⟨v,hv,rfl⟩
 ·cases h
def NG (o:Oper):Bool:=match o.op with
 | .move _=>true| .assign _=>true| .nilCheck _=>true| .extract .. =>true| .pick .. =>true|_=>false
def fO (o:Oper) (av:AV) (K:AV->Option R):Option R:=cond (NG o) (K av) (fA av K)
theorem NH (o:Oper) (av:AV) (K:AV->Option R):fO o av K=K av:=by
 unfold fO;cases NG o<;>simp [Qu]
def DJ (P:Program) (call:Ba R) (tm:Tm) (o:Oper) (M:Tr aL) (n:Nat) (K:AV->Tr aL->Nat->Option R):Option R:=match o.op with
 | .load t x=>sM P tm t x M fun av=>K av M n
 | .store t x v=>yp P tm t x v M fun M=>K (.lit undef) M n
 | .alloc _=>Ww P tm o M n K| .box .. =>Ww P tm o M n K| .buildSlice .. =>Ww P tm o M n K| .call c=>match c.callee with
  | .value f=>Zx tm call f c.args.toList M n K| .invoke x name=>DH P tm call x name c.args.toList M n K|_=>match J8 P tm o with
   |some av=>fO o av fun av=>K av M n
   |none=>vJ P tm o M n K
 |_=>match J8 P tm o with
  |some av=>fO o av fun av=>K av M n
  |none=>vJ P tm o M n K
theorem Azo {P:Program} {call:Ba R} (dL:E5 P call) {tm:Tm} {o:Oper} {M:Tr aL} {n:Nat} {K:AV->Tr aL->Nat->Option R} {r:R} (h:DJ P call tm o M n K=some r): ∃av M' n',K av M' n'=some r/\fM P tm o M n av M' n':=by
 have rest:(match J8 P tm o with
  |some av=>fO o av fun av=>K av M n
  |none=>vJ P tm o M n K)=some r->∃av M' n',K av M' n'=some r/\fM P tm o M n av M' n':=by
  intro h;split at h
  ·rename_i av fh;rw [NH]at h;exact⟨av,M,n,h,fM.pure (Qx fh)⟩
  ·exact Aww h
 unfold DJ at h;split at h
 ·rename_i t x ho;obtain⟨av,h1,h2⟩:=BZ ho h;exact⟨av,M,n,h1,h2⟩
 ·rename_i t x v ho;obtain⟨M',h1,h2⟩:=LM ho h;exact⟨_,M',n,h1,h2⟩
 ·exact Ro h
 ·exact Ro h
 ·exact Ro h
 ·rename_i c ho;split at h
  ·rename_i f hf;exact NF dL ho hf h
  ·rename_i x name hf;exact Ar7 dL ho hf h
  ·exact rest h
 ·exact rest h
abbrev lY (R:Type):Type:=Ba R->Tm->Tr aL->Nat->(AV->Tr aL->Nat->Option R)->Option R
def rq (P:Program) (o:Oper) (f:lY R):Prop:=∀ {call:Ba R},E5 P call->∀ {tm:Tm} {M:Tr aL} {n:Nat} {K:AV->Tr aL->Nat->Option R} {r:R},f call tm M n K=some r->∃av M' n',K av M' n'=some r/\fM P tm o M n av M' n'
def NI (f:iE R):lY R:=fun _ tm M n K=>f tm fun av=>K av M n
theorem At4 {P:Program} {o:Oper} {f:iE R} (h:N0 P o f):rq P o (NI f):=by
 intro call dL tm M n K r hr;obtain⟨av,h1,h2⟩:=h tm _ r hr;exact⟨av,M,n,h1,fM.pure h2⟩
def Sg (P:Program) (o:Oper):lY R:=fun call tm M n K=>DJ P call tm o M n K
theorem Jp (P:Program) (o:Oper):rq (R:=R) P o (Sg P o):=by
 intro call dL tm M n K r h;exact Azo dL h
def yD (x:aL) (f:List AV->Bool->Option R):Option R:=aL.casesOn (motive:=fun _=>Option R) x f (fun _ _=>none) (fun _=>none)
theorem Q3 {x:aL} {f:List AV->Bool->Option R} {r:R} (h:yD x f=some r):∃l rw,x= .cells l rw/\f l rw=some r:=by
 cases x<;>first|exact⟨_,_,rfl,h⟩|cases h
def NJ (gx:Tm->Option AV):lY R:=fun _ tm M n K=>s0 (gx tm) fun b k=>oK ((Tr.gB b).get M) fun x=>yD x fun l _=>oK ((s_ k).get l) fun av=>K av M n
theorem At5 {P:Program} {o:Oper} {t:TypeId} {x:Operand} (ho:o.op= .load t x) (ha:o7 P t=some false):rq P o (NJ (R:=R) (dm x).get):=by
 intro call dL tm M n K r h;obtain⟨b,k,hx,h⟩:=Rq h;obtain⟨y,hb,h⟩:=Bs h;obtain⟨l,rw,rfl,h⟩:=Q3 h;obtain⟨av,hk,h⟩:=Bs h;rw [Ex]at hx;rw [Zv]at hk;obtain⟨CJ,h1,h2⟩:=BZ (P:=P) (tm:=tm) (M:=M) (n:=n) (K:=some) (r:=av) ho (by
  unfold sM;have hb:M.get b=some (.cells l rw):=hb;simp only [hx,hb,ha,hk])
 cases h1
 exact⟨av,M,n,h,h2⟩
def vM:Nat->Bx (List AV->AV->(List AV->Option R)->Option R)
 |0=>⟨fun l a K=>List.casesOn (motive:=fun _=>Option R) l none (fun _ l=>K (a::l))⟩
 |k+1=>match vM k with
  |⟨g⟩=>⟨fun l a K=>List.casesOn (motive:=fun _=>Option R) l none (fun x l=>g l a (fun l=>K (x::l)))⟩
theorem At7 {a:AV} {r:R} :∀(k:Nat) {l:List AV} {K:List AV->Option R},(vM k).get l a K=some r->o8 l k [a] K=some r:=by
 intro k
 induction k with
 |zero=>
  intro l K h;cases l with
  |nil=>cases h
  |cons x l=>
   have h:K (a::l)=some r:=h;cases l<;>exact h
 |succ k ih=>
  intro l K h;cases l with
  |nil=>cases h
  |cons x l=>
   have h:(vM k).get l a (fun l=>K (x::l))=some r:=h;exact ih h
def NK (gx gv:Tm->Option AV):lY R:=fun _ tm M n K=>s0 (gx tm) fun b k=>oK (gv tm) fun av=>eS (a1 av) (oK ((Tr.gB b).get M) fun x=>yD x fun l rw=>i4 (vM k) fun s=>s l av fun l=>i4 (Tr.sB b) fun s=>s M (some (.cells l rw)) fun M=>K (.lit undef) M n) none
theorem Aw9 {r:R} {l:List AV} {k:Nat} {az:List AV} {K:List AV->Option R} (h:o8 l k az K=some r):az≠[]->k+az.length<=l.length:=by
 intro cf;have:=(Qz h).2;cases az with
 |nil=>exact absurd rfl cf
 |cons a az=>simp only [length_cons]at this⊢;omega
theorem Ar8 {P:Program} {o:Oper} {t:TypeId} {x v:Operand} {i:TypeInfo} (ho:o.op= .store t x v) (hi:P.info? t=some i) (hz:i.size=1):rq P o (NK (R:=R) (dm x).get (dm v).get):=by
 intro call dL tm M n K r h;obtain⟨b,k,hx,h⟩:=Rq h;obtain⟨av,hv,h⟩:=Bs h;rw [Ex]at hx hv;cases h1:a1 av with
 |false=>rw [h1]at h;cases h
 |true=>
  rw [h1]at h;obtain⟨y,hb,h⟩:=Bs (show oK _ _=some r from h);obtain⟨l,sR,rfl,h⟩:=Q3 h;obtain⟨q1,q2⟩:=DB h1;have h:=At7 k (show(vM k).get l av _=some r from h);have hlen:=Aw9 h (by simp);obtain⟨M',h2,h3⟩:=LM (P:=P) (tm:=tm) (M:=M) (n:=n) (K:=fun M=>K (.lit undef) M n) (r:=r) ho (by
   unfold yp;have hb:M.get b=some (.cells l sR):=hb;have c3:Nat.ble (k+1) l.length=true:=Nat.ble_eq_true_of_le hlen;simp only [hx,hv,hb,hi,q2,n9,q1,hz,length_cons,List.length_nil,zero_add,c3];exact h)
  exact⟨_,M',n,h2,h3⟩
def rr:List Operand->Bx (Tm->(List AV->Option R)->Option R)
 |[]=>⟨fun _ K=>K []⟩
 |x::l=>match dm x,rr l with
  |⟨g⟩,⟨f⟩=>⟨fun tm K=>oK (g tm) fun a=>f tm fun l=>K (a::l)⟩
theorem Tu:∀ {l:List Operand} {tm:Tm} {K:List AV->Option R} {r:R},(rr l).get tm K=some r->∃az,m7 tm l=some az/\K az=some r
 |[],tm,K,r,h=>⟨[],rfl,h⟩
 |x::l,tm,K,r,h=>by
  obtain⟨a,h1,h2⟩:=Bs (show oK ((dm x).get tm) (fun a=>(rr l).get tm fun l=>K (a::l))=some r from h);obtain⟨az,h3,h4⟩:=Tu h2;rw [Ex]at h1;exact⟨a::az,by simp only [m7,h1,h3],h4⟩
def NL (g:FuncId) (ga:Tm->(List AV->Option R)->Option R):lY R:=fun call tm M n K=>ga tm fun az=>call g az M n K
theorem At9 {P:Program} {o:Oper} {c:Call} {g:FuncId} (ho:o.op= .call c) (hc:c.callee= .value (.func g)) (lX:Nat.ble (Nat.succ g) YB=true):rq P o (NL (R:=R) g (rr c.args.toList).get):=by
 intro call dL tm M n K r h;obtain⟨az,h1,h2⟩:=Tu h;refine NF (tm:=tm) dL ho hc ?_;unfold Zx;simp only [cV,h1];have:(#[]:Array Value).toList.map AV.lit++az++(#[]:Array Value).toList.map AV.lit=az:=by simp
 rw [this,lX];exact h2
def NM (z:List AV):lY R:=fun _ _ M n K=>i4 (Tr.sB n) fun s=>s M (some (.cells z true)) fun M=>fN (Nat.succ n) fun n'=>K (.ptr n 0) M n'
theorem Ar9 {P:Program} {o:Oper} {t:TypeId} {z:List AV} (ho:o.op= .alloc t) (hz:Lb P t=some z):rq P o (NM (R:=R) z):=by
 intro call dL tm M n K r h;refine Ro (tm:=tm) ?_;unfold Ww Oy pW;simp only [ho,hz,Se,Qu];exact h
def qe (P:Program) (o:Oper):Bx (lY R):=match yB P o with
 |some q=>b1 NI q|none=>match o.op with
  | .load t x=>match o7 P t with
   |some false=>b1 NJ (dm x)|_=>⟨Sg P o⟩
  | .store t x v=>match P.info? t with
   |some i=>cond (Nat.beq i.size 1) (match o7 P t with
    |some false=>b2 NK (dm x) (dm v)|_=>⟨Sg P o⟩) ⟨Sg P o⟩
   |none=>⟨Sg P o⟩
  | .alloc t=>match Lb P t with
   |some z=>match nY z some with
    |some z=>⟨NM z⟩|none=>⟨Sg P o⟩
   |none=>⟨Sg P o⟩
  | .call c=>match c.callee with
   | .value (.func g)=>cond (Nat.ble (Nat.succ g) YB) (b1 (NL g) (rr c.args.toList)) ⟨Sg P o⟩
   |_=>⟨Sg P o⟩
  |_=>⟨Sg P o⟩
theorem NN (P:Program) (o:Oper):rq (R:=R) P o (qe P o).get:=by
 unfold qe;split
 ·rename_i q hq;exact At4 (NC hq)
 ·split
  ·rename_i t x ho;split
   ·rename_i ha;exact At5 ho ha
   ·exact Jp P o
  ·rename_i t x v ho;split
   ·rename_i i hi;cases hz:Nat.beq i.size 1 with
    |true=>
     simp only [cond_true];split
     ·exact Ar8 ho hi (eq_of_beq_eq_true hz)
     ·exact Jp P o
    |false=>exact Jp P o
   ·exact Jp P o
  ·rename_i t ho;split
   ·rename_i z hz;rw [vz];exact Ar9 ho hz
   ·exact Jp P o
  ·rename_i c ho;split
   ·rename_i g hg;cases lX:Nat.ble (Nat.succ g) YB with
    |true=>exact At9 ho hg lX
    |false=>exact Jp P o
   ·exact Jp P o
  ·exact Jp P o
def F8 (ops:Array Oper) (o:Oper) (tm:Tm):Option Bool:=match o.guard with
 |none=>some true|some (j,want)=>match ops[j]? with
  |some oj=>match oj.dst with
   |some d=>match tm.get d with
    |some (.lit (.bool b))=>some (b==want)|some .m6=>none|some _=>some false|none=>none
   |none=>none
  |none=>none
def vN (e:Env) (tm:Tm) (a:Act) (ops:Array Oper) (o:Oper):Prop:=∀t av,t∈o.looksAt ops->tm.get t=some av->t<a.tmps.size/\av.rep e (a.tmps.getD t undef)
theorem vN.dm {e:Env} {tm:Tm} {a:Act} {ops:Array Oper} {o:Oper} (h:vN e tm a ops o):Qv e tm a o.op.operands.toList:=by
 intro x hx av fh;cases x with
 |tmp t=>exact(h t av (List.mem_append_left _ (List.mem_filterMap.2 ⟨.tmp t,hx,rfl⟩)) fh).2
 |const v=>simp only [cV]at fh;cases fh;simp [AV.rep,Act.eval]
 |func f=>simp only [cV]at fh;cases fh;simp [AV.rep,Act.eval]
 |global g=>simp [cV]at fh
theorem Tv {ops:Array Oper} {o:Oper} {tm:Tm} {b:Bool} (h:F8 ops o tm=some b) {e:Env} {a:Act} (ha:vN e tm a ops o):Region.wanted o (yielded ops a.tmps)=b:=by
 unfold F8 at h;unfold Region.wanted;split at h
 ·rename_i hg;cases h;rw [hg]
 ·rename_i j want hg;rw [hg];split at h
  case h_2=>cases h
  rename_i oj hj;split at h
  case h_2=>cases h
  rename_i d hd;have dU:∀av,tm.get d=some av->d<a.tmps.size/\av.rep e (a.tmps.getD d undef):=fun av=>ha d av (List.mem_append_right _ (by rw [hg];simp [hj,hd]))
  split at h
  ·rename_i b' hb;cases h
   obtain⟨g1,g2⟩:=dU _ hb;simp only [AV.rep]at g2;have:a.tmps[d]? =some (.bool b'):=by
    rw [getD_eq_getD_getElem?,Array.getElem?_eq_getElem g1]at g2;rw [Array.getElem?_eq_getElem g1];exact congrArg some g2
   simp [yielded,hj,hd,this]
  ·cases h
  ·rename_i av lU hnu hb;cases h
   obtain⟨g1,g2⟩:=dU _ hb;have hv:∀b',a.tmps.getD d undef≠.bool b':=by
    intro b' DK;rw [DK]at g2;cases av with
    |lit v=>simp only [AV.rep]at g2;subst g2;exact lU b' rfl
    |ptr b o=>simp only [AV.rep]at g2;obtain⟨_,_,_,g⟩:=g2;cases g
    |slice b o n sz c x=>simp only [AV.rep]at g2;obtain⟨_,_,_,_,_,g,_⟩:=g2;cases g
    |agg l=>simp only [AV.rep]at g2;obtain⟨_,g,_⟩:=g2;cases g
    |tuple l=>simp only [AV.rep]at g2;obtain⟨_,g,_⟩:=g2;cases g
    |func f l m=>simp only [AV.rep]at g2;obtain⟨_,_,g,_⟩:=g2;cases g
    |map b=>simp only [AV.rep]at g2;obtain⟨_,_,_,g⟩:=g2;cases g
    |iface t x=>simp only [AV.rep]at g2;obtain⟨_,g,_⟩:=g2;cases g
    |yield b=>simp only [AV.rep]at g2;obtain⟨_,_,_,g⟩:=g2;cases g
    |nU k lo hi=>simp only [AV.rep]at g2;obtain⟨_,g,_⟩:=g2;cases g
    |m6=>exact absurd rfl hnu
    |same i k lo hi=>simp only [AV.rep]at g2;obtain⟨_,_,_,g,_⟩:=g2;cases g
   have:a.tmps[d]? =some (a.tmps.getD d undef):=by
    rw [getD_eq_getD_getElem?,Array.getElem?_eq_getElem g1];rfl
   have hy:yielded ops a.tmps j=none:=by
    simp only [yielded,hj,hd,Option.bind_some,this];generalize a.tmps.getD d undef=u at hv;cases u<;>first|rfl|exact absurd rfl (hv _)
   simp [hy]
  ·cases h
theorem m8.look {e:Env} {tm:Tm} {a:Act} (h:m8 e tm a) (ops:Array Oper) (o:Oper):vN e tm a ops o:=fun t av _ ht=>h.at_ t av ht
def tb (ops:Array Oper) (o:Oper):Bx (Tm->Option R->Option R->Option R):=match o.guard with
 |none=>⟨fun _ x _=>x⟩
 |some (j,want)=>match ops[j]? with
  |some oj=>match oj.dst with
   |some d=>match Tm.gB d with
    |⟨g⟩=>cond want ⟨fun tm x y=>oK (g tm) fun a=>AV.casesOn (motive_1:=fun _=>Option R) a (fun v=>Value.casesOn (motive_1:=fun _=>Option R) v (fun b=>eS b x y) (fun _ _=>y) (fun _ _=>y) (fun _ _ _=>y) (fun _=>y) (fun _=>y) (fun _ _ _=>y) (fun _=>y) (fun _=>y) (fun _ _ _=>y) y (fun _ _=>y) y (fun _=>y) (fun _=>y)) (fun _ _=>y) (fun _ _ _ _ _ _=>y) (fun _=>y) (fun _=>y) (fun _ _ _=>y) (fun _=>y) (fun _ _=>y) (fun _=>y) (fun _ _ _=>y) none (fun _ _ _ _=>y)⟩
     ⟨fun tm x y=>oK (g tm) fun a=>AV.casesOn (motive_1:=fun _=>Option R) a (fun v=>Value.casesOn (motive_1:=fun _=>Option R) v (fun b=>eS b y x) (fun _ _=>y) (fun _ _=>y) (fun _ _ _=>y) (fun _=>y) (fun _=>y) (fun _ _ _=>y) (fun _=>y) (fun _=>y) (fun _ _ _=>y) y (fun _ _=>y) y (fun _=>y) (fun _=>y)) (fun _ _=>y) (fun _ _ _ _ _ _=>y) (fun _=>y) (fun _=>y) (fun _ _ _=>y) (fun _=>y) (fun _ _=>y) (fun _=>y) (fun _ _ _=>y) none (fun _ _ _ _=>y)⟩
   |none=>⟨fun _ _ _=>none⟩
  |none=>⟨fun _ _ _=>none⟩
theorem NP {ops:Array Oper} {o:Oper} {tm:Tm} {x y:Option R} {r:R} (h:(tb ops o).get tm x y=some r):(F8 ops o tm=some true/\x=some r)\/(F8 ops o tm=some false/\y=some r):=by
 unfold tb at h;unfold F8;split at h
 ·exact .inl ⟨rfl,h⟩
 ·split at h
  case h_2=>cases h
  rename_i j want hg _ oj hj;split at h
  case h_2=>cases h
  rename_i d hd;split at h;rename_i g hgd;have gJ:∀tm,g tm=tm.get d:=fun tm=>by unfold Tm.get;rw [hgd]
  cases want with
  |true=>
   obtain⟨a,h1,h2⟩:=Bs (show oK (g tm) _=some r from h);rw [gJ]at h1;rw [h1];cases a with
   |lit v=>
    cases v with
    |bool b=>
     cases b with
     |true=>exact .inl ⟨rfl,h2⟩
     |false=>exact .inr ⟨rfl,h2⟩
    |_=>exact .inr ⟨rfl,h2⟩
   |m6=>cases h2
   |_=>exact .inr ⟨rfl,h2⟩
  |false=>
   obtain⟨a,h1,h2⟩:=Bs (show oK (g tm) _=some r from h);rw [gJ]at h1;rw [h1];cases a with
   |lit v=>
    cases v with
    |bool b=>
     cases b with
     |true=>exact .inr ⟨rfl,h2⟩
     |false=>exact .inl ⟨rfl,h2⟩
    |_=>exact .inr ⟨rfl,h2⟩
   |m6=>cases h2
   |_=>exact .inr ⟨rfl,h2⟩
abbrev ru (R:Type):Type:=Tm->AV->(Tm->Option R)->Option R
def Wz (sz:Nat) (d:Option Nat):Bx (ru R):=match d with
 |none=>⟨fun tm _ K=>K tm⟩
 |some d=>cond (Nat.ble (d+1) sz) (match Tm.sB d with|⟨s⟩=>⟨fun tm av K=>s tm (some av) K⟩) ⟨fun _ _ _=>none⟩
theorem DL (sz:Nat) (d:Option Nat) (tm:Tm) (av:AV) (K:Tm->Option R):(Wz sz d).get tm av K=qd sz tm d av K:=by
 unfold Wz qd;cases d with
 |none=>rfl
 |some d=>simp only;cases Nat.ble (d+1) sz<;>rfl
abbrev nc (R:Type):Type:=Ba R->Tm->Tr aL->Nat->(Tm->Tr aL->Nat->Option R)->Option R
def NQ (f:lY R) (p:ru R) (g:nc R):nc R:=fun call tm M n K=>f call tm M n fun av M n=>p tm av fun tm=>g call tm M n K
def Ba3 (p:ru R) (g:nc R):nc R:=fun call tm M n K=>p tm (.lit undef) fun tm=>g call tm M n K
def Ba4 (q:Tm->Option R->Option R->Option R) (f g:nc R):nc R:=fun call tm M n K=>q tm (f call tm M n K) (g call tm M n K)
def DM (P:Program) (tm:Tm) (o:Oper) (M:Tr aL) (n:Nat) (av:AV) (M':Tr aL) (n':Nat):Prop:=∀(G:Fence) (n0:Nat) b0 e a w (next:Act->World->Prop) (Q:Exit->Act->World->Prop),Vc.Good G->Bc b0 e M.get n w->Qv e tm a o.op.operands.toList->(∀e' v w',A0 e e'->Bc b0 e' M'.get n' w'->av.rep e' v->next (a.put o.dst v) w')->o.wpIn G n0 P a w next Q
theorem fM.Iu {P:Program} {tm:Tm} {o:Oper} {M:Tr aL} {n:Nat} {av:AV} {M':Tr aL} {n':Nat} (hd:Be o=true) (h:fM P tm o M n av M' n'):DM P tm o M n av M' n':=
 fun G n0 b0 e a w next Q hG hM hT hk=>Jh hG hd (h b0 e a w hM hT _ fun e' v w' hl f_ hv=>hk e' v w' hl f_ hv)
def Bb8 (x:AV) (f:Nat->Option R) (s:Option R):Option R:=AV.casesOn (motive_1:=fun _=>Option R) x (fun _=>s) (fun _ _=>s) (fun _ _ _ _ _ _=>s) (fun _=>s) (fun _=>s) (fun _ _ _=>s) (fun _=>s) (fun _ _=>s) f (fun _ _ _=>s) s (fun _ _ _ _=>s)
def Bb9 (s:lY R) (g:Tm->Option AV) (ga:Tm->(List AV->Option R)->Option R):lY R:=fun call tm M n K=>oK (g tm) fun f=>Bb8 f (fun b=>ga tm fun az=>call (Nat.add YB b) az M n K) (s call tm M n K)
def vO (P:Program) (o:Oper):Bx (lY R):=match o.op with
 | .call c=>match c.callee with
  | .value (.tmp t)=>b3 Bb9 (qe P o) (Tm.gB t) (rr c.args.toList)|_=>qe P o
 |_=>qe P o
theorem Azp {P:Program} {o:Oper} (hd:Be o=true) {call:Ba R} (dL:E5 P call) {tm:Tm} {M:Tr aL} {n:Nat} {K:AV->Tr aL->Nat->Option R} {r:R} (h:(vO P o).get call tm M n K=some r):∃av M' n',K av M' n'=some r/\DM P tm o M n av M' n':=by
 have old:(qe P o).get call tm M n K=some r->∃av M' n',K av M' n'=some r/\DM P tm o M n av M' n':=fun h=>by
  obtain⟨av,M',n',h1,h2⟩:=NN P o dL h;exact⟨av,M',n',h1,h2.Iu hd⟩
 unfold vO at h;split at h
 case h_2=>exact old h
 rename_i c ho;split at h
 case h_2=>exact old h
 rename_i t lq;obtain⟨f,hf,h⟩:=Bs (show oK (tm.get t) _=some r from h);cases f with
 |yield b=>
  obtain⟨az,has,h⟩:=Tu (show(rr c.args.toList).get tm (fun az=>call (Nat.add YB b) az M n K)=some r from h);obtain⟨av,M',n',h1,h2⟩:=dL _ _ _ _ _ _ h;refine⟨av,M',n',h1,fun G n0 b0 e a w next Q hG hM hT hk=> ?_⟩;have mj:=hT (.tmp t) (by simp [ho,Op.operands,Call.operands,lq]) _ hf;simp only [AV.rep]at mj;obtain⟨B,tt,hB,mj⟩:=mj;have hy:=h2.2 b rfl b0 e w (c.args.toList.map a.eval) hM (Ow (hT.sub fun y hy=>by simp only [ho,Op.operands,Call.operands,lq,toList_append,mem_append];exact .inr hy) has) B tt hB (fun v w'=>next (a.put o.dst v) w') hk;refine Il (cl:=[]) hG hd (next:=next) ?_;have e1:(⟨c.args.toList.map a.eval⟩:Array Value)=c.args.map a.eval:=by apply ext';simp
  rw [e1]at hy;unfold O9;simp only [ho,lq,mj];exact hy
 |_=>exact old h
def Sh (P:Program) (sz:Nat) (ops:Array Oper):List Oper->Bx (nc R)
 |[]=>⟨fun _ tm M n K=>K tm M n⟩
 |o::l=>cond (Be o) (match o.guard with
  |none=>b3 NQ (vO P o) (Wz sz o.dst) (Sh P sz ops l)|some _=>b3 Ba4 (tb ops o) (b3 NQ (vO P o) (Wz sz o.dst) (Sh P sz ops l)) (b2 Ba3 (Wz sz o.dst) (Sh P sz ops l))) ⟨fun _ _ _ _ _=>none⟩
theorem DN {P:Program} {call:Ba R} (dL:E5 P call) {sz:Nat} {ops:Array Oper} :∀(l:List Oper) (k:Nat) {tm:Tm} {M:Tr aL} {n:Nat} {K:Tm->Tr aL->Nat->Option R} {r:R},(∀j,l[j]? =ops[k+j]?)->(Sh P sz ops l).get call tm M n K=some r->
 ∃bE M' n',K bE M' n'=some r/\∀(G:Fence) (n0:Nat) (X:Exit->Act->World->Prop) b0 d0 e a w,Vc.Good G->Bc b0 e M.get n w->Jv sz d0 e tm a->(∀e' a' w',A0 e e'->Bc b0 e' M'.get n' w'->Jv sz d0 e' bE a'->X .normal a' w')->wpOpsIn G n0 P ops X (range' k l.length) a w
 |[],k,tm,M,n,K,r,_,h=>⟨tm,M,n,h,fun G n0 X b0 d0 e a w _ hM hA hQ=>by simpa [wpOpsIn] using hQ e a w (A0.refl e) hM hA⟩
 |o::rest,k,tm,M,n,K,r,hl,h=>by
  have h0:ops[k]? =some o:=by simpa using(hl 0).symm
  have tU:∀j,rest[j]? =ops[k+1+j]? :=fun j=>by have:=hl (j+1);rw [show k+1+j=k+(j+1) by omega];simpa using this
  unfold Sh at h;cases hd:Be o with
  |false=>rw [hd]at h;cases h
  |true=>
  rw [hd]at h;simp only [cond_true]at h;have yes:F8 ops o tm=some true->(vO P o).get call tm M n (fun av M n=>(Wz sz o.dst).get tm av fun tm=>(Sh P sz ops rest).get call tm M n K)=some r->∃bE M' n',K bE M' n'=some r/\∀(G:Fence) (n0:Nat) (X:Exit->Act->World->Prop) b0 d0 e a w,Vc.Good G->Bc b0 e M.get n w->Jv sz d0 e tm a->(∀e' a' w',A0 e e'->Bc b0 e' M'.get n' w'->Jv sz d0 e' bE a'->X .normal a' w')->wpOpsIn G n0 P ops X (range' k (o::rest).length) a w:=by
   intro hw h;obtain⟨av,M1,n1,h1,h2⟩:=Azp hd dL h;rw [DL]at h1;obtain⟨iO,h3,h4⟩:=DF h1;obtain⟨bE,M',n',h5,h6⟩:=DN dL rest (k+1) tU h3;refine⟨bE,M',n',h5,fun G n0 X b0 d0 e a w hG hM hA hQ=> ?_⟩;simp only [length_cons,List.range'_succ];rw [wpOpsIn_cons];unfold wpOpIn;simp only [h0,Tv hw (hA.tm.look _ _),if_true];refine h2 G n0 b0 e a w _ _ hG hM (hA.tm.dm _) fun e' v w' hl f_ hv=> ?_
   exact h6 G n0 X b0 d0 e' _ w' hG f_ (h4 d0 e e' a v hA hl hv) fun sG jK jr ky=>hQ sG jK jr (hl.trans ky)
  have no:F8 ops o tm=some false->(Wz sz o.dst).get tm (.lit undef) (fun tm=>(Sh P sz ops rest).get call tm M n K)=some r->∃bE M' n',K bE M' n'=some r/\∀(G:Fence) (n0:Nat) (X:Exit->Act->World->Prop) b0 d0 e a w,Vc.Good G->Bc b0 e M.get n w->Jv sz d0 e tm a->(∀e' a' w',A0 e e'->Bc b0 e' M'.get n' w'->Jv sz d0 e' bE a'->X .normal a' w')->wpOpsIn G n0 P ops X (range' k (o::rest).length) a w:=by
   intro hw h;rw [DL]at h;obtain⟨iO,h3,h4⟩:=DF h;obtain⟨bE,M',n',h5,h6⟩:=DN dL rest (k+1) tU h3;refine⟨bE,M',n',h5,fun G n0 X b0 d0 e a w hG hM hA hQ=> ?_⟩;simp only [length_cons,List.range'_succ];rw [wpOpsIn_cons];unfold wpOpIn;simp only [h0,Tv hw (hA.tm.look _ _),Bool.false_eq_true,if_false];exact⟨fun f _=>hG.fn f,h6 G n0 X b0 d0 e _ w hG hM (h4 d0 e e a undef hA (A0.refl e) (by simp only [AV.rep])) fun sG jK jr ky=>hQ sG jK jr ky⟩
  split at h
  ·rename_i hg;exact yes (by unfold F8;rw [hg]) h
  ·rename_i j hg;rcases NP (show(tb ops o).get tm _ _=some r from h)with⟨h1,h2⟩|⟨h1,h2⟩
   ·exact yes h1 h2
   ·exact no h1 h2
end Go.Am
