/- A part of the proof: conditions of the code, contracts, the plain law. -/
import Derived.Test.YthkbhlmijkegiaaGreatM6
import Derived.MapKept
import Derived.Laws.IdiomStrings
import Derived.Lib.ConvBytes
import Derived.Orders
import Derived.Test.YthkbhlmijkegiaaGreatVcI
open Bool (and_eq_true or_eq_true)
open Nat (lor shiftLeft le_of_ble_eq_true eq_of_beq_eq_true le_refl zero_le lt_irrefl mod land)
open Array (ext' getD_eq_getD_getElem? toList_append)
open List (mem_append length_cons mem_cons drop_zero range')
namespace Go.Am
open Go.Vc
open Go.MapKept (IsKey run_checkKey run_findKey run_setObj_map)
open Go.Lib (bytesWorld bytesCells bytesWorld_at_old bytesWorld_at_new bytesWorld_size)
variable {R:Type}
def pJ (d:TypeDesc) (v:Value):Bool:=match d,v with
 | .int k,.int k' _=>decide (k'=k)| .string,.string _=>true| .bool,.bool _=>true|_,_=>false
theorem z5 {d:TypeDesc} {v:Value} (h:pJ d v=true):IsKey d v:=by
 unfold pJ at h;split at h
 ·simpa [IsKey] using h
 ·trivial
 ·trivial
 ·cases h
def Xc (d:TypeDesc) (k:Value):List (Value×AV)->Nat->Option (Option (Nat×AV))
 |[],_=>some none|(k',a)::es,i=>match Instr.sameNow d k k' with
  |some true=>some (some (i,a))|some false=>Xc d k es (i+1)|none=>none
theorem Ob {e:Env} {d:TypeDesc} {k:Value} :∀ {es:List (Value×AV)} {ms:List MapEntry} {i:Nat},B4 e es ms->Xc d k es i=some none->Instr.findNow d k ms i=some none
 |[],ms,i,h,_=>by simp only [B4]at h;subst h;rfl
 |(k',a)::es,ms,i,h,hf=>by
  obtain⟨m,iv,rfl,rfl,h3,h4⟩:=h;simp only [Xc]at hf;simp only [Instr.findNow];split at hf
  ·cases hf
  ·rename_i hs;rw [hs];exact Ob h4 hf
  ·cases hf
theorem Oc {e:Env} {d:TypeDesc} {k:Value} :∀ {es:List (Value×AV)} {ms:List MapEntry} {i j:Nat} {a:AV},B4 e es ms->Xc d k es i=some (some (j,a))->
 ∃v m,Instr.findNow d k ms i=some (some (j,v))/\a.rep e v/\i<=j/\ms[j-i]? =some m/\Instr.sameNow d k m.key=some true
 |[],ms,i,j,a,h,hf=>by cases hf
 |(k',a')::es,ms,i,j,a,h,hf=>by
  obtain⟨m,iv,rfl,rfl,h3,h4⟩:=h;simp only [Xc]at hf;simp only [Instr.findNow];split at hf
  ·rename_i hs;cases hf
   exact⟨_,m,by rw [hs],h3,le_refl _,by simp,hs⟩
  ·rename_i hs;obtain⟨v,m',g1,g2,g3,g4,g5⟩:=Oc h4 hf;refine⟨v,m',by rw [hs];exact g1,g2,by omega,?_,g5⟩;rw [show j-i=(j-(i+1))+1 by omega];simpa using g4
  ·cases hf
theorem ZC {d:TypeDesc} {k k':Value} (n:Nat) (h:Instr.sameNow d k k'=some true):Instr.sameBits n k' k=true:=by
 unfold Instr.sameNow at h;split at h
 ·rename_i j a j' b;split at h
  ·rename_i hk;subst hk;simp at h;subst h;cases n<;>simp [Instr.sameBits]
  ·cases h
 ·rename_i a b;have h:(a==b)=true:=Option.some.inj h;have e:a=b:=by
   obtain⟨a⟩:=a;obtain⟨b⟩:=b;have h:(a==b)=true:=h;rw [eq_of_beq h]
  subst e;cases n<;>exact h
 ·simp at h;subst h;cases n<;>simp [Instr.sameBits]
 ·cases h
theorem O5 {e:Env} {k:Value} {a:AV} {v:Value} (hv:a.rep e v):∀ {es:List (Value×AV)} {ms:List MapEntry} (i:Nat),B4 e es ms->B4 e (es.set i (k,a)) (ms.modify i fun m=> { m with key:=k,val:=v })
 |[],ms,i,h=>by simp only [B4]at h;subst h;cases i<;>simp [B4]
 |(k',a')::es,ms,0,h=>by
  obtain⟨m,iv,rfl,h2,h3,h4⟩:=h;exact⟨_,iv,rfl,rfl,hv,h4⟩
 |(k',a')::es,ms,i+1,h=>by
  obtain⟨m,iv,rfl,h2,h3,h4⟩:=h;exact⟨m,_,rfl,h2,h3,O5 hv i h4⟩
theorem R2 {e:Env} {k:Value} {a:AV} {v:Value} {c:Nat} (hv:a.rep e v):∀ {es:List (Value×AV)} {ms:List MapEntry},B4 e es ms->B4 e (es++[(k,a)]) (ms++[{ key:=k,val:=v,born:=c }])
 |[],ms,h=>by simp only [B4]at h;subst h;exact⟨_,[],rfl,rfl,hv,rfl⟩
 |(k',a')::es,ms,h=>by
  obtain⟨m,iv,rfl,h2,h3,h4⟩:=h;exact⟨m,_,rfl,h2,h3,R2 hv h4⟩
def sE:List (Value×AV)->Nat->(Value×AV)->(List (Value×AV)->Option R)->Option R
 |[],_,_,K=>K []|_::es,0,x,K=>K (x::es)|y::es,i+1,x,K=>sE es i x fun es=>K (y::es)
theorem I9:∀(es:List (Value×AV)) (i:Nat) (x:Value×AV) (K:List (Value×AV)->Option R),sE es i x K=K (es.set i x)
 |[],_,_,_=>by simp [sE]
 |_::_,0,_,_=>by simp [sE]
 |_::es,i+1,x,K=>by simp [sE,I9 es]
def xh:List (Value×AV)->(Value×AV)->(List (Value×AV)->Option R)->Option R
 |[],x,K=>K [x]|y::es,x,K=>xh es x fun es=>K (y::es)
theorem I_:∀(es:List (Value×AV)) (x:Value×AV) (K:List (Value×AV)->Option R),xh es x K=K (es++[x])
 |[],_,_=>rfl
 |_::es,x,K=>by simp [xh,I_ es]
def z6 (P:Program) (tm:Tm) (t:TypeId):Option Operand->Bool
 |none=>true|some x=>match T6 tm x,P.underlying t with
  |some _,some (.map _ _)=>true|_,_=>false
def z7 (P:Program) (tm:Tm) (t:TypeId) (r:Option Operand) (M:Tr aI) (n:Nat) (K:AV->Tr aI->Nat->Option R):Option R:=cond (z6 P tm t r) (Tr.iK FU M n (some (.map [] 0)) fun M'=>fN (n+1) fun n'=>K (.map n) M' n') none
theorem ZD {P:Program} {tm:Tm} {o:Oper} {t:TypeId} {x:Option Operand} {M:Tr aI} {n:Nat} {K:AV->Tr aI->Nat->Option R} {r:R} (ho:o.op= .makeMap t x) (h:z7 P tm t x M n K=some r):∃av M' n',K av M' n'=some r/\eW P tm o M n av M' n':=by
 unfold z7 at h;cases hc:z6 P tm t x with
 |false=>rw [hc]at h;cases h
 |true=>
  rw [hc]at h;obtain⟨M',h1,h2⟩:=Tr.jn (f:=FU) h;rw [Ew]at h1;refine⟨_,_,_,h1,fun b0 e a w hM hT next hk=> ?_⟩;have dN:(execOp a.eval o).run P w= .ok (.value (.map (some w.heap.size))) (w.alloc (.map #[] 0)):=by
   cases x with
   |none=>simp only [execOp,ho];rfl
   |some y=>
    simp only [z6]at hc;split at hc
    case h_2=>cases hc
    rename_i k kt et hy hu;obtain⟨kk,om⟩:=Ed hT (by simp [ho,Op.operands]) hy;simp [execOp,ho,Instr.makeMap,underlying,hu,om,asInt,asIntOf]
  rw [dN];have jo:e n=none:=hM.new n (.inl (le_refl _));refine hk (e.put n (w.heap.size,0)) _ _ (Az.put jo _) (hM.push (M':=M'.get) rfl jo (fun h=>lt_irrefl _ (hM.res n h)) (Nat.le_succ n) (Nat.lt_succ_self n) h2 ⟨w.heap.size,0,[],Gd _ _ _,by simp [World.alloc,-World.alloc_eq],rfl,fun hx=> ?_⟩) (by simp only [AV.rep];exact⟨_,_,Gd _ _ _,rfl⟩);have:=b0.lt _ hx;have:=hM.kept.size;omega
def xj (P:Program) (t:TypeId) (ok:Bool):Option AV:=match P.info? t with
 |some i=>match i.zero with
  |some z=>some (cond ok (.tuple [.lit z,.lit (.bool false)]) (.lit z))|none=>none
 |none=>none
def z8 (P:Program) (tm:Tm) (t:TypeId) (x ix:Operand) (ok:Bool) (M:Tr aI):Option AV:=match P.underlying t with
 |some (.map kt el)=>match P.underlying kt with
  |some d=>match cF tm ix with
   |some (.lit kv)=>cond (pJ d kv) (match cF tm x with
    |some (.map b)=>match M.get b with
     |some (.map es _)=>match Xc d kv es 0 with
      |some (some (_,a))=>some (Sh ok a)|some none=>xj P el ok|none=>none
     |_=>none
    |some (.lit (.map none))=>xj P el ok|_=>none) none
   |_=>none
  |none=>none
 |_=>none
theorem ZE {e:Env} {ok:Bool} {b:AV} {v:Value} (hb:b.rep e v):(Sh ok b).rep e (if ok then .tuple #[v,.bool true]else v):=by
 cases ok with
 |true=>simp only [Sh,cond_true,if_true,AV.rep];exact⟨[v,.bool true],rfl,by simp only [AV.bF];exact⟨_,_,rfl,hb,_,_,rfl,by simp only [AV.rep],rfl⟩⟩
 |false=>exact hb
theorem JA {P:Program} {t:TypeId} {ok:Bool} {av:AV} (h:xj P t ok=some av) (e:Env):∃z,(∀w,(zeroValue t).run P w= .ok z w)/\av.rep e (if ok then .tuple #[z,.bool false]else z):=by
 unfold xj at h;split at h
 case h_2=>cases h
 rename_i i hi;split at h
 case h_2=>cases h
 rename_i z hz;cases h
 refine⟨z,fun w=>by simp [zeroValue,typeInfo,hi,hz],?_⟩;cases ok with
 |true=>simp only [cond_true,if_true,AV.rep];exact⟨[z,.bool false],rfl,by simp only [AV.bF,AV.rep];exact⟨_,_,rfl,rfl,_,_,rfl,rfl,rfl⟩⟩
 |false=>simp only [cond_false,AV.rep];rfl
theorem ZF {P:Program} {tm:Tm} {o:Oper} {t:TypeId} {x ix:Operand} {ok:Bool} {M:Tr aI} {n:Nat} {av:AV} (ho:o.op= .lookup t x ix ok) (h:z8 P tm t x ix ok M=some av):eW P tm o M n av M n:=by
 intro b0 e a w hM hT next hk;unfold z8 at h;split at h
 case h_2=>cases h
 rename_i kt el hu;split at h
 case h_2=>cases h
 rename_i d hd;split at h
 case h_2=>cases h
 rename_i kv ue;cases hc:pJ d kv with
 |false=>rw [hc]at h;cases h
 |true=>
 rw [hc]at h;simp only [cond_true]at h;have qL:=hT _ (by simp [ho,Op.operands]) _ ue;simp only [AV.rep]at qL;have gu:∀b,(Instr.checkKey b 10000 kt kv).run P w= .ok () w:=fun b=>run_checkKey hd (z5 hc) b 9999
 split at h
 ·rename_i b hx;split at h
  case h_2=>cases h
  rename_i es clock hb;have hr:=hT _ (by simp [ho,Op.operands]) _ hx;simp only [AV.rep]at hr;obtain⟨B,tt,q1,q2⟩:=hr;obtain⟨B',t',ms,g1,g2,g3,g4⟩:=hM.bG b _ hb;rw [q1]at g1;cases g1;have fK:=MapKept.run_getObj_map (P:=P) g2;split at h
  ·rename_i j z9 hf;cases h
   obtain⟨v,m,f1,f2,_⟩:=Oc g3 hf;have lL:=run_findKey (P:=P) (w:=w) hd f1;have dN:(execOp a.eval o).run P w= .ok (.value (if ok then .tuple #[v,.bool true]else v)) w:=by
    simp [execOp,ho,Instr.lookup,underlying,hu,q2,qL,fK,gu,lL]
   rw [dN];exact hk e _ w (Az.refl e) hM (ZE f2)
  ·rename_i hf;have f1:=Ob g3 hf;have lL:=run_findKey (P:=P) (w:=w) hd f1;obtain⟨z,z1,z2⟩:=JA h e;have dN:(execOp a.eval o).run P w= .ok (.value (if ok then .tuple #[z,.bool false]else z)) w:=by
    simp [execOp,ho,Instr.lookup,underlying,hu,q2,qL,fK,gu,lL,z1]
   rw [dN];exact hk e _ w (Az.refl e) hM z2
  ·cases h
 ·rename_i hx;have hr:=hT _ (by simp [ho,Op.operands]) _ hx;simp only [AV.rep]at hr;have lL:=run_findKey (P:=P) (w:=w) (l:=[]) hd (show Instr.findNow d kv [] 0=some none from rfl);obtain⟨z,z1,z2⟩:=JA h e;have dN:(execOp a.eval o).run P w= .ok (.value (if ok then .tuple #[z,.bool false]else z)) w:=by
   simp [execOp,ho,Instr.lookup,underlying,hu,hr,qL,gu,lL,z1]
  rw [dN];exact hk e _ w (Az.refl e) hM z2
 ·cases h
def Zj (P:Program) (tm:Tm) (t:TypeId) (m k x:Operand) (M:Tr aI) (K:Tr aI->Option R):Option R:=match P.underlying t with
 |some (.map kt _)=>match P.underlying kt with
  |some d=>match cF tm k with
   |some (.lit kv)=>cond (pJ d kv) (match cF tm x with
    |some av=>match cF tm m with
     |some (.map b)=>match M.get b with
      |some (.map es c)=>match Xc d kv es 0 with
       |some (some (i,_))=>sE es i (kv,av) fun es=>Tr.iK FU M b (some (.map es c)) K
       |some none=>xh es (kv,av) fun es=>fN (c+1) fun c=>Tr.iK FU M b (some (.map es c)) K
       |none=>none
      |_=>none
     |_=>none
    |none=>none) none
   |_=>none
  |none=>none
 |_=>none
theorem L4 (w:World) (B:Nat) (ob:Obj):w.grownBy { w with heap:=w.heap.setIfInBounds B ob } (some B):=
 ⟨rfl,rfl,rfl,by simp,fun k hk bZ=>by
  simp only [Array.getElem?_setIfInBounds];rw [if_neg (fun h=>bZ (by rw [h]))]⟩
theorem JB {P:Program} {tm:Tm} {o:Oper} {t:TypeId} {m k x:Operand} {M:Tr aI} {n:Nat} {K:Tr aI->Option R} {r:R} (ho:o.op= .mapUpdate t m k x\/o.op= .insert t m k x) (h:Zj P tm t m k x M K=some r): ∃M',K M'=some r/\eW P tm o M n (.lit undef) M' n:=by
 unfold Zj at h;split at h
 case h_2=>cases h
 rename_i kt el hu;split at h
 case h_2=>cases h
 rename_i d hd;split at h
 case h_2=>cases h
 rename_i kv ue;cases hc:pJ d kv with
 |false=>rw [hc]at h;cases h
 |true=>
 rw [hc]at h;simp only [cond_true]at h;split at h
 case h_2=>cases h
 rename_i av hx;split at h
 case h_2=>cases h
 rename_i b hm;split at h
 case h_2=>cases h
 rename_i es c hb;have sF:∀y,y=m\/y=k\/y=x->y∈o.op.operands.toList:=by
  intro y hy;rcases ho with ho|ho<;>rcases hy with rfl|rfl|rfl<;>simp [ho,Op.operands]
 have sG:∀(a:Act) (w w':World),(Instr.mapUpdate t (a.eval m) (a.eval k) (a.eval x)).run P w= .ok () w'->(execOp a.eval o).run P w= .ok .skip w':=by
  intro a w w' hr;rcases ho with ho|ho<;>simp [execOp,ho,hr]
 have gu:∀w b,(Instr.checkKey b 10000 kt kv).run P w= .ok () w:=fun w b=>run_checkKey hd (z5 hc) b 9999
 have fin:∀(nN:List (Value×AV)) (c':Nat) (M':Tr aI),(∀j,M'.get j=if j=b then some (.map nN c')else M.get j)->
  (∀(a:Act) (e:Env) (w:World) (B:Nat) (ms:List MapEntry),a.eval m= .map (some B)->a.eval k=kv->av.rep e (a.eval x)->w.heap[B]? =some (.map ⟨ms⟩ c)->B4 e es ms->∃iv,B4 e nN iv/\(Instr.mapUpdate t (a.eval m) (a.eval k) (a.eval x)).run P w= .ok () { w with heap:=w.heap.setIfInBounds B (.map ⟨iv⟩ c') })->
  eW P tm o M n (.lit undef) M' n:=by
  intro nN c' M' fx dN b0 e a w hM hT next hk;have hr:=hT _ (sF m (.inl rfl)) _ hm;simp only [AV.rep]at hr;obtain⟨B,tt,q1,q2⟩:=hr;obtain⟨B',t',ms,g1,g2,g3,g4⟩:=hM.bG b _ hb;rw [q1]at g1;cases g1;have lM:=hT _ (sF k (.inr (.inl rfl))) _ ue;simp only [AV.rep]at lM;obtain⟨iv,r1,r2⟩:=dN a e w B ms q2 lM (hT _ (sF x (.inr (.inr rfl))) _ hx) g2 g3;rw [sG a w _ r2];have aO:=(Array.getElem?_eq_some_iff.1 g2).1;refine hk e _ _ (Az.refl e) (hM.kB hb q1 g4 (L4 w B _) fx ⟨B,tt,iv,q1,by simp [aO],r1,g4⟩) (by simp only [AV.rep])
 split at h
 ·rename_i i a' hf;rw [I9]at h;obtain⟨M',h1,h2⟩:=Tr.jn (f:=FU) h;refine⟨M',h1,fin _ _ M' h2 fun a e w B ms q2 lM z_ g2 g3=> ?_⟩;obtain⟨v,me,f1,f2,f3,f4,f5⟩:=Oc g3 hf;rw [Nat.sub_zero]at f4;have lL:=run_findKey (P:=P) (w:=w) hd f1;have fK:=MapKept.run_getObj_map (P:=P) g2;have ZG:(⟨ms⟩:Array MapEntry)[i]? =some me:=by simpa using f4
  have dU:∀w:World,(Instr.keyThatStays me.key kv).run P w= .ok kv w:=fun w=>by
   unfold Instr.keyThatStays;rw [if_pos (ZC 10000 f5)];rfl
  refine⟨_,O5 z_ i g3,?_⟩;have nQ:=run_setObj_map (P:=P) (.map ((⟨ms⟩:Array MapEntry).modify i fun e=> { e with key:=kv,val:=a.eval x }) c) g2;simp only [Instr.mapUpdate,underlying,hu,Sem.run_bind,run_program,Sem.run_pure,Result.andThen_ok,q2,fK,lM,gu,lL,ZG,Option.map_some,Option.getD_some,dU,nQ];congr 4;apply ext';simp
 ·rename_i hf;rw [I_,Ew]at h;obtain⟨M',h1,h2⟩:=Tr.jn (f:=FU) h;refine⟨M',h1,fin _ _ M' h2 fun a e w B ms q2 lM z_ g2 g3=> ?_⟩;have f1:=Ob g3 hf;have lL:=run_findKey (P:=P) (w:=w) hd f1;have fK:=MapKept.run_getObj_map (P:=P) g2;refine⟨_,R2 (c:=c) z_ g3,?_⟩;have nQ:=run_setObj_map (P:=P) (.map ((⟨ms⟩:Array MapEntry).push { key:=kv,val:=a.eval x,born:=c }) (c+1)) g2;simp only [Instr.mapUpdate,underlying,hu,Sem.run_bind,run_program,Sem.run_pure,Result.andThen_ok,q2,fK,lM,gu,lL,nQ];congr 4;apply ext';simp
 ·cases h
def sH:List (Value×AV)->Nat->(List (Value×AV)->Option R)->Option R
 |[],_,K=>K []|_::es,0,K=>K es|y::es,i+1,K=>sH es i fun es=>K (y::es)
theorem JC:∀(es:List (Value×AV)) (i:Nat) (K:List (Value×AV)->Option R),sH es i K=K (es.eraseIdx i)
 |[],_,_=>by simp [sH]
 |_::_,0,_=>by simp [sH]
 |_::es,i+1,K=>by simp [sH,JC es]
theorem P8 {e:Env} :∀ {es:List (Value×AV)} {ms:List MapEntry} (i:Nat),B4 e es ms->B4 e (es.eraseIdx i) (ms.eraseIdx i)
 |[],ms,i,h=>by simp only [B4]at h;subst h;simp [B4]
 |(k,a)::es,ms,0,h=>by
  obtain⟨m,iv,rfl,h2,h3,h4⟩:=h;exact h4
 |(k,a)::es,ms,i+1,h=>by
  obtain⟨m,iv,rfl,h2,h3,h4⟩:=h;exact⟨m,_,rfl,h2,h3,P8 i h4⟩
def AA (P:Program) (tm:Tm) (t:TypeId) (m k:Operand) (M:Tr aI) (K:Tr aI->Option R):Option R:=match P.underlying t with
 |some (.map kt _)=>match P.underlying kt with
  |some d=>match cF tm k with
   |some (.lit kv)=>cond (pJ d kv) (match cF tm m with
    |some (.map b)=>match M.get b with
     |some (.map es c)=>match Xc d kv es 0 with
      |some (some (i,_))=>sH es i fun es=>Tr.iK FU M b (some (.map es c)) K
      |some none=>Tr.iK FU M b (some (.map es c)) K|none=>none
     |_=>none
    |_=>none) none
   |_=>none
  |none=>none
 |_=>none
theorem ZH {P:Program} {tm:Tm} {o:Oper} {t tk:TypeId} {m k:Operand} {c0:Call} {M:Tr aI} {n:Nat} {K:Tr aI->Option R} {r:R} (ho:o.op= .call c0) (eV:c0.callee= .builtin .delete) (nL:c0.args=⟨[m,k]⟩) (t1:c0.argTypes=⟨[t,tk]⟩) (h:AA P tm t m k M K=some r): ∃M',K M'=some r/\eW P tm o M n (.lit (.tuple #[])) M' n:=by
 unfold AA at h;split at h
 case h_2=>cases h
 rename_i kt el hu;split at h
 case h_2=>cases h
 rename_i d hd;split at h
 case h_2=>cases h
 rename_i kv ue;cases hc:pJ d kv with
 |false=>rw [hc]at h;cases h
 |true=>
 rw [hc]at h;simp only [cond_true]at h;split at h
 case h_2=>cases h
 rename_i b hm;split at h
 case h_2=>cases h
 rename_i es c hb;have sF:∀y,y=m\/y=k->y∈o.op.operands.toList:=by
  intro y hy;rcases hy with rfl|rfl<;>simp [ho,Op.operands,Call.operands,nL,eV]
 have sG:∀ {a:Act} {w w':World} {v:Value},(Builtin.delete_ #[t,tk] o.type #[a.eval m,a.eval k]).run P w= .ok v w'->(execOp a.eval o).run P w= .ok (.value v) w':=by
  intro a w w' v hr;simp [execOp,ho,resolve,eV,nL,t1,invoke,builtin,hr]
 have gu:∀w b,(Instr.checkKey b 10000 kt kv).run P w= .ok () w:=fun w b=>run_checkKey hd (z5 hc) b 9999
 have fin:∀(nN:List (Value×AV)) (M':Tr aI),(∀j,M'.get j=if j=b then some (.map nN c)else M.get j)->
  (∀(a:Act) (e:Env) (w:World) (B:Nat) (ms:List MapEntry),a.eval m= .map (some B)->a.eval k=kv->w.heap[B]? =some (.map ⟨ms⟩ c)->B4 e es ms->∃iv,B4 e nN iv/\(Builtin.delete_ #[t,tk] o.type #[a.eval m,a.eval k]).run P w= .ok (.tuple #[]) { w with heap:=w.heap.setIfInBounds B (.map ⟨iv⟩ c) })->
  eW P tm o M n (.lit (.tuple #[])) M' n:=by
  intro nN M' fx dN b0 e a w hM hT next hk;have hr:=hT _ (sF m (.inl rfl)) _ hm;simp only [AV.rep]at hr;obtain⟨B,tt,q1,q2⟩:=hr;obtain⟨B',t',ms,g1,g2,g3,g4⟩:=hM.bG b _ hb;rw [q1]at g1;cases g1;have lM:=hT _ (sF k (.inr rfl)) _ ue;simp only [AV.rep]at lM;obtain⟨iv,r1,r2⟩:=dN a e w B ms q2 lM g2 g3;rw [sG r2];have aO:=(Array.getElem?_eq_some_iff.1 g2).1;refine hk e _ _ (Az.refl e) (hM.kB hb q1 g4 (L4 w B _) fx ⟨B,tt,iv,q1,by simp [aO],r1,g4⟩) (by simp only [AV.rep])
 split at h
 ·rename_i i a' hf;rw [JC]at h;obtain⟨M',h1,h2⟩:=Tr.jn (f:=FU) h;refine⟨M',h1,fin _ M' h2 fun a e w B ms q2 lM g2 g3=> ?_⟩;obtain⟨v,me,f1,f2,f3,f4,f5⟩:=Oc g3 hf;rw [Nat.sub_zero]at f4;have lL:=run_findKey (P:=P) (w:=w) hd f1;have fK:=MapKept.run_getObj_map (P:=P) g2;refine⟨_,P8 i g3,?_⟩;have nQ:=run_setObj_map (P:=P) (.map (ms.eraseIdx i).toArray c) g2;simp [Builtin.delete_,run_underlying hu,q2,fK,lM,gu,lL,nQ,Result.andThen]
 ·rename_i hf;obtain⟨M',h1,h2⟩:=Tr.jn (f:=FU) h;refine⟨M',h1,fin _ M' h2 fun a e w B ms q2 lM g2 g3=> ?_⟩;have f1:=Ob g3 hf;have lL:=run_findKey (P:=P) (w:=w) hd f1;have fK:=MapKept.run_getObj_map (P:=P) g2;refine⟨ms,g3,?_⟩;have nQ:=run_setObj_map (P:=P) (.map (⟨ms⟩:Array MapEntry) c) g2;simp [Builtin.delete_,run_underlying hu,q2,fK,lM,gu,lL,nQ,Result.andThen]
 ·cases h
def Sm (P:Program) (tm:Tm) (t:TypeId) (l c:Operand):Option (List AV×(Nat->AV)):=match P.underlying t with
 |some (.slice e)=>match P.info? e,Kz P e,T6 tm l,T6 tm c with
  |some i,some z,some l,some c=>cond (decide (0<=l)&&decide (l<=c)&&Nat.beq z.length i.size&&decide ((i.bytes:Int)*c<=281474976710656)&&decide (c<=9223372036854775807)) (some (H5 z c.toNat,fun n=> .slice n 0 l.toNat i.size c.toNat true)) none
  |_,_,_,_=>none
 |_=>none
theorem ZI {P:Program} {tm:Tm} {o:Oper} {t:TypeId} {l c:Operand} {z:List AV} {f:Nat->AV} (ho:o.op= .makeSlice t l c) (h:Sm P tm t l c=some (z,f)):Sj P tm o z f:=by
 unfold Sm at h;split at h
 case h_2=>cases h
 rename_i el hu;split at h
 case h_2=>cases h
 rename_i i z' ln cn hi hz hl hc;cases hb:(decide (0<=ln)&&decide (ln<=cn)&&Nat.beq z'.length i.size&&decide ((i.bytes:Int)*cn<=281474976710656)&&decide (cn<=9223372036854775807))with
 |false=>rw [hb]at h;cases h
 |true=>
 rw [hb]at h;cases h
 simp only [and_eq_true,decide_eq_true_eq]at hb;obtain⟨⟨⟨⟨b1,b2⟩,b3⟩,b4⟩,b5⟩:=hb;have b3:=eq_of_beq_eq_true b3;intro e a w hT;obtain⟨kl,hl⟩:=Ed hT (by simp [ho,Op.operands]) hl;obtain⟨kc,hc⟩:=Ed hT (by simp [ho,Op.operands]) hc;unfold Kz at hz;rw [hi]at hz;simp only at hz;split at hz
 case h_2=>cases hz
 rename_i zv ZJ;cases hz
 have JD:AV.bF e (AV.cells (.lit zv)) zv.cells.toList:=M8 (by simp only [AV.rep]);have hlen:=A5 JD;have eb:zv.cells.size=i.size:=by rw [←b3,←hlen];simp
 have nJ:=IA JD cn.toNat;rw [eb]at nJ;refine⟨(madeCells zv.cells (cn.toNat*i.size)).toList,el,.slice (some ⟨w.heap.size,0,none⟩) ln.toNat cn.toNat,?_,?_,fun e' j hj=> ?_⟩
 ·have:=run_make (P:=P) w t el i zv hu hi ZJ kl kc ln cn b1 b2 b4 b5;simp only [execOp,ho,hl,hc,Sem.run_bind,this,Result.andThen_ok,Sem.run_pure]
 ·unfold madeCells;rw [eb];exact nJ
 ·simp only [AV.rep];refine⟨w.heap.size,_,cn.toNat,_,hj,rfl,.inl rfl,by omega,le_refl _,fun _=>rfl,?_⟩;rw [Array.length_toList,size_madeCells];omega
def uf:List AV->Option (List UInt8)
 |[]=>some []| .lit (.int .u8 n)::l=>cond (decide (0<=n)&&decide (n<256)) (match uf l with
  |some bs=>some (UInt8.ofNat n.toNat::bs)|none=>none) none
 |_::_=>none
theorem JE {e:Env} :∀ {l:List AV} {bs:List UInt8} {vs:List Value},uf l=some bs->AV.bF e l vs->vs=bs.map fun b=> .int .u8 b.toNat
 |[],bs,vs,h,hr=>by simp only [uf]at h;cases h;simp only [AV.bF]at hr;subst hr;rfl
 |a::l,bs,vs,h,hr=>by
  unfold uf at h;split at h
  ·rename_i mF;cases mF
  ·rename_i n l' heq;cases heq
   cases hc:(decide (0<=n)&&decide (n<256))with
   |false=>rw [hc]at h;cases h
   |true=>
    rw [hc]at h;simp only [cond_true]at h;split at h
    case h_2=>cases h
    rename_i bs' AB;cases h
    simp only [and_eq_true,decide_eq_true_eq]at hc;simp only [AV.bF,AV.rep]at hr;obtain⟨x,xs,rfl,rfl,h2⟩:=hr;rw [JE AB h2];simp only [List.map_cons,List.cons.injEq,and_true,Value.int.injEq,true_and];rw [show(UInt8.ofNat n.toNat).toNat=n.toNat by simp;omega];omega
  ·cases h
def xk (P:Program) (tm:Tm) (s d:TypeId) (x:Operand) (M:Tr aI):Option AV:=match cF tm x with
 |some (.slice b o n sz _ _)=>match P.underlying s,P.underlying d with
  |some (.slice e),some .string=>match P.underlying e,M.get b with
   |some (.int .u8),some (.cells l _)=>cond (Nat.beq sz 1&&Nat.ble (o+n) l.length) (match uf ((l.drop o).take n)with
    |some bs=>some (.lit (.string ⟨⟨bs⟩⟩))|none=>none) none
   |_,_=>none
  |_,_=>none
 |_=>none
theorem JF {P:Program} {tm:Tm} {o:Oper} {s d:TypeId} {x:Operand} {M:Tr aI} {n:Nat} {av:AV} (ho:o.op= .convert s d x) (h:xk P tm s d x M=some av):eW P tm o M n av M n:=by
 intro b0 e a w hM hT next hk;unfold xk at h;split at h
 case h_2=>cases h
 rename_i b fJ len sz c ex hx;split at h
 case h_2=>cases h
 rename_i el hs hd;split at h
 case h_2=>cases h
 rename_i l rw he hb;cases hc:(Nat.beq sz 1&&Nat.ble (fJ+len) l.length)with
 |false=>rw [hc]at h;cases h
 |true=>
 rw [hc]at h;simp only [cond_true]at h;split at h
 case h_2=>cases h
 rename_i bs AB;cases h
 simp only [and_eq_true]at hc;have hle:=le_of_ble_eq_true hc.2;obtain⟨B,tt,vs,rest,g1,g2,g3,g4,g5⟩:=hM.bG b _ hb;have hr:=hT _ (by simp [ho,Op.operands]) _ hx;simp only [AV.rep]at hr;obtain⟨B',t',kk,A,q1,q2,q3,q4,_⟩:=hr;rw [g1]at q1;cases q1;have kb:=JE AB (Et (n:=len) (F3 (n:=fJ) g4));have hlen:=A5 g4;have AD:bs.length=len:=by
  have:=congrArg List.length kb;simp at this;omega
 have dN:=run_convert_bytes_back (P:=P) w s d el A kk bs hs he hd fun j hj=>by
  rcases q3 with rfl|q3
  rotate_left
  ·omega
  rw [Fc];have h1:((vs.drop fJ).take len)[j]? =some (.int .u8 (bs[j].toNat:Int)):=by rw [kb];simp [hj]
  rw [List.getElem?_take_of_lt (by omega),List.getElem?_drop]at h1;exact g2.cell (by rw [List.getElem?_append_left (by omega)];exact h1)
 rw [AD]at dN;have mK:(execOp a.eval o).run P w= .ok (.value (.string ⟨bs.toArray⟩)) w:=by
  simp only [execOp,ho,q2,Sem.run_bind,dN,Result.andThen_ok,Sem.run_pure]
 rw [mK];exact hk e _ w (Az.refl e) hM (by simp only [AV.rep])
def AE (P:Program) (tm:Tm) (s d:TypeId) (x:Operand) (M:Tr aI) (n:Nat) (K:AV->Tr aI->Nat->Option R):Option R:=match cF tm x with
 |some (.lit (.string t))=>match P.underlying s,P.underlying d with
  |some .string,some (.slice e)=>match P.underlying e with
   |some (.int .u8)=>fL ((byteCells t).map .lit) fun l=>Tr.iK FU M n (some (.cells l false)) fun M'=>fN (n+1) fun n'=>fN t.size fun z=>K (.slice n 0 z 1 z false) M' n'
   |_=>none
  |_,_=>none
 |_=>none
theorem ZK {P:Program} {tm:Tm} {o:Oper} {s d:TypeId} {x:Operand} {M:Tr aI} {n:Nat} {K:AV->Tr aI->Nat->Option R} {r:R} (ho:o.op= .convert s d x) (h:AE P tm s d x M n K=some r):∃av M' n',K av M' n'=some r/\eW P tm o M n av M' n':=by
 unfold AE at h;split at h
 case h_2=>cases h
 rename_i t hx;split at h
 case h_2=>cases h
 rename_i el hs hd;split at h
 case h_2=>cases h
 rename_i he;rw [R0]at h;obtain⟨M',h1,h2⟩:=Tr.jn (f:=FU) h;rw [Ew,Ew]at h1;refine⟨_,_,_,h1,fun b0 e a w hM hT next hk=> ?_⟩;have hr:=hT _ (by simp [ho,Op.operands]) _ hx;simp only [AV.rep]at hr;have dN:(execOp a.eval o).run P w= .ok (.value (.slice (some ⟨w.heap.size,0,none⟩) t.size (grownCap w t.size 0 el))) (bytesWorld w el t):=by
  simp only [execOp,ho,hr,Sem.run_bind,Lib.run_convert_string_bytes w s d el t hs hd he,Result.andThen_ok,Sem.run_pure]
 rw [dN];have jo:e n=none:=hM.new n (.inl (le_refl _));have jZ:t.size<=grownCap w t.size 0 el:=by have:=grownCap_ge w t.size 0 el;omega
 have mg:(bytesCells w el t).toList=byteCells t++(Array.replicate (grownCap w t.size 0 el-t.size) (Value.int .u8 0)).toList:=by
  unfold bytesCells byteCells;simp
 have AD:(byteCells t).length=t.size:=byteCells_length t;refine hk (e.put n (w.heap.size,grownCap w t.size 0 el)) _ _ (Az.put jo _) (hM.HY (M':=M'.get) ⟨rfl,rfl,rfl,?_,fun k hk _=>bytesWorld_at_old w el t k hk⟩ jo (fun h=>lt_irrefl _ (hM.res n h)) (Nat.le_succ n) (Nat.lt_succ_self n) h2
  ⟨w.heap.size,grownCap w t.size 0 el,byteCells t,(Array.replicate (grownCap w t.size 0 el-t.size) (Value.int .u8 0)).toList,Gd _ _ _,⟨el,((bytesCells w el t).size,(bytesCells w el t).size+1),?_,by exact .inr ⟨rfl,Nat.le_of_eq (by rw [←mg];simp)⟩⟩,?_,Ky _,fun hx=> ?_⟩) ?_
 ·rw [bytesWorld_size];omega
 ·rw [bytesWorld_at_new,←mg]
 ·rw [List.length_append,AD];simp;omega
 ·have:=b0.lt _ hx;have:=hM.kept.size;omega
 ·simp only [AV.rep];exact⟨_,_,grownCap w t.size 0 el,_,Gd _ _ _,rfl,.inl rfl,jZ,jZ,nofun,by omega⟩
def ug:AV->Option Nat
 | .slice _ _ n _ _ _=>some n| .lit (.slice none n _)=>some n|_=>none
theorem JG {e:Env} {a:AV} {v:Value} {n:Nat} (h:ug a=some n) (hr:a.rep e v):∃base c,v= .slice base n c:=by
 unfold ug at h;split at h
 ·cases h
  simp only [AV.rep]at hr;obtain⟨B,t,k,A,_,rfl,_⟩:=hr;exact⟨_,_,rfl⟩
 ·cases h
  simp only [AV.rep]at hr;exact⟨_,_,hr⟩
 ·cases h
def AF (P:Program) (tm:Tm) (t:TypeId) (d x:Operand) (M:Tr aI) (K:AV->Tr aI->Option R):Option R:=match P.underlying t with
 |some (.slice e)=>match P.info? e,cF tm d,cF tm x with
  |some i,some da,some xa=>match ug da,ug xa with
   |some dl,some xl=>cond (Nat.beq (Nat.min xl dl) 0) (K (.lit (.int .i64 0)) M) (match da,xa with
    | .slice b o _ sz _ _,.slice b2 o2 _ qE _ _=>fN (Nat.min xl dl) fun n=>match M.get b,M.get b2 with
     |some (.cells l true),some (.cells l2 _)=>cond (Nat.beq i.size sz&&Nat.beq qE sz&&Nat.ble (o+n*sz) l.length&&Nat.ble (o2+n*sz) l2.length&&nI ((l2.drop o2).take (n*sz))) (oy l o ((l2.drop o2).take (n*sz)) fun l=>Tr.iK FU M b (some (.cells l true)) fun M'=>K (.lit (.int .i64 n)) M') none
     |_,_=>none
    |_,_=>none)
   |_,_=>none
  |_,_,_=>none
 |_=>none
theorem ZL {P:Program} {tm:Tm} {o:Oper} {c:Call} {t tx:TypeId} {d x:Operand} {M:Tr aI} {n:Nat} {K:AV->Tr aI->Option R} {r:R} (ho:o.op= .call c) (eV:c.callee= .builtin .copy) (nL:c.args= #[d,x]) (t1:c.argTypes= #[t,tx]) (h:AF P tm t d x M K=some r):∃av M',K av M'=some r/\eW P tm o M n av M' n:=by
 have sG:∀ {a:Act} {w w':World} {v:Value},(Builtin.copy_ #[t,tx] o.type #[a.eval d,a.eval x]).run P w= .ok v w'->(execOp a.eval o).run P w= .ok (.value v) w':=by
  intro a w w' v hr;simp [execOp,ho,resolve,eV,nL,t1,invoke,builtin,hr]
 unfold AF at h;split at h
 case h_2=>cases h
 rename_i el hu;split at h
 case h_2=>cases h
 rename_i i da xa hi hd hx;split at h
 case h_2=>cases h
 rename_i dl xl nR fy;have JH:d∈o.op.operands.toList:=by simp [ho,Op.operands,Call.operands,eV,nL]
 have JI:x∈o.op.operands.toList:=by simp [ho,Op.operands,Call.operands,eV,nL]
 cases hz:Nat.beq (Nat.min xl dl) 0 with
 |true=>
  rw [hz]at h;simp only [cond_true]at h;have hz:=eq_of_beq_eq_true hz;refine⟨_,_,h,fun b0 e a w hM hT next hk=> ?_⟩;obtain⟨bd,cd,ed⟩:=JG nR (hT _ JH _ hd);obtain⟨bx,cx,ex⟩:=JG fy (hT _ JI _ hx);have dN:(Builtin.copy_ #[t,tx] o.type #[a.eval d,a.eval x]).run P w= .ok (.int .i64 0) w:=by
   have AG:(Builtin.firstCells i.size 0 (.slice bx xl cx)).run P w= .ok #[] w:=by
    cases bx with
    |none=>exact run_firstCells_none w _ _ _ _
    |some A=>exact run_firstCells_some w i.size 0 A xl cx [] (by simp) (fun j v hj=>by simp at hj)
   cases bd<;>simp [Builtin.copy_,run_underlying hu,ed,ex,Builtin.lenOf,hz,sizeOf,typeInfo,hi,AG,storeCells,goInt]
  rw [sG dN];exact hk e _ w (Az.refl e) hM (by simp only [AV.rep])
 |false=>
  rw [hz]at h;simp only [cond_false]at h;have hz:Nat.min xl dl≠0:=fun e=>by rw [e]at hz;cases hz
  split at h
  case h_2=>cases h
  rename_i b fJ JJ sz cd exd b2 o2 AH qE cx exx;simp only [ug,Option.some.injEq]at nR fy;subst nR;subst fy;rw [Ew]at h;split at h
  case h_2=>cases h
  rename_i l l2 rw2 hb ec;generalize hn:Nat.min AH JJ=m at h hz;cases hc:(Nat.beq i.size sz&&Nat.beq qE sz&&Nat.ble (fJ+m*sz) l.length&&Nat.ble (o2+m*sz) l2.length&&nI ((l2.drop o2).take (m*sz)))with
  |false=>rw [hc]at h;cases h
  |true=>
  rw [hc]at h;simp only [cond_true]at h;simp only [and_eq_true]at hc;obtain⟨⟨⟨⟨c1,c2⟩,c3⟩,c4⟩,c5⟩:=hc;have c1:=eq_of_beq_eq_true c1;have c3:=le_of_ble_eq_true c3;have c4:=le_of_ble_eq_true c4;obtain⟨h1,_⟩:=P6 h;obtain⟨M',h2,fx⟩:=Tr.jn (f:=FU) h1;refine⟨_,M',h2,fun b0 e a w hM hT next hk=> ?_⟩;obtain⟨B,tt,vs,rest,g1,g2,g3,g4,g5⟩:=hM.bG b _ hb;obtain⟨B2,tt2,uh,Brt,f1,f2,f3,f4,f5⟩:=hM.bG b2 _ ec;have hr:=hT _ JH _ hd;simp only [AV.rep]at hr;obtain⟨B',t',k,A,q1,q2,q3,q4,_⟩:=hr;rw [g1]at q1;cases q1;have fl:=hT _ JI _ hx;simp only [AV.rep]at fl;obtain⟨B2',t2',k2,A2,p1,p2,p3,p4,_⟩:=fl;rw [f1]at p1;cases p1;have AJ:m<=AH:=hn▸Nat.min_le_left _ _;have kV:m<=JJ:=hn▸Nat.min_le_right _ _;rcases q3 with rfl|q3
  rotate_left
  ·omega
  rcases p3 with rfl|p3
  rotate_left
  ·omega
  have jq:=Et (n:=m*sz) (F3 (n:=o2) f4);have Bru:=A5 f4;have hlen:=A5 g4;have iL:((uh.drop o2).take (m*sz)).length=m*sz:=by simp;omega
  have AG:=run_firstCells_some (P:=P) w i.size m ⟨B2,o2,none⟩ AH k2 ((uh.drop o2).take (m*sz)) (by rw [iL,c1]) (fun j v hj=>by
   have ZM:j<m*sz:=by rw [←iL];exact(List.getElem?_eq_some_iff.1 hj).1
   rw [Fc];rw [List.getElem?_take_of_lt ZM,List.getElem?_drop]at hj;exact f2.cell (by rw [List.getElem?_append_left (by omega)];exact hj))
  have dU:=Hr (P:=P) (a:=⟨B,fJ,none⟩) ((uh.drop o2).take (m*sz)) w 0 (T8 c5 jq) (T7 g2 (by simp only [List.length_append];omega));rw [Vx,Nat.add_zero]at dU;obtain⟨s1,s2⟩:=tY ((uh.drop o2).take (m*sz)) fJ w _ g2;rw [Z7 _ _ _ _ (by omega)]at s1;have dN:(Builtin.copy_ #[t,tx] o.type #[a.eval d,a.eval x]).run P w= .ok (.int .i64 m) (w.setCells B fJ ((uh.drop o2).take (m*sz))):=by
   simp [Builtin.copy_,run_underlying hu,q2,p2,Builtin.lenOf,hn,sizeOf,typeInfo,hi,AG,dU,goInt]
  rw [sG dN];refine hk e _ _ (Az.refl e) (hM.kB hb g1 g5 s2 fx ⟨B,_,_,rest,g1,s1,?_,T4 fJ jq g4,g5⟩) (by simp only [AV.rep]);rw [←g3];simp [Vu]
def ui (P:Program) (tm:Tm) (o:Oper) (M:Tr aI) (n:Nat) (K:AV->Tr aI->Nat->Option R):Option R:=match o.op with
 | .call { callee:= .builtin .append,args:=⟨[s,x]⟩,argTypes:=⟨[t,tx]⟩ } =>zP P tm t tx s x M n K| .call { callee:= .builtin .copy,args:=⟨[d,x]⟩,argTypes:=⟨[t,_]⟩ } =>AF P tm t d x M fun av M'=>K av M' n
 | .call { callee:= .builtin .delete,args:=⟨[m,k]⟩,argTypes:=⟨[t,_]⟩ } =>AA P tm t m k M fun M'=>K (.lit (.tuple #[])) M' n
 | .convert s d x=>match xk P tm s d x M with
  |some av=>fA av fun av=>K av M n
  |none=>AE P tm s d x M n K
 | .makeMap t x=>z7 P tm t x M n K| .lookup t x ix ok=>match z8 P tm t x ix ok M with
  |some av=>fA av fun av=>K av M n
  |none=>none
 | .mapUpdate t m k x=>Zj P tm t m k x M fun M'=>K (.lit undef) M' n
 | .insert t m k x=>Zj P tm t m k x M fun M'=>K (.lit undef) M' n
 | .makeSlice t l c=>match Sm P tm t l c with
  |some (z,f)=>pA M n z fun M' n'=>fA (f n) fun av=>K av M' n'
  |none=>none
 |_=>none
theorem ZN {P:Program} {tm:Tm} {o:Oper} {M:Tr aI} {n:Nat} {K:AV->Tr aI->Nat->Option R} {r:R} (h:ui P tm o M n K=some r):∃av M' n',K av M' n'=some r/\eW P tm o M n av M' n':=by
 unfold ui at h;split at h
 ·rename_i s x t tx ho;exact XZ ho rfl rfl rfl h
 ·rename_i d x t tx ho;obtain⟨av,M',h1,h2⟩:=ZL ho rfl rfl rfl h;exact⟨_,_,_,h1,h2⟩
 ·rename_i m k t tx ho;obtain⟨M',h1,h2⟩:=ZH ho rfl rfl rfl h;exact⟨_,_,_,h1,h2⟩
 ·rename_i s d x ho;split at h
  ·rename_i av eA;rw [P2]at h;exact⟨_,_,_,h,JF ho eA⟩
  ·exact ZK ho h
 ·rename_i t x ho;exact ZD ho h
 ·rename_i t x ix ok ho;split at h
  ·rename_i av eA;rw [P2]at h;exact⟨_,_,_,h,ZF ho eA⟩
  ·cases h
 ·rename_i t m k x ho;obtain⟨M',h1,h2⟩:=JB (.inl ho) h;exact⟨_,_,_,h1,h2⟩
 ·rename_i t m k x ho;obtain⟨M',h1,h2⟩:=JB (.inr ho) h;exact⟨_,_,_,h1,h2⟩
 ·rename_i t l c ho;split at h
  ·rename_i z f hz;obtain⟨M',h1,h2⟩:=T9 h;rw [P2]at h1;exact⟨_,_,_,h1,(ZI ho hz).Iz h2⟩
  ·cases h
 ·cases h
variable {R:Type}
def cR:Operand->Bx (Tm->Option AV)
 | .tmp t=>Tm.gB t| .const v=>⟨fun _=>some (.lit v)⟩
 | .func f=>⟨fun _=>some (.lit (.func (.func f) #[] #[]))⟩
 | .global _=>⟨fun _=>none⟩
theorem Eu (x:Operand) (tm:Tm):(cR x).get tm=cF tm x:=by cases x<;>rfl
def b1 {α β:Type} (f:α->β):Bx α->Bx β
 |⟨g⟩=>⟨f g⟩
def b2 {α β γ:Type} (f:α->β->γ):Bx α->Bx β->Bx γ
 |⟨g⟩,⟨h⟩=>⟨f g h⟩
def b3 {α β γ δ:Type} (f:α->β->γ->δ):Bx α->Bx β->Bx γ->Bx δ
 |⟨g⟩,⟨h⟩,⟨i⟩=>⟨f g h i⟩
def xm (v:Value) (f:IntKind->Int->Option R):Option R:=Value.casesOn (motive_1:=fun _=>Option R) v (fun _=>none) f (fun _ _=>none) (fun _ _ _=>none) (fun _=>none) (fun _=>none) (fun _ _ _=>none) (fun _=>none) (fun _=>none) (fun _ _ _=>none) none (fun _ _=>none) none (fun _=>none) (fun _=>none)
def ZO (v:Value) (f:Bool->Option R):Option R:=Value.casesOn (motive_1:=fun _=>Option R) v f (fun _ _=>none) (fun _ _=>none) (fun _ _ _=>none) (fun _=>none) (fun _=>none) (fun _ _ _=>none) (fun _=>none) (fun _=>none) (fun _ _ _=>none) none (fun _ _=>none) none (fun _=>none) (fun _=>none)
def AK (x:AV) (f:Value->Option R):Option R:=AV.casesOn (motive_1:=fun _=>Option R) x f (fun _ _=>none) (fun _ _ _ _ _ _=>none) (fun _=>none) (fun _=>none) (fun _ _ _=>none) (fun _=>none) (fun _ _=>none) (fun _=>none) (fun _ _ _=>none) none (fun _ _ _ _=>none)
def oK {α:Type} (x:Option α) (f:α->Option R):Option R:=Option.casesOn (motive:=fun _=>Option R) x none f
def xn (x:Option AV) (f:IntKind->Int->Option R):Option R:=oK x fun x=>AK x fun v=>xm v f
def uj (x:Option AV) (f:Bool->Option R):Option R:=oK x fun x=>AK x fun v=>ZO v f
theorem Bp {α:Type} {x:Option α} {f:α->Option R} {r:R} (h:oK x f=some r):∃a,x=some a/\f a=some r:=by
 cases x with
 |none=>cases h
 |some a=>exact⟨a,rfl,h⟩
theorem JK {x:AV} {f:Value->Option R} {r:R} (h:AK x f=some r):∃v,x= .lit v/\f v=some r:=by
 cases x<;>first|exact⟨_,rfl,h⟩|cases h
theorem V0 {x:Option AV} {f:IntKind->Int->Option R} {r:R} (h:xn x f=some r):∃k a,x=some (.lit (.int k a))/\f k a=some r:=by
 obtain⟨a,rfl,h⟩:=Bp h;obtain⟨v,rfl,h⟩:=JK h;cases v<;>first|exact⟨_,_,rfl,h⟩|cases h
theorem Sn {x:Option AV} {f:Bool->Option R} {r:R} (h:uj x f=some r):∃b,x=some (.lit (.bool b))/\f b=some r:=by
 obtain⟨a,rfl,h⟩:=Bp h;obtain⟨v,rfl,h⟩:=JK h;cases v<;>first|exact⟨_,rfl,h⟩|cases h
def xo:IntKind->Nat
 | .i8=>127| .i16=>32767| .i32=>2147483647| .i64=>9223372036854775807| .u8=>255| .u16=>65535| .u32=>4294967295| .u64=>18446744073709551615
theorem wrap_small {k:IntKind} {s:Nat} (h:s<=xo k):k.wrap (Int.ofNat s)=Int.ofNat s:=by
 cases k<;>simp only [xo]at h<;>simp only [IntKind.wrap,IntKind.bits,IntKind.signed]<;>simp<;>omega
def sI:IntKind->Nat
 | .i8=>0| .i16=>1| .i32=>2| .i64=>3| .u8=>4| .u16=>5| .u32=>6| .u64=>7
theorem ZP {k k':IntKind} (h:Nat.beq (sI k) (sI k')=true):k=k':=by
 cases k<;>cases k'<;>first|rfl|exact absurd h (by decide)
def oC (a b:Int) (f:Nat->Nat->Option R) (s:Option R):Option R:=Int.casesOn (motive:=fun _=>Option R) a (fun m=>Int.casesOn (motive:=fun _=>Option R) b (fun n=>f m n) (fun _=>s)) (fun _=>s)
def ef (b:Bool) (x y:Option R):Option R:=Bool.casesOn (motive:=fun _=>Option R) b y x
def pK (k:IntKind) (s:Nat) (K:AV->Option R) (qM:Option R):Option R:=fN s fun s=>ef (Nat.ble s (xo k)) (K (.lit (.int k (.ofNat s)))) qM
def qN (b:Bool) (K:AV->Option R):Option R:=ef b (K (.lit (.bool true))) (K (.lit (.bool false)))
def AL:BinOp->Option (IntKind->Int->Int->AV)
 | .add=>some fun k a b=> .lit (.int k (k.wrap (Int.add a b)))
 | .sub=>some fun k a b=> .lit (.int k (k.wrap (Int.sub a b)))
 | .mul=>some fun k a b=> .lit (.int k (k.wrap (Int.mul a b)))
 | .and=>some fun k a b=> .lit (.int k (k.wrap (BitVec.ofInt k.bits a&&&BitVec.ofInt k.bits b).toNat))
 | .or=>some fun k a b=> .lit (.int k (k.wrap (BitVec.ofInt k.bits a|||BitVec.ofInt k.bits b).toNat))
 | .xor=>some fun k a b=> .lit (.int k (k.wrap (BitVec.ofInt k.bits a^^^BitVec.ofInt k.bits b).toNat))
 | .eql=>some fun _ a b=> .lit (.bool (a==b))
 | .neq=>some fun _ a b=> .lit (.bool (a !=b))
 | .lss=>some fun _ a b=> .lit (.bool (decide (a<b)))
 | .leq=>some fun _ a b=> .lit (.bool (decide (a<=b)))
 | .gtr=>some fun _ a b=> .lit (.bool (decide (a>b)))
 | .geq=>some fun _ a b=> .lit (.bool (decide (a>=b)))
 |_=>none
theorem ZQ {op:BinOp} {f:IntKind->Int->Int->AV} (h:AL op=some f) {P:Program} {t:TypeId} {k:IntKind} {a b:Int} :∃v,f k a b= .lit v/\∀w,(binOp op t (.int k a) (.int k b)).run P w= .ok v w:=by
 unfold AL at h;split at h<;>first|cases h;exact⟨_,rfl,fun w=>by simp [binOp,Op.intArith,Op.intBits,Op.intCmp]<;>rfl⟩|cases h
abbrev uk (R:Type):Type:=IntKind->Int->Int->(AV->Option R)->Option R
def Jf (f:IntKind->Int->Int->AV):uk R:=fun k a b K=>fA (f k a b) K
def xp:BinOp->Option (Bx (uk R))
 | .add=>some ⟨fun k a b K=>oC a b (fun m n=>pK k (Nat.add m n) K (Jf (fun k a b=> .lit (.int k (k.wrap (Int.add a b)))) k a b K)) (Jf (fun k a b=> .lit (.int k (k.wrap (Int.add a b)))) k a b K)⟩
 | .sub=>some ⟨fun k a b K=>oC a b (fun m n=>ef (Nat.ble n m) (pK k (Nat.sub m n) K (Jf (fun k a b=> .lit (.int k (k.wrap (Int.sub a b)))) k a b K)) (Jf (fun k a b=> .lit (.int k (k.wrap (Int.sub a b)))) k a b K)) (Jf (fun k a b=> .lit (.int k (k.wrap (Int.sub a b)))) k a b K)⟩
 | .mul=>some ⟨fun k a b K=>oC a b (fun m n=>pK k (Nat.mul m n) K (Jf (fun k a b=> .lit (.int k (k.wrap (Int.mul a b)))) k a b K)) (Jf (fun k a b=> .lit (.int k (k.wrap (Int.mul a b)))) k a b K)⟩
 | .and=>some ⟨Jf fun k a b=> .lit (.int k (k.wrap (BitVec.ofInt k.bits a&&&BitVec.ofInt k.bits b).toNat))⟩
 | .or=>some ⟨Jf fun k a b=> .lit (.int k (k.wrap (BitVec.ofInt k.bits a|||BitVec.ofInt k.bits b).toNat))⟩
 | .xor=>some ⟨Jf fun k a b=> .lit (.int k (k.wrap (BitVec.ofInt k.bits a^^^BitVec.ofInt k.bits b).toNat))⟩
 | .eql=>some ⟨fun k a b K=>oC a b (fun m n=>qN (Nat.beq m n) K) (Jf (fun _ a b=> .lit (.bool (a==b))) k a b K)⟩
 | .neq=>some ⟨fun k a b K=>oC a b (fun m n=>ef (Nat.beq m n) (K (.lit (.bool false))) (K (.lit (.bool true)))) (Jf (fun _ a b=> .lit (.bool (a !=b))) k a b K)⟩
 | .lss=>some ⟨fun k a b K=>oC a b (fun m n=>ef (Nat.ble n m) (K (.lit (.bool false))) (K (.lit (.bool true)))) (Jf (fun _ a b=> .lit (.bool (decide (a<b)))) k a b K)⟩
 | .leq=>some ⟨fun k a b K=>oC a b (fun m n=>qN (Nat.ble m n) K) (Jf (fun _ a b=> .lit (.bool (decide (a<=b)))) k a b K)⟩
 | .gtr=>some ⟨fun k a b K=>oC a b (fun m n=>ef (Nat.ble m n) (K (.lit (.bool false))) (K (.lit (.bool true)))) (Jf (fun _ a b=> .lit (.bool (decide (a>b)))) k a b K)⟩
 | .geq=>some ⟨fun k a b K=>oC a b (fun m n=>qN (Nat.ble n m) K) (Jf (fun _ a b=> .lit (.bool (decide (a>=b)))) k a b K)⟩
 |_=>none
theorem ZR (f:IntKind->Int->Int->AV) (k:IntKind) (a b:Int) (K:AV->Option R):Jf f k a b K=K (f k a b):=P2 _ _
theorem ZS (k:IntKind) (s:Nat) (K:AV->Option R):pK k s K (K (.lit (.int k (k.wrap (Int.ofNat s)))))=K (.lit (.int k (k.wrap (Int.ofNat s)))):=by
 unfold pK;rw [Ew];cases h:Nat.ble s (xo k)with
 |false=>rfl
 |true=>rw [wrap_small (le_of_ble_eq_true h)];rfl
theorem AM {k:IntKind} {s:Nat} {z:Int} (hz:z=Int.ofNat s) (K:AV->Option R):pK k s K (K (.lit (.int k (k.wrap z))))=K (.lit (.int k (k.wrap z))):=by subst hz;exact ZS k s K
theorem AO (b:Bool) (K:AV->Option R):qN b K=K (.lit (.bool b)):=by cases b<;>rfl
theorem Ud (b:Bool) (K:AV->Option R):ef b (K (.lit (.bool false))) (K (.lit (.bool true)))=K (.lit (.bool !b)):=by cases b<;>rfl
theorem q1 (m n:Nat):(Int.ofNat m==Int.ofNat n)=Nat.beq m n:=by
 rw [Bool.eq_iff_iff,beq_iff_eq,Nat.beq_eq];exact⟨fun h=>Int.ofNat.inj h,fun h=>congrArg _ h⟩
theorem q2 (m n:Nat):(Int.ofNat m !=Int.ofNat n)= !Nat.beq m n:=by rw [bne,q1]
theorem q3 (m n:Nat):decide (Int.ofNat m<Int.ofNat n)= !Nat.ble n m:=by
 rw [Bool.eq_iff_iff,decide_eq_true_iff,Bool.not_eq_true',←Bool.not_eq_true,Nat.ble_eq];simp only [Int.ofNat_eq_natCast];omega
theorem q4 (m n:Nat):decide (Int.ofNat m<=Int.ofNat n)=Nat.ble m n:=by
 rw [Bool.eq_iff_iff,decide_eq_true_iff,Nat.ble_eq];simp only [Int.ofNat_eq_natCast];omega
theorem ZT {op:BinOp} {q:Bx (uk R)} (h:xp op=some q):∃f,AL op=some f/\∀k a b K,q.get k a b K=K (f k a b):=by
 unfold xp at h;split at h<;>first|(cases h;refine⟨_,rfl,fun k a b K=> ?_⟩;simp only [ZR])|cases h
 ·cases a<;>cases b<;>first|rfl|(show pK _ _ _ _=_;exact AM rfl K)
 ·cases a<;>cases b<;>first|rfl|skip
  rename_i m n;show ef _ _ _=_
  cases hb:Nat.ble n m with
  |false=>rfl
  |true=>exact AM (by have:=le_of_ble_eq_true hb;show((m:Int)-(n:Int))=((m-n:Nat):Int);omega) K
 ·cases a<;>cases b<;>first|rfl|(show pK _ _ _ _=_;exact AM rfl K)
 all_goals
  cases a<;>cases b<;>first|rfl|skip
  rename_i m n
  first
   |(show qN _ _=_;rw [AO,q1])
   |(show ef _ (K _) (K _)=_;rw [Ud,q2])
   |(show ef _ (K _) (K _)=_;rw [Ud,q3])
   |(show qN _ _=_;rw [AO,q4])
   |(show ef _ (K _) (K _)=_;rw [Ud,gt_iff_lt,q3])
   |(show qN _ _=_;rw [AO];show _=K (AV.lit (.bool (decide (Int.ofNat n<=Int.ofNat m))));rw [q4])
   |(show ef _ (K _) (K _)=_;rw [Ud];show _=K (AV.lit (.bool (decide (Int.ofNat n<Int.ofNat m))));rw [q3])
def xr:BinOp->Option (IntKind->Int->Int->AV)
 | .shl=>some fun k a b=> .lit (.int k (k.wrap (a*2^(min b.toNat k.bits))))
 | .shr=>some fun k a b=> .lit (.int k (a.fdiv (2^(min b.toNat k.bits))))
 |_=>none
theorem ZU {op:BinOp} {f:IntKind->Int->Int->AV} (h:xr op=some f) {P:Program} {t:TypeId} {k k':IntKind} {a b:Int} (hb:¬b<0):∃v,f k a b= .lit v/\∀w,(binOp op t (.int k a) (.int k' b)).run P w= .ok v w:=by
 unfold xr at h;split at h<;>first|cases h;exact⟨_,rfl,fun w=>by simp [binOp,Op.shift,hb]⟩|cases h
abbrev hU (R:Type):Type:=Tm->(AV->Option R)->Option R
def Nd (P:Program) (o:Oper) (f:hU R):Prop:=∀tm K r,f tm K=some r->∃av,K av=some r/\M9 P tm o av
theorem Nd.of {P:Program} {o:Oper} {f:hU R} (h:∀tm K r,f tm K=some r->∃av,Jy P tm o=some av/\K av=some r):Nd P o f:=fun tm K r hr=>by
 obtain⟨av,h1,h2⟩:=h tm K r hr;exact⟨av,h2,P5 h1⟩
theorem JL {P:Program} {o:Oper} {op:BinOp} {t t':TypeId} {x y:Operand} (ho:o.op= .binOp op t x y t') {tm:Tm} {k k':IntKind} {a b:Int} {v:Value} (hx:cF tm x=some (.lit (.int k a))) (hy:cF tm y=some (.lit (.int k' b))) (hv:∀w,(binOp op t (.int k a) (.int k' b)).run P w= .ok v w):M9 P tm o (.lit v):=by
 intro e ac ht;have rx:=ht x (by simp [ho,Op.operands]) _ hx;have ry:=ht y (by simp [ho,Op.operands]) _ hy;simp only [AV.rep]at rx ry;refine⟨v,by simp only [AV.rep],fun w=> ?_⟩;have hg:(eqGuard op t x y (.int k a) (.int k' b)).run P w= .ok () w:=by
  cases op<;>rfl
 simp only [execOp,ho,rx,ry,Sem.run_bind,hg,hv w,Result.andThen_ok,Sem.run_pure]
def Ue (P:Program) (o:Oper):hU R:=fun tm K=>match Jy P tm o with
 |some av=>fA av K|none=>none
theorem So {P:Program} {o:Oper} {tm:Tm} {K:AV->Option R} {r:R} (h:Ue P o tm K=some r):∃av,Jy P tm o=some av/\K av=some r:=by
 unfold Ue at h;split at h
 ·rename_i av eA;rw [P2]at h;exact⟨av,eA,h⟩
 ·cases h
def AP (x:AV) (f:Value->Option R) (s:Option R):Option R:=AV.casesOn (motive_1:=fun _=>Option R) x f (fun _ _=>none) (fun _ _ _ _ _ _=>none) (fun _=>none) (fun _=>none) (fun _ _ _=>none) (fun _=>none) (fun _ _=>none) (fun _=>none) (fun _ _ _=>s) none (fun _ _ _ _=>s)
theorem JM {x:AV} {f:Value->Option R} {s:Option R} {r:R} (h:AP x f s=some r):(∃v,x= .lit v/\f v=some r)\/s=some r:=by
 cases x<;>first|exact .inl ⟨_,rfl,h⟩|exact .inr h|cases h
theorem JN {v:Value} {f:IntKind->Int->Option R} {r:R} (h:xm v f=some r):∃k a,v= .int k a/\f k a=some r:=by
 cases v<;>first|exact⟨_,_,rfl,h⟩|cases h
def JO (f:uk R) (s:hU R) (gx gy:Tm->Option AV):hU R:=fun tm K=>oK (gx tm) fun x=>AP x (fun u=>xm u fun k a=>oK (gy tm) fun y=>AP y (fun v=>xm v fun k' b=>ef (Nat.beq (sI k) (sI k')) (f k a b K) none) (s tm K)) (s tm K)
theorem ZV {P:Program} {o:Oper} {op:BinOp} {t t':TypeId} {x y:Operand} (ho:o.op= .binOp op t x y t') {q:Bx (uk R)} (hq:xp op=some q):Nd P o (JO q.get (Ue P o) (cR x).get (cR y).get):=by
 intro tm K r h;have qM:Ue P o tm K=some r->∃av,K av=some r/\M9 P tm o av:=fun h=>by
  obtain⟨av,h1,h2⟩:=So h;exact⟨av,h2,P5 h1⟩
 obtain⟨x',hx,h⟩:=Bp h;rcases JM h with⟨u,rfl,h⟩|h
 case inr=>exact qM h
 obtain⟨k,a,rfl,h⟩:=JN h;obtain⟨y',hy,h⟩:=Bp h;rcases JM h with⟨v,rfl,h⟩|h
 case inr=>exact qM h
 obtain⟨k',b,rfl,h9⟩:=JN h;cases hk:Nat.beq (sI k) (sI k')with
 |false=>rw [hk]at h9;cases h9
 |true=>
  rw [hk]at h9;have hk:=ZP hk;subst hk;obtain⟨f,hf,hK⟩:=ZT hq;change q.get k a b K=some r at h9;rw [hK]at h9;refine⟨_,h9,?_⟩;rw [Eu]at hx hy;obtain⟨v,hv,hr⟩:=ZQ hf (P:=P) (t:=t) (k:=k) (a:=a) (b:=b);rw [hv];exact JL ho hx hy hr
def JP (f:IntKind->Int->Int->AV) (gx gy:Tm->Option AV):hU R:=fun tm K=>xn (gx tm) fun k a=>xn (gy tm) fun _ b=>cond (decide (b<0)) none (fA (f k a b) K)
theorem ZW {P:Program} {o:Oper} {op:BinOp} {t t':TypeId} {x y:Operand} (ho:o.op= .binOp op t x y t') {f:IntKind->Int->Int->AV} (hq:xr op=some f):Nd P o (JP (R:=R) f (cR x).get (cR y).get):=by
 intro tm K r h;obtain⟨k,a,hx,h⟩:=V0 h;obtain⟨k',b,hy,h⟩:=V0 h;rw [Eu]at hx hy;cases hk:decide (b<0)with
 |true=>rw [hk]at h;cases h
 |false=>
  rw [hk]at h;simp only [cond_false,P2]at h;obtain⟨v,e1,e2⟩:=ZU hq (P:=P) (t:=t) (k:=k) (k':=k') (a:=a) (of_decide_eq_false hk);refine⟨_,h,?_⟩;rw [e1];exact JL ho hx hy e2
def AQ (gx:Tm->Option AV):hU R:=fun tm K=>oK (gx tm) K
def JQ (gc gx gy:Tm->Option AV):hU R:=fun tm K=>uj (gc tm) fun b=>ef b (oK (gx tm) K) (oK (gy tm) K)
theorem JR {P:Program} {o:Oper} {x:Operand} (ho:o.op= .move x\/o.op= .assign x):Nd P o (AQ (R:=R) (cR x).get):=Nd.of fun tm K r h=>by
 obtain⟨a,hx,h⟩:=Bp h;rw [Eu]at hx;refine⟨a,?_,h⟩;rcases ho with ho|ho<;>(unfold Jy;rw [ho];exact hx)
theorem ZX {P:Program} {o:Oper} {c x y:Operand} (ho:o.op= .pick c x y):Nd P o (JQ (R:=R) (cR c).get (cR x).get (cR y).get):=Nd.of fun tm K r h=>by
 obtain⟨b,hx,h⟩:=Sn h;rw [Eu]at hx;unfold Jy;rw [ho];cases b with
 |true=>
  obtain⟨a,h1,h2⟩:=Bp (show oK _ K=some r from h);rw [Eu]at h1;exact⟨a,by simp only [hx,cond_true,h1],h2⟩
 |false=>
  obtain⟨a,h1,h2⟩:=Bp (show oK _ K=some r from h);rw [Eu]at h1;exact⟨a,by simp only [hx,cond_false,h1],h2⟩
def JS (gx:Tm->Option AV):hU R:=fun tm K=>uj (gx tm) fun b=>ef b (K (.lit (.bool false))) (K (.lit (.bool true)))
theorem ZY {P:Program} {o:Oper} {t:TypeId} {x:Operand} (ho:o.op= .unOp .not t x):Nd P o (JS (R:=R) (cR x).get):=by
 intro tm K r h;obtain⟨b,hx,h⟩:=Sn h;rw [Eu]at hx;rw [Ud]at h;refine⟨_,h,fun e a ht=> ?_⟩;have rx:=ht x (by simp [ho,Op.operands]) _ hx;simp only [AV.rep]at rx;exact⟨.bool !b,by simp only [AV.rep],fun w=>by simp only [execOp,ho,rx];rfl⟩
def ZZ (x:AV) (f:Nat->Nat->Option R):Option R:=AV.casesOn (motive_1:=fun _=>Option R) x (fun _=>none) f (fun _ _ _ _ _ _=>none) (fun _=>none) (fun _=>none) (fun _ _ _=>none) (fun _=>none) (fun _ _=>none) (fun _=>none) (fun _ _ _=>none) none (fun _ _ _ _=>none)
def sJ (x:Option AV) (f:Nat->Nat->Option R):Option R:=oK x fun x=>ZZ x f
theorem Re {x:Option AV} {f:Nat->Nat->Option R} {r:R} (h:sJ x f=some r):∃b k,x=some (.ptr b k)/\f b k=some r:=by
 obtain⟨a,rfl,h⟩:=Bp h;cases a<;>first|exact⟨_,_,rfl,h⟩|cases h
def Z_ (x:AV) (f:Nat->Nat->Nat->Nat->Nat->Bool->Option R) (s:Option R):Option R:=AV.casesOn (motive_1:=fun _=>Option R) x (fun _=>s) (fun _ _=>none) f (fun _=>none) (fun _=>none) (fun _ _ _=>none) (fun _=>none) (fun _ _=>none) (fun _=>none) (fun _ _ _=>none) none (fun _ _ _ _=>none)
def AR (x:Option AV) (f:Nat->Nat->Nat->Nat->Nat->Bool->Option R) (s:Option R):Option R:=oK x fun x=>Z_ x f s
theorem JT {x:Option AV} {f:Nat->Nat->Nat->Nat->Nat->Bool->Option R} {s:Option R} {r:R} (h:AR x f s=some r):(∃b k n sz c ex,x=some (.slice b k n sz c ex)/\f b k n sz c ex=some r)\/(∃v,x=some (.lit v))/\s=some r:=by
 obtain⟨a,rfl,h⟩:=Bp h;cases a<;>first|exact .inl ⟨_,_,_,_,_,_,rfl,h⟩|exact .inr ⟨⟨_,rfl⟩,h⟩|cases h
def JU (x:Option AV) (f:Nat->Option R):Option R:=xn x fun _ a=>Int.casesOn (motive:=fun _=>Option R) a f (fun _=>none)
theorem Aqv {x:Option AV} {f:Nat->Option R} {r:R} (h:JU x f=some r):∃k i,x=some (.lit (.int k (Int.ofNat i)))/\f i=some r:=by
 obtain⟨k,a,rfl,h⟩:=V0 h;cases a<;>first|exact⟨_,_,rfl,h⟩|cases h
def AU (P:Program) (t:TypeId) (f:Nat):Option Nat:=match P.underlying t with
 |some (.struct fs)=>match fs[f]? with
  |some j8=>match P.info? j8.type with
   |some i=>cond (Nat.beq i.size 0) none (some j8.offset)|none=>none
  |none=>none
 |_=>none
def JV (off:Nat) (gx:Tm->Option AV):hU R:=fun tm K=>sJ (gx tm) fun b k=>fN (Nat.add k off) fun k=>K (.ptr b k)
theorem Aqw {P:Program} {o:Oper} {t:TypeId} {x:Operand} {f off:Nat} (ho:o.op= .fieldAddr t x f) (hf:AU P t f=some off):Nd P o (JV (R:=R) off (cR x).get):=Nd.of fun tm K r h=>by
 obtain⟨b,k,hx,h⟩:=Re h;rw [Eu]at hx;rw [Ew]at h;refine⟨_,?_,h⟩;unfold AU at hf;unfold Jy;rw [ho];split at hf
 case h_2=>cases hf
 rename_i fs hu;split at hf
 case h_2=>cases hf
 rename_i j8 cS;split at hf
 case h_2=>cases hf
 rename_i i hi;cases hz:Nat.beq i.size 0 with
 |true=>rw [hz]at hf;cases hf
 |false=>
  rw [hz]at hf;cases hf;simp only [hx,hu,cS,hi,hz,cond_false];rfl
def AW (P:Program) (t:TypeId):Option Nat:=match P.underlying t with
 |some (.slice e)=>match P.info? e with
  |some inf=>some inf.size|none=>none
 |_=>none
def JW (size:Nat) (gx gi:Tm->Option AV):hU R:=fun tm K=>JU (gi tm) fun i=>AR (gx tm) (fun b k len sz _ _=>ef (Nat.ble (Nat.succ i) len) (ef (Nat.beq size sz) (fN (Nat.add k (Nat.mul i sz)) fun k=>K (.ptr b k)) none) none) none
theorem Aqx {P:Program} {o:Oper} {t:TypeId} {x i:Operand} {size:Nat} (ho:o.op= .indexAddr t x i) (hf:AW P t=some size):Nd P o (JW (R:=R) size (cR x).get (cR i).get):=Nd.of fun tm K r h=>by
 obtain⟨ki,i,hi,h⟩:=Aqv h;rcases JT h with⟨b,k,len,sz,c,ex,hx,h⟩|⟨_,h⟩
 case inr=>cases h
 rw [Eu]at hx hi;unfold AW at hf;unfold Jy;rw [ho];split at hf
 case h_2=>cases hf
 rename_i e hu;split at hf
 case h_2=>cases hf
 rename_i inf tM;cases hf
 cases h1:Nat.ble (Nat.succ i) len with
 |false=>rw [h1]at h;cases h
 |true=>
  rw [h1]at h;change ef (Nat.beq inf.size sz) _ none=some r at h;cases h2:Nat.beq inf.size sz with
  |false=>rw [h2]at h;cases h
  |true=>
   rw [h2]at h;change fN _ _=some r at h;rw [Ew]at h;refine⟨_,?_,h⟩;have aO:=le_of_ble_eq_true h1;have c1:decide ((0:Int)<=Int.ofNat i)=true:=by simp
   have c2:decide (Int.ofNat i<(len:Int))=true:=by simp;omega
   simp only [T6,hi,hx,hu,tM,c1,c2,h2,Bool.and_true,cond_true];rfl
def JX (s:hU R) (gx:Tm->Option AV):hU R:=fun tm K=>AR (gx tm) (fun _ _ n _ _ _=>K (.lit (.int .i64 (.ofNat n)))) (s tm K)
theorem Awa {P:Program} {o:Oper} {x:Operand} {t e:TypeId} (ho:o.op= .call { callee:= .builtin .len,args:=⟨[x]⟩,argTypes:=⟨[t]⟩ }) (ht:P.underlying t=some (.slice e)):Nd P o (JX (R:=R) (Ue P o) (cR x).get):=Nd.of fun tm K r h=>by
 rcases JT h with⟨b,k,len,sz,c,ex,hx,h⟩|⟨_,h⟩
 case inr=>exact So h
 rw [Eu]at hx;refine⟨_,?_,h⟩;unfold Jy;rw [ho];simp only [hx,ht];rfl
def sK:Nat->Bx (List AV->Option AV)
 |0=>⟨fun l=>List.casesOn (motive:=fun _=>Option AV) l none (fun a _=>some a)⟩
 |i+1=>match sK i with
  |⟨g⟩=>⟨fun l=>List.casesOn (motive:=fun _=>Option AV) l none (fun _ l=>g l)⟩
theorem Zk:∀(i:Nat) (l:List AV),(sK i).get l=l[i]?
 |0,[]=>rfl
 |0,_::_=>rfl
 |i+1,[]=>rfl
 |i+1,a::l=>by rw [List.getElem?_cons_succ,←Zk i l];rfl
def Bba (x:AV) (f:List AV->Option R) (s:Option R):Option R:=AV.casesOn (motive_1:=fun _=>Option R) x (fun _=>s) (fun _ _=>none) (fun _ _ _ _ _ _=>none) (fun _=>none) f (fun _ _ _=>none) (fun _=>none) (fun _ _=>none) (fun _=>none) (fun _ _ _=>none) none (fun _ _ _ _=>none)
def JY (s:hU R) (g:List AV->Option AV) (gx:Tm->Option AV):hU R:=fun tm K=>oK (gx tm) fun x=>Bba x (fun l=>oK (g l) K) (s tm K)
theorem Awb {P:Program} {o:Oper} {x:Operand} {i:Nat} (ho:o.op= .extract x i):Nd P o (JY (R:=R) (Ue P o) (sK i).get (cR x).get):=Nd.of fun tm K r h=>by
 obtain⟨a,hx,h⟩:=Bp h;rw [Eu]at hx;cases a with
 |tuple l=>
  obtain⟨a,h1,h2⟩:=Bp (show oK _ K=some r from h);rw [Zk]at h1;refine⟨a,?_,h2⟩;unfold Jy;rw [ho];simp only [hx,h1]
 |lit v=>exact So h
 |_=>cases h
def v1 (v:Value):Bool:=Value.casesOn (motive_1:=fun _=>Bool) v (fun _=>true) (fun _ _=>true) (fun _ _=>true) (fun _ _ _=>false) (fun _=>true) (fun _=>true) (fun _ _ _=>true) (fun _=>true) (fun _=>true) (fun _ _ _=>true) true (fun _ _=>true) true (fun _=>false) (fun _=>false)
def a1 (x:AV):Bool:=AV.casesOn (motive_1:=fun _=>Bool) x v1 (fun _ _=>true) (fun _ _ _ _ _ _=>true) (fun _=>false) (fun _=>false) (fun _ _ _=>true) (fun _=>true) (fun _ _=>true) (fun _=>true) (fun _ _ _=>true) true (fun _ _ _ _=>true)
theorem AX {x:AV} (h:a1 x=true):x.one=true/\x.cells=[x]:=by
 cases x with
 |lit v=>cases v<;>first|exact⟨rfl,rfl⟩|cases h
 |agg l=>cases h
 |tuple l=>cases h
 |_=>exact⟨rfl,rfl⟩
theorem Zl:∀(cs pre z:List AV),cs.length<=z.length->T3 (pre++z) pre.length cs=pre++(cs++z.drop cs.length)
 |[],pre,z,_=>by simp [T3]
 |c::cs,pre,[],h=>by simp at h
 |c::cs,pre,x::z,h=>by
  have:=Zl cs (pre++[c]) z (by simpa using h);simp only [T3];have e:(pre++x::z).set pre.length c=(pre++[c])++z:=by simp
  rw [e];have e2:pre.length+1=(pre++[c]).length:=by simp
  rw [e2,this];simp
def Uf:List AV->List (Nat×Nat×AV)->Option (List AV)
 |l,[]=>some l|l,(off,size,a)::r=>cond (Nat.beq a.cells.length size&&Nat.ble (off+size) l.length) (Uf (T3 l off a.cells) r) none
def pL (tm:Tm):List (Nat×Nat×Operand)->Option (List (Nat×Nat×AV))
 |[]=>some []|(off,size,x)::l=>match cF tm x with
  |some a=>match pL tm l with
   |some r=>some ((off,size,a)::r)|none=>none
  |none=>none
def sM (place:Nat->Option (Nat×Nat)):List (Nat×Operand)->Option (List (Nat×Nat×Operand))
 |[]=>some []|(i,x)::l=>match place i with
  |some (off,size)=>match sM place l with
   |some r=>some ((off,size,x)::r)|none=>none
  |none=>none
theorem Sp {place:Nat->Option (Nat×Nat)} {tm:Tm} :∀ {ps:List (Nat×Operand)} {qs:List (Nat×Nat×Operand)} {vs:List (Nat×Nat×AV)},sM place ps=some qs->pL tm qs=some vs->∃az,pz tm ps=some az/\∀l,O2 place l az=Uf l vs
 |[],qs,vs,h,he=>by
  simp only [sM]at h;cases h;simp only [pL]at he;cases he;exact⟨[],rfl,fun l=>rfl⟩
 |(i,x)::ps,qs,vs,h,he=>by
  simp only [sM]at h;split at h
  case h_2=>cases h
  rename_i off size hp;split at h
  case h_2=>cases h
  rename_i qs' hq;cases h
  simp only [pL]at he;split at he
  case h_2=>cases he
  rename_i a ha;split at he
  case h_2=>cases he
  rename_i vs' hv;cases he
  obtain⟨az,h1,h2⟩:=Sp hq hv;refine⟨(i,a)::az,by simp only [pz,ha,h1],fun l=> ?_⟩;simp only [O2,Uf,hp,h2]
def V1 (x:AV) (f:List AV->Option R):Option R:=AV.casesOn (motive_1:=fun _=>Option R) x (fun v=>f (AV.cells (.lit v))) (fun _ _=>none) (fun _ _ _ _ _ _=>none) f (fun _=>none) (fun _ _ _=>none) (fun _=>none) (fun _ _=>none) (fun _=>none) (fun _ _ _=>none) none (fun _ _ _ _=>none)
theorem Xd {x:AV} {f:List AV->Option R} {r:R} (h:V1 x f=some r):f x.cells=some r:=by
 cases x<;>first|exact h|cases h
def pM:Nat->Bx (List AV->List AV->(List AV->Option R)->Option R)
 |0=>⟨fun cs l K=>List.casesOn (motive:=fun _=>Option R) cs (K l) (fun _ _=>none)⟩
 |s+1=>match pM s with
  |⟨g⟩=>⟨fun cs l K=>List.casesOn (motive:=fun _=>Option R) cs none (fun a cs=>g cs l fun r=>K (a::r))⟩
theorem JZ {l:List AV} {r:R} :∀(s:Nat) {cs:List AV} {K:List AV->Option R},(pM s).get cs l K=some r->cs.length=s/\K (cs++l)=some r:=by
 intro s
 induction s with
 |zero=>
  intro cs K h;cases cs with
  |nil=>exact⟨rfl,h⟩
  |cons a cs=>cases h
 |succ s ih=>
  intro cs K h;cases cs with
  |nil=>cases h
  |cons a cs=>
   obtain⟨h1,h2⟩:=ih (show(pM s).get cs l (fun r=>K (a::r))=some r from h);exact⟨by simp [h1],h2⟩
abbrev pN (R:Type):Type:=Tm->(List AV->Option R)->Option R
def Azy (x:AV) (g:pN R):pN R:=fun tm K=>g tm fun l=>K (x::l)
def J_ (gx:Tm->Option AV) (p:List AV->List AV->(List AV->Option R)->Option R) (g:pN R):pN R:=fun tm K=>oK (gx tm) fun a=>ef (a1 a) (g tm fun l=>K (a::l)) (V1 a fun cs=>g tm fun l=>p cs l K)
def Az0 (gx:Tm->Option AV) (p:List AV->List AV->(List AV->Option R)->Option R) (g:pN R):pN R:=fun tm K=>oK (gx tm) fun a=>V1 a fun cs=>g tm fun l=>p cs l K
def P9:List AV->Nat->Nat->List (Nat×Nat×Operand)->Bx (pN R)
 |[],_,0,[]=>⟨fun _ K=>K []⟩
 |[],_,_,_=>⟨fun _ _=>none⟩
 |_::z,pos,k+1,qs=>P9 z (pos+1) k qs|x::z,_,0,[]=>⟨fun _ K=>K (x::z)⟩
 |x::z,pos,0,(off,size,y)::qs=>cond (Nat.beq pos off)
  (match size with
   |0=>⟨fun _ _=>none⟩
   |1=>b3 J_ (cR y) (pM 1) (P9 z (pos+1) 0 qs)|s+2=>b3 Az0 (cR y) (pM (s+2)) (P9 z (pos+1) (s+1) qs))
  (b1 (Azy x) (P9 z (pos+1) 0 ((off,size,y)::qs)))
theorem Aqz {tm:Tm} {r:R} :∀(z:List AV) (pos k:Nat) (qs:List (Nat×Nat×Operand)) {K:List AV->Option R},(P9 z pos k qs).get tm K=some r->∃vs out,pL tm qs=some vs/\K out=some r/\k<=z.length/\∀pre:List AV,pre.length=pos+k->Uf (pre++z.drop k) vs=some (pre++out):=by
 intro z
 induction z with
 |nil=>
  intro pos k qs K h;cases k with
  |succ k=>simp only [P9]at h;cases h
  |zero=>
   cases qs with
   |nil=>exact⟨[],[],rfl,h,le_refl _,fun pre _=>by simp [Uf]⟩
   |cons q qs=>simp only [P9]at h;cases h
 |cons x z ih=>
  intro pos k qs K h;cases k with
  |succ k=>
   simp only [P9]at h;obtain⟨vs,out,h1,h2,h3,h4⟩:=ih _ _ _ h;exact⟨vs,out,h1,h2,by simp only [length_cons];omega,fun pre hp=>by simpa using h4 pre (by omega)⟩
  |zero=>
   cases qs with
   |nil=>exact⟨[],x::z,rfl,h,zero_le _,fun pre _=>by simp [Uf]⟩
   |cons q qs=>
    obtain⟨off,size,y⟩:=q;simp only [P9]at h;cases hp:Nat.beq pos off with
    |false=>
     rw [hp]at h;obtain⟨vs,out,h1,h2,h3,h4⟩:=ih _ _ _ (show(P9 z (pos+1) 0 ((off,size,y)::qs)).get tm (fun l=>K (x::l))=some r from h);exact⟨vs,x::out,h1,h2,zero_le _,fun pre fg=>by simpa using h4 (pre++[x]) (by simp;omega)⟩
    |true=>
     rw [hp]at h;have hp:=eq_of_beq_eq_true hp;subst hp;simp only [cond_true]at h;split at h
     ·cases h
     ·obtain⟨a,g1,g2⟩:=Bp (show oK ((cR y).get tm) (fun a=>ef (a1 a) ((P9 z (pos+1) 0 qs).get tm fun l=>K (a::l)) (V1 a fun cs=>(P9 z (pos+1) 0 qs).get tm fun l=>(pM 1).get cs l K))=some r from h);rw [Eu]at g1;cases ha:a1 a with
      |false=>
       rw [ha]at g2;have g2:=Xd (show V1 a (fun cs=>(P9 z (pos+1) 0 qs).get tm fun l=>(pM 1).get cs l K)=some r from g2);obtain⟨vs,out,h1,h2,h3,h4⟩:=ih _ _ _ g2;obtain⟨e1,e2⟩:=JZ _ h2;refine⟨(pos,1,a)::vs,a.cells++out,by simp only [pL,g1,h1],e2,zero_le _,fun pre fg=> ?_⟩;have hb:Nat.ble (pos+1) (pre++x::z).length=true:=Nat.ble_eq_true_of_le (by simp;omega);have hq:Nat.beq a.cells.length 1=true:=by rw [e1];exact Nat.beq_refl _
       have hs:=Zl a.cells pre (x::z) (by rw [e1];simp);have gX:pos=pre.length:=by omega
       simp only [Uf,drop_zero,hb,hq,Bool.and_self,cond_true];rw [←gX]at hs;rw [hs];have:=h4 (pre++a.cells) (by simp [e1];omega);rw [e1];simpa [List.append_assoc] using this
      |true=>
       rw [ha]at g2;obtain⟨_,hc⟩:=AX ha;obtain⟨vs,out,h1,h2,h3,h4⟩:=ih _ _ _ (show(P9 z (pos+1) 0 qs).get tm (fun l=>K (a::l))=some r from g2);refine⟨(pos,1,a)::vs,a::out,by simp only [pL,g1,h1],h2,zero_le _,fun pre fg=> ?_⟩;have hb:Nat.ble (pos+1) (pre++x::z).length=true:=Nat.ble_eq_true_of_le (by simp;omega);have hs:=Zl [a] pre (x::z) (by simp);have gX:pos=pre.length:=by omega
       simp only [Uf,hc,drop_zero,length_cons,List.length_nil,hb];rw [←gX]at hs;rw [hs];have:=h4 (pre++[a]) (by simp;omega);simpa using this
     ·rename_i s;obtain⟨a,g1,g2⟩:=Bp (show oK ((cR y).get tm) (fun a=>V1 a fun cs=>(P9 z (pos+1) (s+1) qs).get tm fun l=>(pM (s+2)).get cs l K)=some r from h);rw [Eu]at g1;have g2:=Xd g2;obtain⟨vs,out,h1,h2,h3,h4⟩:=ih _ _ _ g2;obtain⟨e1,e2⟩:=JZ _ h2;refine⟨(pos,s+2,a)::vs,a.cells++out,by simp only [pL,g1,h1],e2,zero_le _,fun pre fg=> ?_⟩;have hb:Nat.ble (pos+(s+2)) (pre++x::z).length=true:=Nat.ble_eq_true_of_le (by simp;omega);have hq:Nat.beq a.cells.length (s+2)=true:=by rw [e1];exact Nat.beq_refl _
      have hs:=Zl a.cells pre (x::z) (by rw [e1];simp;omega);have gX:pos=pre.length:=by omega
      simp only [Uf,drop_zero,hb,hq,Bool.and_self,cond_true];rw [←gX]at hs;rw [hs];have:=h4 (pre++a.cells) (by simp [e1];omega);rw [e1];simpa [List.append_assoc] using this
def Ayo (g:pN R):hU R:=fun tm K=>g tm fun l=>K (.agg l)
def KA (P:Program) (t:TypeId) (ps:List (Nat×Operand)):Option (List (Nat×Nat×Operand)):=match P.underlying t with
 |some (.struct fs)=>match Vv P fs.toList with
  |some l=>sM (l[·]?) ps|none=>none
 |some (.array _ e)=>match P.info? e with
  |some i=>sM (fun k=>some (k*i.size,i.size)) ps
  |none=>none
 |_=>none
def AY:Nat->List (Nat×Nat×Operand)->Bool
 |_,[]=>true|pos,(off,size,_)::l=>cond (Nat.ble pos off) (AY (Nat.add off size) l) false
def AZ (P:Program) (t:TypeId) (ps:List (Nat×Operand)):Option (Bx (hU R)):=match Kz P t,KA P t ps with
 |some z,some qs=>cond (AY 0 qs) (match nG z some with
  |some z=>some (b1 Ayo (P9 z 0 0 qs))|none=>none) none
 |_,_=>none
theorem Aq0 {P:Program} {o:Oper} {t:TypeId} {ps:Array (Nat×Operand)} {q:Bx (hU R)} (ho:o.op= .build t ps) (h:AZ P t ps.toList=some q):Nd P o q.get:=by
 intro tm K r hr;unfold AZ at h;split at h
 case h_2=>cases h
 rename_i z qs hz hq;cases nJ:AY 0 qs with
 |false=>rw [nJ]at h;cases h
 |true=>
 rw [nJ]at h;simp only [cond_true,Z6]at h;cases h
 obtain⟨vs,out,h1,h2,h3,h4⟩:=Aqz z 0 0 qs (show(P9 z 0 0 qs).get tm (fun l=>K (.agg l))=some r from hr);refine⟨_,h2,Iq ho ?_⟩;have h4:=h4 [] rfl;simp only [List.nil_append,drop_zero]at h4;unfold KA at hq;unfold wR;split at hq
 ·rename_i fs hu;split at hq
  case h_2=>cases hq
  rename_i l hl;obtain⟨az,e1,e2⟩:=Sp hq h1;simp only [hz,e1,hu,hl,e2,h4]
 ·rename_i n e hu;split at hq
  case h_2=>cases hq
  rename_i i hi;obtain⟨az,e1,e2⟩:=Sp hq h1;simp only [hz,e1,hu,hi,e2,h4]
 ·cases hq
def isInt (P:Program) (t:TypeId):Bool:=match P.underlying t with
 |some (.int _)=>true|_=>false
def xu (P:Program) (o:Oper):Option (Bx (hU R)):=match o.op with
 | .move x=>some (b1 AQ (cR x))| .assign x=>some (b1 AQ (cR x))| .pick c x y=>some (b3 JQ (cR c) (cR x) (cR y))| .binOp op t x y _=>cond (isInt P t) (match xp op with
  |some q=>some (b3 (fun q=>JO q (Ue P o)) q (cR x) (cR y))
  |none=>match xr op with
   |some f=>some (b2 (JP f) (cR x) (cR y))|none=>none) none
 | .unOp .not _ x=>some (b1 JS (cR x))| .fieldAddr t x f=>match AU P t f with
  |some off=>some (b1 (JV off) (cR x))|none=>none
 | .indexAddr t x i=>match AW P t with
  |some sz=>some (b2 (JW sz) (cR x) (cR i))|none=>none
 | .extract x i=>some (b2 (JY (Ue P o)) (sK i) (cR x))| .build t ps=>AZ P t ps.toList| .call { callee:= .builtin .len,args:=⟨[x]⟩,argTypes:=⟨[t]⟩ } =>match P.underlying t with
  |some (.slice _)=>some (b1 (JX (Ue P o)) (cR x))|_=>none
 |_=>none
theorem KB {P:Program} {o:Oper} {q:Bx (hU R)} (h:xu P o=some q):Nd P o q.get:=by
 unfold xu at h;split at h
 ·rename_i x ho;cases h;exact JR (.inl ho)
 ·rename_i x ho;cases h;exact JR (.inr ho)
 ·rename_i c x y ho;cases h;exact ZX ho
 ·rename_i op t x y t' ho;cases ht:isInt P t with
  |false=>rw [ht]at h;cases h
  |true=>
   rw [ht]at h;simp only [cond_true]at h;split at h
   ·rename_i q hq;cases h;exact ZV ho hq
   ·split at h
    ·rename_i f hf;cases h;exact ZW ho hf
    ·cases h
 ·rename_i t x ho;cases h;exact ZY ho
 ·rename_i t x f ho;split at h
  ·rename_i off hf;cases h;exact Aqw ho hf
  ·cases h
 ·rename_i t x i ho;split at h
  ·rename_i sz hf;cases h;exact Aqx ho hf
  ·cases h
 ·rename_i x i ho;cases h;exact Awb ho
 ·rename_i t ps ho;exact Aq0 ho h
 ·rename_i x t ho;split at h
  ·rename_i e he;cases h;exact Awa ho he
  ·cases h
 ·cases h
variable {R:Type}
structure Jt (sz:Nat) (d0:List Deferred) (e:Env) (tm:Tm) (a:Act):Prop where
 tm:mJ e tm a
 size:a.tmps.size=sz
 defers:a.defers=d0
theorem Jt.later {sz:Nat} {d0:List Deferred} {e e':Env} {tm:Tm} {a:Act} (h:Jt sz d0 e tm a) (k:Az e e'):Jt sz d0 e' tm a:=⟨h.tm.later k,h.size,h.defers⟩
def pO (sz:Nat) (tm:Tm) (d:Option Nat) (av:AV) (K:Tm->Option R):Option R:=match d with
 |none=>K tm|some d=>cond (Nat.ble (d+1) sz) (iJ (Tm.sB d) fun s=>s tm (some av) K) none
theorem A_ {sz:Nat} {tm:Tm} {d:Option Nat} {av:AV} {K:Tm->Option R} {r:R} (h:pO sz tm d av K=some r):∃bt,K bt=some r/\∀d0 e e' a v,Jt sz d0 e tm a->Az e e'->av.rep e' v->Jt sz d0 e' bt (a.put d v):=by
 unfold pO at h;split at h
 ·exact⟨tm,h,fun d0 e e' a v ha hl _=>ha.later hl⟩
 ·rename_i d;cases hc:Nat.ble (d+1) sz with
  |false=>rw [hc]at h;cases h
  |true=>
   rw [hc]at h;have hd:=le_of_ble_eq_true hc;obtain⟨bt,h1,h2⟩:=Tm.zy h;refine⟨bt,h1,fun d0 e e' a v ha hl hv=>⟨⟨fun t x hx=> ?_⟩,?_,ha.defers⟩⟩
   ·rw [h2]at hx;show t<(a.tmps.setIfInBounds d v).size/\_
    split at hx
    ·rename_i BA;subst BA;cases hx
     refine⟨by rw [Array.size_setIfInBounds,ha.size];omega,?_⟩;show av.rep e' ((a.tmps.setIfInBounds t v).getD t undef)
     rw [getD_eq_getD_getElem?,Array.getElem?_setIfInBounds_self_of_lt (by rw [ha.size];omega)];exact hv
    ·rename_i BA;obtain⟨g1,g2⟩:=ha.tm.at_ t x hx;refine⟨by rw [Array.size_setIfInBounds];exact g1,?_⟩;show x.rep e' ((a.tmps.setIfInBounds d v).getD t undef)
     rw [getD_eq_getD_getElem?,Array.getElem?_setIfInBounds_ne (fun e=>BA e.symm),←getD_eq_getD_getElem?];exact E6 hl g2
   ·show(a.tmps.setIfInBounds d v).size=sz
    rw [Array.size_setIfInBounds];exact ha.size
abbrev A9 (R:Type):Type:=FuncId->List AV->Tr aI->Nat->(AV->Tr aI->Nat->Option R)->Option R
def YB:Nat:=1000000
def xw (P:Program) (g:FuncId) (args:List AV) (M:Tr aI) (n:Nat) (av:AV) (M':Tr aI) (n':Nat):Prop:=∀b0 e w vs,Bb b0 e M.get n w->AV.bF e args vs->∀next:Value->World->Prop,(∀e' v w',Az e e'->Bb b0 e' M'.get n' w'->av.rep e' v->next v w')->D3 P next ((callFunc g ⟨vs⟩).run P w)
def KC (P:Program) (b:Nat) (args:List AV) (M:Tr aI) (n:Nat) (av:AV) (M':Tr aI) (n':Nat):Prop:=∀b0 e w vs,Bb b0 e M.get n w->AV.bF e args vs->∀B t,e b=some (B,t)->∀next:Value->World->Prop,(∀e' v w',Az e e'->Bb b0 e' M'.get n' w'->av.rep e' v->next v w')->K0 P B ⟨vs⟩ (fun bb w'=>next (.bool bb) w') w
def Az1 (P:Program) (g:FuncId) (args:List AV) (M:Tr aI) (n:Nat) (av:AV) (M':Tr aI) (n':Nat):Prop:=(g<YB->xw P g args M n av M' n')/\∀b,g=YB+b->KC P b args M n av M' n'
def E0 (P:Program) (call:A9 R):Prop:=∀g args M n K r,call g args M n K=some r->∃av M' n',K av M' n'=some r/\Az1 P g args M n av M' n'
def Zm (tm:Tm) (call:A9 R) (f:Operand) (args:List Operand) (M:Tr aI) (n:Nat) (K:AV->Tr aI->Nat->Option R):Option R:=match cF tm f,mI tm args with
 |some (.lit (.func (.func g) l m)),some az=>ef (Nat.ble (Nat.succ g) YB) (call g (l.toList.map .lit++az++m.toList.map .lit) M n K) none
 |some (.func g l m),some az=>ef (Nat.ble (Nat.succ g) YB) (call g (l++az++m) M n K) none
 |_,_=>none
theorem Jg {b:Bool} {x:Option R} {r:R} (h:ef b x none=some r):b=true/\x=some r:=by
 cases b with
 |true=>exact⟨rfl,h⟩
 |false=>cases h
theorem KD {P:Program} {tm:Tm} {call:A9 R} (dq:E0 P call) {o:Oper} {c:Call} {f:Operand} {M:Tr aI} {n:Nat} {K:AV->Tr aI->Nat->Option R} {r:R} (ho:o.op= .call c) (kW:c.callee= .value f) (h:Zm tm call f c.args.toList M n K=some r):∃av M' n',K av M' n'=some r/\eW P tm o M n av M' n':=by
 have key:∀ {a:Act} {g:FuncId} {l m:Array Value} {w:World} {next:Value->World->Prop},a.eval f= .func (.func g) l m->
  D3 P next ((callFunc g (l++c.args.map a.eval++m)).run P w)->D3 P next ((execOp a.eval o).run P w):=by
  intro a g l m w next hf this;simpa only [execOp,ho,resolve,kW,hf,Deferred.ofValue,invoke,Sem.run_bind,Sem.run_pure,Result.andThen_ok,Array.append_assoc] using this
 unfold Zm at h;split at h
 ·rename_i g l m az hf has;obtain⟨hg,h⟩:=Jg h;obtain⟨av,M',n',h1,h2⟩:=dq _ _ _ _ _ _ h;have h2:=h2.1 (le_of_ble_eq_true hg);refine⟨av,M',n',h1,fun b0 e a w hM hT next hk=> ?_⟩;have mj:=hT _ (by simp [ho,Op.operands,Call.operands,kW]) _ hf;simp only [AV.rep]at mj;refine key mj ?_;have:=h2 b0 e w (l.toList++c.args.toList.map a.eval++m.toList) hM (D1 (D1 (Ky _) (N5 (hT.sub fun y hy=>by simp only [ho,Op.operands,Call.operands,kW,toList_append,mem_append];exact .inr hy) has)) (Ky _)) next hk;have e1:(⟨l.toList++c.args.toList.map a.eval++m.toList⟩:Array Value)=l++c.args.map a.eval++m:=by apply ext';simp
  rw [e1]at this;exact this
 ·rename_i g l m az hf has;obtain⟨hg,h⟩:=Jg h;obtain⟨av,M',n',h1,h2⟩:=dq _ _ _ _ _ _ h;have h2:=h2.1 (le_of_ble_eq_true hg);refine⟨av,M',n',h1,fun b0 e a w hM hT next hk=> ?_⟩;have mj:=hT _ (by simp [ho,Op.operands,Call.operands,kW]) _ hf;simp only [AV.rep]at mj;obtain⟨vs,us,zY,r1,r2⟩:=mj;refine key zY ?_;have:=h2 b0 e w (vs++c.args.toList.map a.eval++us) hM (D1 (D1 r1 (N5 (hT.sub fun y hy=>by simp only [ho,Op.operands,Call.operands,kW,toList_append,mem_append];exact .inr hy) has)) r2) next hk;have e1:(⟨vs++c.args.toList.map a.eval++us⟩:Array Value)=⟨vs⟩++c.args.map a.eval++⟨us⟩:=by apply ext';simp
  rw [e1]at this;exact this
 ·cases h
def Rf (P:Program) (t:TypeId) (name:String):Option FuncId:=match P.info? t with
 |some i=>match i.methods.toList.find? (·.name==name)with
  |some m=>match m.path.toList with
   |[]=>match m.func with
    |some (f,pr)=>match P.underlying t with
     |some (.pointer _)=>cond pr (some f) none|some _=>cond pr none (some f)|none=>none
    |none=>none
   |_=>none
  |none=>none
 |none=>none
theorem Anu {P:Program} {t:TypeId} {name:String} {f:FuncId} (h:Rf P t name=some f) (v:Value) (w:World):(method (P.types.size+Made.depth) t v name).run P w= .ok (f,v) w:=by
 unfold Rf at h;split at h
 case h_2=>cases h
 rename_i i hi;split at h
 case h_2=>cases h
 rename_i m hm;have hm:i.methods.find? (·.name==name)=some m:=by rw [←hm];simp
 have hd:0<Made.depth:=by decide
 obtain⟨k,hk⟩:∃k,P.types.size+Made.depth=k+1:=⟨P.types.size+Made.depth-1,by omega⟩
 rw [hk];split at h
 case h_2=>cases h
 rename_i hp;split at h
 case h_2=>cases h
 rename_i f' pr hf;split at h
 ·rename_i d hu;cases pr with
  |false=>cases h
  |true=>
   cases h
   simp [method,typeInfo,hi,hm,hp,hf,follow,receiverAt,underlying,hu,Place.get]
 ·rename_i d bZ hu;cases pr with
  |true=>cases h
  |false=>
   cases h
   cases d<;>first|exact absurd rfl (bZ _)|simp [method,typeInfo,hi,hm,hp,hf,follow,receiverAt,underlying,hu,Place.get]
 ·cases h
def BB (P:Program) (tm:Tm) (call:A9 R) (x:Operand) (name:String) (args:List Operand) (M:Tr aI) (n:Nat) (K:AV->Tr aI->Nat->Option R):Option R:=match cF tm x,mI tm args with
 |some (.iface t a),some az=>match Rf P t name with
  |some g=>ef (Nat.ble (Nat.succ g) YB) (call g (a::az) M n K) none|none=>none
 |some (.lit (.iface t v)),some az=>match Rf P t name with
  |some g=>ef (Nat.ble (Nat.succ g) YB) (call g (.lit v::az) M n K) none|none=>none
 |_,_=>none
theorem Aq1 {P:Program} {tm:Tm} {call:A9 R} (dq:E0 P call) {o:Oper} {c:Call} {x:Operand} {name:String} {M:Tr aI} {n:Nat} {K:AV->Tr aI->Nat->Option R} {r:R} (ho:o.op= .call c) (kW:c.callee= .invoke x name) (h:BB P tm call x name c.args.toList M n K=some r):∃av M' n',K av M' n'=some r/\eW P tm o M n av M' n':=by
 have key:∀ {a:Act} {g:FuncId} {t:TypeId} {v:Value} {w:World} {next:Value->World->Prop},a.eval x= .iface t v->Rf P t name=some g->
  D3 P next ((callFunc g (#[v]++c.args.map a.eval)).run P w)->D3 P next ((execOp a.eval o).run P w):=by
  intro a g t v w next hf hg this;have ee: #[a.eval x]++c.args.map a.eval=⟨a.eval x::(c.args.map a.eval).toList⟩:=by apply ext';simp
  have e1:(#[a.eval x]++c.args.map a.eval).extract 1 (#[a.eval x]++c.args.map a.eval).size=c.args.map a.eval:=by
   rw [ee];apply ext';simp;exact List.take_of_length_le (by simp)
  have e0:(#[a.eval x]++c.args.map a.eval)[0]? =some (.iface t v):=by rw [ee,hf];rfl
  simpa only [execOp,ho,resolve,kW,invoke,Sem.run_bind,Sem.run_pure,Result.andThen_ok,e0,e1,callMethod,run_program,Anu hg] using this
 have go:∀ {t:TypeId} {BC:AV} {az:List AV} {g:FuncId},(∀ {e:Env} {a:Act},P3 e tm a o.op.operands.toList->∃v,a.eval x= .iface t v/\BC.rep e v)->mI tm c.args.toList=some az->Rf P t name=some g->ef (Nat.ble (Nat.succ g) YB) (call g (BC::az) M n K) none=some r->∃av M' n',K av M' n'=some r/\eW P tm o M n av M' n':=by
  intro t BC az g hx has hg h;obtain⟨mL,h⟩:=Jg h;obtain⟨av,M',n',h1,h2⟩:=dq _ _ _ _ _ _ h;have h2:=h2.1 (le_of_ble_eq_true mL);refine⟨av,M',n',h1,fun b0 e a w hM hT next hk=> ?_⟩;obtain⟨v,q1,q2⟩:=hx hT;refine key q1 hg ?_;have:=h2 b0 e w (v::c.args.toList.map a.eval) hM (by simp only [AV.bF];exact⟨_,_,rfl,q2,N5 (hT.sub fun y hy=>by simp only [ho,Op.operands,Call.operands,kW,toList_append,mem_append];exact .inr hy) has⟩) next hk;have e1:(⟨v::c.args.toList.map a.eval⟩:Array Value)= #[v]++c.args.map a.eval:=by apply ext';simp
  rw [e1]at this;exact this
 unfold BB at h;split at h
 ·rename_i t a az hx has;split at h
  case h_2=>cases h
  rename_i g hg;refine go (fun {e ac} hT=> ?_) has hg h;have hv:=hT _ (by simp [ho,Op.operands,Call.operands,kW]) _ hx;simpa only [AV.rep] using hv
 ·rename_i t v az hx has;split at h
  case h_2=>cases h
  rename_i g hg;refine go (fun {e ac} hT=> ?_) has hg h;have hv:=hT _ (by simp [ho,Op.operands,Call.operands,kW]) _ hx;simp only [AV.rep]at hv⊢;exact⟨v,hv,rfl⟩
 ·cases h
def KE (o:Oper):Bool:=match o.op with
 | .move _=>true| .assign _=>true| .nilCheck _=>true| .extract .. =>true| .pick .. =>true|_=>false
def fO (o:Oper) (av:AV) (K:AV->Option R):Option R:=cond (KE o) (K av) (fA av K)
theorem KF (o:Oper) (av:AV) (K:AV->Option R):fO o av K=K av:=by
 unfold fO;cases KE o<;>simp [P2]
def BD (P:Program) (call:A9 R) (tm:Tm) (o:Oper) (M:Tr aI) (n:Nat) (K:AV->Tr aI->Nat->Option R):Option R:=match o.op with
 | .load t x=>se P tm t x M fun av=>K av M n
 | .store t x v=>wV P tm t x v M fun M=>K (.lit undef) M n
 | .alloc _=>Vy P tm o M n K| .box .. =>Vy P tm o M n K| .buildSlice .. =>Vy P tm o M n K| .call c=>match c.callee with
  | .value f=>Zm tm call f c.args.toList M n K| .invoke x name=>BB P tm call x name c.args.toList M n K|_=>match Jy P tm o with
   |some av=>fO o av fun av=>K av M n
   |none=>ui P tm o M n K
 |_=>match Jy P tm o with
  |some av=>fO o av fun av=>K av M n
  |none=>ui P tm o M n K
theorem Ayq {P:Program} {call:A9 R} (dq:E0 P call) {tm:Tm} {o:Oper} {M:Tr aI} {n:Nat} {K:AV->Tr aI->Nat->Option R} {r:R} (h:BD P call tm o M n K=some r): ∃av M' n',K av M' n'=some r/\eW P tm o M n av M' n':=by
 have rest:(match Jy P tm o with
  |some av=>fO o av fun av=>K av M n
  |none=>ui P tm o M n K)=some r->∃av M' n',K av M' n'=some r/\eW P tm o M n av M' n':=by
  intro h;split at h
  ·rename_i av eA;rw [KF]at h;exact⟨av,M,n,h,eW.pure (P5 eA)⟩
  ·exact ZN h
 unfold BD at h;split at h
 ·rename_i t x ho;obtain⟨av,h1,h2⟩:=Z8 ho h;exact⟨av,M,n,h1,h2⟩
 ·rename_i t x v ho;obtain⟨M',h1,h2⟩:=Ix ho h;exact⟨_,M',n,h1,h2⟩
 ·exact Q9 h
 ·exact Q9 h
 ·exact Q9 h
 ·rename_i c ho;split at h
  ·rename_i f hf;exact KD dq ho hf h
  ·rename_i x name hf;exact Aq1 dq ho hf h
  ·exact rest h
 ·exact rest h
abbrev lO (R:Type):Type:=A9 R->Tm->Tr aI->Nat->(AV->Tr aI->Nat->Option R)->Option R
def qO (P:Program) (o:Oper) (f:lO R):Prop:=∀ {call:A9 R},E0 P call->∀ {tm:Tm} {M:Tr aI} {n:Nat} {K:AV->Tr aI->Nat->Option R} {r:R},f call tm M n K=some r->∃av M' n',K av M' n'=some r/\eW P tm o M n av M' n'
def KG (f:hU R):lO R:=fun _ tm M n K=>f tm fun av=>K av M n
theorem As5 {P:Program} {o:Oper} {f:hU R} (h:Nd P o f):qO P o (KG f):=by
 intro call dq tm M n K r hr;obtain⟨av,h1,h2⟩:=h tm _ r hr;exact⟨av,M,n,h1,eW.pure h2⟩
def R3 (P:Program) (o:Oper):lO R:=fun call tm M n K=>BD P call tm o M n K
theorem Jh (P:Program) (o:Oper):qO (R:=R) P o (R3 P o):=by
 intro call dq tm M n K r h;exact Ayq dq h
def xy (x:aI) (f:List AV->Bool->Option R):Option R:=aI.casesOn (motive:=fun _=>Option R) x f (fun _ _=>none) (fun _=>none)
theorem Qa {x:aI} {f:List AV->Bool->Option R} {r:R} (h:xy x f=some r):∃l rw,x= .cells l rw/\f l rw=some r:=by
 cases x<;>first|exact⟨_,_,rfl,h⟩|cases h
def KH (gx:Tm->Option AV):lO R:=fun _ tm M n K=>sJ (gx tm) fun b k=>oK ((Tr.gB b).get M) fun x=>xy x fun l _=>oK ((sK k).get l) fun av=>K av M n
theorem As6 {P:Program} {o:Oper} {t:TypeId} {x:Operand} (ho:o.op= .load t x) (ha:ow P t=some false):qO P o (KH (R:=R) (cR x).get):=by
 intro call dq tm M n K r h;obtain⟨b,k,hx,h⟩:=Re h;obtain⟨y,hb,h⟩:=Bp h;obtain⟨l,rw,rfl,h⟩:=Qa h;obtain⟨av,hk,h⟩:=Bp h;rw [Eu]at hx;rw [Zk]at hk;obtain⟨z9,h1,h2⟩:=Z8 (P:=P) (tm:=tm) (M:=M) (n:=n) (K:=some) (r:=av) ho (by
  unfold se;have hb:M.get b=some (.cells l rw):=hb;simp only [hx,hb,ha,hk])
 cases h1
 exact⟨av,M,n,h,h2⟩
def um:Nat->Bx (List AV->AV->(List AV->Option R)->Option R)
 |0=>⟨fun l a K=>List.casesOn (motive:=fun _=>Option R) l none (fun _ l=>K (a::l))⟩
 |k+1=>match um k with
  |⟨g⟩=>⟨fun l a K=>List.casesOn (motive:=fun _=>Option R) l none (fun x l=>g l a (fun l=>K (x::l)))⟩
theorem As8 {a:AV} {r:R} :∀(k:Nat) {l:List AV} {K:List AV->Option R},(um k).get l a K=some r->oy l k [a] K=some r:=by
 intro k
 induction k with
 |zero=>
  intro l K h;cases l with
  |nil=>cases h
  |cons x l=>
   have h:K (a::l)=some r:=h;cases l<;>exact h
 |succ k ih=>
  intro l K h;cases l with
  |nil=>cases h
  |cons x l=>
   have h:(um k).get l a (fun l=>K (x::l))=some r:=h;exact ih h
def KI (gx gv:Tm->Option AV):lO R:=fun _ tm M n K=>sJ (gx tm) fun b k=>oK (gv tm) fun av=>ef (a1 av) (oK ((Tr.gB b).get M) fun x=>xy x fun l rw=>iJ (um k) fun s=>s l av fun l=>iJ (Tr.sB b) fun s=>s M (some (.cells l rw)) fun M=>K (.lit undef) M n) none
theorem Awd {r:R} {l:List AV} {k:Nat} {az:List AV} {K:List AV->Option R} (h:oy l k az K=some r):az≠[]->k+az.length<=l.length:=by
 intro bZ;have:=(P6 h).2;cases az with
 |nil=>exact absurd rfl bZ
 |cons a az=>simp only [length_cons]at this⊢;omega
theorem Aq2 {P:Program} {o:Oper} {t:TypeId} {x v:Operand} {i:TypeInfo} (ho:o.op= .store t x v) (hi:P.info? t=some i) (hz:i.size=1):qO P o (KI (R:=R) (cR x).get (cR v).get):=by
 intro call dq tm M n K r h;obtain⟨b,k,hx,h⟩:=Re h;obtain⟨av,hv,h⟩:=Bp h;rw [Eu]at hx hv;cases h1:a1 av with
 |false=>rw [h1]at h;cases h
 |true=>
  rw [h1]at h;obtain⟨y,hb,h⟩:=Bp (show oK _ _=some r from h);obtain⟨l,sq,rfl,h⟩:=Qa h;obtain⟨q1,q2⟩:=AX h1;have h:=As8 k (show(um k).get l av _=some r from h);have hlen:=Awd h (by simp);obtain⟨M',h2,h3⟩:=Ix (P:=P) (tm:=tm) (M:=M) (n:=n) (K:=fun M=>K (.lit undef) M n) (r:=r) ho (by
   unfold wV;have hb:M.get b=some (.cells l sq):=hb;have c3:Nat.ble (k+1) l.length=true:=Nat.ble_eq_true_of_le hlen;simp only [hx,hv,hb,hi,q2,nI,q1,hz,length_cons,List.length_nil,Nat.zero_add,c3];exact h)
  exact⟨_,M',n,h2,h3⟩
def qP:List Operand->Bx (Tm->(List AV->Option R)->Option R)
 |[]=>⟨fun _ K=>K []⟩
 |x::l=>match cR x,qP l with
  |⟨g⟩,⟨f⟩=>⟨fun tm K=>oK (g tm) fun a=>f tm fun l=>K (a::l)⟩
theorem Sq:∀ {l:List Operand} {tm:Tm} {K:List AV->Option R} {r:R},(qP l).get tm K=some r->∃az,mI tm l=some az/\K az=some r
 |[],tm,K,r,h=>⟨[],rfl,h⟩
 |x::l,tm,K,r,h=>by
  obtain⟨a,h1,h2⟩:=Bp (show oK ((cR x).get tm) (fun a=>(qP l).get tm fun l=>K (a::l))=some r from h);obtain⟨az,h3,h4⟩:=Sq h2;rw [Eu]at h1;exact⟨a::az,by simp only [mI,h1,h3],h4⟩
def KJ (g:FuncId) (ga:Tm->(List AV->Option R)->Option R):lO R:=fun call tm M n K=>ga tm fun az=>call g az M n K
theorem Ata {P:Program} {o:Oper} {c:Call} {g:FuncId} (ho:o.op= .call c) (hc:c.callee= .value (.func g)) (mL:Nat.ble (Nat.succ g) YB=true):qO P o (KJ (R:=R) g (qP c.args.toList).get):=by
 intro call dq tm M n K r h;obtain⟨az,h1,h2⟩:=Sq h;refine KD (tm:=tm) dq ho hc ?_;unfold Zm;simp only [cF,h1];have:(#[]:Array Value).toList.map AV.lit++az++(#[]:Array Value).toList.map AV.lit=az:=by simp
 rw [this,mL];exact h2
def KK (z:List AV):lO R:=fun _ _ M n K=>iJ (Tr.sB n) fun s=>s M (some (.cells z true)) fun M=>fN (Nat.succ n) fun n'=>K (.ptr n 0) M n'
theorem Aq3 {P:Program} {o:Oper} {t:TypeId} {z:List AV} (ho:o.op= .alloc t) (hz:Kz P t=some z):qO P o (KK (R:=R) z):=by
 intro call dq tm M n K r h;refine Q9 (tm:=tm) ?_;unfold Vy N7 pA;simp only [ho,hz,R0,P2];exact h
def pP (P:Program) (o:Oper):Bx (lO R):=match xu P o with
 |some q=>b1 KG q|none=>match o.op with
  | .load t x=>match ow P t with
   |some false=>b1 KH (cR x)|_=>⟨R3 P o⟩
  | .store t x v=>match P.info? t with
   |some i=>cond (Nat.beq i.size 1) (match ow P t with
    |some false=>b2 KI (cR x) (cR v)|_=>⟨R3 P o⟩) ⟨R3 P o⟩
   |none=>⟨R3 P o⟩
  | .alloc t=>match Kz P t with
   |some z=>match nG z some with
    |some z=>⟨KK z⟩|none=>⟨R3 P o⟩
   |none=>⟨R3 P o⟩
  | .call c=>match c.callee with
   | .value (.func g)=>cond (Nat.ble (Nat.succ g) YB) (b1 (KJ g) (qP c.args.toList)) ⟨R3 P o⟩
   |_=>⟨R3 P o⟩
  |_=>⟨R3 P o⟩
theorem KL (P:Program) (o:Oper):qO (R:=R) P o (pP P o).get:=by
 unfold pP;split
 ·rename_i q hq;exact As5 (KB hq)
 ·split
  ·rename_i t x ho;split
   ·rename_i ha;exact As6 ho ha
   ·exact Jh P o
  ·rename_i t x v ho;split
   ·rename_i i hi;cases hz:Nat.beq i.size 1 with
    |true=>
     simp only [cond_true];split
     ·exact Aq2 ho hi (eq_of_beq_eq_true hz)
     ·exact Jh P o
    |false=>exact Jh P o
   ·exact Jh P o
  ·rename_i t ho;split
   ·rename_i z hz;rw [Z6];exact Aq3 ho hz
   ·exact Jh P o
  ·rename_i c ho;split
   ·rename_i g hg;cases mL:Nat.ble (Nat.succ g) YB with
    |true=>exact Ata ho hg mL
    |false=>exact Jh P o
   ·exact Jh P o
  ·exact Jh P o
def F4 (ops:Array Oper) (o:Oper) (tm:Tm):Option Bool:=match o.guard with
 |none=>some true|some (j,want)=>match ops[j]? with
  |some oj=>match oj.dst with
   |some d=>match tm.get d with
    |some (.lit (.bool b))=>some (b==want)|some .mH=>none|some _=>some false|none=>none
   |none=>none
  |none=>none
def uo (e:Env) (tm:Tm) (a:Act) (ops:Array Oper) (o:Oper):Prop:=∀t av,t∈o.looksAt ops->tm.get t=some av->t<a.tmps.size/\av.rep e (a.tmps.getD t undef)
theorem uo.cR {e:Env} {tm:Tm} {a:Act} {ops:Array Oper} {o:Oper} (h:uo e tm a ops o):P3 e tm a o.op.operands.toList:=by
 intro x hx av eA;cases x with
 |tmp t=>exact(h t av (List.mem_append_left _ (List.mem_filterMap.2 ⟨.tmp t,hx,rfl⟩)) eA).2
 |const v=>simp only [cF]at eA;cases eA;simp [AV.rep,Act.eval]
 |func f=>simp only [cF]at eA;cases eA;simp [AV.rep,Act.eval]
 |global g=>simp [cF]at eA
theorem Sr {ops:Array Oper} {o:Oper} {tm:Tm} {b:Bool} (h:F4 ops o tm=some b) {e:Env} {a:Act} (ha:uo e tm a ops o):Region.wanted o (yielded ops a.tmps)=b:=by
 unfold F4 at h;unfold Region.wanted;split at h
 ·rename_i hg;cases h;rw [hg]
 ·rename_i j want hg;rw [hg];split at h
  case h_2=>cases h
  rename_i oj hj;split at h
  case h_2=>cases h
  rename_i d hd;have dw:∀av,tm.get d=some av->d<a.tmps.size/\av.rep e (a.tmps.getD d undef):=fun av=>ha d av (List.mem_append_right _ (by rw [hg];simp [hj,hd]))
  split at h
  ·rename_i b' hb;cases h
   obtain⟨g1,g2⟩:=dw _ hb;simp only [AV.rep]at g2;have:a.tmps[d]? =some (.bool b'):=by
    rw [getD_eq_getD_getElem?,Array.getElem?_eq_getElem g1]at g2;rw [Array.getElem?_eq_getElem g1];exact congrArg some g2
   simp [yielded,hj,hd,this]
  ·cases h
  ·rename_i av lJ hnu hb;cases h
   obtain⟨g1,g2⟩:=dw _ hb;have hv:∀b',a.tmps.getD d undef≠.bool b':=by
    intro b' BE;rw [BE]at g2;cases av with
    |lit v=>simp only [AV.rep]at g2;subst g2;exact lJ b' rfl
    |ptr b o=>simp only [AV.rep]at g2;obtain⟨_,_,_,g⟩:=g2;cases g
    |slice b o n sz c x=>simp only [AV.rep]at g2;obtain⟨_,_,_,_,_,g,_⟩:=g2;cases g
    |agg l=>simp only [AV.rep]at g2;obtain⟨_,g,_⟩:=g2;cases g
    |tuple l=>simp only [AV.rep]at g2;obtain⟨_,g,_⟩:=g2;cases g
    |func f l m=>simp only [AV.rep]at g2;obtain⟨_,_,g,_⟩:=g2;cases g
    |map b=>simp only [AV.rep]at g2;obtain⟨_,_,_,g⟩:=g2;cases g
    |iface t x=>simp only [AV.rep]at g2;obtain⟨_,g,_⟩:=g2;cases g
    |yield b=>simp only [AV.rep]at g2;obtain⟨_,_,_,g⟩:=g2;cases g
    |nC k lo hi=>simp only [AV.rep]at g2;obtain⟨_,g,_⟩:=g2;cases g
    |mH=>exact absurd rfl hnu
    |same i k lo hi=>simp only [AV.rep]at g2;obtain⟨_,_,_,g,_⟩:=g2;cases g
   have:a.tmps[d]? =some (a.tmps.getD d undef):=by
    rw [getD_eq_getD_getElem?,Array.getElem?_eq_getElem g1];rfl
   have hy:yielded ops a.tmps j=none:=by
    simp only [yielded,hj,hd,Option.bind_some,this];generalize a.tmps.getD d undef=u at hv;cases u<;>first|rfl|exact absurd rfl (hv _)
   simp [hy]
  ·cases h
theorem mJ.look {e:Env} {tm:Tm} {a:Act} (h:mJ e tm a) (ops:Array Oper) (o:Oper):uo e tm a ops o:=fun t av _ ht=>h.at_ t av ht
def sN (ops:Array Oper) (o:Oper):Bx (Tm->Option R->Option R->Option R):=match o.guard with
 |none=>⟨fun _ x _=>x⟩
 |some (j,want)=>match ops[j]? with
  |some oj=>match oj.dst with
   |some d=>match Tm.gB d with
    |⟨g⟩=>cond want ⟨fun tm x y=>oK (g tm) fun a=>AV.casesOn (motive_1:=fun _=>Option R) a (fun v=>Value.casesOn (motive_1:=fun _=>Option R) v (fun b=>ef b x y) (fun _ _=>y) (fun _ _=>y) (fun _ _ _=>y) (fun _=>y) (fun _=>y) (fun _ _ _=>y) (fun _=>y) (fun _=>y) (fun _ _ _=>y) y (fun _ _=>y) y (fun _=>y) (fun _=>y)) (fun _ _=>y) (fun _ _ _ _ _ _=>y) (fun _=>y) (fun _=>y) (fun _ _ _=>y) (fun _=>y) (fun _ _=>y) (fun _=>y) (fun _ _ _=>y) none (fun _ _ _ _=>y)⟩
     ⟨fun tm x y=>oK (g tm) fun a=>AV.casesOn (motive_1:=fun _=>Option R) a (fun v=>Value.casesOn (motive_1:=fun _=>Option R) v (fun b=>ef b y x) (fun _ _=>y) (fun _ _=>y) (fun _ _ _=>y) (fun _=>y) (fun _=>y) (fun _ _ _=>y) (fun _=>y) (fun _=>y) (fun _ _ _=>y) y (fun _ _=>y) y (fun _=>y) (fun _=>y)) (fun _ _=>y) (fun _ _ _ _ _ _=>y) (fun _=>y) (fun _=>y) (fun _ _ _=>y) (fun _=>y) (fun _ _=>y) (fun _=>y) (fun _ _ _=>y) none (fun _ _ _ _=>y)⟩
   |none=>⟨fun _ _ _=>none⟩
  |none=>⟨fun _ _ _=>none⟩
theorem KM {ops:Array Oper} {o:Oper} {tm:Tm} {x y:Option R} {r:R} (h:(sN ops o).get tm x y=some r):(F4 ops o tm=some true/\x=some r)\/(F4 ops o tm=some false/\y=some r):=by
 unfold sN at h;unfold F4;split at h
 ·exact .inl ⟨rfl,h⟩
 ·split at h
  case h_2=>cases h
  rename_i j want hg _ oj hj;split at h
  case h_2=>cases h
  rename_i d hd;split at h;rename_i g hgd;have fK:∀tm,g tm=tm.get d:=fun tm=>by unfold Tm.get;rw [hgd]
  cases want with
  |true=>
   obtain⟨a,h1,h2⟩:=Bp (show oK (g tm) _=some r from h);rw [fK]at h1;rw [h1];cases a with
   |lit v=>
    cases v with
    |bool b=>
     cases b with
     |true=>exact .inl ⟨rfl,h2⟩
     |false=>exact .inr ⟨rfl,h2⟩
    |_=>exact .inr ⟨rfl,h2⟩
   |mH=>cases h2
   |_=>exact .inr ⟨rfl,h2⟩
  |false=>
   obtain⟨a,h1,h2⟩:=Bp (show oK (g tm) _=some r from h);rw [fK]at h1;rw [h1];cases a with
   |lit v=>
    cases v with
    |bool b=>
     cases b with
     |true=>exact .inr ⟨rfl,h2⟩
     |false=>exact .inl ⟨rfl,h2⟩
    |_=>exact .inr ⟨rfl,h2⟩
   |mH=>cases h2
   |_=>exact .inr ⟨rfl,h2⟩
abbrev qQ (R:Type):Type:=Tm->AV->(Tm->Option R)->Option R
def V2 (sz:Nat) (d:Option Nat):Bx (qQ R):=match d with
 |none=>⟨fun tm _ K=>K tm⟩
 |some d=>cond (Nat.ble (d+1) sz) (match Tm.sB d with|⟨s⟩=>⟨fun tm av K=>s tm (some av) K⟩) ⟨fun _ _ _=>none⟩
theorem BF (sz:Nat) (d:Option Nat) (tm:Tm) (av:AV) (K:Tm->Option R):(V2 sz d).get tm av K=pO sz tm d av K:=by
 unfold V2 pO;cases d with
 |none=>rfl
 |some d=>simp only;cases Nat.ble (d+1) sz<;>rfl
abbrev mM (R:Type):Type:=A9 R->Tm->Tr aI->Nat->(Tm->Tr aI->Nat->Option R)->Option R
def KN (f:lO R) (p:qQ R) (g:mM R):mM R:=fun call tm M n K=>f call tm M n fun av M n=>p tm av fun tm=>g call tm M n K
def Az2 (p:qQ R) (g:mM R):mM R:=fun call tm M n K=>p tm (.lit undef) fun tm=>g call tm M n K
def Az3 (q:Tm->Option R->Option R->Option R) (f g:mM R):mM R:=fun call tm M n K=>q tm (f call tm M n K) (g call tm M n K)
def BG (P:Program) (tm:Tm) (o:Oper) (M:Tr aI) (n:Nat) (av:AV) (M':Tr aI) (n':Nat):Prop:=∀(G:Fence) (n0:Nat) b0 e a w (next:Act->World->Prop) (Q:Exit->Act->World->Prop),Vc.Good G->Bb b0 e M.get n w->P3 e tm a o.op.operands.toList->(∀e' v w',Az e e'->Bb b0 e' M'.get n' w'->av.rep e' v->next (a.put o.dst v) w')->o.wpIn G n0 P a w next Q
theorem eW.IU {P:Program} {tm:Tm} {o:Oper} {M:Tr aI} {n:Nat} {av:AV} {M':Tr aI} {n':Nat} (hd:Bc o=true) (h:eW P tm o M n av M' n'):BG P tm o M n av M' n':=
 fun G n0 b0 e a w next Q hG hM hT hk=>Je hG hd (h b0 e a w hM hT _ fun e' v w' hl fx hv=>hk e' v w' hl fx hv)
def Bbb (x:AV) (f:Nat->Option R) (s:Option R):Option R:=AV.casesOn (motive_1:=fun _=>Option R) x (fun _=>s) (fun _ _=>s) (fun _ _ _ _ _ _=>s) (fun _=>s) (fun _=>s) (fun _ _ _=>s) (fun _=>s) (fun _ _=>s) f (fun _ _ _=>s) s (fun _ _ _ _=>s)
def Bbc (s:lO R) (g:Tm->Option AV) (ga:Tm->(List AV->Option R)->Option R):lO R:=fun call tm M n K=>oK (g tm) fun f=>Bbb f (fun b=>ga tm fun az=>call (Nat.add YB b) az M n K) (s call tm M n K)
def uq (P:Program) (o:Oper):Bx (lO R):=match o.op with
 | .call c=>match c.callee with
  | .value (.tmp t)=>b3 Bbc (pP P o) (Tm.gB t) (qP c.args.toList)|_=>pP P o
 |_=>pP P o
theorem Ayr {P:Program} {o:Oper} (hd:Bc o=true) {call:A9 R} (dq:E0 P call) {tm:Tm} {M:Tr aI} {n:Nat} {K:AV->Tr aI->Nat->Option R} {r:R} (h:(uq P o).get call tm M n K=some r):∃av M' n',K av M' n'=some r/\BG P tm o M n av M' n':=by
 have old:(pP P o).get call tm M n K=some r->∃av M' n',K av M' n'=some r/\BG P tm o M n av M' n':=fun h=>by
  obtain⟨av,M',n',h1,h2⟩:=KL P o dq h;exact⟨av,M',n',h1,h2.IU hd⟩
 unfold uq at h;split at h
 case h_2=>exact old h
 rename_i c ho;split at h
 case h_2=>exact old h
 rename_i t kW;obtain⟨f,hf,h⟩:=Bp (show oK (tm.get t) _=some r from h);cases f with
 |yield b=>
  obtain⟨az,has,h⟩:=Sq (show(qP c.args.toList).get tm (fun az=>call (Nat.add YB b) az M n K)=some r from h);obtain⟨av,M',n',h1,h2⟩:=dq _ _ _ _ _ _ h;refine⟨av,M',n',h1,fun G n0 b0 e a w next Q hG hM hT hk=> ?_⟩;have mj:=hT (.tmp t) (by simp [ho,Op.operands,Call.operands,kW]) _ hf;simp only [AV.rep]at mj;obtain⟨B,tt,hB,mj⟩:=mj;have hy:=h2.2 b rfl b0 e w (c.args.toList.map a.eval) hM (N5 (hT.sub fun y hy=>by simp only [ho,Op.operands,Call.operands,kW,toList_append,mem_append];exact .inr hy) has) B tt hB (fun v w'=>next (a.put o.dst v) w') hk;refine IJ (cl:=[]) hG hd (next:=next) ?_;have e1:(⟨c.args.toList.map a.eval⟩:Array Value)=c.args.map a.eval:=by apply ext';simp
  rw [e1]at hy;unfold O3;simp only [ho,kW,mj];exact hy
 |_=>exact old h
def R4 (P:Program) (sz:Nat) (ops:Array Oper):List Oper->Bx (mM R)
 |[]=>⟨fun _ tm M n K=>K tm M n⟩
 |o::l=>cond (Bc o) (match o.guard with
  |none=>b3 KN (uq P o) (V2 sz o.dst) (R4 P sz ops l)|some _=>b3 Az3 (sN ops o) (b3 KN (uq P o) (V2 sz o.dst) (R4 P sz ops l)) (b2 Az2 (V2 sz o.dst) (R4 P sz ops l))) ⟨fun _ _ _ _ _=>none⟩
theorem BH {P:Program} {call:A9 R} (dq:E0 P call) {sz:Nat} {ops:Array Oper} :∀(l:List Oper) (k:Nat) {tm:Tm} {M:Tr aI} {n:Nat} {K:Tm->Tr aI->Nat->Option R} {r:R},(∀j,l[j]? =ops[k+j]?)->(R4 P sz ops l).get call tm M n K=some r->
 ∃bt M' n',K bt M' n'=some r/\∀(G:Fence) (n0:Nat) (X:Exit->Act->World->Prop) b0 d0 e a w,Vc.Good G->Bb b0 e M.get n w->Jt sz d0 e tm a->(∀e' a' w',Az e e'->Bb b0 e' M'.get n' w'->Jt sz d0 e' bt a'->X .normal a' w')->wpOpsIn G n0 P ops X (range' k l.length) a w
 |[],k,tm,M,n,K,r,_,h=>⟨tm,M,n,h,fun G n0 X b0 d0 e a w _ hM hA hQ=>by simpa [wpOpsIn] using hQ e a w (Az.refl e) hM hA⟩
 |o::rest,k,tm,M,n,K,r,hl,h=>by
  have h0:ops[k]? =some o:=by simpa using(hl 0).symm
  have t5:∀j,rest[j]? =ops[k+1+j]? :=fun j=>by have:=hl (j+1);rw [show k+1+j=k+(j+1) by omega];simpa using this
  unfold R4 at h;cases hd:Bc o with
  |false=>rw [hd]at h;cases h
  |true=>
  rw [hd]at h;simp only [cond_true]at h;have yes:F4 ops o tm=some true->(uq P o).get call tm M n (fun av M n=>(V2 sz o.dst).get tm av fun tm=>(R4 P sz ops rest).get call tm M n K)=some r->∃bt M' n',K bt M' n'=some r/\∀(G:Fence) (n0:Nat) (X:Exit->Act->World->Prop) b0 d0 e a w,Vc.Good G->Bb b0 e M.get n w->Jt sz d0 e tm a->(∀e' a' w',Az e e'->Bb b0 e' M'.get n' w'->Jt sz d0 e' bt a'->X .normal a' w')->wpOpsIn G n0 P ops X (range' k (o::rest).length) a w:=by
   intro hw h;obtain⟨av,M1,n1,h1,h2⟩:=Ayr hd dq h;rw [BF]at h1;obtain⟨iy,h3,h4⟩:=A_ h1;obtain⟨bt,M',n',h5,h6⟩:=BH dq rest (k+1) t5 h3;refine⟨bt,M',n',h5,fun G n0 X b0 d0 e a w hG hM hA hQ=> ?_⟩;simp only [length_cons,List.range'_succ];rw [wpOpsIn_cons];unfold wpOpIn;simp only [h0,Sr hw (hA.tm.look _ _),if_true];refine h2 G n0 b0 e a w _ _ hG hM (hA.tm.cR _) fun e' v w' hl fx hv=> ?_
   exact h6 G n0 X b0 d0 e' _ w' hG fx (h4 d0 e e' a v hA hl hv) fun r_ jI jm kX=>hQ r_ jI jm (hl.trans kX)
  have no:F4 ops o tm=some false->(V2 sz o.dst).get tm (.lit undef) (fun tm=>(R4 P sz ops rest).get call tm M n K)=some r->∃bt M' n',K bt M' n'=some r/\∀(G:Fence) (n0:Nat) (X:Exit->Act->World->Prop) b0 d0 e a w,Vc.Good G->Bb b0 e M.get n w->Jt sz d0 e tm a->(∀e' a' w',Az e e'->Bb b0 e' M'.get n' w'->Jt sz d0 e' bt a'->X .normal a' w')->wpOpsIn G n0 P ops X (range' k (o::rest).length) a w:=by
   intro hw h;rw [BF]at h;obtain⟨iy,h3,h4⟩:=A_ h;obtain⟨bt,M',n',h5,h6⟩:=BH dq rest (k+1) t5 h3;refine⟨bt,M',n',h5,fun G n0 X b0 d0 e a w hG hM hA hQ=> ?_⟩;simp only [length_cons,List.range'_succ];rw [wpOpsIn_cons];unfold wpOpIn;simp only [h0,Sr hw (hA.tm.look _ _),Bool.false_eq_true,if_false];exact⟨fun f _=>hG.fn f,h6 G n0 X b0 d0 e _ w hG hM (h4 d0 e e a undef hA (Az.refl e) (by simp only [AV.rep])) fun r_ jI jm kX=>hQ r_ jI jm kX⟩
  split at h
  ·rename_i hg;exact yes (by unfold F4;rw [hg]) h
  ·rename_i j hg;rcases KM (show(sN ops o).get tm _ _=some r from h)with⟨h1,h2⟩|⟨h1,h2⟩
   ·exact yes h1 h2
   ·exact no h1 h2
variable {R:Type}
def fz {β:Type} (n:Nat) (f:Nat->β):β:=Nat.casesOn (motive:=fun _=>β) (Nat.succ n) (f n) f
theorem ur {β:Type} (n:Nat) (f:Nat->β):fz n f=f n:=rfl
def an (a b:Bool):Bool:=Bool.casesOn (motive:=fun _=>Bool) a false b
theorem Qb (a b:Bool):an a b=(a&&b):=by cases a<;>rfl
def no (a:Bool):Bool:=Bool.casesOn (motive:=fun _=>Bool) a true false
theorem uu (a:Bool):no a= !a:=by cases a<;>rfl
def qR (a b c:Bool):Bool:=Bool.casesOn (motive:=fun _=>Bool) a c b
theorem xz (a b c:Bool):qR a b c=cond a b c:=by cases a<;>rfl
def V3 (m i:Nat):Bool:=Nat.beq (mod (Nat.shiftRight m i) 2) 1
theorem Ug (m i:Nat):V3 m i=m.testBit i:=by
 have h:(m>>>i)%2=(m.testBit i).toNat:=by
  rw [Nat.toNat_testBit,Nat.shiftRight_eq_div_pow]
 show Nat.beq ((m>>>i)%2) 1=_
 rw [h];cases m.testBit i<;>rfl
def X0 (a b:Nat):Bool:=Nat.beq (land a b) a
theorem Uh {a b i:Nat} (h:X0 a b=true) (hi:a.testBit i=true):b.testBit i=true:=by
 have h:a&&&b=a:=eq_of_beq_eq_true h;rw [←h,Nat.testBit_and]at hi;exact(and_eq_true _ _▸hi).2
def K3 (A j:Nat):Nat:=mod (Nat.shiftRight A (Nat.mul 64 j)) 18446744073709551616
theorem KO (A j i:Nat):(K3 A j).testBit i=(decide (i<64)&&A.testBit (64*j+i)):=by
 show((A>>>(64*j))%2^64).testBit i=_
 rw [Nat.testBit_mod_two_pow,Nat.testBit_shiftRight]
def fh (A i j:Nat):Bool:=V3 (K3 A j) i
theorem xD (A i j:Nat):fh A i j=(decide (i<64)&&A.testBit (64*j+i)):=by rw [fh,Ug,KO]
theorem Fs (a b i:Nat):(lor a b).testBit i=(a.testBit i||b.testBit i):=Nat.testBit_or a b i
theorem Ja (i j:Nat):(shiftLeft 1 i).testBit j=decide (i=j):=by
 show(1<<<i).testBit j=_
 rw [Nat.shiftLeft_eq,Nat.one_mul,Nat.testBit_two_pow]
def Qc (acc:Nat):List Edge->Nat
 |[]=>0|e::es=>cond (Region.binds .any e) (lor (lor (shiftLeft 1 e.on) (K3 acc e.on)) (Qc acc es)) (Qc acc es)
theorem Ss {acc b:Nat} :∀ {es:List Edge},(Qc acc es).testBit b=true->∃e∈es,Region.binds .any e=true/\(b=e.on\/fh acc b e.on=true)
 |[],h=>by simp [Qc]at h
 |e::es,h=>by
  simp only [Qc]at h;cases hb:Region.binds .any e with
  |false=>
   rw [hb]at h;obtain⟨e',h1,h2⟩:=Ss h;exact⟨e',by simp [h1],h2⟩
  |true=>
   rw [hb]at h;simp only [cond_true,Fs,Ja,or_eq_true,decide_eq_true_eq]at h;rcases h with(h|h)|h
   ·exact⟨e,by simp,hb,.inl h.symm⟩
   ·exact⟨e,by simp,hb,.inr (by rw [fh,Ug];exact h)⟩
   ·obtain⟨e',h1,h2⟩:=Ss h;exact⟨e',by simp [h1],h2⟩
def xF:List Oper->Nat->Nat->Nat
 |[],_,acc=>acc|o::l,j,acc=>fz (lor acc (shiftLeft (mod (Qc acc o.after.toList) 18446744073709551616) (Nat.mul 64 j))) fun acc=>xF l (Nat.succ j) acc
def xG (ops:List Oper):Nat:=xF ops 0 0
def KP (ops:List Oper) (j acc:Nat):Prop:=∀k b,fh acc b k=true->k<j/\∃o,ops[k]? =some o/\∃e∈o.after.toList,Region.binds .any e=true/\(b=e.on\/fh acc b e.on=true/\e.on<k)
theorem KQ {ops:List Oper} :∀(l:List Oper) (j acc:Nat),ops.drop j=l->KP ops j acc->∃j',KP ops j' (xF l j acc)
 |[],j,acc,_,h=>⟨j,h⟩
 |o::l,j,acc,hd,h=>by
  simp only [xF,ur];have ho:ops[j]? =some o:=by
   have:(ops.drop j)[0]? =some o:=by rw [hd];rfl
   simpa using this
  have hl:ops.drop (j+1)=l:=by
   rw [←List.drop_drop,hd];rfl
  refine KQ l (j+1) _ hl ?_;have mono:∀ {b k:Nat},fh acc b k=true->fh (lor acc (shiftLeft (mod (Qc acc o.after.toList) 18446744073709551616) (Nat.mul 64 j))) b k=true:=by
   intro b k hb;rw [xD]at hb⊢;rw [Fs];simp only [and_eq_true,or_eq_true]at hb⊢;exact⟨hb.1,.inl hb.2⟩
  intro k b hb;rw [xD,Fs]at hb;simp only [and_eq_true,or_eq_true,decide_eq_true_eq]at hb;obtain⟨Bpx,hb⟩:=hb;rcases hb with hb|hb
  ·obtain⟨h1,o',h2,e,h3,h4,h5⟩:=h k b (by rw [xD];simp [Bpx,hb]);exact⟨by omega,o',h2,e,h3,h4,h5.imp id fun h=>⟨mono h.1,h.2⟩⟩
  ·have hb:((Qc acc o.after.toList%2^64)<<<(64*j)).testBit (64*k+b)=true:=hb;rw [Nat.testBit_shiftLeft,Nat.testBit_mod_two_pow]at hb;simp only [and_eq_true,decide_eq_true_eq]at hb;have hkj:k=j:=by omega
   subst hkj;have e1:64*k+b-64*k=b:=by omega
   rw [e1]at hb;obtain⟨e,h3,h4,h5⟩:=Ss hb.2.2;exact⟨by omega,o,ho,e,h3,h4,h5.imp id fun g=>⟨mono g,(h _ _ g).1⟩⟩
def Cl (ops:Array Oper) (L:Array Bool):Prop:=∀i o,ops[i]? =some o->L.getD i false=true->∀e∈o.after.toList,Region.binds .any e=true->L.getD e.on false=true
theorem KR {ops:Array Oper} {L:Array Bool} (hL:L.size=ops.size) (fY:Cl ops L):∀(j:Nat) (o:Oper),ops[j]? =some o->(∀e∈o.after.toList,Region.binds .any e=true->L.getD e.on false=true)->∀b,fh (xG ops.toList) b j=true->L.getD b false=true:=by
 obtain⟨j',hA⟩:=KQ (ops:=ops.toList) ops.toList 0 0 rfl (fun k b h=>by rw [xD]at h;simp at h);intro j
 induction j using Nat.strongRecOn with
 |_ j ih=>
  intro o ho he b hb;obtain⟨_,o',h2,e,h3,h4,h5⟩:=hA j b hb;have:o'=o:=by
   rw [Array.getElem?_toList,ho]at h2;exact(Option.some.inj h2).symm
  subst this;have hd:=he e h3 h4;rcases h5 with rfl|⟨h5,aO⟩
  ·exact hd
  ·have KS:e.on<ops.size:=by
    rcases Nat.lt_or_ge e.on ops.size with h|h
    ·exact h
    ·rw [getD_eq_getD_getElem?,Array.getElem?_eq_none (by omega)]at hd;cases hd
   exact ih e.on aO ops[e.on] (by simp [KS]) (fY e.on _ (by simp [KS]) hd) b h5
def qS (o:Oper):Bool:=match o.op with
 | .move _| .assign _| .pick .. | .nilCheck _| .fieldAddr .. | .indexAddr .. | .slice .. | .field .. | .index .. | .extract .. | .build .. | .makeFunc .. | .binOp .. | .unOp .. | .makeInterface .. | .typeAssert .. | .load .. | .convert .. =>true| .call { callee:= .builtin .len,.. } | .call { callee:= .builtin .cap,.. } | .call { callee:= .builtin .min,.. } | .call { callee:= .builtin .max,.. } =>true|_=>false
def Xf (tm:Tm) (o:Oper):Bool:=match o.op with
 | .load .. =>true| .convert _ _ x=>match cF tm x with
  |some (.slice ..)=>true|_=>false
 |_=>false
def Xg (o:Oper):Bool:=match o.op with
 | .load .. =>true| .convert .. =>true|_=>false
theorem Awe {tm:Tm} {o:Oper} (h:Xf tm o=true):Xg o=true:=by
 unfold Xf at h;unfold Xg;split at h
 ·rfl
 ·rfl
 ·cases h
def Gz (o:Oper):Bool:=match o.op with
 | .alloc _=>true| .box .. =>true| .buildSlice .. =>true|_=>false
def Ji (o:Oper):Bool:=no (qS o)
def Jz (o:Oper):Bool:=an (Ji o) (no (Gz o))
def uv (W am:Nat):List Nat->Bool
 |[]=>true|t::l=>an (X0 (K3 W t) am) (uv W am l)
theorem KT {W am t:Nat} :∀ {l:List Nat},uv W am l=true->t∈l->X0 (K3 W t) am=true
 |[],_,h=>by cases h
 |u::l,h,ht=>by
  simp only [uv,Qb,and_eq_true]at h;rcases mem_cons.1 ht with rfl|ht
  ·exact h.1
  ·exact KT h.2 ht
def sO (R i:Nat):List Nat->Nat
 |[]=>R|t::l=>lor (shiftLeft 1 (Nat.add (Nat.mul 64 t) i)) (sO R i l)
theorem KU {R i k:Nat} :∀ {l:List Nat},R.testBit k=true->(sO R i l).testBit k=true
 |[],h=>h
 |t::l,h=>by simp only [sO,Fs,KU h,Bool.or_true]
theorem KV {R i t:Nat} :∀ {l:List Nat},t∈l->(sO R i l).testBit (64*t+i)=true
 |[],h=>by cases h
 |u::l,h=>by
  simp only [sO,Fs,or_eq_true];rcases mem_cons.1 h with rfl|h
  ·refine .inl ?_;rw [Ja];exact decide_eq_true rfl
  ·exact .inr (KV h)
def sP:List Edge->Nat
 |[]=>0|e::es=>cond (Region.binds .any e) (lor (shiftLeft 1 e.on) (sP es)) (sP es)
theorem KW {e:Edge} (hb:Region.binds .any e=true):∀ {es:List Edge},e∈es->(sP es).testBit e.on=true
 |[],h=>by cases h
 |e'::es,h=>by
  simp only [sP];rcases mem_cons.1 h with rfl|h
  ·rw [hb,cond_true,Fs,Ja];simp
  ·have:=KW hb h;cases Region.binds .any e' with
   |true=>rw [cond_true,Fs,this,Bool.or_true]
   |false=>exact this
def xH (W R am:Nat) (d:Option Nat):Bool:=match d with
 |none=>true|some t=>an (Nat.beq (K3 W t) 0) (X0 (K3 R t) am)
def BI (W i:Nat) (d:Option Nat):Nat:=match d with
 |none=>W|some t=>lor (shiftLeft 1 (Nat.add (Nat.mul 64 t) i)) W
def uw (ops:Array Oper) (A:Nat):List (Nat×Oper)->Nat->Nat->Nat->Nat->Nat->Option (Nat×Nat)
 |[],_,_,B,_,F=>some (B,F)|(i,o)::l,W,Rr,B,Mm,F=>fz (K3 A i) fun am=>
  cond (an (Nat.ble i 63) (an (no (V3 B i)) (an (X0 (sP o.after.toList) B) (an (uv W am (o.looksAt ops)) (an (xH W Rr am o.dst) (qR (Jz o) (X0 Mm am) true))))))
   (fz (BI W i o.dst) fun W=>fz (sO Rr i (o.looksAt ops)) fun Rr=>fz (lor (shiftLeft 1 i) B) fun B=>
    fz (lor (cond (an (Xg o) (X0 Mm am)) (shiftLeft 1 i) 0) (cond (Jz o) (land F am) F)) fun F=>
    fz (cond (Ji o) (lor (shiftLeft 1 i) Mm) Mm) fun Mm=>uw ops A l W Rr B Mm F) none
structure xI (ops:Array Oper) (A:Nat) (pre:List (Nat×Oper)) (y:Nat×Oper):Prop where
 ne:∀x∈pre,x.1≠y.1
 Bpy:∀e∈y.2.after.toList,Region.binds .any e=true->∃x∈pre,x.1=e.on
 dst:∀x∈pre,∀t,x.2.dst=some t->y.2.dst≠some t
 look:∀x∈pre,∀t,x.2.dst=some t->t∈y.2.looksAt ops->fh A x.1 y.1=true
 Bpz:∀x∈pre,∀t,y.2.dst=some t->t∈x.2.looksAt ops->fh A x.1 y.1=true
 mem:∀x∈pre,Ji x.2=true->Jz y.2=true->fh A x.1 y.1=true
structure KX (ops:Array Oper) (A:Nat) (pre:List (Nat×Oper)) (W Rr B Mm F:Nat):Prop where
 b:∀x∈pre,x.1<=63/\B.testBit x.1=true
 b':∀k,B.testBit k=true->∃x∈pre,x.1=k
 w:∀x∈pre,∀t,x.2.dst=some t->W.testBit (64*t+x.1)=true
 r:∀x∈pre,∀t,t∈x.2.looksAt ops->Rr.testBit (64*t+x.1)=true
 m:∀x∈pre,Ji x.2=true->Mm.testBit x.1=true
 ux:∀(q:Nat) y,pre[q]? =some y->xI ops A (pre.take q) y
 f':∀k,F.testBit k=true->B.testBit k=true
 f:∀(p q:Nat) (x y:Nat×Oper),pre[p]? =some x->pre[q]? =some y->F.testBit x.1=true->Ji y.2=true->(q<p->fh A y.1 x.1=true)/\(p<q->Jz y.2=true->fh A x.1 y.1=true)
theorem Ui {A i j:Nat} (h:(K3 A j).testBit i=true):fh A i j=true:=by rw [fh,Ug];exact h
theorem KY {ops:Array Oper} {A:Nat} :∀(l pre:List (Nat×Oper)) (W Rr B Mm F B' F':Nat),KX ops A pre W Rr B Mm F->uw ops A l W Rr B Mm F=some (B',F')->∃W' R' M',KX ops A (pre++l) W' R' B' M' F'
 |[],pre,W,Rr,B,Mm,F,B',F',h,hk=>by
  simp only [uw]at hk;cases hk;exact⟨W,Rr,Mm,by simpa using h⟩
 |(i,o)::l,pre,W,Rr,B,Mm,F,B',F',h,hk=>by
  simp only [uw,ur]at hk;cases hc:an (Nat.ble i 63) (an (no (V3 B i)) (an (X0 (sP o.after.toList) B) (an (uv W (K3 A i) (o.looksAt ops)) (an (xH W Rr (K3 A i) o.dst) (qR (Jz o) (X0 Mm (K3 A i)) true)))))with
  |false=>rw [hc]at hk;cases hk
  |true=>
   rw [hc]at hk;simp only [Qb,uu,xz,and_eq_true,Bool.not_eq_true',Ug]at hc;obtain⟨c1,c2,c3,c4,c5,c6⟩:=hc;have c1:=le_of_ble_eq_true c1;have xJ:∀x∈pre,x.1≠i:=fun x hx e=>by
    have:=(h.b x hx).2;rw [e,c2]at this;cases this
   have row:∀ {S t:Nat} {x:Nat×Oper},x∈pre->S.testBit (64*t+x.1)=true->(K3 S t).testBit x.1=true:=by
    intro S t x hx hs;rw [KO];have:=(h.b x hx).1;simp [hs];omega
   have oD:xI ops A pre (i,o):=by
    refine⟨xJ,fun e he hb=> ?_,fun x hx t uy qT=> ?_,fun x hx t uy ht=> ?_,fun x hx t qT ht=> ?_,fun x hx hm hl=> ?_⟩
    ·exact h.b' _ (Uh c3 (KW hb he))
    ·have qT:o.dst=some t:=qT;rw [qT]at c5;simp only [xH,Qb,and_eq_true]at c5;have h0:=eq_of_beq_eq_true c5.1;have:=row hx (h.w x hx t uy);rw [h0]at this;simp at this
    ·exact Ui (Uh (KT c4 ht) (row hx (h.w x hx t uy)))
    ·have qT:o.dst=some t:=qT;rw [qT]at c5;simp only [xH,Qb,and_eq_true]at c5;exact Ui (Uh c5.2 (row hx (h.r x hx t ht)))
    ·have hl:Jz o=true:=hl;rw [hl]at c6;exact Ui (Uh c6 (h.m x hx hm))
   have xK:∀ {q:Nat} {y:Nat×Oper},(pre++[(i,o)])[q]? =some y->(q<pre.length/\pre[q]? =some y)\/(q=pre.length/\y=(i,o)):=by
    intro q y hq;rcases Nat.lt_or_ge q pre.length with aO|jZ
    ·rw [List.getElem?_append_left aO]at hq;exact .inl ⟨aO,hq⟩
    ·rw [List.getElem?_append_right jZ]at hq;have h0:q-pre.length=0:=by
      have:=(List.getElem?_eq_some_iff.1 hq).1;simp at this;omega
     rw [h0]at hq;exact .inr ⟨by omega,by simpa using hq.symm⟩
   have KZ:=fun hI=>KY l (pre++[(i,o)]) _ _ _ _ _ B' F' hI hk
   rw [List.append_assoc]at KZ;refine KZ ?_
   ·refine⟨fun x hx=> ?_,fun k hk=> ?_,fun x hx t ht=> ?_,fun x hx t ht=> ?_,fun x hx hm=> ?_,fun q y hq=> ?_,fun k hk=> ?_,fun p q x y hp hq hF hm=> ?_⟩
    ·rcases mem_append.1 hx with hx|hx
     ·exact⟨(h.b x hx).1,by rw [Fs,(h.b x hx).2,Bool.or_true]⟩
     ·obtain rfl:x=(i,o):=by simpa using hx
      exact⟨c1,by rw [Fs,Ja];simp⟩
    ·rw [Fs,Ja,or_eq_true,decide_eq_true_eq]at hk;rcases hk with rfl|hk
     ·exact⟨(i,o),by simp,rfl⟩
     ·obtain⟨x,h1,h2⟩:=h.b' k hk;exact⟨x,by simp [h1],h2⟩
    ·rcases mem_append.1 hx with hx|hx
     ·have:=h.w x hx t ht;unfold BI;split
      ·exact this
      ·rw [Fs,this,Bool.or_true]
     ·obtain rfl:x=(i,o):=by simpa using hx
      have ht:o.dst=some t:=ht;unfold BI;rw [ht];simp only [Fs,Ja];rw [show decide (Nat.add (Nat.mul 64 t) i=64*t+i)=true from decide_eq_true rfl,Bool.true_or]
    ·rcases mem_append.1 hx with hx|hx
     ·exact KU (h.r x hx t ht)
     ·obtain rfl:x=(i,o):=by simpa using hx
      exact KV ht
    ·rcases mem_append.1 hx with hx|hx
     ·have:=h.m x hx hm;cases Ji o with
      |true=>rw [cond_true,Fs,this,Bool.or_true]
      |false=>exact this
     ·obtain rfl:x=(i,o):=by simpa using hx
      have hm:Ji o=true:=hm;rw [hm,cond_true,Fs,Ja];simp
    ·rcases xK hq with⟨h1,h2⟩|⟨rfl,rfl⟩
     ·rw [List.take_append_of_le_length (Nat.le_of_lt h1)];exact h.ux q y h2
     ·rw [List.take_left' rfl];exact oD
    ·rw [Fs,or_eq_true]at hk;rw [Fs,Ja,or_eq_true,decide_eq_true_eq];rcases hk with hk|hk
     ·cases eV:an (Xg o) (X0 Mm (K3 A i))with
      |true=>rw [eV,cond_true,Ja]at hk;exact .inl (of_decide_eq_true hk)
      |false=>rw [eV,cond_false]at hk;simp at hk
     ·refine .inr (h.f' k ?_);cases hl:Jz o with
      |true=>
       rw [hl,cond_true]at hk;have hk:(F&&&K3 A i).testBit k=true:=hk;rw [Nat.testBit_and,and_eq_true]at hk;exact hk.1
      |false=>rw [hl]at hk;exact hk
    ·rw [Fs,or_eq_true]at hF;have K_:(cond (Jz o) (land F (K3 A i)) F).testBit x.1=true->F.testBit x.1=true/\(Jz o=true->(K3 A i).testBit x.1=true):=by
      intro hk;cases hl:Jz o with
      |true=>
       rw [hl,cond_true]at hk;have hk:(F&&&K3 A i).testBit x.1=true:=hk;rw [Nat.testBit_and,and_eq_true]at hk;exact⟨hk.1,fun _=>hk.2⟩
      |false=>rw [hl]at hk;exact⟨hk,nofun⟩
     rcases xK hp with⟨cT,iO⟩|⟨rfl,rfl⟩
     ·have BJ:x∈pre:=List.mem_of_getElem? iO;have hF:F.testBit x.1=true/\(Jz o=true->(K3 A i).testBit x.1=true):=by
       rcases hF with hF|hF
       ·cases eV:an (Xg o) (X0 Mm (K3 A i))with
        |true=>rw [eV,cond_true,Ja]at hF;exact absurd (of_decide_eq_true hF).symm (xJ x BJ)
        |false=>rw [eV,cond_false]at hF;simp at hF
       ·exact K_ hF
      rcases xK hq with⟨xM,BK⟩|⟨rfl,rfl⟩
      ·exact h.f p q x y iO BK hF.1 hm
      ·exact⟨fun aO=>by omega,fun _ hl=>Ui (hF.2 hl)⟩
     ·rcases xK hq with⟨xM,BK⟩|⟨rfl,rfl⟩
      ·refine⟨fun _=> ?_,fun aO=>by omega⟩;have qU:y∈pre:=List.mem_of_getElem? BK;rcases hF with hF|hF
       ·cases eV:an (Xg o) (X0 Mm (K3 A i))with
        |true=>
         rw [Qb,and_eq_true]at eV;exact Ui (Uh eV.2 (h.m y qU hm))
        |false=>rw [eV,cond_false]at hF;simp at hF
       ·have:=h.f' _ (K_ hF).1;rw [c2]at this;cases this
      ·exact⟨fun aO=>absurd aO (lt_irrefl _),fun aO=>absurd aO (lt_irrefl _)⟩
def xO (m acc:Nat):Nat->Nat->(List Nat->List Nat)
 |0,_=>fun l=>l
 |f+1,k=>cond (an (V3 m k) (no (V3 acc k))) (fun l=>k::xO m acc f (Nat.succ k) l) (xO m acc f (Nat.succ k))
def BL (A N:Nat):List Oper->Nat->Nat->List Nat
 |[],_,acc=>xO 18446744073709551615 acc N 0 []|o::l,i,acc=>cond (an (Jz o) (no (V3 acc i))) (fz (lor (shiftLeft 1 i) (lor acc (K3 A i))) fun Bp0=>xO (K3 A i) acc N 0 (i::BL A N l (Nat.succ i) Bp0)) (BL A N l (Nat.succ i) acc)
def xP {β:Type} :List Nat->(List Nat->β)->β
 |[],K=>K []|k::l,K=>fz k fun k=>xP l fun l=>K (k::l)
def Qd (ops:List Oper):List Nat->List (Nat×Oper)
 |[]=>[]|i::l=>match ops[i]? with
  |some o=>(i,o)::Qd ops l|none=>Qd ops l
theorem V4 {ops:List Oper} :∀ {l:List Nat} {x:Nat×Oper},x∈Qd ops l->ops[x.1]? =some x.2
 |[],_,h=>by cases h
 |i::l,x,h=>by
  simp only [Qd]at h;split at h
  ·rename_i o ho;rcases mem_cons.1 h with rfl|h
   ·exact ho
   ·exact V4 h
  ·exact V4 h
def xQ (f:Oper->Bool):List (Nat×Oper)->Bool
 |[]=>false|x::l=>qR (f x.2) true (xQ f l)
theorem LA {f:Oper->Bool} :∀ {l:List (Nat×Oper)} {x:Nat×Oper},xQ f l=false->x∈l->f x.2=false
 |[],_,_,h=>by cases h
 |y::l,x,h,hx=>by
  simp only [xQ,xz]at h;cases hf:f y.2 with
  |true=>rw [hf]at h;cases h
  |false=>
   rw [hf]at h;rcases mem_cons.1 hx with rfl|hx
   ·exact hf
   ·exact LA h hx
def xR (f:Nat×Oper->Bool):List (Nat×Oper)->Bool
 |[]=>false|x::l=>qR (f x) true (xR f l)
theorem LB {f:Nat×Oper->Bool} :∀ {l:List (Nat×Oper)} {x:Nat×Oper},xR f l=false->x∈l->f x=false
 |[],_,_,h=>by cases h
 |y::l,x,h,hx=>by
  simp only [xR,xz]at h;cases hf:f y with
  |true=>rw [hf]at h;cases h
  |false=>
   rw [hf]at h;rcases mem_cons.1 hx with rfl|hx
   ·exact hf
   ·exact LB h hx
structure uz where
 A:Nat
 i4:List (Nat×Oper)
 F:Nat
 ld:Bool
 al:Bool
def BM (ops:Array Oper):Option uz:=fz (xG ops.toList) fun A=>xP (BL A ops.size ops.toList 0 0) fun order=>
 match uw ops A (Qd ops.toList order) 0 0 0 0 0 with
 |some (B,F)=>cond (Nat.beq B (Nat.sub (shiftLeft 1 ops.size) 1)) (some ⟨A,Qd ops.toList order,F,xR (fun x=>an (Xg x.2) (no (V3 F x.1))) (Qd ops.toList order),xQ Gz (Qd ops.toList order)⟩) none
 |none=>none
structure BN (ops:Array Oper) (g:uz):Prop where
 A:g.A=xG ops.toList
 at_:∀x∈g.i4,ops.toList[x.1]? =some x.2
 has:∀i,i<ops.size->∃x∈g.i4,x.1=i
 ux:∀(q:Nat) y,g.i4[q]? =some y->xI ops g.A (g.i4.take q) y
 fix:∀(p q:Nat) (x y:Nat×Oper),g.i4[p]? =some x->g.i4[q]? =some y->V3 g.F x.1=true->Ji y.2=true->(q<p->fh g.A y.1 x.1=true)/\(p<q->Jz y.2=true->fh g.A x.1 y.1=true)
 ld:g.ld=false->∀x∈g.i4,Xg x.2=true->V3 g.F x.1=true
 al:g.al=false->∀x∈g.i4,Gz x.2=false
theorem LC {β:Type} :∀(l:List Nat) (K:List Nat->β),xP l K=K l
 |[],_=>rfl
 |k::l,K=>by simp only [xP,ur,LC l]
theorem Atk {ops:Array Oper} {g:uz} (h:BM ops=some g):BN ops g:=by
 unfold BM at h;rw [ur,LC]at h;split at h
 case h_2=>cases h
 rename_i B F hk;cases hb:Nat.beq B (Nat.sub (shiftLeft 1 ops.size) 1)with
 |false=>rw [hb]at h;cases h
 |true=>
  rw [hb]at h;cases h
  have hB:B=1<<<ops.size-1:=eq_of_beq_eq_true hb;obtain⟨W',R',M',hI⟩:=KY _ [] 0 0 0 0 0 B F ⟨by simp,by simp,by simp,by simp,by simp,by simp,by simp,by simp⟩ hk;rw [List.nil_append]at hI;refine⟨rfl,fun x hx=>V4 hx,fun i hi=> ?_,hI.ux,fun p q x y hp hq hF hm=>hI.f p q x y hp hq (by rw [←Ug];exact hF) hm,fun hl x hx hs=> ?_,fun ha x hx=>LA ha hx⟩
  ·refine hI.b' i ?_;rw [hB,Nat.shiftLeft_eq,Nat.one_mul,Nat.testBit_two_pow_sub_one];exact decide_eq_true hi
  ·have:=LB hl hx;rw [hs,Qb,uu,Bool.true_and,Bool.not_eq_false']at this;exact this
end Go.Am
