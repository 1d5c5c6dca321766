/- A part of the proof: conditions of the code, contracts, the plain law. -/
import Derived.Test.YtpdccfgpbkagcaaGreatM10
import Derived.Test.YtpdccfgpbkagcaaGreatM8
import Derived.Test.YtpdccfgpbkagcaaGreatM5
import Derived.Test.YtpdccfgpbkagcaaGreatM2
import GoSem.ClaimWide
import Derived.Test.YtpdccfgpbkagcaaGreatRows
import Derived.KernelRfl
import Derived.Test.YtpdccfgpbkagcaaGreatOpenLv
open Nat (ble succ)
open List (mem_append mem_cons mem_singleton)
namespace Go.Am
open Go.Vc
variable {R:Type}
def y7:Nat->List AV->Tm->(Tm->Option R)->Option R
 |_,[],tm,K=>K tm|i,a::l,tm,K=>jH (Tm.sB i) fun s=>s tm (some a) fun tm=>fN (i+1) fun i=>y7 i l tm K
theorem Ale {sz:Nat} :∀ {l:List AV} {i:Nat} {tm:Tm} {K:Tm->Option R} {r:R},y7 i l tm K=some r->∃bc,K bc=some r/\∀(t:Nat) av,bc.get t=some av->(∃j,l[j]? =some av/\t=i+j)\/tm.get t=some av
 |[],i,tm,K,r,h=>⟨tm,h,fun t av ht=> .inr ht⟩
 |a::l,i,tm,K,r,h=>by
  simp only [y7]at h;obtain⟨jq,h1,h2⟩:=Tm.Iw h;rw [Ei]at h1;obtain⟨bc,h3,h4⟩:=Ale (sz:=sz) h1;refine⟨bc,h3,fun t av ht=> ?_⟩;rcases h4 t av ht with⟨j,g1,g2⟩|g
  ·exact .inl ⟨j+1,by simpa using g1,by omega⟩
  ·rw [h2]at g;split at g
   ·rename_i hti;exact .inl ⟨0,by simpa using g,by omega⟩
   ·exact .inr g
def Ye (P:Program) (tm:Tm) (M:Tr aA):ResultVar->Option AV
 | .tmp t=>tm.get t| .cell s t=>match tm.get s with
  |some (.ptr b k)=>match M.get b with
   |some (.cells l _)=>match rz P t with
    |some true=>match P.info? t with
     |some i=>cond (ble (k+i.size) l.length) (some (.agg ((l.drop k).take i.size))) none|none=>none
    |some false=>l[k]?|none=>none
   |_=>none
  |_=>none
def sO (P:Program) (tm:Tm) (M:Tr aA):List ResultVar->Option (List AV)
 |[]=>some []|x::l=>match Ye P tm M x with
  |some a=>match sO P tm M l with
   |some az=>some (a::az)|none=>none
  |none=>none
def v8:List AV->AV
 |[v]=>v|vs=> .tuple vs
theorem Anl {P:Program} {b0:Base} {e:Env} {tm:Tm} {M:Tr aA} {n:Nat} {a:Act} {w:World} (hM:Br b0 e M.get n w) (hT:pv e tm a) {x:ResultVar} {av:AV} (h:Ye P tm M x=some av): ∃v,av.rep e v/\(Mi a.tmps x).run P w= .ok v w:=by
 cases x with
 |tmp t=>exact⟨_,(hT.at_ t av h).2,rfl⟩
 |cell s t=>
  simp only [Ye]at h;split at h
  case h_2=>cases h
  rename_i b k hs;split at h
  case h_2=>cases h
  rename_i l rw hb;obtain⟨B,tt,vs,rest,h1,h2,h3,h4,h5⟩:=hM.aY b _ hb;have hr:=(hT.at_ s _ hs).2;simp only [AV.rep]at hr;obtain⟨B',t',q1,q2⟩:=hr;rw [h1]at q1;cases q1;split at h
  ·rename_i ha;split at h
   case h_2=>cases h
   rename_i i hi;cases hc:ble (k+i.size) l.length with
   |false=>rw [hc]at h;cases h
   |true=>
    rw [hc]at h;cases h;have hle:=Nat.le_of_ble_eq_true hc;have hlen:=Bk h4;have gQ:((vs.drop k).take i.size).length=i.size:=by simp;omega
    have ir:Ac w ⟨B,k,none⟩ ((vs.drop k).take i.size):=h2.cells k fun j hj=>by
     rw [gQ]at hj;rw [List.getElem?_append_left (by omega),List.getElem?_eq_getElem (by omega)];simp
    have hl:=Hg (P:=P) (w:=w) (a:=⟨B,k,none⟩) ((vs.drop k).take i.size) 0 #[] (fun j hj=>by simpa using ir j hj);rw [gQ]at hl;refine⟨.agg ⟨(vs.drop k).take i.size⟩,by simp only [AV.rep];exact⟨_,rfl,Ee (Fp h4)⟩,?_⟩;simp only [Mi,q2,asAddr,loadVar,Sem.run_bind,Sem.run_pure,Result.andThen_ok,L9 ha,if_true,sizeOf,typeInfo,run_program,hi,loadCells,hl];simp
  ·rename_i ha;obtain⟨v,hv,hr⟩:=Hz h4 h;have aE:=(List.getElem?_eq_some_iff.1 hv).1;have hc:w.cell? ⟨B,k,none⟩=some v:=h2.cell (by rw [List.getElem?_append_left aE];exact hv);refine⟨v,hr,?_⟩;simp only [Mi,q2,asAddr,loadVar,Sem.run_bind,Sem.run_pure,Result.andThen_ok,L9 ha,Bool.false_eq_true,if_false,run_load,hc]
  ·cases h
theorem Ao0 {P:Program} {b0:Base} {e:Env} {tm:Tm} {M:Tr aA} {n:Nat} {a:Act} {w:World} (hM:Br b0 e M.get n w) (hT:pv e tm a):∀ {l:List ResultVar} {az:List AV},sO P tm M l=some az->
 ∃vs,AV.bl e az vs/\(l.mapM (Mi a.tmps)).run P w= .ok vs w
 |[],_,h=>by simp only [sO]at h;cases h;exact⟨[],by simp [AV.bl],rfl⟩
 |x::l,_,h=>by
  simp only [sO]at h;split at h
  ·rename_i av fw;split at h
   ·rename_i az has;cases h
    obtain⟨v,h1,h2⟩:=Anl hM hT fw;obtain⟨vs,h3,h4⟩:=Ao0 hM hT has;refine⟨v::vs,by simp only [AV.bl];exact⟨_,_,rfl,h1,h3⟩,?_⟩;simp only [List.mapM_cons,Sem.run_bind,h2,h4,Result.andThen_ok,Sem.run_pure]
   ·cases h
  ·cases h
theorem Aua {e:Env} {az:List AV} {vs:List Value} (h:AV.bl e az vs):(v8 az).rep e (Hk vs):=by
 match az,h with
 |[],h=>simp only [AV.bl]at h;subst h;simp only [v8,Hk,AV.rep];exact⟨[],rfl,by simp [AV.bl]⟩
 |[a],h=>
  simp only [AV.bl]at h;obtain⟨x,xs,rfl,h1,rfl⟩:=h;exact h1
 |a::b::l,h=>
  have h':=h;simp only [AV.bl]at h;obtain⟨x,xs,rfl,h1,y,ys,rfl,h2⟩:=h;simp only [v8,Hk,AV.rep];exact⟨_,rfl,h'⟩
abbrev C_ (R:Type):Type:=Tm->Tr aA->(AV->Option R)->Option R
def Axd (P:Program) (l:List ResultVar):C_ R:=fun tm M K=>match sO P tm M l with
 |some az=>fL az fun az=>fA (v8 az) K
 |none=>none
def Ba2 (g:Tm->Option AV):C_ R:=fun tm _ K=>oK (g tm) K
def DA (P:Program) (l:List ResultVar):Bx (C_ R):=match l with
 |[]=>⟨fun _ _ K=>K (.tuple [])⟩
 |[.tmp t]=>b1 Ba2 (Tm.gB t)|_=>⟨Axd P l⟩
theorem Aeh {P:Program} {l:List ResultVar} {tm:Tm} {M:Tr aA} {K:AV->Option R} {r:R} (h:(DA P l).get tm M K=some r):∃az,sO P tm M l=some az/\K (v8 az)=some r:=by
 unfold DA at h;split at h
 ·exact⟨[],rfl,h⟩
 ·rename_i t;obtain⟨a,h1,h2⟩:=B0 (show oK (tm.get t) K=some r from h);exact⟨[a],by simp only [sO,Ye,h1],h2⟩
 ·simp only [Axd]at h;split at h
  ·rename_i az has;rw [Qq,O8]at h;exact⟨az,has,h⟩
  ·cases h
def LF (nt:Nat) (f:H5 R) (q:C_ R):Bq R->Bq R:=fun call _ args M n K=>eV (ble args.length nt) (y7 0 args Tm.nil fun tm=>f call tm M n fun ex tm M n=>i4.casesOn (motive:=fun _=>Option R) ex (q tm M fun av=>K av M n) (q tm M fun av=>K av M n) (fun _=>none)) none
def LG (P:Program):Bq R->Bq R:=fun _ g args M n K=>match AV.vals? args with
 |some vs=>match rv P (callFunc g ⟨vs⟩)with
  |some (.value v)=>fV v fun v=>K (.lit v) M n
  |_=>none
 |none=>none
def noC:Bq R->Bq R:=fun _ _ _ _ _ _=>none
def DB (P:Program) (lf:Nat) (g:FuncId):Bx (Bq R->Bq R):=match P.funcs[g]? with
 |some fn=>cond (fn.name== "runtime.NumGoroutine") ⟨noC⟩ (match fn.body with
  |some c=>b2 (LF fn.ntmps) (E2 P fn.ntmps lf false c) (DA P fn.results.toList)|none=>⟨LG P⟩)
 |none=>⟨noC⟩
def LH (P:Program) (ext:Bq R->Bq R) (lf:Nat) (call:Bq R):Bq R:=ext fun g args M n K=>eV (ble YB g) (fN (Nat.sub g YB) fun b=>KY P lf call b args M n K) (jH (DB P lf g) fun f=>f call g args M n K)
def LI (P:Program) (ext:Bq R->Bq R) (lf:Nat):Nat->Bx (Bq R)
 |0=>⟨fun _ _ _ _ _=>none⟩
 |k+1=>b1 (LH P ext lf) (LI P ext lf k)
def DD (P:Program) (ext:Bq R->Bq R) (lf:Nat) (k:Nat):Bq R:=fun g args M n K=>jH (LI P ext lf k) fun f=>f g args M n K
def Qi (P:Program) (ext:Bq R->Bq R):Prop:=∀call,Eo P call->Eo P (ext call)
theorem Aue (P:Program):Qi P (fun c:Bq R=>c):=fun _ h=>h
theorem Sb:∀(ds:List Nat) (w:World) {k:Nat},k∉ds->(shut ds w).heap[k]? =w.heap[k]?
 |[],_,_,_=>rfl
 |D::ds,w,k,h=>by
  simp only [mem_cons,not_or]at h;simp only [shut];rw [Sb ds _ h.2];exact World.putObj_heap_other h.1
theorem Aa7:∀(ds:List Nat) (w:World),(shut ds w).os=w.os/\(shut ds w).tape=w.tape/\(shut ds w).output=w.output/\(shut ds w).heap.size=w.heap.size
 |[],_=>⟨rfl,rfl,rfl,rfl⟩
 |D::ds,w=>by
  obtain⟨h1,h2,h3,h4⟩:=Aa7 ds (w.putObj D (.deferred none));exact⟨h1,h2,h3,by rw [shut,h4];simp [World.putObj]⟩
theorem Br.shut {b0 b':Base} {bJ:List Nat} {e':Env} {M':Mm} {n':Nat} {w':World} (hM:Br b' e' M' n' w') (hx:Ext b0 [] b' bJ) (hD:Ni b' bJ):Br b0 e' M' n' (shut bJ w'):=by
 obtain⟨f1,f2,f3,f4⟩:=Aa7 bJ w';refine⟨fun b hb=>hM.new b (hb.imp id fun h=>by rw [hx.R];exact h),fun b hb=>hM.res b (by rw [hx.R];exact hb),fun b x hb=> ?_,hM.ew,⟨f1.trans (hM.kept.os.trans hx.kept.os),f2.trans (hM.kept.tape.trans hx.kept.tape),f3.trans (hM.kept.output.trans hx.kept.output),Nat.le_trans hx.kept.size (by rw [f4];exact hM.kept.size),fun k hk=> ?_⟩⟩
 ·have y3:=hM.aY b x hb;obtain⟨B',t',g1,g2,g3⟩:=y3.at;refine y3.aW (Bg.refl e') (fun B t hB hX hc=>hX (hx.X B hc)) fun B t hB=> ?_
  rw [g1]at hB;cases hB;exact Sb bJ w' fun hc=>g3 (hD.2 B' hc).1
 ·rw [Sb bJ w' fun hc=> ?_]
  ·exact(hM.kept.block k (hx.X k hk)).trans (hx.kept.block k hk)
  ·rcases hx.new k hc with h|h
   ·cases h
   ·exact h hk
theorem Auf {P:Program} (hm:P.follows .mixedOrders=true) {lf:Nat} {call:Bq R} (dP:Eo P call) {g:FuncId} {fn:Func} {c:Code} (um:P.funcs[g]? =some fn) (hc:fn.body=some c) (fD:(fn.name== "runtime.NumGoroutine")=false)
 {args:List AV} {M:Tr aA} {n:Nat} {K:AV->Tr aA->Nat->Option R} {r:R} (h:LF fn.ntmps (E2 P fn.ntmps lf false c).get (DA P fn.results.toList).get call g args M n K=some r):∃av M' n',K av M' n'=some r/\BS P g args M n av M' n':=by
 unfold LF at h;cases hn:ble args.length fn.ntmps with
 |false=>rw [hn]at h;cases h
 |true=>
  rw [hn]at h;have hn:=Nat.le_of_ble_eq_true hn;obtain⟨ie,h1,h2⟩:=Ale (sz:=0) (show y7 0 args Tm.nil _=some r from h);obtain⟨ex,tm,M',n',h3,h4⟩:=KX dP hm (cI:=false) c _ _ _ _ _ h1;have hx:∃az,sO P tm M' fn.results.toList=some az/\K (v8 az) M' n'=some r/\(ex.qj= .normal\/ex.qj= .ret):=by
   cases ex with
   |exit i=>cases h3
   |normal=>obtain⟨az,q1,q2⟩:=Aeh h3;exact⟨az,q1,q2,.inl rfl⟩
   |ret=>obtain⟨az,q1,q2⟩:=Aeh h3;exact⟨az,q1,q2,.inr rfl⟩
  obtain⟨az,g1,g2,g3⟩:=hx;refine⟨_,M',n',g2,fun b0 e w vs hM kF next hk=> ?_⟩;have dP:Cs P g=true:=by unfold Cs;rw [um];simp [hc,fD]
  have dL:(⟨vs⟩:Array Value).size=args.length:=by simp [Bk kF]
  have hA:Jd fn.ntmps (([]:List Nat).map mk) e ie { tmps:=(⟨vs⟩:Array Value)++Array.replicate (fn.ntmps-(⟨vs⟩:Array Value).size) undef,defers:=[] } :=by
   refine⟨⟨fun t av ht=> ?_⟩,?_,rfl⟩
   ·rcases h2 t av ht with⟨j,q1,q2⟩|q
    ·obtain⟨v,q3,q4⟩:=Hz kF q1;have hj:=(List.getElem?_eq_some_iff.1 q3).1;rw [Nat.zero_add]at q2;subst q2;refine⟨by simp;omega,?_⟩;have:((⟨vs⟩:Array Value)++Array.replicate (fn.ntmps-(⟨vs⟩:Array Value).size) undef).getD t undef=v:=by
      rw [Array.getD_eq_getD_getElem?,Array.getElem?_append_left (by simpa using hj)];have:(⟨vs⟩:Array Value)[t]? =some v:=by simpa using q3
      rw [this];rfl
     rw [this];exact q4
    ·rw [Tm.get_nil]at q;cases q
   ·simp only [Array.size_append,Array.size_replicate];rw [dL];omega
  refine Kx dP (callsIn_wide.1 (callsIn_of_wp_marks (n:=0) um hc trivial ?_));refine wpIn_mono (h4 Fence.wide 0 b0 [] e _ w ⟨.inl rfl,fun _=>rfl⟩ hM hA ⟨List.nodup_nil,nofun⟩) ?_;rintro x a' w' ⟨rfl,e',b',bJ,hl,yN,_,gV,v7,vc⟩;have hM2:=gV.shut yN vc;obtain⟨us,r1,r2⟩:=Ao0 hM2 v7.tm g1;have tw:=Ky (fn:=fn) r2;have CM:=hk e' (Hk us) _ hl hM2 (Aua r1);have qy:Bi bJ w':=⟨vc.1,fun D hDm=>(gV.kept.block D (vc.2 D hDm).1).trans (vc.2 D hDm).2⟩
  have key:LeavesInM Fence.wide 0 P fn a'.tmps (aD next) a'.defers .returning w':=by
   rw [v7.defers];exact Mk (R:=aD next) bJ w' qy tw CM
  rcases g3 with g3|g3<;>rw [g3]<;>exact key
theorem Awf {P:Program} {call:Bq R} {g:FuncId} {args:List AV} {M:Tr aA} {n:Nat} {K:AV->Tr aA->Nat->Option R} {r:R} (h:LG P call g args M n K=some r):∃av M' n',K av M' n'=some r/\BS P g args M n av M' n':=by
 unfold LG at h;split at h
 case h_2=>cases h
 rename_i vs kF;split at h
 case h_2=>cases h
 rename_i v hv;rw [WI]at h;refine⟨.lit v,M,n,h,fun b0 e w us hM jJ next hk=> ?_⟩;have:=T2 kF jJ;subst this;rw [WM hv w];exact hk e v w (Bg.refl e) hM (by simp only [AV.rep])
theorem Aug {P:Program} (hm:P.follows .mixedOrders=true) {ext:Bq R->Bq R} (he:Qi P ext) {lf:Nat} {call:Bq R} (dP:Eo P call):Eo P (LH P ext lf call):=by
 unfold LH;refine he _ ?_;intro g args M n K r h;have h:eV (ble YB g) (fN (Nat.sub g YB) fun b=>KY P lf call b args M n K) (jH (DB P lf g) fun f=>f call g args M n K)=some r:=h;cases hY:ble YB g with
 |true=>
  rw [hY]at h;have hY:YB<=g:=Nat.le_of_ble_eq_true hY;have h:=(H2 (b:=true) h).2;rw [Ei]at h;obtain⟨av,M',n',h1,h2⟩:=Aqr dP hm h;refine⟨av,M',n',h1,fun aE=>absurd aE (Nat.not_lt.2 hY),fun b hb=> ?_⟩;have:Nat.sub g YB=b:=by rw [hb];exact Nat.add_sub_cancel_left YB b
  rw [this]at h2;exact h2
 |false=>
  rw [hY]at h;have hY:¬YB<=g:=fun hh=>by rw [Nat.ble_eq_true_of_le hh]at hY;cases hY
  have h:(DB P lf g).get call g args M n K=some r:=h
  suffices∃av M' n',K av M' n'=some r/\BS P g args M n av M' n' by
   obtain⟨av,M',n',h1,h2⟩:=this;exact⟨av,M',n',h1,fun _=>h2,fun b hb=>absurd (hb▸Nat.le_add_right YB b) hY⟩
  unfold DB at h;split at h
  case h_2=>cases h
  rename_i fn um;cases fD:(fn.name== "runtime.NumGoroutine")with
  |true=>rw [fD]at h;cases h
  |false=>
   rw [fD]at h;simp only [cond_false]at h;split at h
   ·rename_i c hc;exact Auf hm dP um hc fD h
   ·exact Awf (call:=call) h
theorem Alg {P:Program} (hm:P.follows .mixedOrders=true) {ext:Bq R->Bq R} (he:Qi P ext) {lf:Nat} :∀k,Eo P (LI P ext lf k).get
 |0=>fun g args M n K r h=>by cases h
 |k+1=>Aug hm he (Alg hm he k)
theorem Awg {P:Program} (hm:P.follows .mixedOrders=true) {ext:Bq R->Bq R} (he:Qi P ext) {lf:Nat} (k:Nat):Eo P (DD P ext lf k):=Alg hm he k
theorem Anm {P:Program} (hm:P.follows .mixedOrders=true) {ext:Bq AV->Bq AV} (he:Qi P ext) {lf k:Nat} {g:FuncId} {v:Value} (rF:ble (succ g) YB=true) (h:DD P ext lf k g [] Tr.nil 0 (fun av _ _=>some av)=some (.lit v)) (w:World): C9 P (fun u w'=>u=v/\RowKit.Below w.heap.size w w') ((callFunc g #[]).run P w):=by
 obtain⟨av,M',n',h1,h2⟩:=Awg hm he k _ _ _ _ _ _ h;cases h1
 have hgY:g<YB:=Nat.le_of_ble_eq_true rF;refine h2.1 hgY (base w) (fun _=>none) w [] (Br.start w) (by simp [AV.bl]) _ fun e' u w' _ gV hu=> ?_
 simp only [AV.rep]at hu;exact⟨hu,gV.below⟩
open Go.RowKit (Below)
variable {R:Type}
def LJ (P:Program) (g:FuncId) (v:Value):Prop:=∀w,C9 P (fun u w'=>u=v/\Below w.heap.size w w') ((callFunc g #[]).run P w)
theorem Aqt {P:Program} (hm:P.follows .mixedOrders=true) {ext:Bq AV->Bq AV} (he:Qi P ext) {lf k:Nat} {g:FuncId} {v:Value} (rF:ble (succ g) YB=true) (h:DD P ext lf k g [] Tr.nil 0 (fun av _ _=>some av)=some (.lit v)):LJ P g v:=fun w=>Anm hm he rF h w
theorem Ahm {P:Program} {g:FuncId} {v:Value} (eB:Cs P g=true) (h:LJ P g v) (w:World):Calls P g #[] w (aD fun u w'=>u=v/\Below w.heap.size w w'):=by
 have:=h w;rw [Sa eB]at this;refine Calls.mono (this:Calls P g _ w _) fun en w' h=> ?_
 cases en with
 |returned v=>exact h
 |panicked c=>exact(h:False).elim
 |outgrown=>exact(h:False).elim
end Go.Am
namespace Go.Proofs.YtpdccfgpbkagcaaGreat.emitReckons
open Go.Am
theorem mixed:Tryz.prog.follows .mixedOrders=true:=by kernel_rfl
theorem Bam:DD Tryz.prog (fun c:Bq AV=>c) 12 60 5 [] Tr.nil 0 (fun av _ _=>some av)=some (.lit (.bool true)):=by kernel_rfl
theorem Ba3:ble (succ (5:FuncId)) YB=true:=by kernel_rfl
set_option maxRecDepth 100000 in
theorem Ayu:LJ Tryz.prog 5 (.bool true):=@Aqt Tryz.prog mixed (fun c=>c) (Aue Tryz.prog) 12 60 5 (.bool true) Ba3 Bam
theorem Ba4:Go.Vc.Cs Tryz.prog 5=true:=by kernel_rfl
open Go.Vc in
set_option maxRecDepth 100000 in
theorem Awh (w:World):Calls Tryz.prog 5 #[] w (aD fun u w'=>u= .bool true/\Go.RowKit.Below w.heap.size w w'):=Ahm Ba4 Ayu w
end Go.Proofs.YtpdccfgpbkagcaaGreat.emitReckons
namespace Go.Proofs.YtpdccfgpbkagcaaGreat
open Go.Vc Go.Lv Go.Ty Go.Tr Go.Tk Go.Rk
open Go.RowKit (Below)
theorem Auh {n0:Nat} {rs m0:List Nat} {fr:List (List Nat×Nat×World)} {ds:List Nat} {w w':World} {ps:List Pc} (o:Mem n0 rs m0 fr ds w ps) (e:Ao [] w w') (p:Pc) (hp:∀b,p.aY=some b->w.heap.size<=b) (hh:p.holds w'):Step (ms ps m0) w (ms (p::ps) m0) w'/\Mem n0 rs m0 fr ds w' (p::ps):=⟨Mem.OO e p hp,o.OM e p hp hh⟩
theorem Aui (l:List Ag) (hl:l.length<4294967296) (K:List Ag->Prop) (h:K l):Dc l K:=by
 refine Fk _ _ fun z hz=>Aa (fun hc=> ?_) fun _=>⟨by omega,h⟩
 rw [hz hc]at h;exact h
theorem Aqu {l:List Ag} (S:G2 l) (hF:∀i,i<l.length->o8 l i) {m:List Nat} {w:World} (hm:bm m w) {lA:Option Addr} {lC:Nat} (fR:l.length<=lC) (hl:aF A8 m w lA l): Calls Tryz.prog 7 #[.slice lA l.length lC] w (aD fun v w'=>∃(u:Ap) (b:Nat) (e8:List Value),v= .tuple #[.pointer (some ⟨b,0,none⟩),.int .i64 0,.int .i64 0]/\u.l=l/\Fg l u.p/\w.heap.size<=b/\cB w' b e8/\Av.rep (b::m) w' u e8/\Ao [] w w'):=by
 have my:=S.unit.len;have o:=Mem.start hm.lt;have hf:(([]:List Nat),w.heap.size,w)∈[(([]:List Nat),w.heap.size,w)]:= .head _;refine Agx _ _ _ _ _ ?_;refine Ad (Ap5 S hF (fun p a e=>Fg l p/\a=0/\e=0) (fun p hp=>⟨hp,rfl,rfl⟩) _ w hm _ _ fR hl) ?_;rintro _ w1 ⟨p,_,_,⟨hP,rfl,rfl⟩,⟨cQ,rfl,dT⟩,aW⟩;have st:=o.xE aW;have o:=o.ext aW;obtain⟨a0,c0,a1,c1,a3,c3,rfl,⟨vk,s0⟩,⟨gp,s1⟩,⟨kz,s3⟩⟩:=Ge dT;refine⟨_,_,_,_,_,_,_,_,_,_,_,_,rfl,?_⟩;intro b w2 hb bR;have ay:=o.xB hb bR;have o:=o.box hb bR;refine⟨o.wr 0 rfl rfl,fun w3 cV=> ?_⟩;have aL:=o.pO 0 cV rfl;have o:=o.l9 0 cV rfl;refine Ba rfl ?_;intro w4 dt;have ai:=o.xE (Aq dt);have o:=o.ext (Aq dt);have ph:=ay.trans (aL.trans ai);refine⟨fun u=>Ext w4 u,Ext.refl _,a0,p.cH.length,c0,a1,p.ck.length,c1,p.main,a3,p.A7.length,c3,fun u hu=>hu.cells (o.at 0 rfl).whole,?_⟩;refine Ad (Aui l (by omega) (fun r=>l=r) rfl _ w4 (o.mo hm (by simp) hf) _ _ fR (hl.st (st.trans ph))) ?_;rintro _ w5 ⟨_,rfl,⟨nA,nC,rfl,hnC,AF⟩,LK⟩;have bg:=o.xE LK;have o:=o.ext LK;refine⟨_,_,_,rfl,LK.ext,?_⟩;intro b1 w6 bI eK;have bQ:=o.xB bI eK;have o':=o.box bI eK;have Bqc:∀ {w:World} {c:List Value} {p2:Pc},Step (ms [.box b1 c,p2] m) w (b1::m) w:=fun {w c p2} =>Step.drop w fun q hq=>by
  rcases mem_cons.1 hq with rfl|h
  ·exact Bj.2 (.inl ⟨_,.head _,rfl⟩)
  ·exact Bj.2 (.inr h)
 have stB:=bQ.trans Bqc;have LM:=ph.trans (bg.trans stB);refine⟨⟨l,p⟩,b1,_,rfl,rfl,hP,?_,o'.at 0 rfl,Dq (⟨l,p⟩:Ap) ⟨hnC,AF.st stB⟩ ⟨vk,s0.st LM⟩ ⟨gp,s1.st LM⟩ ⟨kz,s3.st LM⟩,?_⟩
 ·have:=o.le;omega
 ·exact o'.done
theorem Ba5 (x:Ag) (K:Bool->Prop) (h:K (decide ((1<=x.op/\x.op<=17)\/x.op=33))):PV x K:=by
 refine Ajh _ _ (Aa (fun h1=>Aa (fun h2=> ?_) fun h2=> ?_) fun h1=> ?_)
 ·have h1:=of_decide_eq_true h1;have h2:=of_decide_eq_true h2
  rwa [decide_eq_true (by omega)]at h
 ·have h2:=of_decide_eq_false h2
  rwa [show decide ((1<=x.op/\x.op<=17)\/x.op=33)=(x.op==33) by rw [Bool.eq_iff_iff];simp;omega]at h
 ·have h1:=of_decide_eq_false h1
  rwa [show decide ((1<=x.op/\x.op<=17)\/x.op=33)=(x.op==33) by rw [Bool.eq_iff_iff];simp;omega]at h
theorem Awi {L:List Ag} {n n':List Int} (h:∀i,Az L i=2->n[i]? =n'[i]?) {i:Nat} {t:RT} (ht:Nw L n i t):Nw L n' i t:=by
 induction ht with
 |num hx ho hj=>exact .num hx ho hj
 |name hx ho hk=>exact .name hx ho (by rw [←h _ (by rw [Bb hx];exact ho)];exact hk)
 |un hx ho hk _ ih=>exact .un hx ho hk ih
 |bin hx h5 mv hk _ hj _ nx m8=>exact .bin hx h5 mv hk nx hj m8
theorem Aqv {l:List Ag} (S:G2 l) {p q:Bn} (P:Fg l p) (Q:Fg l q):∀i,Az l i=2->p.A7[i]? =q.A7[i]? :=by
 intro i h2;have hi:i<l.length:=by
  rcases Nat.lt_or_ge i l.length with h|h
  ·exact h
  ·rw [Az,List.getElem?_eq_none h]at h2;exact absurd h2 (by decide)
 obtain⟨a,ha,hna⟩:=P.nu i hi;obtain⟨b,hb,qa⟩:=Q.nu i hi;obtain⟨r,hr,hs⟩:=Wf S.unit hi (by omega) (by omega);have hu:Ed (Az l i):= .inl h2;obtain⟨v,hv,yj⟩:=(S.wr r i hr hs).use hu;rw [ha,hb,hna.use hu r hr hs v hv yj,qa.use hu r hr hs v hv yj]
theorem Auj {k:Int} {y:Ay} (h:(H7 k y).op=2):H7 k y=y:=by
 unfold H7 at h⊢;split
 ·rename_i h1;rw [if_pos h1]at h;have h:y.op=2:=h;omega
 ·rename_i h1;split
  ·rename_i h2;rw [if_neg h1,if_pos h2]at h;have h:y.op=2:=h;omega
  ·rfl
theorem Ayv {L:List Ag} {A7:List Int} {i:Nat} {t:RT} (h:Nw L A7 i t):∀y∈Al t,y.op=2->gC y.a:=by
 have jm:∀ {c:List Ay} {k:Int},(∀y∈c,y.op=2->gC y.a)->∀y∈d5 k c,y.op=2->gC y.a:=fun hc y hy ho=>by
  obtain⟨z,hz,rfl⟩:=List.mem_map.1 hy;have e:=Auj ho;rw [e]at ho⊢;exact hc z hz ho
 induction h with
 |num hx ho hj=>intro y hy _;rw [Al,mem_singleton]at hy;subst hy;exact hj
 |name hx ho hk=>intro y hy h2;rw [Al,mem_singleton]at hy;subst hy;cases h2
 |un hx ho hk _ ih=>
  intro y hy h2;rw [Al]at hy;rcases mem_append.1 hy with h|h
  ·exact ih y h h2
  ·rw [mem_singleton]at h;subst h;cases h2
 |@bin i j x a b hx h5 mv hk _ hj _ nx m8=>
  intro y hy h2;rw [Al]at hy;split at hy
  ·rename_i he;have ht:Bv x.op=7\/Bv x.op=8:=by rcases he with h|h<;>simp [Bv,h]
   have hs:gC (Dm x.op)/\gC (1-Dm x.op):=by unfold Dm;split<;>exact⟨⟨by decide,by decide⟩,⟨by decide,by decide⟩⟩
   rcases mem_append.1 hy with h|h
   ·exact nx y h h2
   rcases mem_cons.1 h with rfl|h
   ·have h2:Bv x.op=2:=h2;omega
   rcases mem_append.1 h with h|h
   ·exact jm m8 y h h2
   ·simp only [mem_cons,List.not_mem_nil,or_false]at h;rcases h with rfl|rfl|rfl|rfl
    ·have h2:Bv x.op=2:=h2;omega
    ·exact hs.2
    ·cases h2
    ·exact hs.1
  ·rcases mem_append.1 hy with h|h
   ·exact nx y h h2
   rcases mem_append.1 h with h|h
   ·exact jm m8 y h h2
   ·rw [mem_singleton]at h;subst h;cases h2
theorem Aqw (w:World):Calls Tryz.prog 5 #[] w (aD fun v w'=>v= .bool true/\Ao [] w w'):=
 Ad (emitReckons.Awh w) fun _ _ ⟨h1,h2⟩=>⟨h1,Ao.zA h2⟩
theorem V6 (l:List Ag) (i:Int) (vars:List Int) (fD:∀x∈l,x.name.length<2^63/\x.kids<=9223372036854775807) (hv:∀v∈vars,gC v) (w:World) (a0:Option Addr) (c0:Nat) (y8:l.length<=c0) (pk:aF A8 [] w a0 l) (a2:Option Addr) (c2:Nat) (DE:vars.length<=c2) (DF:aF (Bz .i64) [] w a2 vars): Calls Tryz.prog 3 #[.slice a0 l.length c0,.int .i64 i,.slice a2 vars.length c2] w (aD fun v w'=>v= .bool true/\Below w.heap.size w w'):=by
 have hm:bm [] w:=bm.nil trivial;have o:=Mem.start hm.lt;have hf:(([]:List Nat),w.heap.size,w)∈[(([]:List Nat),w.heap.size,w)]:= .head _;have live:∀(w1:World) {K:Value->World->Prop},(∀w',Ao [] w1 w'->K (.bool true) w')->Calls Tryz.prog 5 #[] w1 (aD K):=fun w1 K hK=>Ad (Aqw w1) fun _ _ ⟨h1,h2⟩=>h1▸hK _ h2
 refine Rg _ _ _ _ _ _ _ _ _ ⟨fun b w2=>(b=false->l.length<=120/\vars.length<=20/\∃(n:Nat) (x:Ag),i=n/\l[n]? =some x/\1<=x.op/\x.op<=17)/\Ao [] w w2,?_,?_⟩
 ·refine Aa (fun _=>⟨nofun,Ao.refl _ _⟩) fun h1=>Aa (fun _=>⟨nofun,Ao.refl _ _⟩) fun h2=>Aa (fun _=>⟨nofun,Ao.refl _ _⟩) fun h3=>Aa (fun _=>⟨nofun,Ao.refl _ _⟩) fun h4=> ?_
  have h1:=of_decide_eq_false h1;have h2:=of_decide_eq_false h2;have h3:=of_decide_eq_false h3;have h4:=of_decide_eq_false h4;obtain⟨n,rfl⟩:∃n:Nat,i=n:=⟨i.toNat,by omega⟩
  have hn:n<l.length:=by omega
  have hx:=List.getElem?_eq_getElem hn;obtain⟨q,hA,hc⟩:=G4 pk hx;refine⟨⟨by omega,by omega⟩,Ae hA ⟨_,_,_,_,_,hc,?_⟩⟩;refine Ad (Ba5 l[n] (fun b=>b=decide ((1<=l[n].op/\l[n].op<=17)\/l[n].op=33)) rfl [] w hm _ (Bf _)) ?_;rintro _ w1 ⟨_,rfl,rfl,aW⟩;refine⟨_,rfl,Aa (fun _=>⟨nofun,aW⟩) fun hb=> ?_⟩;have hb:(1<=l[n].op/\l[n].op<=17)\/l[n].op=33:=by
   have:decide ((1<=l[n].op/\l[n].op<=17)\/l[n].op=33)=true:=by simpa only [Bool.not_eq_false'] using hb
   exact of_decide_eq_true this
  refine⟨⟨by omega,by omega⟩,Ae hA ⟨l[n].op,?_,fun iq=> ?_,aW⟩⟩
  ·have:=Ac.nth (Oe hc aW) 0 (v:= .int .i64 l[n].op) rfl;simpa [Addr.add] using this
  ·have iq:¬l[n].op=33:=by simpa using iq
   exact⟨by omega,by omega,n,l[n],rfl,hx,by omega,by omega⟩
 rintro _ bb w2 ⟨nI,LN⟩;refine Aa (fun _=>live w2 fun w3 k3=>⟨_,rfl,rfl,(LN.trans k3).ext⟩) fun hb=> ?_
 obtain⟨Bs1,Bs9,n,x,rfl,hx,h1,mv⟩:=nI hb;have hn:=(List.getElem?_eq_some_iff.1 hx).1;have st:=o.xE LN;have o:=o.ext LN;refine Ad (Azg (by omega) fD (fun g=>g.e_≠0\/(G2 l/\(∀i,i<l.length->o8 l i)/\Fg l g.p/\g.e_=0)) (fun g hg=> .inl hg) (fun S F p hp=> .inr ⟨S,F,hp,rfl⟩) _ w2 (o.mo hm (by simp) hf) _ _ y8 (pk.st st)) ?_;rintro _ w4 ⟨g,hg,⟨cQ,rfl,dT⟩,Bl9⟩;have st:=st.trans (o.xE Bl9);have o:=o.ext Bl9;obtain⟨b0,d0,b1,d1,b3,d3,rfl,⟨vk,s0⟩,⟨gp,s1⟩,⟨kz,s3⟩⟩:=Mp dT;refine⟨_,_,_,_,_,_,_,_,_,_,_,_,rfl,?_⟩;intro b w5 jA fe;have bg:=o.xB jA fe;have o:=o.box jA fe;refine⟨o.wr 0 rfl rfl,fun w6 eK=> ?_⟩;have bQ:=o.pO 0 eK rfl;have o:=o.l9 0 eK rfl;have qq:=bg.trans bQ;have st:=st.trans qq;refine⟨_,(o.at 0 rfl).cell rfl,Aa (fun _=>live w6 fun w7 k7=>⟨_,rfl,rfl,(o.done.trans k7).ext⟩) fun he=> ?_⟩;have he:g.e_=0:=by simpa using he
 obtain⟨S,hF,hP,_⟩:G2 l/\(∀i,i<l.length->o8 l i)/\Fg l g.p/\g.e_=0:=by
  rcases hg with h|h
  ·exact absurd he h
  ·exact h
 have U:=S.unit;refine Ad (Aqu S hF (o.mo hm (by simp) hf) y8 (pk.st st)) ?_;rintro _ w8 ⟨u,ub,e8,rfl,jk,hPu,hub,qf,hur,Bqd⟩;obtain⟨cM,o⟩:=Auh o Bqd (.box ub e8) (fun q hq=>by cases hq;exact hub) qf;refine⟨_,_,_,rfl,?_⟩;have st:=st.trans cM;have qq:=qq.trans cM;obtain⟨t,hT,jF⟩:=Azr (L:=u.l) (jk▸U) (A7:=u.p.A7) (by rw [jk];exact hPu.nl) _ n (Nat.le_refl _) (by rw [jk];exact hn) (by rw [jk,Bb hx];exact mv);have hTl:Nw l g.p.A7 n t:=Awi (Aqv S hPu hP) (jk▸hT);have ka:=Cd (ks u.l) n;rw [A9,jk]at ka;rw [jk]at jF;have n_:(Al t).length<=5*l.length:=by omega
 refine Ad (Ax4 (u:=u) (jk▸U) (i:=n) (x:=x) (by rw [jk];exact hx) h1 mv hT (by omega) (fun c bq u'=>Al t=c/\bq=true/\u=u') ⟨rfl,rfl,rfl⟩ _ w8 (o.mo hm (by simp) hf) ub e8 (Mem.wV 0 rfl) qf hur) ?_;rintro _ w9 ⟨_,_,_,⟨rfl,rfl,rfl⟩,⟨kA,kC,rfl,hkC,sy⟩,⟨Bst,Im,_⟩,Bma⟩;have cR:=o.xC (l':=Bst) 0 Bma rfl;have o:=o.call 0 Bma Im rfl;have st:=st.trans cR;have qq:=qq.trans cR;refine⟨_,_,_,_,rfl,fun _=>Ba ?_ ?_⟩
 ·rw [Au (by omega) (by omega)];simp;omega
 have hj:∀y∈Al t,y.op=2->gC y.a:=by
  intro y hy ho;exact Ayv hT y hy ho
 have l0:=Ari Ay5 vars t (Ay8 hT) 2000 (by omega);refine Ad (Axn (Al t) vars 2000 (by omega) (by omega) hv (by omega) hj (fun s f=>s=(Ft fq vars 2000 (Al t) 0 []).1/\f=(Ft fq vars 2000 (Al t) 0 []).2) ⟨rfl,rfl⟩ _ w9 (o.mo hm (by simp) hf) _ _ hkC sy _ _ DE (DF.st st)) ?_;rintro _ ak ⟨sk,fk,⟨sm,lE⟩,⟨qA,qC,rfl,hqC,LO⟩,Bky⟩;have ef:=o.xE Bky;have o:=o.ext Bky;have st:=st.trans ef;have qq:=qq.trans ef;refine⟨_,_,_,_,rfl,b0,g.p.cH.length,d0,b1,g.p.ck.length,d1,g.p.main,b3,g.p.A7.length,d3,?_,?_⟩
 ·exact(o.at 1 rfl).cells 0 (m:=[.slice b0 g.p.cH.length d0,.slice b1 g.p.ck.length d1,.int .i64 g.p.main,.slice b3 g.p.A7.length d3]) fun j hj=>by
   match j,hj with
   |0,_=>rfl
   |1,_=>rfl
   |2,_=>rfl
   |3,_=>rfl
 refine Ad (Auv g.p l (by omega) vars hv hTl 0 (by omega) (fun r=>r=⟨(Bs fq vars t 0).1,(Bs fq vars t 0).2⟩) rfl _ ak (o.mo hm (by simp) hf) _ _ y8 (pk.st st) _ (Hs g.p ⟨vk,s0.st qq⟩ ⟨gp,s1.st qq⟩ ⟨kz,s3.st qq⟩) _ _ DE (DF.st st)) ?_;rintro _ aw ⟨_,rfl,⟨fl,rfl,ek⟩,Bkz⟩;have d8:=o.xE Bkz;have o:=o.ext Bkz;obtain rfl:=Cx ek;refine⟨_,_,rfl,?_⟩;intro b12 aJ Bqe kq;have dW:=o.xB Bqe kq;have o:=o.box Bqe kq;refine⟨o.wr 0 rfl rfl,fun aQ jR=> ?_⟩;have eT:=o.pO 0 jR rfl;have o:=o.l9 0 jR rfl;refine⟨_,(o.at 0 rfl).cell rfl,Aa (fun bA=> ?_) fun hz=> ?_⟩
 ·have bA:(Bs fq vars t 0).2≠0:=by simpa using bA
  refine⟨_,(o.at 0 rfl).cell rfl,B3 ?_ (live aQ fun aX k14=>⟨_,rfl,rfl,(o.done.trans k14).ext⟩)⟩;rw [lE,l0.2 bA];simp
 ·have hz:(Bs fq vars t 0).2=0:=by simpa using hz
  have l0:=l0.1 hz;rw [l0]at sm lE;subst sm lE;intro a_ gR;have fy:=o.xE (Aq gR);have o:=o.ext (Aq gR);have LO:=LO.st (d8.trans (dW.trans (eT.trans fy)));obtain⟨pq,y,cq,hq,hy,dR,LP⟩:=LO.elem (i:=0) (by simp);simp at hy;subst hy;have LP:cq=[.int .i64 (Bs fq vars t 0).1]:=LP;subst LP;refine⟨fun u=>u=a_,rfl,B3 rfl (B3 rfl ⟨⟨by omega,by simp⟩,Ae hq ⟨(Bs fq vars t 0).1,Cg (P:=fun u=>u.cell? _=_) ?_,(Bs fq vars t 0).1,Cg (P:=fun u=>u.cell? _=_) ((o.at 0 rfl).cell rfl),B3 (beq_self_eq_true _) (live a_ fun aN k16=>⟨_,rfl,rfl,(o.done.trans k16).ext⟩)⟩⟩)⟩;exact Ac.head dR.2
def Ao1 (x:Ag):Prop:=(IntKind.i64.min<=x.op/\x.op<=IntKind.i64.max)/\(x.name).length<=CZ/\(IntKind.i64.min<=x.n/\x.n<=IntKind.i64.max)/\(IntKind.i64.min<=x.kids/\x.kids<=IntKind.i64.max)/\(IntKind.i64.min<=x.at_/\x.at_<=IntKind.i64.max)
theorem Anp {w:World} :uh Tryz.prog w 26 A8 Ao1:=by
 intro m cs h;obtain⟨m',rfl,hl,hx⟩:=h.struct Tryz.underlying26;have z5:cs.length=5:=hl.trans (by kernel_rfl);have k0:Tryz.prog.cellsOf 3=1:=by kernel_rfl
 have g0:jK Tryz.prog w m' 3 ((cs.drop 0).take (Tryz.prog.cellsOf 3)):=hx 0 _ rfl;rw [k0]at g0;obtain⟨x0,r0,q0⟩:=(Ul Tryz.underlying3) m' _ g0;have k1:Tryz.prog.cellsOf 9=1:=by kernel_rfl
 have g1:jK Tryz.prog w m' 9 ((cs.drop 1).take (Tryz.prog.cellsOf 9)):=hx 1 _ rfl;rw [k1]at g1;obtain⟨x1,r1,q1⟩:=(Awa Tryz.underlying9) m' _ g1;have k2:Tryz.prog.cellsOf 3=1:=by kernel_rfl
 have g2:jK Tryz.prog w m' 3 ((cs.drop 2).take (Tryz.prog.cellsOf 3)):=hx 2 _ rfl;rw [k2]at g2;obtain⟨x2,r2,q2⟩:=(Ul Tryz.underlying3) m' _ g2;have k3:Tryz.prog.cellsOf 3=1:=by kernel_rfl
 have g3:jK Tryz.prog w m' 3 ((cs.drop 3).take (Tryz.prog.cellsOf 3)):=hx 3 _ rfl;rw [k3]at g3;obtain⟨x3,r3,q3⟩:=(Ul Tryz.underlying3) m' _ g3;have k4:Tryz.prog.cellsOf 3=1:=by kernel_rfl
 have g4:jK Tryz.prog w m' 3 ((cs.drop 4).take (Tryz.prog.cellsOf 3)):=hx 4 _ rfl;rw [k4]at g4;obtain⟨x4,r4,q4⟩:=(Ul Tryz.underlying3) m' _ g4;exact⟨⟨x0,x1,x2,x3,x4⟩,P7 r0 (P7 r1 (P7 r2 (P7 r3 (Aqs (by omega) r4)))),q0,q1,q2,q3,q4⟩
end Go.Proofs.YtpdccfgpbkagcaaGreat
