/- A part of the proof: conditions of the code, contracts, the plain law. -/
import Derived.Test.YtpdccfgpbkagcaaGreatM9
import Derived.Orders
import Derived.Test.YtpdccfgpbkagcaaGreatVcI
import Derived.LoopNIn
open Bool (and_eq_true or_eq_true not_eq_true')
open Nat (ble eq_of_beq_eq_true lor shiftLeft le_of_ble_eq_true lt_or_ge le_refl blt mod land)
open Array (getD_eq_getD_getElem? getElem?_eq_getElem ext' toList_append replicate)
open List (mem_cons mem_append mem_of_getElem? length_append length_cons take_length range' mem_map)
open Option (getD_some)
namespace Go.Am
open Go.Vc
variable {R:Type}
structure Jd (sz:Nat) (d0:List Deferred) (e:Env) (tm:Tm) (a:Act):Prop where
 tm:pv e tm a
 size:a.tmps.size=sz
 defers:a.defers=d0
theorem Jd.later {sz:Nat} {d0:List Deferred} {e e':Env} {tm:Tm} {a:Act} (h:Jd sz d0 e tm a) (k:Bg e e'):Jd sz d0 e' tm a:=⟨h.tm.later k,h.size,h.defers⟩
def rn (sz:Nat) (tm:Tm) (d:Option Nat) (av:AV) (K:Tm->Option R):Option R:=match d with
 |none=>K tm|some d=>cond (ble (d+1) sz) (jH (Tm.sB d) fun s=>s tm (some av) K) none
theorem JM {sz:Nat} {tm:Tm} {d:Option Nat} {av:AV} {K:Tm->Option R} {r:R} (h:rn sz tm d av K=some r):∃bc,K bc=some r/\∀d0 e e' a v,Jd sz d0 e tm a->Bg e e'->av.rep e' v->Jd sz d0 e' bc (a.put d v):=by
 unfold rn at h;split at h
 ·exact⟨tm,h,fun d0 e e' a v ha hl _=>ha.later hl⟩
 ·rename_i d;cases hc:ble (d+1) sz with
  |false=>rw [hc]at h;cases h
  |true=>
   rw [hc]at h;have hd:=le_of_ble_eq_true hc;obtain⟨bc,h1,h2⟩:=Tm.Iw h;refine⟨bc,h1,fun d0 e e' a v ha hl hv=>⟨⟨fun t x hx=> ?_⟩,?_,ha.defers⟩⟩
   ·rw [h2]at hx;show t<(a.tmps.setIfInBounds d v).size/\_
    split at hx
    ·rename_i JN;subst JN;cases hx
     refine⟨by rw [Array.size_setIfInBounds,ha.size];omega,?_⟩;show av.rep e' ((a.tmps.setIfInBounds t v).getD t undef)
     rw [getD_eq_getD_getElem?,Array.getElem?_setIfInBounds_self_of_lt (by rw [ha.size];omega)];exact hv
    ·rename_i JN;obtain⟨g1,g2⟩:=ha.tm.at_ t x hx;refine⟨by rw [Array.size_setIfInBounds];exact g1,?_⟩;show x.rep e' ((a.tmps.setIfInBounds d v).getD t undef)
     rw [getD_eq_getD_getElem?,Array.getElem?_setIfInBounds_ne (fun e=>JN e.symm),←getD_eq_getD_getElem?];exact Et hl g2
   ·show(a.tmps.setIfInBounds d v).size=sz
    rw [Array.size_setIfInBounds];exact ha.size
abbrev Bq (R:Type):Type:=FuncId->List AV->Tr aA->Nat->(AV->Tr aA->Nat->Option R)->Option R
def YB:Nat:=1000000
def BS (P:Program) (g:FuncId) (args:List AV) (M:Tr aA) (n:Nat) (av:AV) (M':Tr aA) (n':Nat):Prop:=∀b0 e w vs,Br b0 e M.get n w->AV.bl e args vs->∀next:Value->World->Prop,(∀e' v w',Bg e e'->Br b0 e' M'.get n' w'->av.rep e' v->next v w')->C9 P next ((callFunc g ⟨vs⟩).run P w)
def YJ (P:Program) (b:Nat) (args:List AV) (M:Tr aA) (n:Nat) (av:AV) (M':Tr aA) (n':Nat):Prop:=∀b0 e w vs,Br b0 e M.get n w->AV.bl e args vs->∀B t,e b=some (B,t)->∀next:Value->World->Prop,(∀e' v w',Bg e e'->Br b0 e' M'.get n' w'->av.rep e' v->next v w')->J8 P B ⟨vs⟩ (fun bb w'=>next (.bool bb) w') w
def Az4 (P:Program) (g:FuncId) (args:List AV) (M:Tr aA) (n:Nat) (av:AV) (M':Tr aA) (n':Nat):Prop:=(g<YB->BS P g args M n av M' n')/\∀b,g=YB+b->YJ P b args M n av M' n'
def Eo (P:Program) (call:Bq R):Prop:=∀g args M n K r,call g args M n K=some r->∃av M' n',K av M' n'=some r/\Az4 P g args M n av M' n'
def Yd (tm:Tm) (call:Bq R) (f:Operand) (args:List Operand) (M:Tr aA) (n:Nat) (K:AV->Tr aA->Nat->Option R):Option R:=match cW tm f,po tm args with
 |some (.lit (.func (.func g) l m)),some az=>eV (ble (Nat.succ g) YB) (call g (l.toList.map .lit++az++m.toList.map .lit) M n K) none
 |some (.func g l m),some az=>eV (ble (Nat.succ g) YB) (call g (l++az++m) M n K) none
 |_,_=>none
theorem H2 {b:Bool} {x:Option R} {r:R} (h:eV b x none=some r):b=true/\x=some r:=by
 cases b with
 |true=>exact⟨rfl,h⟩
 |false=>cases h
theorem YK {P:Program} {tm:Tm} {call:Bq R} (dP:Eo P call) {o:Oper} {c:Call} {f:Operand} {M:Tr aA} {n:Nat} {K:AV->Tr aA->Nat->Option R} {r:R} (ho:o.op= .call c) (kZ:c.callee= .value f) (h:Yd tm call f c.args.toList M n K=some r):∃av M' n',K av M' n'=some r/\fT P tm o M n av M' n':=by
 have key:∀ {a:Act} {g:FuncId} {l m:Array Value} {w:World} {next:Value->World->Prop},a.eval f= .func (.func g) l m->
  C9 P next ((callFunc g (l++c.args.map a.eval++m)).run P w)->C9 P next ((execOp a.eval o).run P w):=by
  intro a g l m w next hf this;simpa only [execOp,ho,resolve,kZ,hf,Deferred.ofValue,invoke,Sem.run_bind,Sem.run_pure,Result.andThen_ok,Array.append_assoc] using this
 unfold Yd at h;split at h
 ·rename_i g l m az hf has;obtain⟨hg,h⟩:=H2 h;obtain⟨av,M',n',h1,h2⟩:=dP _ _ _ _ _ _ h;have h2:=h2.1 (le_of_ble_eq_true hg);refine⟨av,M',n',h1,fun b0 e a w hM hT next hk=> ?_⟩;have om:=hT _ (by simp [ho,Op.operands,Call.operands,kZ]) _ hf;simp only [AV.rep]at om;refine key om ?_;have:=h2 b0 e w (l.toList++c.args.toList.map a.eval++m.toList) hM (C6 (C6 (Kn _) (Nb (hT.sub fun y hy=>by simp only [ho,Op.operands,Call.operands,kZ,toList_append,mem_append];exact .inr hy) has)) (Kn _)) next hk;have e1:(⟨l.toList++c.args.toList.map a.eval++m.toList⟩:Array Value)=l++c.args.map a.eval++m:=by apply ext';simp
  rw [e1]at this;exact this
 ·rename_i g l m az hf has;obtain⟨hg,h⟩:=H2 h;obtain⟨av,M',n',h1,h2⟩:=dP _ _ _ _ _ _ h;have h2:=h2.1 (le_of_ble_eq_true hg);refine⟨av,M',n',h1,fun b0 e a w hM hT next hk=> ?_⟩;have om:=hT _ (by simp [ho,Op.operands,Call.operands,kZ]) _ hf;simp only [AV.rep]at om;obtain⟨vs,us,uy,r1,r2⟩:=om;refine key uy ?_;have:=h2 b0 e w (vs++c.args.toList.map a.eval++us) hM (C6 (C6 r1 (Nb (hT.sub fun y hy=>by simp only [ho,Op.operands,Call.operands,kZ,toList_append,mem_append];exact .inr hy) has)) r2) next hk;have e1:(⟨vs++c.args.toList.map a.eval++us⟩:Array Value)=⟨vs⟩++c.args.map a.eval++⟨us⟩:=by apply ext';simp
  rw [e1]at this;exact this
 ·cases h
def P6 (P:Program) (t:TypeId) (name:String):Option FuncId:=match P.info? t with
 |some i=>match i.methods.toList.find? (·.name==name)with
  |some m=>match m.path.toList with
   |[]=>match m.func with
    |some (f,pr)=>match P.underlying t with
     |some (.pointer _)=>cond pr (some f) none|some _=>cond pr none (some f)|none=>none
    |none=>none
   |_=>none
  |none=>none
 |none=>none
theorem Anc {P:Program} {t:TypeId} {name:String} {f:FuncId} (h:P6 P t name=some f) (v:Value) (w:World):(method (P.types.size+Made.depth) t v name).run P w= .ok (f,v) w:=by
 unfold P6 at h;split at h
 case h_2=>cases h
 rename_i i hi;split at h
 case h_2=>cases h
 rename_i m hm;have hm:i.methods.find? (·.name==name)=some m:=by rw [←hm];simp
 have hd:0<Made.depth:=by decide
 obtain⟨k,hk⟩:∃k,P.types.size+Made.depth=k+1:=⟨P.types.size+Made.depth-1,by omega⟩
 rw [hk];split at h
 case h_2=>cases h
 rename_i hp;split at h
 case h_2=>cases h
 rename_i f' pr hf;split at h
 ·rename_i d hu;cases pr with
  |false=>cases h
  |true=>
   cases h
   simp [method,typeInfo,hi,hm,hp,hf,follow,receiverAt,underlying,hu,Place.get]
 ·rename_i d bA hu;cases pr with
  |true=>cases h
  |false=>
   cases h
   cases d<;>first|exact absurd rfl (bA _)|simp [method,typeInfo,hi,hm,hp,hf,follow,receiverAt,underlying,hu,Place.get]
 ·cases h
def JO (P:Program) (tm:Tm) (call:Bq R) (x:Operand) (name:String) (args:List Operand) (M:Tr aA) (n:Nat) (K:AV->Tr aA->Nat->Option R):Option R:=match cW tm x,po tm args with
 |some (.iface t a),some az=>match P6 P t name with
  |some g=>eV (ble (Nat.succ g) YB) (call g (a::az) M n K) none|none=>none
 |some (.lit (.iface t v)),some az=>match P6 P t name with
  |some g=>eV (ble (Nat.succ g) YB) (call g (.lit v::az) M n K) none|none=>none
 |_,_=>none
theorem Aqi {P:Program} {tm:Tm} {call:Bq R} (dP:Eo P call) {o:Oper} {c:Call} {x:Operand} {name:String} {M:Tr aA} {n:Nat} {K:AV->Tr aA->Nat->Option R} {r:R} (ho:o.op= .call c) (kZ:c.callee= .invoke x name) (h:JO P tm call x name c.args.toList M n K=some r):∃av M' n',K av M' n'=some r/\fT P tm o M n av M' n':=by
 have key:∀ {a:Act} {g:FuncId} {t:TypeId} {v:Value} {w:World} {next:Value->World->Prop},a.eval x= .iface t v->P6 P t name=some g->
  C9 P next ((callFunc g (#[v]++c.args.map a.eval)).run P w)->C9 P next ((execOp a.eval o).run P w):=by
  intro a g t v w next hf hg this;have ee: #[a.eval x]++c.args.map a.eval=⟨a.eval x::(c.args.map a.eval).toList⟩:=by apply ext';simp
  have e1:(#[a.eval x]++c.args.map a.eval).extract 1 (#[a.eval x]++c.args.map a.eval).size=c.args.map a.eval:=by
   rw [ee];apply ext';simp;exact List.take_of_length_le (by simp)
  have e0:(#[a.eval x]++c.args.map a.eval)[0]? =some (.iface t v):=by rw [ee,hf];rfl
  simpa only [execOp,ho,resolve,kZ,invoke,Sem.run_bind,Sem.run_pure,Result.andThen_ok,e0,e1,callMethod,run_program,Anc hg] using this
 have go:∀ {t:TypeId} {JP:AV} {az:List AV} {g:FuncId},(∀ {e:Env} {a:Act},O9 e tm a o.op.operands.toList->∃v,a.eval x= .iface t v/\JP.rep e v)->po tm c.args.toList=some az->P6 P t name=some g->eV (ble (Nat.succ g) YB) (call g (JP::az) M n K) none=some r->∃av M' n',K av M' n'=some r/\fT P tm o M n av M' n':=by
  intro t JP az g hx has hg h;obtain⟨rF,h⟩:=H2 h;obtain⟨av,M',n',h1,h2⟩:=dP _ _ _ _ _ _ h;have h2:=h2.1 (le_of_ble_eq_true rF);refine⟨av,M',n',h1,fun b0 e a w hM hT next hk=> ?_⟩;obtain⟨v,q1,q2⟩:=hx hT;refine key q1 hg ?_;have:=h2 b0 e w (v::c.args.toList.map a.eval) hM (by simp only [AV.bl];exact⟨_,_,rfl,q2,Nb (hT.sub fun y hy=>by simp only [ho,Op.operands,Call.operands,kZ,toList_append,mem_append];exact .inr hy) has⟩) next hk;have e1:(⟨v::c.args.toList.map a.eval⟩:Array Value)= #[v]++c.args.map a.eval:=by apply ext';simp
  rw [e1]at this;exact this
 unfold JO at h;split at h
 ·rename_i t a az hx has;split at h
  case h_2=>cases h
  rename_i g hg;refine go (fun {e ac} hT=> ?_) has hg h;have hv:=hT _ (by simp [ho,Op.operands,Call.operands,kZ]) _ hx;simpa only [AV.rep] using hv
 ·rename_i t v az hx has;split at h
  case h_2=>cases h
  rename_i g hg;refine go (fun {e ac} hT=> ?_) has hg h;have hv:=hT _ (by simp [ho,Op.operands,Call.operands,kZ]) _ hx;simp only [AV.rep]at hv⊢;exact⟨v,hv,rfl⟩
 ·cases h
def YL (o:Oper):Bool:=match o.op with
 | .move _=>true| .assign _=>true| .nilCheck _=>true| .extract .. =>true| .pick .. =>true|_=>false
def fO (o:Oper) (av:AV) (K:AV->Option R):Option R:=cond (YL o) (K av) (fA av K)
theorem YM (o:Oper) (av:AV) (K:AV->Option R):fO o av K=K av:=by
 unfold fO;cases YL o<;>simp [O8]
def JQ (P:Program) (call:Bq R) (tm:Tm) (o:Oper) (M:Tr aA) (n:Nat) (K:AV->Tr aA->Nat->Option R):Option R:=match o.op with
 | .load t x=>vw P tm t x M fun av=>K av M n
 | .store t x v=>BI P tm t x v M fun M=>K (.lit undef) M n
 | .alloc _=>Vz P tm o M n K| .box .. =>Vz P tm o M n K| .buildSlice .. =>Vz P tm o M n K| .call c=>match c.callee with
  | .value f=>Yd tm call f c.args.toList M n K| .invoke x name=>JO P tm call x name c.args.toList M n K|_=>match Ji P tm o with
   |some av=>fO o av fun av=>K av M n
   |none=>yC P tm o M n K
 |_=>match Ji P tm o with
  |some av=>fO o av fun av=>K av M n
  |none=>yC P tm o M n K
theorem Ayh {P:Program} {call:Bq R} (dP:Eo P call) {tm:Tm} {o:Oper} {M:Tr aA} {n:Nat} {K:AV->Tr aA->Nat->Option R} {r:R} (h:JQ P call tm o M n K=some r): ∃av M' n',K av M' n'=some r/\fT P tm o M n av M' n':=by
 have rest:(match Ji P tm o with
  |some av=>fO o av fun av=>K av M n
  |none=>yC P tm o M n K)=some r->∃av M' n',K av M' n'=some r/\fT P tm o M n av M' n':=by
  intro h;split at h
  ·rename_i av fw;rw [YM]at h;exact⟨av,M,n,h,fT.pure (Pd fw)⟩
  ·exact Avl h
 unfold JQ at h;split at h
 ·rename_i t x ho;obtain⟨av,h1,h2⟩:=IL ho h;exact⟨av,M,n,h1,h2⟩
 ·rename_i t x v ho;obtain⟨M',h1,h2⟩:=WY ho h;exact⟨_,M',n,h1,h2⟩
 ·exact P3 h
 ·exact P3 h
 ·exact P3 h
 ·rename_i c ho;split at h
  ·rename_i f hf;exact YK dP ho hf h
  ·rename_i x name hf;exact Aqi dP ho hf h
  ·exact rest h
 ·exact rest h
abbrev nH (R:Type):Type:=Bq R->Tm->Tr aA->Nat->(AV->Tr aA->Nat->Option R)->Option R
def t4 (P:Program) (o:Oper) (f:nH R):Prop:=∀ {call:Bq R},Eo P call->∀ {tm:Tm} {M:Tr aA} {n:Nat} {K:AV->Tr aA->Nat->Option R} {r:R},f call tm M n K=some r->∃av M' n',K av M' n'=some r/\fT P tm o M n av M' n'
def YN (f:i5 R):nH R:=fun _ tm M n K=>f tm fun av=>K av M n
theorem Ate {P:Program} {o:Oper} {f:i5 R} (h:Mb P o f):t4 P o (YN f):=by
 intro call dP tm M n K r hr;obtain⟨av,h1,h2⟩:=h tm _ r hr;exact⟨av,M,n,h1,fT.pure h2⟩
def Qs (P:Program) (o:Oper):nH R:=fun call tm M n K=>JQ P call tm o M n K
theorem H3 (P:Program) (o:Oper):t4 (R:=R) P o (Qs P o):=by
 intro call dP tm M n K r h;exact Ayh dP h
def BT (x:aA) (f:List AV->Bool->Option R):Option R:=aA.casesOn (motive:=fun _=>Option R) x f (fun _ _=>none) (fun _=>none)
theorem Pj {x:aA} {f:List AV->Bool->Option R} {r:R} (h:BT x f=some r):∃l rw,x= .cells l rw/\f l rw=some r:=by
 cases x<;>first|exact⟨_,_,rfl,h⟩|cases h
def YO (gx:Tm->Option AV):nH R:=fun _ tm M n K=>vK (gx tm) fun b k=>oK ((Tr.gB b).get M) fun x=>BT x fun l _=>oK ((vL k).get l) fun av=>K av M n
theorem Atf {P:Program} {o:Oper} {t:TypeId} {x:Operand} (ho:o.op= .load t x) (ha:rz P t=some false):t4 P o (YO (R:=R) (dv x).get):=by
 intro call dP tm M n K r h;obtain⟨b,k,hx,h⟩:=P5 h;obtain⟨y,hb,h⟩:=B0 h;obtain⟨l,rw,rfl,h⟩:=Pj h;obtain⟨av,hk,h⟩:=B0 h;rw [Ef]at hx;rw [Yb]at hk;obtain⟨I3,h1,h2⟩:=IL (P:=P) (tm:=tm) (M:=M) (n:=n) (K:=some) (r:=av) ho (by
  unfold vw;have hb:M.get b=some (.cells l rw):=hb;simp only [hx,hb,ha,hk])
 cases h1
 exact⟨av,M,n,h,h2⟩
def yF:Nat->Bx (List AV->AV->(List AV->Option R)->Option R)
 |0=>⟨fun l a K=>List.casesOn (motive:=fun _=>Option R) l none (fun _ l=>K (a::l))⟩
 |k+1=>match yF k with
  |⟨g⟩=>⟨fun l a K=>List.casesOn (motive:=fun _=>Option R) l none (fun x l=>g l a (fun l=>K (x::l)))⟩
theorem Ath {a:AV} {r:R} :∀(k:Nat) {l:List AV} {K:List AV->Option R},(yF k).get l a K=some r->rD l k [a] K=some r:=by
 intro k
 induction k with
 |zero=>
  intro l K h;cases l with
  |nil=>cases h
  |cons x l=>
   have h:K (a::l)=some r:=h;cases l<;>exact h
 |succ k ih=>
  intro l K h;cases l with
  |nil=>cases h
  |cons x l=>
   have h:(yF k).get l a (fun l=>K (x::l))=some r:=h;exact ih h
def YP (gx gv:Tm->Option AV):nH R:=fun _ tm M n K=>vK (gx tm) fun b k=>oK (gv tm) fun av=>eV (a1 av) (oK ((Tr.gB b).get M) fun x=>BT x fun l rw=>jH (yF k) fun s=>s l av fun l=>jH (Tr.sB b) fun s=>s M (some (.cells l rw)) fun M=>K (.lit undef) M n) none
theorem Avy {r:R} {l:List AV} {k:Nat} {az:List AV} {K:List AV->Option R} (h:rD l k az K=some r):az≠[]->k+az.length<=l.length:=by
 intro bA;have:=(Pe h).2;cases az with
 |nil=>exact absurd rfl bA
 |cons a az=>simp only [length_cons]at this⊢;omega
theorem Aqj {P:Program} {o:Oper} {t:TypeId} {x v:Operand} {i:TypeInfo} (ho:o.op= .store t x v) (hi:P.info? t=some i) (hz:i.size=1):t4 P o (YP (R:=R) (dv x).get (dv v).get):=by
 intro call dP tm M n K r h;obtain⟨b,k,hx,h⟩:=P5 h;obtain⟨av,hv,h⟩:=B0 h;rw [Ef]at hx hv;cases h1:a1 av with
 |false=>rw [h1]at h;cases h
 |true=>
  rw [h1]at h;obtain⟨y,hb,h⟩:=B0 (show oK _ _=some r from h);obtain⟨l,vB,rfl,h⟩:=Pj h;obtain⟨q1,q2⟩:=JJ h1;have h:=Ath k (show(yF k).get l av _=some r from h);have hlen:=Avy h (by simp);obtain⟨M',h2,h3⟩:=WY (P:=P) (tm:=tm) (M:=M) (n:=n) (K:=fun M=>K (.lit undef) M n) (r:=r) ho (by
   unfold BI;have hb:M.get b=some (.cells l vB):=hb;have c3:ble (k+1) l.length=true:=Nat.ble_eq_true_of_le hlen;simp only [hx,hv,hb,hi,q2,qo,q1,hz,length_cons,List.length_nil,Nat.zero_add,c3];exact h)
  exact⟨_,M',n,h2,h3⟩
def t6:List Operand->Bx (Tm->(List AV->Option R)->Option R)
 |[]=>⟨fun _ K=>K []⟩
 |x::l=>match dv x,t6 l with
  |⟨g⟩,⟨f⟩=>⟨fun tm K=>oK (g tm) fun a=>f tm fun l=>K (a::l)⟩
theorem R7:∀ {l:List Operand} {tm:Tm} {K:List AV->Option R} {r:R},(t6 l).get tm K=some r->∃az,po tm l=some az/\K az=some r
 |[],tm,K,r,h=>⟨[],rfl,h⟩
 |x::l,tm,K,r,h=>by
  obtain⟨a,h1,h2⟩:=B0 (show oK ((dv x).get tm) (fun a=>(t6 l).get tm fun l=>K (a::l))=some r from h);obtain⟨az,h3,h4⟩:=R7 h2;rw [Ef]at h1;exact⟨a::az,by simp only [po,h1,h3],h4⟩
def YQ (g:FuncId) (ga:Tm->(List AV->Option R)->Option R):nH R:=fun call tm M n K=>ga tm fun az=>call g az M n K
theorem Atj {P:Program} {o:Oper} {c:Call} {g:FuncId} (ho:o.op= .call c) (hc:c.callee= .value (.func g)) (rF:ble (Nat.succ g) YB=true):t4 P o (YQ (R:=R) g (t6 c.args.toList).get):=by
 intro call dP tm M n K r h;obtain⟨az,h1,h2⟩:=R7 h;refine YK (tm:=tm) dP ho hc ?_;unfold Yd;simp only [cW,h1];have:(#[]:Array Value).toList.map AV.lit++az++(#[]:Array Value).toList.map AV.lit=az:=by simp
 rw [this,rF];exact h2
def YR (z:List AV):nH R:=fun _ _ M n K=>jH (Tr.sB n) fun s=>s M (some (.cells z true)) fun M=>fN (Nat.succ n) fun n'=>K (.ptr n 0) M n'
theorem Aqk {P:Program} {o:Oper} {t:TypeId} {z:List AV} (ho:o.op= .alloc t) (hz:Ko P t=some z):t4 P o (YR (R:=R) z):=by
 intro call dP tm M n K r h;refine P3 (tm:=tm) ?_;unfold Vz Nd sE;simp only [ho,hz,Qq,O8];exact h
def sK (P:Program) (o:Oper):Bx (nH R):=match BR P o with
 |some q=>b1 YN q|none=>match o.op with
  | .load t x=>match rz P t with
   |some false=>b1 YO (dv x)|_=>⟨Qs P o⟩
  | .store t x v=>match P.info? t with
   |some i=>cond (Nat.beq i.size 1) (match rz P t with
    |some false=>b2 YP (dv x) (dv v)|_=>⟨Qs P o⟩) ⟨Qs P o⟩
   |none=>⟨Qs P o⟩
  | .alloc t=>match Ko P t with
   |some z=>match qm z some with
    |some z=>⟨YR z⟩|none=>⟨Qs P o⟩
   |none=>⟨Qs P o⟩
  | .call c=>match c.callee with
   | .value (.func g)=>cond (ble (Nat.succ g) YB) (b1 (YQ g) (t6 c.args.toList)) ⟨Qs P o⟩
   |_=>⟨Qs P o⟩
  |_=>⟨Qs P o⟩
theorem YS (P:Program) (o:Oper):t4 (R:=R) P o (sK P o).get:=by
 unfold sK;split
 ·rename_i q hq;exact Ate (YI hq)
 ·split
  ·rename_i t x ho;split
   ·rename_i ha;exact Atf ho ha
   ·exact H3 P o
  ·rename_i t x v ho;split
   ·rename_i i hi;cases hz:Nat.beq i.size 1 with
    |true=>
     simp only [cond_true];split
     ·exact Aqj ho hi (eq_of_beq_eq_true hz)
     ·exact H3 P o
    |false=>exact H3 P o
   ·exact H3 P o
  ·rename_i t ho;split
   ·rename_i z hz;rw [yx];exact Aqk ho hz
   ·exact H3 P o
  ·rename_i c ho;split
   ·rename_i g hg;cases rF:ble (Nat.succ g) YB with
    |true=>exact Atj ho hg rF
    |false=>exact H3 P o
   ·exact H3 P o
  ·exact H3 P o
def Fq (ops:Array Oper) (o:Oper) (tm:Tm):Option Bool:=match o.guard with
 |none=>some true|some (j,want)=>match ops[j]? with
  |some oj=>match oj.dst with
   |some d=>match tm.get d with
    |some (.lit (.bool b))=>some (b==want)|some .pn=>none|some _=>some false|none=>none
   |none=>none
  |none=>none
def yG (e:Env) (tm:Tm) (a:Act) (ops:Array Oper) (o:Oper):Prop:=∀t av,t∈o.looksAt ops->tm.get t=some av->t<a.tmps.size/\av.rep e (a.tmps.getD t undef)
theorem yG.dv {e:Env} {tm:Tm} {a:Act} {ops:Array Oper} {o:Oper} (h:yG e tm a ops o):O9 e tm a o.op.operands.toList:=by
 intro x hx av fw;cases x with
 |tmp t=>exact(h t av (List.mem_append_left _ (List.mem_filterMap.2 ⟨.tmp t,hx,rfl⟩)) fw).2
 |const v=>simp only [cW]at fw;cases fw;simp [AV.rep,Act.eval]
 |func f=>simp only [cW]at fw;cases fw;simp [AV.rep,Act.eval]
 |global g=>simp [cW]at fw
theorem R8 {ops:Array Oper} {o:Oper} {tm:Tm} {b:Bool} (h:Fq ops o tm=some b) {e:Env} {a:Act} (ha:yG e tm a ops o):Region.wanted o (yielded ops a.tmps)=b:=by
 unfold Fq at h;unfold Region.wanted;split at h
 ·rename_i hg;cases h;rw [hg]
 ·rename_i j want hg;rw [hg];split at h
  case h_2=>cases h
  rename_i oj hj;split at h
  case h_2=>cases h
  rename_i d hd;have d6:∀av,tm.get d=some av->d<a.tmps.size/\av.rep e (a.tmps.getD d undef):=fun av=>ha d av (List.mem_append_right _ (by rw [hg];simp [hj,hd]))
  split at h
  ·rename_i b' hb;cases h
   obtain⟨g1,g2⟩:=d6 _ hb;simp only [AV.rep]at g2;have:a.tmps[d]? =some (.bool b'):=by
    rw [getD_eq_getD_getElem?,getElem?_eq_getElem g1]at g2;rw [getElem?_eq_getElem g1];exact congrArg some g2
   simp [yielded,hj,hd,this]
  ·cases h
  ·rename_i av qa kE hb;cases h
   obtain⟨g1,g2⟩:=d6 _ hb;have hv:∀b',a.tmps.getD d undef≠.bool b':=by
    intro b' qg;rw [qg]at g2;cases av with
    |lit v=>simp only [AV.rep]at g2;subst g2;exact qa b' rfl
    |ptr b o=>simp only [AV.rep]at g2;obtain⟨_,_,_,g⟩:=g2;cases g
    |slice b o n sz c x=>simp only [AV.rep]at g2;obtain⟨_,_,_,_,_,g,_⟩:=g2;cases g
    |agg l=>simp only [AV.rep]at g2;obtain⟨_,g,_⟩:=g2;cases g
    |tuple l=>simp only [AV.rep]at g2;obtain⟨_,g,_⟩:=g2;cases g
    |func f l m=>simp only [AV.rep]at g2;obtain⟨_,_,g,_⟩:=g2;cases g
    |map b=>simp only [AV.rep]at g2;obtain⟨_,_,_,g⟩:=g2;cases g
    |iface t x=>simp only [AV.rep]at g2;obtain⟨_,g,_⟩:=g2;cases g
    |yield b=>simp only [AV.rep]at g2;obtain⟨_,_,_,g⟩:=g2;cases g
    |qi k lo hi=>simp only [AV.rep]at g2;obtain⟨_,g,_⟩:=g2;cases g
    |pn=>exact absurd rfl kE
    |same i k lo hi=>simp only [AV.rep]at g2;obtain⟨_,_,_,g,_⟩:=g2;cases g
   have:a.tmps[d]? =some (a.tmps.getD d undef):=by
    rw [getD_eq_getD_getElem?,getElem?_eq_getElem g1];rfl
   have hy:yielded ops a.tmps j=none:=by
    simp only [yielded,hj,hd,Option.bind_some,this];generalize a.tmps.getD d undef=u at hv;cases u<;>first|rfl|exact absurd rfl (hv _)
   simp [hy]
  ·cases h
theorem pv.look {e:Env} {tm:Tm} {a:Act} (h:pv e tm a) (ops:Array Oper) (o:Oper):yG e tm a ops o:=fun t av _ ht=>h.at_ t av ht
def vN (ops:Array Oper) (o:Oper):Bx (Tm->Option R->Option R->Option R):=match o.guard with
 |none=>⟨fun _ x _=>x⟩
 |some (j,want)=>match ops[j]? with
  |some oj=>match oj.dst with
   |some d=>match Tm.gB d with
    |⟨g⟩=>cond want ⟨fun tm x y=>oK (g tm) fun a=>AV.casesOn (motive_1:=fun _=>Option R) a (fun v=>Value.casesOn (motive_1:=fun _=>Option R) v (fun b=>eV b x y) (fun _ _=>y) (fun _ _=>y) (fun _ _ _=>y) (fun _=>y) (fun _=>y) (fun _ _ _=>y) (fun _=>y) (fun _=>y) (fun _ _ _=>y) y (fun _ _=>y) y (fun _=>y) (fun _=>y)) (fun _ _=>y) (fun _ _ _ _ _ _=>y) (fun _=>y) (fun _=>y) (fun _ _ _=>y) (fun _=>y) (fun _ _=>y) (fun _=>y) (fun _ _ _=>y) none (fun _ _ _ _=>y)⟩
     ⟨fun tm x y=>oK (g tm) fun a=>AV.casesOn (motive_1:=fun _=>Option R) a (fun v=>Value.casesOn (motive_1:=fun _=>Option R) v (fun b=>eV b y x) (fun _ _=>y) (fun _ _=>y) (fun _ _ _=>y) (fun _=>y) (fun _=>y) (fun _ _ _=>y) (fun _=>y) (fun _=>y) (fun _ _ _=>y) y (fun _ _=>y) y (fun _=>y) (fun _=>y)) (fun _ _=>y) (fun _ _ _ _ _ _=>y) (fun _=>y) (fun _=>y) (fun _ _ _=>y) (fun _=>y) (fun _ _=>y) (fun _=>y) (fun _ _ _=>y) none (fun _ _ _ _=>y)⟩
   |none=>⟨fun _ _ _=>none⟩
  |none=>⟨fun _ _ _=>none⟩
theorem YT {ops:Array Oper} {o:Oper} {tm:Tm} {x y:Option R} {r:R} (h:(vN ops o).get tm x y=some r):(Fq ops o tm=some true/\x=some r)\/(Fq ops o tm=some false/\y=some r):=by
 unfold vN at h;unfold Fq;split at h
 ·exact .inl ⟨rfl,h⟩
 ·split at h
  case h_2=>cases h
  rename_i j want hg _ oj hj;split at h
  case h_2=>cases h
  rename_i d hd;split at h;rename_i g sj;have gM:∀tm,g tm=tm.get d:=fun tm=>by unfold Tm.get;rw [sj]
  cases want with
  |true=>
   obtain⟨a,h1,h2⟩:=B0 (show oK (g tm) _=some r from h);rw [gM]at h1;rw [h1];cases a with
   |lit v=>
    cases v with
    |bool b=>
     cases b with
     |true=>exact .inl ⟨rfl,h2⟩
     |false=>exact .inr ⟨rfl,h2⟩
    |_=>exact .inr ⟨rfl,h2⟩
   |pn=>cases h2
   |_=>exact .inr ⟨rfl,h2⟩
  |false=>
   obtain⟨a,h1,h2⟩:=B0 (show oK (g tm) _=some r from h);rw [gM]at h1;rw [h1];cases a with
   |lit v=>
    cases v with
    |bool b=>
     cases b with
     |true=>exact .inr ⟨rfl,h2⟩
     |false=>exact .inl ⟨rfl,h2⟩
    |_=>exact .inr ⟨rfl,h2⟩
   |pn=>cases h2
   |_=>exact .inr ⟨rfl,h2⟩
abbrev t7 (R:Type):Type:=Tm->AV->(Tm->Option R)->Option R
def V2 (sz:Nat) (d:Option Nat):Bx (t7 R):=match d with
 |none=>⟨fun tm _ K=>K tm⟩
 |some d=>cond (ble (d+1) sz) (match Tm.sB d with|⟨s⟩=>⟨fun tm av K=>s tm (some av) K⟩) ⟨fun _ _ _=>none⟩
theorem JR (sz:Nat) (d:Option Nat) (tm:Tm) (av:AV) (K:Tm->Option R):(V2 sz d).get tm av K=rn sz tm d av K:=by
 unfold V2 rn;cases d with
 |none=>rfl
 |some d=>simp only;cases ble (d+1) sz<;>rfl
abbrev pw (R:Type):Type:=Bq R->Tm->Tr aA->Nat->(Tm->Tr aA->Nat->Option R)->Option R
def YU (f:nH R) (p:t7 R) (g:pw R):pw R:=fun call tm M n K=>f call tm M n fun av M n=>p tm av fun tm=>g call tm M n K
def Az5 (p:t7 R) (g:pw R):pw R:=fun call tm M n K=>p tm (.lit undef) fun tm=>g call tm M n K
def Az6 (q:Tm->Option R->Option R->Option R) (f g:pw R):pw R:=fun call tm M n K=>q tm (f call tm M n K) (g call tm M n K)
def JS (P:Program) (tm:Tm) (o:Oper) (M:Tr aA) (n:Nat) (av:AV) (M':Tr aA) (n':Nat):Prop:=∀(G:Fence) (n0:Nat) b0 e a w (next:Act->World->Prop) (Q:Exit->Act->World->Prop),Vc.Good G->Br b0 e M.get n w->O9 e tm a o.op.operands.toList->(∀e' v w',Bg e e'->Br b0 e' M'.get n' w'->av.rep e' v->next (a.put o.dst v) w')->o.wpIn G n0 P a w next Q
theorem fT.M_ {P:Program} {tm:Tm} {o:Oper} {M:Tr aA} {n:Nat} {av:AV} {M':Tr aA} {n':Nat} (hd:Bu o=true) (h:fT P tm o M n av M' n'):JS P tm o M n av M' n':=
 fun G n0 b0 e a w next Q hG hM hT hk=>Lp hG hd (h b0 e a w hM hT _ fun e' v w' hl gV hv=>hk e' v w' hl gV hv)
def Bax (x:AV) (f:Nat->Option R) (s:Option R):Option R:=AV.casesOn (motive_1:=fun _=>Option R) x (fun _=>s) (fun _ _=>s) (fun _ _ _ _ _ _=>s) (fun _=>s) (fun _=>s) (fun _ _ _=>s) (fun _=>s) (fun _ _=>s) f (fun _ _ _=>s) s (fun _ _ _ _=>s)
def Bay (s:nH R) (g:Tm->Option AV) (ga:Tm->(List AV->Option R)->Option R):nH R:=fun call tm M n K=>oK (g tm) fun f=>Bax f (fun b=>ga tm fun az=>call (Nat.add YB b) az M n K) (s call tm M n K)
def yH (P:Program) (o:Oper):Bx (nH R):=match o.op with
 | .call c=>match c.callee with
  | .value (.tmp t)=>b3 Bay (sK P o) (Tm.gB t) (t6 c.args.toList)|_=>sK P o
 |_=>sK P o
theorem Ayi {P:Program} {o:Oper} (hd:Bu o=true) {call:Bq R} (dP:Eo P call) {tm:Tm} {M:Tr aA} {n:Nat} {K:AV->Tr aA->Nat->Option R} {r:R} (h:(yH P o).get call tm M n K=some r):∃av M' n',K av M' n'=some r/\JS P tm o M n av M' n':=by
 have old:(sK P o).get call tm M n K=some r->∃av M' n',K av M' n'=some r/\JS P tm o M n av M' n':=fun h=>by
  obtain⟨av,M',n',h1,h2⟩:=YS P o dP h;exact⟨av,M',n',h1,h2.M_ hd⟩
 unfold yH at h;split at h
 case h_2=>exact old h
 rename_i c ho;split at h
 case h_2=>exact old h
 rename_i t kZ;obtain⟨f,hf,h⟩:=B0 (show oK (tm.get t) _=some r from h);cases f with
 |yield b=>
  obtain⟨az,has,h⟩:=R7 (show(t6 c.args.toList).get tm (fun az=>call (Nat.add YB b) az M n K)=some r from h);obtain⟨av,M',n',h1,h2⟩:=dP _ _ _ _ _ _ h;refine⟨av,M',n',h1,fun G n0 b0 e a w next Q hG hM hT hk=> ?_⟩;have om:=hT (.tmp t) (by simp [ho,Op.operands,Call.operands,kZ]) _ hf;simp only [AV.rep]at om;obtain⟨B,tt,hB,om⟩:=om;have hy:=h2.2 b rfl b0 e w (c.args.toList.map a.eval) hM (Nb (hT.sub fun y hy=>by simp only [ho,Op.operands,Call.operands,kZ,toList_append,mem_append];exact .inr hy) has) B tt hB (fun v w'=>next (a.put o.dst v) w') hk;refine MV (cl:=[]) hG hd (next:=next) ?_;have e1:(⟨c.args.toList.map a.eval⟩:Array Value)=c.args.map a.eval:=by apply ext';simp
  rw [e1]at hy;unfold Nl;simp only [ho,kZ,om];exact hy
 |_=>exact old h
def Qt (P:Program) (sz:Nat) (ops:Array Oper):List Oper->Bx (pw R)
 |[]=>⟨fun _ tm M n K=>K tm M n⟩
 |o::l=>cond (Bu o) (match o.guard with
  |none=>b3 YU (yH P o) (V2 sz o.dst) (Qt P sz ops l)|some _=>b3 Az6 (vN ops o) (b3 YU (yH P o) (V2 sz o.dst) (Qt P sz ops l)) (b2 Az5 (V2 sz o.dst) (Qt P sz ops l))) ⟨fun _ _ _ _ _=>none⟩
theorem JT {P:Program} {call:Bq R} (dP:Eo P call) {sz:Nat} {ops:Array Oper} :∀(l:List Oper) (k:Nat) {tm:Tm} {M:Tr aA} {n:Nat} {K:Tm->Tr aA->Nat->Option R} {r:R},(∀j,l[j]? =ops[k+j]?)->(Qt P sz ops l).get call tm M n K=some r->
 ∃bc M' n',K bc M' n'=some r/\∀(G:Fence) (n0:Nat) (X:Exit->Act->World->Prop) b0 d0 e a w,Vc.Good G->Br b0 e M.get n w->Jd sz d0 e tm a->(∀e' a' w',Bg e e'->Br b0 e' M'.get n' w'->Jd sz d0 e' bc a'->X .normal a' w')->wpOpsIn G n0 P ops X (range' k l.length) a w
 |[],k,tm,M,n,K,r,_,h=>⟨tm,M,n,h,fun G n0 X b0 d0 e a w _ hM hA hQ=>by simpa [wpOpsIn] using hQ e a w (Bg.refl e) hM hA⟩
 |o::rest,k,tm,M,n,K,r,hl,h=>by
  have h0:ops[k]? =some o:=by simpa using(hl 0).symm
  have sX:∀j,rest[j]? =ops[k+1+j]? :=fun j=>by have:=hl (j+1);rw [show k+1+j=k+(j+1) by omega];simpa using this
  unfold Qt at h;cases hd:Bu o with
  |false=>rw [hd]at h;cases h
  |true=>
  rw [hd]at h;simp only [cond_true]at h;have yes:Fq ops o tm=some true->(yH P o).get call tm M n (fun av M n=>(V2 sz o.dst).get tm av fun tm=>(Qt P sz ops rest).get call tm M n K)=some r->∃bc M' n',K bc M' n'=some r/\∀(G:Fence) (n0:Nat) (X:Exit->Act->World->Prop) b0 d0 e a w,Vc.Good G->Br b0 e M.get n w->Jd sz d0 e tm a->(∀e' a' w',Bg e e'->Br b0 e' M'.get n' w'->Jd sz d0 e' bc a'->X .normal a' w')->wpOpsIn G n0 P ops X (range' k (o::rest).length) a w:=by
   intro hw h;obtain⟨av,M1,n1,h1,h2⟩:=Ayi hd dP h;rw [JR]at h1;obtain⟨jq,h3,h4⟩:=JM h1;obtain⟨bc,M',n',h5,h6⟩:=JT dP rest (k+1) sX h3;refine⟨bc,M',n',h5,fun G n0 X b0 d0 e a w hG hM hA hQ=> ?_⟩;simp only [length_cons,List.range'_succ];rw [wpOpsIn_cons];unfold wpOpIn;simp only [h0,R8 hw (hA.tm.look _ _),if_true];refine h2 G n0 b0 e a w _ _ hG hM (hA.tm.dv _) fun e' v w' hl gV hv=> ?_
   exact h6 G n0 X b0 d0 e' _ w' hG gV (h4 d0 e e' a v hA hl hv) fun vq kJ iV i3=>hQ vq kJ iV (hl.trans i3)
  have no:Fq ops o tm=some false->(V2 sz o.dst).get tm (.lit undef) (fun tm=>(Qt P sz ops rest).get call tm M n K)=some r->∃bc M' n',K bc M' n'=some r/\∀(G:Fence) (n0:Nat) (X:Exit->Act->World->Prop) b0 d0 e a w,Vc.Good G->Br b0 e M.get n w->Jd sz d0 e tm a->(∀e' a' w',Bg e e'->Br b0 e' M'.get n' w'->Jd sz d0 e' bc a'->X .normal a' w')->wpOpsIn G n0 P ops X (range' k (o::rest).length) a w:=by
   intro hw h;rw [JR]at h;obtain⟨jq,h3,h4⟩:=JM h;obtain⟨bc,M',n',h5,h6⟩:=JT dP rest (k+1) sX h3;refine⟨bc,M',n',h5,fun G n0 X b0 d0 e a w hG hM hA hQ=> ?_⟩;simp only [length_cons,List.range'_succ];rw [wpOpsIn_cons];unfold wpOpIn;simp only [h0,R8 hw (hA.tm.look _ _),Bool.false_eq_true,if_false];exact⟨fun f _=>hG.fn f,h6 G n0 X b0 d0 e _ w hG hM (h4 d0 e e a undef hA (Bg.refl e) (by simp only [AV.rep])) fun vq kJ iV i3=>hQ vq kJ iV i3⟩
  split at h
  ·rename_i hg;exact yes (by unfold Fq;rw [hg]) h
  ·rename_i j hg;rcases YT (show(vN ops o).get tm _ _=some r from h)with⟨h1,h2⟩|⟨h1,h2⟩
   ·exact yes h1 h2
   ·exact no h1 h2
variable {R:Type}
def fz {β:Type} (n:Nat) (f:Nat->β):β:=Nat.casesOn (motive:=fun _=>β) (Nat.succ n) (f n) f
theorem yI {β:Type} (n:Nat) (f:Nat->β):fz n f=f n:=rfl
def an (a b:Bool):Bool:=Bool.casesOn (motive:=fun _=>Bool) a false b
theorem Pk (a b:Bool):an a b=(a&&b):=by cases a<;>rfl
def no (a:Bool):Bool:=Bool.casesOn (motive:=fun _=>Bool) a true false
theorem yJ (a:Bool):no a= !a:=by cases a<;>rfl
def t8 (a b c:Bool):Bool:=Bool.casesOn (motive:=fun _=>Bool) a c b
theorem BU (a b c:Bool):t8 a b c=cond a b c:=by cases a<;>rfl
def V3 (m i:Nat):Bool:=Nat.beq (mod (Nat.shiftRight m i) 2) 1
theorem Ud (m i:Nat):V3 m i=m.testBit i:=by
 have h:(m>>>i)%2=(m.testBit i).toNat:=by
  rw [Nat.toNat_testBit,Nat.shiftRight_eq_div_pow]
 show Nat.beq ((m>>>i)%2) 1=_
 rw [h];cases m.testBit i<;>rfl
def Xy (a b:Nat):Bool:=Nat.beq (land a b) a
theorem Ue {a b i:Nat} (h:Xy a b=true) (hi:a.testBit i=true):b.testBit i=true:=by
 have h:a&&&b=a:=eq_of_beq_eq_true h;rw [←h,Nat.testBit_and]at hi;exact(and_eq_true _ _▸hi).2
def Kp (A j:Nat):Nat:=mod (Nat.shiftRight A (Nat.mul 64 j)) 18446744073709551616
theorem YV (A j i:Nat):(Kp A j).testBit i=(decide (i<64)&&A.testBit (64*j+i)):=by
 show((A>>>(64*j))%2^64).testBit i=_
 rw [Nat.testBit_mod_two_pow,Nat.testBit_shiftRight]
def gg (A i j:Nat):Bool:=V3 (Kp A j) i
theorem BV (A i j:Nat):gg A i j=(decide (i<64)&&A.testBit (64*j+i)):=by rw [gg,Ud,YV]
theorem Fh (a b i:Nat):(lor a b).testBit i=(a.testBit i||b.testBit i):=Nat.testBit_or a b i
theorem Hn (i j:Nat):(shiftLeft 1 i).testBit j=decide (i=j):=by
 show(1<<<i).testBit j=_
 rw [Nat.shiftLeft_eq,Nat.one_mul,Nat.testBit_two_pow]
def Pl (acc:Nat):List Edge->Nat
 |[]=>0|e::es=>cond (Region.binds .any e) (lor (lor (shiftLeft 1 e.on) (Kp acc e.on)) (Pl acc es)) (Pl acc es)
theorem R9 {acc b:Nat} :∀ {es:List Edge},(Pl acc es).testBit b=true->∃e∈es,Region.binds .any e=true/\(b=e.on\/gg acc b e.on=true)
 |[],h=>by simp [Pl]at h
 |e::es,h=>by
  simp only [Pl]at h;cases hb:Region.binds .any e with
  |false=>
   rw [hb]at h;obtain⟨e',h1,h2⟩:=R9 h;exact⟨e',by simp [h1],h2⟩
  |true=>
   rw [hb]at h;simp only [cond_true,Fh,Hn,or_eq_true,decide_eq_true_eq]at h;rcases h with(h|h)|h
   ·exact⟨e,by simp,hb,.inl h.symm⟩
   ·exact⟨e,by simp,hb,.inr (by rw [gg,Ud];exact h)⟩
   ·obtain⟨e',h1,h2⟩:=R9 h;exact⟨e',by simp [h1],h2⟩
def BW:List Oper->Nat->Nat->Nat
 |[],_,acc=>acc|o::l,j,acc=>fz (lor acc (shiftLeft (mod (Pl acc o.after.toList) 18446744073709551616) (Nat.mul 64 j))) fun acc=>BW l (Nat.succ j) acc
def BX (ops:List Oper):Nat:=BW ops 0 0
def YW (ops:List Oper) (j acc:Nat):Prop:=∀k b,gg acc b k=true->k<j/\∃o,ops[k]? =some o/\∃e∈o.after.toList,Region.binds .any e=true/\(b=e.on\/gg acc b e.on=true/\e.on<k)
theorem YX {ops:List Oper} :∀(l:List Oper) (j acc:Nat),ops.drop j=l->YW ops j acc->∃j',YW ops j' (BW l j acc)
 |[],j,acc,_,h=>⟨j,h⟩
 |o::l,j,acc,hd,h=>by
  simp only [BW,yI];have ho:ops[j]? =some o:=by
   have:(ops.drop j)[0]? =some o:=by rw [hd];rfl
   simpa using this
  have hl:ops.drop (j+1)=l:=by
   rw [←List.drop_drop,hd];rfl
  refine YX l (j+1) _ hl ?_;have mono:∀ {b k:Nat},gg acc b k=true->gg (lor acc (shiftLeft (mod (Pl acc o.after.toList) 18446744073709551616) (Nat.mul 64 j))) b k=true:=by
   intro b k hb;rw [BV]at hb⊢;rw [Fh];simp only [and_eq_true,or_eq_true]at hb⊢;exact⟨hb.1,.inl hb.2⟩
  intro k b hb;rw [BV,Fh]at hb;simp only [and_eq_true,or_eq_true,decide_eq_true_eq]at hb;obtain⟨Bsh,hb⟩:=hb;rcases hb with hb|hb
  ·obtain⟨h1,o',h2,e,h3,h4,h5⟩:=h k b (by rw [BV];simp [Bsh,hb]);exact⟨by omega,o',h2,e,h3,h4,h5.imp id fun h=>⟨mono h.1,h.2⟩⟩
  ·have hb:((Pl acc o.after.toList%2^64)<<<(64*j)).testBit (64*k+b)=true:=hb;rw [Nat.testBit_shiftLeft,Nat.testBit_mod_two_pow]at hb;simp only [and_eq_true,decide_eq_true_eq]at hb;have EC:k=j:=by omega
   subst EC;have e1:64*k+b-64*k=b:=by omega
   rw [e1]at hb;obtain⟨e,h3,h4,h5⟩:=R9 hb.2.2;exact⟨by omega,o,ho,e,h3,h4,h5.imp id fun g=>⟨mono g,(h _ _ g).1⟩⟩
def Cl (ops:Array Oper) (L:Array Bool):Prop:=∀i o,ops[i]? =some o->L.getD i false=true->∀e∈o.after.toList,Region.binds .any e=true->L.getD e.on false=true
theorem YY {ops:Array Oper} {L:Array Bool} (hL:L.size=ops.size) (n_:Cl ops L):∀(j:Nat) (o:Oper),ops[j]? =some o->(∀e∈o.after.toList,Region.binds .any e=true->L.getD e.on false=true)->∀b,gg (BX ops.toList) b j=true->L.getD b false=true:=by
 obtain⟨j',hA⟩:=YX (ops:=ops.toList) ops.toList 0 0 rfl (fun k b h=>by rw [BV]at h;simp at h);intro j
 induction j using Nat.strongRecOn with
 |_ j ih=>
  intro o ho he b hb;obtain⟨_,o',h2,e,h3,h4,h5⟩:=hA j b hb;have:o'=o:=by
   rw [Array.getElem?_toList,ho]at h2;exact(Option.some.inj h2).symm
  subst this;have hd:=he e h3 h4;rcases h5 with rfl|⟨h5,aE⟩
  ·exact hd
  ·have YZ:e.on<ops.size:=by
    rcases lt_or_ge e.on ops.size with h|h
    ·exact h
    ·rw [getD_eq_getD_getElem?,Array.getElem?_eq_none (by omega)]at hd;cases hd
   exact ih e.on aE ops[e.on] (by simp [YZ]) (n_ e.on _ (by simp [YZ]) hd) b h5
def t_ (o:Oper):Bool:=match o.op with
 | .move _| .assign _| .pick .. | .nilCheck _| .fieldAddr .. | .indexAddr .. | .slice .. | .field .. | .index .. | .extract .. | .build .. | .makeFunc .. | .binOp .. | .unOp .. | .makeInterface .. | .typeAssert .. | .load .. | .convert .. =>true| .call { callee:= .builtin .len,.. } | .call { callee:= .builtin .cap,.. } | .call { callee:= .builtin .min,.. } | .call { callee:= .builtin .max,.. } =>true|_=>false
def Wq (tm:Tm) (o:Oper):Bool:=match o.op with
 | .load .. =>true| .convert _ _ x=>match cW tm x with
  |some (.slice ..)=>true|_=>false
 |_=>false
def Wr (o:Oper):Bool:=match o.op with
 | .load .. =>true| .convert .. =>true|_=>false
theorem Avz {tm:Tm} {o:Oper} (h:Wq tm o=true):Wr o=true:=by
 unfold Wq at h;unfold Wr;split at h
 ·rfl
 ·rfl
 ·cases h
def Gd (o:Oper):Bool:=match o.op with
 | .alloc _=>true| .box .. =>true| .buildSlice .. =>true|_=>false
def H4 (o:Oper):Bool:=no (t_ o)
def Jj (o:Oper):Bool:=an (H4 o) (no (Gd o))
def yK (W am:Nat):List Nat->Bool
 |[]=>true|t::l=>an (Xy (Kp W t) am) (yK W am l)
theorem Y_ {W am t:Nat} :∀ {l:List Nat},yK W am l=true->t∈l->Xy (Kp W t) am=true
 |[],_,h=>by cases h
 |u::l,h,ht=>by
  simp only [yK,Pk,and_eq_true]at h;rcases mem_cons.1 ht with rfl|ht
  ·exact h.1
  ·exact Y_ h.2 ht
def vO (R i:Nat):List Nat->Nat
 |[]=>R|t::l=>lor (shiftLeft 1 (Nat.add (Nat.mul 64 t) i)) (vO R i l)
theorem ZA {R i k:Nat} :∀ {l:List Nat},R.testBit k=true->(vO R i l).testBit k=true
 |[],h=>h
 |t::l,h=>by simp only [vO,Fh,ZA h,Bool.or_true]
theorem ZB {R i t:Nat} :∀ {l:List Nat},t∈l->(vO R i l).testBit (64*t+i)=true
 |[],h=>by cases h
 |u::l,h=>by
  simp only [vO,Fh,or_eq_true];rcases mem_cons.1 h with rfl|h
  ·refine .inl ?_;rw [Hn];exact decide_eq_true rfl
  ·exact .inr (ZB h)
def vP:List Edge->Nat
 |[]=>0|e::es=>cond (Region.binds .any e) (lor (shiftLeft 1 e.on) (vP es)) (vP es)
theorem ZC {e:Edge} (hb:Region.binds .any e=true):∀ {es:List Edge},e∈es->(vP es).testBit e.on=true
 |[],h=>by cases h
 |e'::es,h=>by
  simp only [vP];rcases mem_cons.1 h with rfl|h
  ·rw [hb,cond_true,Fh,Hn];simp
  ·have:=ZC hb h;cases Region.binds .any e' with
   |true=>rw [cond_true,Fh,this,Bool.or_true]
   |false=>exact this
def BZ (W R am:Nat) (d:Option Nat):Bool:=match d with
 |none=>true|some t=>an (Nat.beq (Kp W t) 0) (Xy (Kp R t) am)
def JU (W i:Nat) (d:Option Nat):Nat:=match d with
 |none=>W|some t=>lor (shiftLeft 1 (Nat.add (Nat.mul 64 t) i)) W
def yL (ops:Array Oper) (A:Nat):List (Nat×Oper)->Nat->Nat->Nat->Nat->Nat->Option (Nat×Nat)
 |[],_,_,B,_,F=>some (B,F)|(i,o)::l,W,Rr,B,Mm,F=>fz (Kp A i) fun am=>
  cond (an (ble i 63) (an (no (V3 B i)) (an (Xy (vP o.after.toList) B) (an (yK W am (o.looksAt ops)) (an (BZ W Rr am o.dst) (t8 (Jj o) (Xy Mm am) true))))))
   (fz (JU W i o.dst) fun W=>fz (vO Rr i (o.looksAt ops)) fun Rr=>fz (lor (shiftLeft 1 i) B) fun B=>
    fz (lor (cond (an (Wr o) (Xy Mm am)) (shiftLeft 1 i) 0) (cond (Jj o) (land F am) F)) fun F=>
    fz (cond (H4 o) (lor (shiftLeft 1 i) Mm) Mm) fun Mm=>yL ops A l W Rr B Mm F) none
structure B_ (ops:Array Oper) (A:Nat) (pre:List (Nat×Oper)) (y:Nat×Oper):Prop where
 ne:∀x∈pre,x.1≠y.1
 Bsi:∀e∈y.2.after.toList,Region.binds .any e=true->∃x∈pre,x.1=e.on
 dst:∀x∈pre,∀t,x.2.dst=some t->y.2.dst≠some t
 look:∀x∈pre,∀t,x.2.dst=some t->t∈y.2.looksAt ops->gg A x.1 y.1=true
 Bsj:∀x∈pre,∀t,y.2.dst=some t->t∈x.2.looksAt ops->gg A x.1 y.1=true
 mem:∀x∈pre,H4 x.2=true->Jj y.2=true->gg A x.1 y.1=true
structure ZD (ops:Array Oper) (A:Nat) (pre:List (Nat×Oper)) (W Rr B Mm F:Nat):Prop where
 b:∀x∈pre,x.1<=63/\B.testBit x.1=true
 b':∀k,B.testBit k=true->∃x∈pre,x.1=k
 w:∀x∈pre,∀t,x.2.dst=some t->W.testBit (64*t+x.1)=true
 r:∀x∈pre,∀t,t∈x.2.looksAt ops->Rr.testBit (64*t+x.1)=true
 m:∀x∈pre,H4 x.2=true->Mm.testBit x.1=true
 yM:∀(q:Nat) y,pre[q]? =some y->B_ ops A (pre.take q) y
 f':∀k,F.testBit k=true->B.testBit k=true
 f:∀(p q:Nat) (x y:Nat×Oper),pre[p]? =some x->pre[q]? =some y->F.testBit x.1=true->H4 y.2=true->(q<p->gg A y.1 x.1=true)/\(p<q->Jj y.2=true->gg A x.1 y.1=true)
theorem Uf {A i j:Nat} (h:(Kp A j).testBit i=true):gg A i j=true:=by rw [gg,Ud];exact h
theorem ZE {ops:Array Oper} {A:Nat} :∀(l pre:List (Nat×Oper)) (W Rr B Mm F B' F':Nat),ZD ops A pre W Rr B Mm F->yL ops A l W Rr B Mm F=some (B',F')->∃W' R' M',ZD ops A (pre++l) W' R' B' M' F'
 |[],pre,W,Rr,B,Mm,F,B',F',h,hk=>by
  simp only [yL]at hk;cases hk;exact⟨W,Rr,Mm,by simpa using h⟩
 |(i,o)::l,pre,W,Rr,B,Mm,F,B',F',h,hk=>by
  simp only [yL,yI]at hk;cases hc:an (ble i 63) (an (no (V3 B i)) (an (Xy (vP o.after.toList) B) (an (yK W (Kp A i) (o.looksAt ops)) (an (BZ W Rr (Kp A i) o.dst) (t8 (Jj o) (Xy Mm (Kp A i)) true)))))with
  |false=>rw [hc]at hk;cases hk
  |true=>
   rw [hc]at hk;simp only [Pk,yJ,BU,and_eq_true,not_eq_true',Ud]at hc;obtain⟨c1,c2,c3,c4,c5,c6⟩:=hc;have c1:=le_of_ble_eq_true c1;have CA:∀x∈pre,x.1≠i:=fun x hx e=>by
    have:=(h.b x hx).2;rw [e,c2]at this;cases this
   have row:∀ {S t:Nat} {x:Nat×Oper},x∈pre->S.testBit (64*t+x.1)=true->(Kp S t).testBit x.1=true:=by
    intro S t x hx hs;rw [YV];have:=(h.b x hx).1;simp [hs];omega
   have rG:B_ ops A pre (i,o):=by
    refine⟨CA,fun e he hb=> ?_,fun x hx t yN ua=> ?_,fun x hx t yN ht=> ?_,fun x hx t ua ht=> ?_,fun x hx hm hl=> ?_⟩
    ·exact h.b' _ (Ue c3 (ZC hb he))
    ·have ua:o.dst=some t:=ua;rw [ua]at c5;simp only [BZ,Pk,and_eq_true]at c5;have h0:=eq_of_beq_eq_true c5.1;have:=row hx (h.w x hx t yN);rw [h0]at this;simp at this
    ·exact Uf (Ue (Y_ c4 ht) (row hx (h.w x hx t yN)))
    ·have ua:o.dst=some t:=ua;rw [ua]at c5;simp only [BZ,Pk,and_eq_true]at c5;exact Uf (Ue c5.2 (row hx (h.r x hx t ht)))
    ·have hl:Jj o=true:=hl;rw [hl]at c6;exact Uf (Ue c6 (h.m x hx hm))
   have CB:∀ {q:Nat} {y:Nat×Oper},(pre++[(i,o)])[q]? =some y->(q<pre.length/\pre[q]? =some y)\/(q=pre.length/\y=(i,o)):=by
    intro q y hq;rcases lt_or_ge q pre.length with aE|jf
    ·rw [List.getElem?_append_left aE]at hq;exact .inl ⟨aE,hq⟩
    ·rw [List.getElem?_append_right jf]at hq;have h0:q-pre.length=0:=by
      have:=(List.getElem?_eq_some_iff.1 hq).1;simp at this;omega
     rw [h0]at hq;exact .inr ⟨by omega,by simpa using hq.symm⟩
   have ZF:=fun hI=>ZE l (pre++[(i,o)]) _ _ _ _ _ B' F' hI hk
   rw [List.append_assoc]at ZF;refine ZF ?_
   ·refine⟨fun x hx=> ?_,fun k hk=> ?_,fun x hx t ht=> ?_,fun x hx t ht=> ?_,fun x hx hm=> ?_,fun q y hq=> ?_,fun k hk=> ?_,fun p q x y hp hq hF hm=> ?_⟩
    ·rcases mem_append.1 hx with hx|hx
     ·exact⟨(h.b x hx).1,by rw [Fh,(h.b x hx).2,Bool.or_true]⟩
     ·obtain rfl:x=(i,o):=by simpa using hx
      exact⟨c1,by rw [Fh,Hn];simp⟩
    ·rw [Fh,Hn,or_eq_true,decide_eq_true_eq]at hk;rcases hk with rfl|hk
     ·exact⟨(i,o),by simp,rfl⟩
     ·obtain⟨x,h1,h2⟩:=h.b' k hk;exact⟨x,by simp [h1],h2⟩
    ·rcases mem_append.1 hx with hx|hx
     ·have:=h.w x hx t ht;unfold JU;split
      ·exact this
      ·rw [Fh,this,Bool.or_true]
     ·obtain rfl:x=(i,o):=by simpa using hx
      have ht:o.dst=some t:=ht;unfold JU;rw [ht];simp only [Fh,Hn];rw [show decide (Nat.add (Nat.mul 64 t) i=64*t+i)=true from decide_eq_true rfl,Bool.true_or]
    ·rcases mem_append.1 hx with hx|hx
     ·exact ZA (h.r x hx t ht)
     ·obtain rfl:x=(i,o):=by simpa using hx
      exact ZB ht
    ·rcases mem_append.1 hx with hx|hx
     ·have:=h.m x hx hm;cases H4 o with
      |true=>rw [cond_true,Fh,this,Bool.or_true]
      |false=>exact this
     ·obtain rfl:x=(i,o):=by simpa using hx
      have hm:H4 o=true:=hm;rw [hm,cond_true,Fh,Hn];simp
    ·rcases CB hq with⟨h1,h2⟩|⟨rfl,rfl⟩
     ·rw [List.take_append_of_le_length (Nat.le_of_lt h1)];exact h.yM q y h2
     ·rw [List.take_left' rfl];exact rG
    ·rw [Fh,or_eq_true]at hk;rw [Fh,Hn,or_eq_true,decide_eq_true_eq];rcases hk with hk|hk
     ·cases dV:an (Wr o) (Xy Mm (Kp A i))with
      |true=>rw [dV,cond_true,Hn]at hk;exact .inl (of_decide_eq_true hk)
      |false=>rw [dV,cond_false]at hk;simp at hk
     ·refine .inr (h.f' k ?_);cases hl:Jj o with
      |true=>
       rw [hl,cond_true]at hk;have hk:(F&&&Kp A i).testBit k=true:=hk;rw [Nat.testBit_and,and_eq_true]at hk;exact hk.1
      |false=>rw [hl]at hk;exact hk
    ·rw [Fh,or_eq_true]at hF;have ZG:(cond (Jj o) (land F (Kp A i)) F).testBit x.1=true->F.testBit x.1=true/\(Jj o=true->(Kp A i).testBit x.1=true):=by
      intro hk;cases hl:Jj o with
      |true=>
       rw [hl,cond_true]at hk;have hk:(F&&&Kp A i).testBit x.1=true:=hk;rw [Nat.testBit_and,and_eq_true]at hk;exact⟨hk.1,fun _=>hk.2⟩
      |false=>rw [hl]at hk;exact⟨hk,nofun⟩
     rcases CB hp with⟨eG,gq⟩|⟨rfl,rfl⟩
     ·have JV:x∈pre:=mem_of_getElem? gq;have hF:F.testBit x.1=true/\(Jj o=true->(Kp A i).testBit x.1=true):=by
       rcases hF with hF|hF
       ·cases dV:an (Wr o) (Xy Mm (Kp A i))with
        |true=>rw [dV,cond_true,Hn]at hF;exact absurd (of_decide_eq_true hF).symm (CA x JV)
        |false=>rw [dV,cond_false]at hF;simp at hF
       ·exact ZG hF
      rcases CB hq with⟨uE,JW⟩|⟨rfl,rfl⟩
      ·exact h.f p q x y gq JW hF.1 hm
      ·exact⟨fun aE=>by omega,fun _ hl=>Uf (hF.2 hl)⟩
     ·rcases CB hq with⟨uE,JW⟩|⟨rfl,rfl⟩
      ·refine⟨fun _=> ?_,fun aE=>by omega⟩;have ud:y∈pre:=mem_of_getElem? JW;rcases hF with hF|hF
       ·cases dV:an (Wr o) (Xy Mm (Kp A i))with
        |true=>
         rw [Pk,and_eq_true]at dV;exact Uf (Ue dV.2 (h.m y ud hm))
        |false=>rw [dV,cond_false]at hF;simp at hF
       ·have:=h.f' _ (ZG hF).1;rw [c2]at this;cases this
      ·exact⟨fun aE=>absurd aE (Nat.lt_irrefl _),fun aE=>absurd aE (Nat.lt_irrefl _)⟩
def CC (m acc:Nat):Nat->Nat->(List Nat->List Nat)
 |0,_=>fun l=>l
 |f+1,k=>cond (an (V3 m k) (no (V3 acc k))) (fun l=>k::CC m acc f (Nat.succ k) l) (CC m acc f (Nat.succ k))
def JX (A N:Nat):List Oper->Nat->Nat->List Nat
 |[],_,acc=>CC 18446744073709551615 acc N 0 []|o::l,i,acc=>cond (an (Jj o) (no (V3 acc i))) (fz (lor (shiftLeft 1 i) (lor acc (Kp A i))) fun Bsk=>CC (Kp A i) acc N 0 (i::JX A N l (Nat.succ i) Bsk)) (JX A N l (Nat.succ i) acc)
def CD {β:Type} :List Nat->(List Nat->β)->β
 |[],K=>K []|k::l,K=>fz k fun k=>CD l fun l=>K (k::l)
def Pm (ops:List Oper):List Nat->List (Nat×Oper)
 |[]=>[]|i::l=>match ops[i]? with
  |some o=>(i,o)::Pm ops l|none=>Pm ops l
theorem V4 {ops:List Oper} :∀ {l:List Nat} {x:Nat×Oper},x∈Pm ops l->ops[x.1]? =some x.2
 |[],_,h=>by cases h
 |i::l,x,h=>by
  simp only [Pm]at h;split at h
  ·rename_i o ho;rcases mem_cons.1 h with rfl|h
   ·exact ho
   ·exact V4 h
  ·exact V4 h
def CE (f:Oper->Bool):List (Nat×Oper)->Bool
 |[]=>false|x::l=>t8 (f x.2) true (CE f l)
theorem ZH {f:Oper->Bool} :∀ {l:List (Nat×Oper)} {x:Nat×Oper},CE f l=false->x∈l->f x.2=false
 |[],_,_,h=>by cases h
 |y::l,x,h,hx=>by
  simp only [CE,BU]at h;cases hf:f y.2 with
  |true=>rw [hf]at h;cases h
  |false=>
   rw [hf]at h;rcases mem_cons.1 hx with rfl|hx
   ·exact hf
   ·exact ZH h hx
def CF (f:Nat×Oper->Bool):List (Nat×Oper)->Bool
 |[]=>false|x::l=>t8 (f x) true (CF f l)
theorem ZI {f:Nat×Oper->Bool} :∀ {l:List (Nat×Oper)} {x:Nat×Oper},CF f l=false->x∈l->f x=false
 |[],_,_,h=>by cases h
 |y::l,x,h,hx=>by
  simp only [CF,BU]at h;cases hf:f y with
  |true=>rw [hf]at h;cases h
  |false=>
   rw [hf]at h;rcases mem_cons.1 hx with rfl|hx
   ·exact hf
   ·exact ZI h hx
structure yO where
 A:Nat
 j8:List (Nat×Oper)
 F:Nat
 ld:Bool
 al:Bool
def JY (ops:Array Oper):Option yO:=fz (BX ops.toList) fun A=>CD (JX A ops.size ops.toList 0 0) fun order=>
 match yL ops A (Pm ops.toList order) 0 0 0 0 0 with
 |some (B,F)=>cond (Nat.beq B (Nat.sub (shiftLeft 1 ops.size) 1)) (some ⟨A,Pm ops.toList order,F,CF (fun x=>an (Wr x.2) (no (V3 F x.1))) (Pm ops.toList order),CE Gd (Pm ops.toList order)⟩) none
 |none=>none
structure JZ (ops:Array Oper) (g:yO):Prop where
 A:g.A=BX ops.toList
 at_:∀x∈g.j8,ops.toList[x.1]? =some x.2
 has:∀i,i<ops.size->∃x∈g.j8,x.1=i
 yM:∀(q:Nat) y,g.j8[q]? =some y->B_ ops g.A (g.j8.take q) y
 fix:∀(p q:Nat) (x y:Nat×Oper),g.j8[p]? =some x->g.j8[q]? =some y->V3 g.F x.1=true->H4 y.2=true->(q<p->gg g.A y.1 x.1=true)/\(p<q->Jj y.2=true->gg g.A x.1 y.1=true)
 ld:g.ld=false->∀x∈g.j8,Wr x.2=true->V3 g.F x.1=true
 al:g.al=false->∀x∈g.j8,Gd x.2=false
theorem ZJ {β:Type} :∀(l:List Nat) (K:List Nat->β),CD l K=K l
 |[],_=>rfl
 |k::l,K=>by simp only [CD,yI,ZJ l]
theorem Att {ops:Array Oper} {g:yO} (h:JY ops=some g):JZ ops g:=by
 unfold JY at h;rw [yI,ZJ]at h;split at h
 case h_2=>cases h
 rename_i B F hk;cases hb:Nat.beq B (Nat.sub (shiftLeft 1 ops.size) 1)with
 |false=>rw [hb]at h;cases h
 |true=>
  rw [hb]at h;cases h
  have hB:B=1<<<ops.size-1:=eq_of_beq_eq_true hb;obtain⟨W',R',M',hI⟩:=ZE _ [] 0 0 0 0 0 B F ⟨by simp,by simp,by simp,by simp,by simp,by simp,by simp,by simp⟩ hk;rw [List.nil_append]at hI;refine⟨rfl,fun x hx=>V4 hx,fun i hi=> ?_,hI.yM,fun p q x y hp hq hF hm=>hI.f p q x y hp hq (by rw [←Ud];exact hF) hm,fun hl x hx hs=> ?_,fun ha x hx=>ZH ha hx⟩
  ·refine hI.b' i ?_;rw [hB,Nat.shiftLeft_eq,Nat.one_mul,Nat.testBit_two_pow_sub_one];exact decide_eq_true hi
  ·have:=ZI hl hx;rw [hs,Pk,yJ,Bool.true_and,Bool.not_eq_false']at this;exact this
variable {R:Type}
def Ug (P:Program) (tm:Tm) (M:Tr aA) (o:Oper):Option AV:=match o.op with
 | .load t x=>vw P tm t x M some| .convert s d x=>match cW tm x with
  |some (.slice ..)=>BL P tm s d x M|_=>Ji P tm o
 |_=>Ji P tm o
theorem Atu {P:Program} {tm:Tm} {M:Tr aA} {n:Nat} {o:Oper} {av:AV} (h:Ug P tm M o=some av):fT P tm o M n av M n:=by
 unfold Ug at h;split at h
 ·rename_i t x ho;obtain⟨I3,h1,h2⟩:=IL (n:=n) ho h;cases h1
  exact h2
 ·rename_i s d x ho;split at h
  ·exact XM ho h
  ·exact fT.pure (Pd h)
 ·exact fT.pure (Pd h)
theorem Aql {P:Program} {tm:Tm} {M M':Tr aA} {o:Oper} (hl:Wq tm o=false):Ug P tm M o=Ug P tm M' o:=by
 unfold Ug;unfold Wq at hl;split
 ·rename_i ho;rw [ho]at hl;cases hl
 ·rename_i ho;rw [ho]at hl;split
  ·rename_i h;simp only [h]at hl;cases hl
  ·rfl
 ·rfl
def Pn (P:Program) (tm:Tm) (M:Tr aA) (o:Oper) (av:AV):Prop:=Ug P tm M o=some av\/L8 P tm o av
theorem Pn.ok {P:Program} {tm:Tm} {M:Tr aA} {n:Nat} {o:Oper} {av:AV} (h:Pn P tm M o av):fT P tm o M n av M n:=h.elim Atu fT.pure
theorem Pn.any {P:Program} {tm:Tm} {M M':Tr aA} {o:Oper} {av:AV} (hl:Wq tm o=false) (h:Pn P tm M o av):Pn P tm M' o av:=h.imp (fun h=>by rw [Aql (M':=M) hl];exact h) id
abbrev yP (R:Type):Type:=Tm->Tr aA->(AV->Option R)->Option R
def Az8 (f:i5 R):yP R:=fun tm _ K=>f tm K
def CG (P:Program) (o:Oper):yP R:=fun tm M K=>match Ug P tm M o with
 |some av=>fO o av K|none=>none
def Az9 (gx:Tm->Option AV):yP R:=fun tm M K=>vK (gx tm) fun b k=>oK ((Tr.gB b).get M) fun x=>BT x fun l _=>oK ((vL k).get l) K
def CH (P:Program) (o:Oper):Bx (yP R):=match BR P o with
 |some q=>b1 Az8 q|none=>match o.op with
  | .load t x=>match rz P t with
   |some false=>b1 Az9 (dv x)|_=>⟨CG P o⟩
  |_=>⟨CG P o⟩
theorem ZK {P:Program} {o:Oper} {tm:Tm} {M:Tr aA} {K:AV->Option R} {r:R} (h:CG P o tm M K=some r):∃av,K av=some r/\Pn P tm M o av:=by
 unfold CG at h;split at h
 ·rename_i av fw;rw [YM]at h;exact⟨av,h,.inl fw⟩
 ·cases h
theorem Atv {P:Program} {o:Oper} {tm:Tm} {M:Tr aA} {K:AV->Option R} {r:R} (h:(CH P o).get tm M K=some r):∃av,K av=some r/\Pn P tm M o av:=by
 unfold CH at h;split at h
 ·rename_i q hq;obtain⟨av,h1,h2⟩:=YI hq tm K r h;exact⟨av,h1,.inr h2⟩
 ·split at h
  ·rename_i t x ho;split at h
   ·rename_i ha;obtain⟨b,k,hx,h⟩:=P5 (show vK ((dv x).get tm) _=some r from h);obtain⟨y,hb,h⟩:=B0 h;obtain⟨l,rw,rfl,h⟩:=Pj h;obtain⟨av,hk,h⟩:=B0 h;rw [Ef]at hx;rw [Yb]at hk;refine⟨av,h,.inl ?_⟩;have hb:M.get b=some (.cells l rw):=hb;unfold Ug;rw [ho];simp only [vw,hx,hb,ha,hk]
   ·exact ZK h
  ·exact ZK h
abbrev yQ (R:Type):Type:=Tm->(List AV->(Nat->AV)->Option R)->Option R
def yR (P:Program) (o:Oper):yQ R:=fun tm K=>match Nd P tm o with
 |some (z,f)=>fL z fun z=>K z f
 |none=>none
def Baa (z:List AV):yQ R:=fun _ K=>K z fun n=> .ptr n 0
def Baz (gx:Tm->Option AV):yQ R:=fun tm K=>oK (gx tm) fun a=>eV (a1 a) (K [a] fun n=> .ptr n 0) (fL a.cells fun l=>K l fun n=> .ptr n 0)
def CI (P:Program) (o:Oper):Bx (yQ R):=match o.op with
 | .alloc t=>match Ko P t with
  |some z=>match qm z some with
   |some z=>⟨Baa z⟩|none=>⟨yR P o⟩
  |none=>⟨yR P o⟩
 | .box _ x=>b1 Baz (dv x)|_=>⟨yR P o⟩
theorem Av3 {P:Program} {o:Oper} {tm:Tm} {K:List AV->(Nat->AV)->Option R} {r:R} (h:(CI P o).get tm K=some r):∃z f,Nd P tm o=some (z,f)/\K z f=some r:=by
 have t1:yR P o tm K=some r->∃z f,Nd P tm o=some (z,f)/\K z f=some r:=by
  intro h;unfold yR at h;split at h
  ·rename_i z f hz;rw [Qq]at h;exact⟨z,f,hz,h⟩
  ·cases h
 unfold CI at h;split at h
 ·rename_i t ho;split at h
  ·rename_i z hz;rw [yx]at h;exact⟨z,_,by unfold Nd;rw [ho];simp only [hz],h⟩
  ·exact t1 h
 ·rename_i t x ho;obtain⟨a,hx,h⟩:=B0 (show oK ((dv x).get tm) _=some r from h);rw [Ef]at hx;refine⟨a.cells,_,by unfold Nd;rw [ho];simp only [hx];rfl,?_⟩;cases h1:a1 a with
  |true=>rw [h1]at h;rw [(JJ h1).2];exact h
  |false=>
   rw [h1]at h;have h:fL a.cells _=some r:=h;rw [Qq]at h;exact h
 ·exact t1 h
def J_:Value->Value->Bool
 | .int k n,.int k' n'=>decide (k=k')&&decide (n=n')| .bool a,.bool b=>decide (a=b)| .string ⟨⟨s⟩⟩,.string ⟨⟨t⟩⟩=>decide (s=t)| .pointer none,.pointer none=>true| .slice none a b,.slice none c d=>Nat.beq a c&&Nat.beq b d| .map none,.map none=>true| .nilFunc,.nilFunc=>true| .nilIface,.nilIface=>true|_,_=>false
theorem Aty {v u:Value} (h:J_ v u=true):v=u:=by
 unfold J_ at h;split at h<;>simp_all
def CJ:AV->AV->Bool
 | .lit v,.lit u=>J_ v u| .ptr b o,.ptr c p=>Nat.beq b c&&Nat.beq o p| .slice b o n sz c x,.slice b' o' n' KA c' x'=>Nat.beq b b'&&Nat.beq o o'&&Nat.beq n n'&&Nat.beq sz KA&&Nat.beq c c'&&decide (x=x')| .map b,.map c=>Nat.beq b c| .qi k lo hi,.qi k' BH fh=>decide (k=k')&&decide (lo=BH)&&decide (hi=fh)| .same i k lo hi,.same i' k' BH fh=>Nat.beq i i'&&decide (k=k')&&decide (lo=BH)&&decide (hi=fh)| .pn,.pn=>true|_,_=>false
theorem ZL {v u:AV} (h:CJ v u=true):v=u:=by
 unfold CJ at h;split at h
 ·rw [Aty h]
 ·simp only [and_eq_true]at h;rw [eq_of_beq_eq_true h.1,eq_of_beq_eq_true h.2]
 ·simp only [and_eq_true,decide_eq_true_eq]at h;obtain⟨⟨⟨⟨⟨h1,h2⟩,h3⟩,h4⟩,h5⟩,h6⟩:=h;rw [eq_of_beq_eq_true h1,eq_of_beq_eq_true h2,eq_of_beq_eq_true h3,eq_of_beq_eq_true h4,eq_of_beq_eq_true h5,h6]
 ·rw [eq_of_beq_eq_true h]
 ·simp only [and_eq_true,decide_eq_true_eq]at h;rw [h.1.1,h.1.2,h.2]
 ·simp only [and_eq_true,decide_eq_true_eq]at h;rw [eq_of_beq_eq_true h.1.1.1,h.1.1.2,h.1.2,h.2]
 ·rfl
 ·cases h
def vQ:List AV->List AV->Bool
 |[],[]=>true|a::l,b::m=>CJ a b&&vQ l m|_,_=>false
theorem ZM:∀ {l m:List AV},vQ l m=true->l=m
 |[],[],_=>rfl
 |a::l,b::m,h=>by simp only [vQ,and_eq_true]at h;rw [ZL h.1,ZM h.2]
 |[],_::_,h=>by simp [vQ]at h
 |_::_,[],h=>by simp [vQ]at h
def same:AV->AV->Bool
 | .agg l,.agg m=>vQ l m|a,b=>CJ a b
theorem Av4 {v u:AV} (h:same v u=true):v=u:=by
 unfold same at h;split at h
 ·rw [ZM h]
 ·exact ZL h
structure Rc where
 i:Nat
 o:Oper
 tm:Tm
 av:AV
 z:List AV
 s:Nat
 w:Bool
def Rc.mem (x:Rc):Bool:=x.w&&H4 x.o
def Rc.ic (x:Rc):Bool:=x.w&&H4 x.o&& !Gd x.o
def Rc.alloc (x:Rc):Bool:=x.w&&H4 x.o&&Gd x.o
theorem Rc.KB {x:Rc} (h:x.mem=true):x.ic=true\/x.alloc=true:=by
 unfold Rc.mem at h;unfold Rc.ic Rc.alloc;rw [h];cases Gd x.o<;>simp
theorem Rc.yS {x:Rc} (h:x.ic=true):x.mem=true:=by unfold Rc.ic at h;unfold Rc.mem;simp_all
theorem Rc.sL {x:Rc} (h:x.alloc=true):x.mem=true:=by unfold Rc.alloc at h;unfold Rc.mem;simp_all
theorem Rc.Bkm {x:Rc} (h:x.ic=true) (k:x.alloc=true):False:=by unfold Rc.ic at h;unfold Rc.alloc at k;simp_all
abbrev Fw:Type:=Tr aA×Nat
abbrev Kq (R:Type):Type:=Bq R->Nat->Tm->Tr aA->Nat->Nat->List Rc->List Fw->(Tm->List Rc->List Fw->Option R)->Option R
def Cf:Kq R:=fun _ _ tm _ _ _ recs eW K=>K tm recs eW
def ZN (i:Nat) (o:Oper) (p:t7 R) (g:Kq R):Kq R:=fun call n0 tm M n s recs eW K=>p tm (.lit undef) fun bc=>g call n0 bc M n s (⟨i,o,tm,.lit undef,[],s,false⟩::recs) eW K
def Bab (i:Nat) (o:Oper) (c:yP R) (p:t7 R) (g:Kq R):Kq R:=fun call n0 tm M n s recs eW K=>c tm M fun av=>p tm av fun bc=>g call n0 bc M n s (⟨i,o,tm,av,[],s,true⟩::recs) eW K
def Ba0 (i:Nat) (o:Oper) (c:yQ R) (p:t7 R) (g:Kq R):Kq R:=fun call n0 tm M n s recs eW K=>c tm fun z f=>fN (Nat.add n0 i) fun b=>jH (Tr.sB b) fun q=>q M (some (.cells z true)) fun M'=>fA (f b) fun av=>p tm av fun bc=>fN (Nat.succ s) fun s'=>g call n0 bc M' n s' (⟨i,o,tm,av,z,s,true⟩::recs) ((M',n)::eW) K
def Bac (i:Nat) (o:Oper) (f:nH R) (p:t7 R) (g:Kq R):Kq R:=fun call n0 tm M n s recs eW K=>f call tm M n fun av M' n'=>p tm av fun bc=>fN (Nat.succ s) fun s'=>g call n0 bc M' n' s' (⟨i,o,tm,av,[],s,true⟩::recs) ((M',n')::eW) K
def Ba1 (q:Tm->Option R->Option R->Option R) (f g:Kq R):Kq R:=fun call n0 tm M n s recs eW K=>q tm (f call n0 tm M n s recs eW K) (g call n0 tm M n s recs eW K)
def CK (P:Program) (sz:Nat) (i:Nat) (o:Oper) (g:Bx (Kq R)):Bx (Kq R):=cond (t_ o) (b3 (Bab i o) (CH P o) (V2 sz o.dst) g) (cond (Gd o) (b3 (Ba0 i o) (CI P o) (V2 sz o.dst) g) (b3 (Bac i o) (sK P o) (V2 sz o.dst) g))
def Nr (P:Program) (sz:Nat) (ops:Array Oper):List (Nat×Oper)->Bx (Kq R)
 |[]=>⟨Cf⟩|(i,o)::rest=>match o.guard with
  |none=>CK P sz i o (Nr P sz ops rest)|some _=>b3 Ba1 (vN ops o) (CK P sz i o (Nr P sz ops rest)) (b2 (ZN i o) (V2 sz o.dst) (Nr P sz ops rest))
def Ep (l:List Rc):Nat:=(l.filter Rc.mem).length
structure Po (P:Program) (sz:Nat) (ops:Array Oper) (nb:Nat) (ie:Tm) (M0:Tr aA) (n0:Nat) (l:List Rc) (tm:Tm) (ss:List Fw):Prop where
 first:ss[0]? =some (M0,n0)
 len:ss.length=Ep l+1
 lF:∀(i:Nat) (x:Rc),l[i]? =some x->x.s=Ep (l.take i)
 want:∀(i:Nat) (x:Rc),l[i]? =some x->Fq ops x.o x.tm=some x.w
 no:∀(i:Nat) (x:Rc),l[i]? =some x->x.w=false->x.av= .lit undef
 calm:∀(i:Nat) (x:Rc),l[i]? =some x->x.w=true->t_ x.o=true->∃m:Fw,ss[x.s]? =some m/\Pn P x.tm m.1 x.o x.av
 ic:∀(i:Nat) (x:Rc),l[i]? =some x->x.ic=true->∃m m':Fw,ss[x.s]? =some m/\ss[x.s+1]? =some m'/\fT P x.tm x.o m.1 m.2 x.av m'.1 m'.2
 alloc:∀(i:Nat) (x:Rc),l[i]? =some x->x.alloc=true->∃(m m':Fw) (f:Nat->AV),ss[x.s]? =some m/\ss[x.s+1]? =some m'/\R0 P x.tm x.o x.z f/\x.av=f (nb+x.i)/\(∀j,m'.1.get j=if j=nb+x.i then some (.cells x.z true)else m.1.get j)/\m'.2=m.2
 ZO:∀(i:Nat) (x:Rc),l[i]? =some x->∀t,x.tm.get t=(match((l.take i).reverse.find? fun y=>y.o.dst==some t)with|some y=>some y.av|none=>ie.get t)
 tm:∀t,tm.get t=(match(l.reverse.find? fun y=>y.o.dst==some t)with|some y=>some y.av|none=>ie.get t)
 fits:∀(i:Nat) (x:Rc),l[i]? =some x->∀d,x.o.dst=some d->d<sz
theorem Atz {sz:Nat} {tm:Tm} {d:Option Nat} {av:AV} {K:Tm->Option R} {r:R} (h:rn sz tm d av K=some r):∃bc,K bc=some r/\(∀t,bc.get t=if d=some t then some av else tm.get t)/\∀t,d=some t->t<sz:=by
 unfold rn at h;split at h
 ·exact⟨tm,h,fun t=>by simp,nofun⟩
 ·rename_i d;cases hc:ble (d+1) sz with
  |false=>rw [hc]at h;cases h
  |true=>
   rw [hc]at h;obtain⟨bc,h1,h2⟩:=Tm.Iw h;refine⟨bc,h1,fun t=> ?_,fun t ht=>by cases ht;exact le_of_ble_eq_true hc⟩;rw [h2];by_cases e:t=d
   ·subst e;simp
   ·rw [if_neg e,if_neg (fun h=>e (Option.some.inj h).symm)]
theorem Ju (l:List Rc) (x:Rc):Ep (l++[x])=Ep l+(if x.mem then 1 else 0):=by
 unfold Ep;rw [List.filter_append,length_append];cases hx:x.mem<;>simp [hx]
theorem Nh {P:Program} {sz:Nat} {ops:Array Oper} {nb:Nat} {ie tm bc:Tm} {M0:Tr aA} {n0:Nat} {l:List Rc} {ss vR:List Fw} {i0:Nat} {o:Oper} {av:AV} {z:List AV} {w:Bool} (h:Po P sz ops nb ie M0 n0 l tm ss)
 (hw:Fq ops o tm=some w) (bV:w=false->av= .lit undef) (gM:∀t,bc.get t=if o.dst=some t then some av else tm.get t) (rB:∀t,o.dst=some t->t<sz)
 (hs:(w&&H4 o)=false/\vR=ss\/(w&&H4 o)=true/\∃m m',ss[Ep l]? =some m/\vR=ss++[m']/\(Gd o=false/\fT P tm o m.1 m.2 av m'.1 m'.2\/
 Gd o=true/\∃f:Nat->AV,R0 P tm o z f/\av=f (nb+i0)/\(∀j,m'.1.get j=if j=nb+i0 then some (.cells z true)else m.1.get j)/\m'.2=m.2))
 (CL:w=true->t_ o=true->∃m:Fw,ss[Ep l]? =some m/\Pn P tm m.1 o av):
 Po P sz ops nb ie M0 n0 (l++[⟨i0,o,tm,av,z,Ep l,w⟩]) bc vR:=by
 have db:∀(i:Nat) (m:Fw),ss[i]? =some m->vR[i]? =some m:=by
  intro i m hi;rcases hs with⟨_,rfl⟩|⟨_,_,m',_,rfl,_⟩
  ·exact hi
  ·rw [List.getElem?_append_left (List.getElem?_eq_some_iff.1 hi).1];exact hi
 have snoc:∀ {i:Nat} {x:Rc},(l++[(⟨i0,o,tm,av,z,Ep l,w⟩:Rc)])[i]? =some x->(l[i]? =some x/\(l++[(⟨i0,o,tm,av,z,Ep l,w⟩:Rc)]).take i=l.take i)\/(x=⟨i0,o,tm,av,z,Ep l,w⟩/\(l++[(⟨i0,o,tm,av,z,Ep l,w⟩:Rc)]).take i=l):=by
  intro i x hi;rcases lt_or_ge i l.length with aE|jf
  ·rw [List.getElem?_append_left aE]at hi;exact .inl ⟨hi,List.take_append_of_le_length (Nat.le_of_lt aE)⟩
  ·rw [List.getElem?_append_right jf]at hi;have h0:i-l.length=0:=by
    have:=(List.getElem?_eq_some_iff.1 hi).1;simp at this;omega
   rw [h0]at hi;have:i=l.length:=by omega
   subst this;exact .inr ⟨by simpa using hi.symm,List.take_left' rfl⟩
 have CM:∀ {m':Fw},vR=ss++[m']->vR[Ep l+1]? =some m':=by
  intro m' e;rw [e,List.getElem?_append_right (by rw [h.len];exact le_refl _),h.len];simp
 refine⟨db 0 _ h.first,?_,fun i x hi=> ?_,fun i x hi=> ?_,fun i x hi=> ?_,fun i x hi=> ?_,fun i x hi=> ?_,fun i x hi=> ?_,fun i x hi=> ?_,fun t=> ?_,fun i x hi=> ?_⟩
 ·rw [Ju];rcases hs with⟨h1,rfl⟩|⟨h1,_,m',_,rfl,_⟩
  ·rw [if_neg (by unfold Rc.mem;simp [h1])];exact h.len
  ·rw [if_pos (by unfold Rc.mem;exact h1),length_append,h.len];rfl
 ·rcases snoc hi with⟨g1,g2⟩|⟨rfl,g2⟩
  ·rw [g2];exact h.lF i x g1
  ·rw [g2]
 ·rcases snoc hi with⟨g1,g2⟩|⟨rfl,g2⟩
  ·exact h.want i x g1
  ·exact hw
 ·rcases snoc hi with⟨g1,g2⟩|⟨rfl,g2⟩
  ·exact h.no i x g1
  ·exact bV
 ·rcases snoc hi with⟨g1,g2⟩|⟨rfl,g2⟩
  ·intro e1 e2;obtain⟨m,k1,k2⟩:=h.calm i x g1 e1 e2;exact⟨m,db _ _ k1,k2⟩
  ·intro e1 e2;obtain⟨m,k1,k2⟩:=CL e1 e2;exact⟨m,db _ _ k1,k2⟩
 ·rcases snoc hi with⟨g1,g2⟩|⟨rfl,g2⟩
  ·intro e1;obtain⟨m,m',k1,k2,k3⟩:=h.ic i x g1 e1;exact⟨m,m',db _ _ k1,db _ _ k2,k3⟩
  ·intro e1;have e0:(w&&H4 o)=true:=Rc.yS e1;have e2:Gd o=false:=by unfold Rc.ic at e1;simp at e1;exact e1.2
   rcases hs with⟨h1,_⟩|⟨_,m,m',k1,KC,k3⟩
   ·rw [h1]at e0;cases e0
   ·rcases k3 with⟨_,k3⟩|⟨k3,_⟩
    ·exact⟨m,m',db _ _ k1,CM KC,k3⟩
    ·rw [e2]at k3;cases k3
 ·rcases snoc hi with⟨g1,g2⟩|⟨rfl,g2⟩
  ·intro e1;obtain⟨m,m',f,k1,k2,k3⟩:=h.alloc i x g1 e1;exact⟨m,m',f,db _ _ k1,db _ _ k2,k3⟩
  ·intro e1;have e0:(w&&H4 o)=true:=Rc.sL e1;have e2:Gd o=true:=by unfold Rc.alloc at e1;simp at e1;exact e1.2
   rcases hs with⟨h1,_⟩|⟨_,m,m',k1,KC,k3⟩
   ·rw [h1]at e0;cases e0
   ·rcases k3 with⟨k3,_⟩|⟨_,f,k3⟩
    ·rw [e2]at k3;cases k3
    ·exact⟨m,m',f,db _ _ k1,CM KC,k3⟩
 ·rcases snoc hi with⟨g1,g2⟩|⟨rfl,g2⟩
  ·rw [g2];exact h.ZO i x g1
  ·rw [g2];exact h.tm
 ·rw [gM,List.reverse_append];simp only [List.reverse_cons,List.reverse_nil,List.nil_append,List.singleton_append,List.find?_cons];by_cases e:o.dst=some t
  ·simp [e]
  ·have:(o.dst==some t)=false:=by simpa using e
   rw [if_neg e,this];exact h.tm t
 ·rcases snoc hi with⟨g1,g2⟩|⟨rfl,g2⟩
  ·exact h.fits i x g1
  ·exact rB
theorem Pp {P:Program} {call:Bq R} (dP:Eo P call) {sz:Nat} {ops:Array Oper} {nb:Nat} {ie:Tm} {M0:Tr aA} {n0:Nat} {K:Tm->List Rc->List Fw->Option R} {r:R} :∀ {rest:List (Nat×Oper)} {tm:Tm} {M:Tr aA} {n s:Nat} {recs:List Rc} {eW:List Fw},(Nr P sz ops rest).get call nb tm M n s recs eW K=some r->
 Po P sz ops nb ie M0 n0 recs.reverse tm eW.reverse->s=Ep recs.reverse->eW.head? =some (M,n)->
 ∃bc px py,K bc px py=some r/\Po P sz ops nb ie M0 n0 px.reverse bc py.reverse/\px.reverse.map (fun x=>(x.i,x.o))=recs.reverse.map (fun x=>(x.i,x.o))++rest
 |[],tm,M,n,s,recs,eW,h,hp,hs,hh=>⟨tm,recs,eW,h,hp,by simp⟩
 |(i,o)::rest,tm,M,n,s,recs,eW,h,hp,hs,hh=>by
  have KD:eW.reverse[Ep recs.reverse]? =some (M,n):=by
   have h1:=hp.len;have h2:eW≠[]:=by intro e;rw [e]at hh;cases hh
   obtain⟨m,ms,rfl⟩:=List.exists_cons_of_ne_nil h2;simp only [List.head?_cons,Option.some.injEq]at hh;subst hh;simp only [List.reverse_cons,length_append,List.length_singleton]at h1⊢;rw [List.getElem?_append_right (by omega),show Ep recs.reverse-ms.reverse.length=0 by omega];rfl
  have kK:∀ {av:AV} {K':Tm->Option R},(V2 sz o.dst).get tm av K'=some r->∃bc,K' bc=some r/\(∀t,bc.get t=if o.dst=some t then some av else tm.get t)/\∀t,o.dst=some t->t<sz:=by
   intro av K' h;rw [JR]at h;exact Atz h
  have un:Fq ops o tm=some false->ZN i o (V2 sz o.dst).get (Nr P sz ops rest).get call nb tm M n s recs eW K=some r->∃bc px py,K bc px py=some r/\Po P sz ops nb ie M0 n0 px.reverse bc py.reverse/\px.reverse.map (fun x=>(x.i,x.o))=recs.reverse.map (fun x=>(x.i,x.o))++(i,o)::rest:=by
   intro hw h;obtain⟨bc,h1,h2,h3⟩:=kK h;have lI:=Nh (i0:=i) (z:=[]) hp hw (fun _=>rfl) h2 h3 (.inl ⟨rfl,rfl⟩) nofun;subst hs;obtain⟨pz,ue,uf,g1,g2,g3⟩:=Pp dP h1 (by simpa using lI) (by simp [Ju,Rc.mem]) hh;exact⟨pz,ue,uf,g1,g2,by rw [g3];simp⟩
  have yes:Fq ops o tm=some true->(CK P sz i o (Nr P sz ops rest)).get call nb tm M n s recs eW K=some r->∃bc px py,K bc px py=some r/\Po P sz ops nb ie M0 n0 px.reverse bc py.reverse/\px.reverse.map (fun x=>(x.i,x.o))=recs.reverse.map (fun x=>(x.i,x.o))++(i,o)::rest:=by
   intro hw h;unfold CK at h;cases hc:t_ o with
   |true=>
    rw [hc]at h;obtain⟨av,h,fw⟩:=Atv (show(CH P o).get tm M _=some r from h);obtain⟨bc,h1,h2,h3⟩:=kK h;have lI:=Nh (i0:=i) (z:=[]) (w:=true) hp hw nofun h2 h3 (.inl ⟨by simp [H4,no,hc],rfl⟩) (fun _ _=>⟨_,KD,fw⟩);subst hs;obtain⟨pz,ue,uf,g1,g2,g3⟩:=Pp dP h1 (by simpa using lI) (by simp [Ju,Rc.mem,H4,no,hc]) hh;exact⟨pz,ue,uf,g1,g2,by rw [g3];simp⟩
   |false=>
    rw [hc]at h;simp only [cond_false]at h;cases ha:Gd o with
    |true=>
     rw [ha]at h;obtain⟨z,f,hz,h⟩:=Av3 (show(CI P o).get tm _=some r from h);rw [Ei]at h;obtain⟨M',k1,k2⟩:=Tr.kG (f:=FU) (show Tr.jI FU M (nb+i) _ _=some r from h);rw [O8]at k1;obtain⟨bc,h1,h2,h3⟩:=kK k1;rw [Ei]at h1;have lI:=Nh (i0:=i) (z:=z) (w:=true) hp hw nofun h2 h3 (.inr ⟨by simp [H4,no,hc],(M,n),(M',n),KD,rfl,.inr ⟨ha,f,XC hz,rfl,k2,rfl⟩⟩) (fun _ e=>by rw [hc]at e;cases e);subst hs;obtain⟨pz,ue,uf,g1,g2,g3⟩:=Pp dP h1 (by simpa using lI) (by simp [Ju,Rc.mem,H4,no,hc]) rfl;exact⟨pz,ue,uf,g1,g2,by rw [g3];simp⟩
    |false=>
     rw [ha]at h;obtain⟨av,M',n',k1,k2⟩:=YS P o dP (show(sK P o).get call tm M n _=some r from h);obtain⟨bc,h1,h2,h3⟩:=kK k1;rw [Ei]at h1;have lI:=Nh (i0:=i) (z:=[]) (w:=true) hp hw nofun h2 h3 (.inr ⟨by simp [H4,no,hc],(M,n),(M',n'),KD,rfl,.inl ⟨ha,k2⟩⟩) (fun _ e=>by rw [hc]at e;cases e);subst hs;obtain⟨pz,ue,uf,g1,g2,g3⟩:=Pp dP h1 (by simpa using lI) (by simp [Ju,Rc.mem,H4,no,hc]) rfl;exact⟨pz,ue,uf,g1,g2,by rw [g3];simp⟩
  unfold Nr at h;split at h
  ·rename_i hg;exact yes (by unfold Fq;rw [hg]) h
  ·rename_i j hg;rcases YT (show(vN ops o).get tm _ _=some r from h)with⟨h1,h2⟩|⟨h1,h2⟩
   ·exact yes h1 h2
   ·exact un h1 h2
theorem Ayl {a b:Nat} (h:a<b):blt a b=true:=Nat.ble_eq_true_of_le h
theorem Aym {a b:Nat} (h:blt a b=true):a<b:=le_of_ble_eq_true h
def allI {α:Type} (f:Nat->α->Bool):List α->Nat->Bool
 |[],_=>true|x::l,i=>f i x&&allI f l (i+1)
theorem Uh {α:Type} {f:Nat->α->Bool} :∀ {l:List α} {i j:Nat} {x:α},allI f l i=true->l[j]? =some x->f (i+j) x=true
 |[],_,_,_,_,h=>by simp at h
 |y::l,i,0,x,h,hx=>by
  simp only [allI,and_eq_true]at h;simp only [List.getElem?_cons_zero,Option.some.injEq]at hx;subst hx;exact h.1
 |y::l,i,j+1,x,h,hx=>by
  simp only [allI,and_eq_true]at h;simp only [List.getElem?_cons_succ]at hx;rw [show i+(j+1)=i+1+j by omega];exact Uh h.2 hx
theorem ZP {α:Type} {f:Nat->α->Bool} :∀ {l:List α} {i:Nat},(∀(j:Nat) (x:α),l[j]? =some x->f (i+j) x=true)->allI f l i=true
 |[],_,_=>rfl
 |y::l,i,h=>by
  simp only [allI,and_eq_true];exact⟨h 0 y rfl,ZP fun j x hx=>by rw [show i+1+j=i+(j+1) by omega];exact h (j+1) x (by simpa using hx)⟩
def CN (A:Nat) (l:List Rc) (i s:Nat):Bool:=allI (fun _ y=>cond y.mem (cond (blt y.s s) (!gg A i y.i) (cond (Gd y.o) true (!gg A y.i i))) true) l 0
def vS (nb s:Nat) (A xi:Nat):List Rc->Tr aA->(Tr aA->Option R)->Option R
 |[],M,K=>K M|y::l,M,K=>cond (y.alloc&&ble s y.s&&gg A y.i xi) (fN (nb+y.i) fun b=>Tr.jI FU M b (some (.cells y.z true)) fun M'=>vS nb s A xi l M' K) (vS nb s A xi l M K)
theorem V5 {nb s A xi:Nat} {r:R} :∀ {l:List Rc} {M:Tr aA} {K:Tr aA->Option R},vS nb s A xi l M K=some r->
 ∃M',K M'=some r/\∀j x,M'.get j=some x->M.get j=some x\/∃y∈l,y.alloc=true/\s<=y.s/\gg A y.i xi=true/\j=nb+y.i/\x= .cells y.z true
 |[],M,K,h=>⟨M,h,fun _ _ h=> .inl h⟩
 |y::l,M,K,h=>by
  simp only [vS]at h;cases hc:(y.alloc&&ble s y.s&&gg A y.i xi)with
  |true=>
   rw [hc]at h;simp only [cond_true,Ei]at h;simp only [and_eq_true]at hc;obtain⟨M1,h1,h2⟩:=Tr.kG (f:=FU) h;obtain⟨M',h3,h4⟩:=V5 h1;refine⟨M',h3,fun j x hx=> ?_⟩;rcases h4 j x hx with g|⟨z,g1,g2⟩
   ·rw [h2]at g;split at g
    ·rename_i e;cases g
     exact .inr ⟨y,by simp,hc.1.1,le_of_ble_eq_true hc.1.2,hc.2,e,rfl⟩
    ·exact .inl g
   ·exact .inr ⟨z,by simp [g1],g2⟩
  |false=>
   rw [hc]at h;simp only [cond_false]at h;obtain⟨M',h3,h4⟩:=V5 h;refine⟨M',h3,fun j x hx=> ?_⟩;rcases h4 j x hx with g|⟨z,g1,g2⟩
   ·exact .inl g
   ·exact .inr ⟨z,by simp [g1],g2⟩
def KE (P:Program) (x:Rc) (M:Tr aA):Option Unit:=match Ug P x.tm M x.o with
 |some av=>cond (same av x.av) (some ()) none|none=>none
def ZQ {α:Type} :Option α->Bool
 |none=>true|some _=>false
theorem Ayn {α:Type} {o:Option α} (h:ZQ o=true):o=none:=by cases o;rfl;cases h
def KF {α:Type} :Option α->Bool
 |none=>false|some _=>true
theorem Ayo {α:Type} {o:Option α} (h:KF o=true):∃x,o=some x:=by cases o;cases h;exact⟨_,rfl⟩
def CO (k:Nat):List Fw->Bool
 |[]=>true|m::l=>an (ble k m.2) (CO k l)
theorem ZR {k:Nat} :∀ {l:List Fw} {m:Fw},CO k l=true->m∈l->k<=m.2
 |[],_,_,h=>by cases h
 |y::l,m,h,hm=>by
  simp only [CO,Pk,and_eq_true]at h;rcases mem_cons.1 hm with rfl|hm
  ·exact le_of_ble_eq_true h.1
  ·exact ZR h.2 hm
def Ayp (nb:Nat) (l:List Rc) (ss:List Fw):Bool:=allI (fun s m=>allI (fun _ y=>cond (y.alloc&&ble s y.s) (ZQ (m.1.get (nb+y.i))) true) l 0) ss 0
def Bad (P:Program) (nb A F:Nat) (l:List Rc) (ss:List Fw):Bool:=allI (fun _ x=>cond (x.w&&Wq x.tm x.o&& !V3 F x.i) (allI (fun s m=>cond (CN A l x.i s) (KF (vS nb s A x.i l m.1 (KE P x))) true) ss 0) true) l 0
def KG (P:Program) (nb N A F:Nat) (ld al:Bool) (recs:List Rc) (eW:List Fw):Bool:=an (CO (Nat.add nb N) eW) (an (t8 al (Ayp nb recs.reverse eW.reverse) true) (t8 ld (Bad P nb A F recs.reverse eW.reverse) true))
def KH (eW:List Fw) (K:Tr aA->Nat->Option R):Option R:=List.casesOn (motive:=fun _=>Option R) eW none (fun m _=>Prod.casesOn (motive:=fun _=>Option R) m K)
theorem Anh {eW:List Fw} {K:Tr aA->Nat->Option R} {r:R} (h:KH eW K=some r):∃M n l,eW=(M,n)::l/\K M n=some r:=by
 cases eW with
 |nil=>cases h
 |cons m l=>exact⟨m.1,m.2,l,rfl,h⟩
def vT (P:Program) (N A F:Nat) (ld al:Bool) (f:Kq R):pw R:=fun call tm M n K=>fN (Nat.add n N) fun n1=>f call n tm M n1 0 [] [(M,n1)] fun bc recs eW=>eV (KG P n N A F ld al recs eW) (KH eW fun M' n'=>K bc M' n') none
def Ws (P:Program) (sz:Nat) (ops:Array Oper):Bx (pw R):=cond (ops.toList.all Bu) (match JY ops with
 |some ⟨A,j8,F,ld,al⟩=>fz A fun A=>fz F fun F=>fz ops.size fun N=>match ld,al with
  |true,true=>b1 (vT P N A F true true) (Nr P sz ops j8)|true,false=>b1 (vT P N A F true false) (Nr P sz ops j8)|false,true=>b1 (vT P N A F false true) (Nr P sz ops j8)|false,false=>b1 (vT P N A F false false) (Nr P sz ops j8)
 |none=>⟨fun _ _ _ _ _=>none⟩) ⟨fun _ _ _ _ _=>none⟩
theorem Mc {l:List Rc} {i:Nat} {x:Rc} (h:l[i]? =some x):Ep (l.take (i+1))=Ep (l.take i)+(if x.mem then 1 else 0):=by
 rw [List.take_add_one,h];exact Ju _ _
theorem Jv (l:List Rc):∀ {i j:Nat},i<=j->Ep (l.take i)<=Ep (l.take j)
 |i,j,h=>by
  have:l.take i<+:l.take j:=List.take_prefix_take_left h;obtain⟨t,ht⟩:=this;rw [←ht];unfold Ep;rw [List.filter_append,length_append];omega
theorem KI {l:List Rc} {i:Nat} {x:Rc} (h:l[i]? =some x) (hx:x.mem=true):Ep (l.take i)<Ep l:=by
 have h1:=Mc h;rw [hx,if_pos rfl]at h1;have h2:=Jv l (i:=i+1) (j:=l.length) (List.getElem?_eq_some_iff.1 h).1;rw [take_length]at h2;omega
theorem Ui (l:List Rc):∀(i s:Nat),s<Ep (l.take i)->∃k x,k<i/\l[k]? =some x/\x.mem=true/\Ep (l.take k)=s
 |0,s,h=>by simp [Ep]at h
 |i+1,s,h=>by
  cases hx:l[i]? with
  |none=>
   have:l.take (i+1)=l.take i:=by rw [List.take_add_one,hx];simp
   rw [this]at h;obtain⟨k,x,h1,h2⟩:=Ui l i s h;exact⟨k,x,by omega,h2⟩
  |some x=>
   rw [Mc hx]at h;by_cases hs:s<Ep (l.take i)
   ·obtain⟨k,y,h1,h2⟩:=Ui l i s hs;exact⟨k,y,by omega,h2⟩
   ·cases hl:x.mem with
    |false=>rw [hl]at h;simp at h;omega
    |true=>rw [hl]at h;simp only [if_true]at h;exact⟨i,x,by omega,hx,hl,by omega⟩
theorem KJ {l:List Rc} {i k:Nat} {x y:Rc} (hi:l[i]? =some x) (hk:l[k]? =some y) (hx:x.mem=true) (hy:y.mem=true) (h:Ep (l.take i)=Ep (l.take k)):i=k:=by
 rcases Nat.lt_trichotomy i k with h'|h'|h'
 ·have h1:=Mc hi;rw [hx,if_pos rfl]at h1;have h2:=Jv l (i:=i+1) (j:=k) h';omega
 ·exact h'
 ·have h1:=Mc hk;rw [hy,if_pos rfl]at h1;have h2:=Jv l (i:=k+1) (j:=i) h';omega
section
variable {P:Program} {b0:Base} {d0:List Deferred} {sz nb:Nat} {ops:Array Oper} {ie bc:Tm} {M0:Tr aA} {n0:Nat} {l:List Rc} {ss:List Fw}
def CP (b0:Base) (nb:Nat) (l:List Rc) (L:Array Bool) (s:Nat) (e:Env) (m:Fw) (w:World):Prop:=∃F:Mm,(∀(k:Nat) (y:Rc),l[k]? =some y->y.alloc=true->L.getD y.i false=true->s<=y.s->F (nb+y.i)=some (.cells y.z true))/\(∀j,(∀(k:Nat) (y:Rc),l[k]? =some y->y.alloc=true->L.getD y.i false=true->s<=y.s->j≠nb+y.i)->F j=m.1.get j)/\Br b0 e F m.2 w
structure Uj (d0:List Deferred) (b0:Base) (sz nb:Nat) (ops:Array Oper) (ie:Tm) (l:List Rc) (ss:List Fw) (L:Array Bool) (s:Nat) (e:Env) (a:Act) (w:World):Prop where
 size:L.size=ops.size
 cl:Cl ops L
 low:∀(k:Nat) (y:Rc),l[k]? =some y->y.mem=true->y.s<s->L.getD y.i false=true
 high:∀(k:Nat) (y:Rc),l[k]? =some y->y.ic=true->L.getD y.i false=true->y.s<s
 le:s<=Ep l
 mem:∀m:Fw,ss[s]? =some m->CP b0 nb l L s e m w
 free:∀i,i<ops.size->L.getD i false=false->e (nb+i)=none
 sM:a.tmps.size=sz
 defers:a.defers=d0
 done:∀(k:Nat) (y:Rc) (t:Nat),l[k]? =some y->y.o.dst=some t->L.getD y.i false=true->y.av.rep e (a.tmps.getD t undef)
 old:∀(t:Nat) (av:AV),ie.get t=some av->(∀(k:Nat) (y:Rc),l[k]? =some y->y.o.dst=some t->L.getD y.i false=false)->t<sz/\av.rep e (a.tmps.getD t undef)
theorem Uj.Bnl (hp:Po P sz ops nb ie M0 n0 l bc ss) {L:Array Bool} {s:Nat} {e:Env} {a:Act} {w:World} (hD:Uj d0 b0 sz nb ops ie l ss L s e a w) {k:Nat} {y:Rc} (hk:l[k]? =some y) (hy:y.alloc=true) (hs:y.s=s) (hL:L.getD y.i false=true):Uj d0 b0 sz nb ops ie l ss L (s+1) e a w:=by
 obtain⟨m,m',f,k1,k2,_,_,k5,k6⟩:=hp.alloc k y hk hy;rw [hs]at k1 k2;have one:∀ {k':Nat} {y':Rc},l[k']? =some y'->y'.mem=true->y'.s=s->y'=y:=by
  intro k' y' h h1 h2;have:=KJ h hk h1 (Rc.sL hy) (by rw [←hp.lF k' y' h,←hp.lF k y hk,h2,hs]);subst this;rw [hk]at h;cases h;rfl
 refine⟨hD.size,hD.cl,fun k' y' h h1 h2=> ?_,fun k' y' h h1 h2=> ?_,?_,fun m2 lY=> ?_,hD.free,hD.sM,hD.defers,hD.done,hD.old⟩
 ·by_cases h3:y'.s=s
  ·rw [one h h1 h3];exact hL
  ·exact hD.low k' y' h h1 (by omega)
 ·have:=hD.high k' y' h h1 h2;omega
 ·have:=KI hk (Rc.sL hy);rw [←hp.lF k y hk,hs]at this;exact this
 ·rw [k2]at lY;cases lY
  obtain⟨F,f1,f2,f3⟩:=hD.mem m k1;refine⟨F,fun k' y' h h1 h2 h3=>f1 k' y' h h1 h2 (by omega),fun j hj=> ?_,by rw [k6];exact f3⟩;rw [k5];split
  ·rename_i e;subst e;exact f1 k y hk hy hL (by omega)
  ·rename_i e;refine f2 j fun k' y' h h1 h2 h3=> ?_
   by_cases h4:y'.s=s
   ·rw [one h (Rc.sL h1) h4];exact e
   ·exact hj k' y' h h1 h2 (by omega)
theorem Wt {l:List Rc} {t:Nat} {y:Rc} (h:(l.reverse.find? fun y=>y.o.dst==some t)=some y):∃k:Nat,l[k]? =some y/\k<l.length/\y.o.dst=some t:=by
 have h1:=List.mem_of_find?_eq_some h;have h2:=List.find?_some h;obtain⟨k,hk,rfl⟩:=List.mem_iff_getElem.1 (List.mem_reverse.1 h1);exact⟨k,by simp [hk],hk,by simpa using h2⟩
theorem Wu {l:List Rc} {t:Nat} (h:(l.reverse.find? fun y=>y.o.dst==some t)=none):∀(k:Nat) (y:Rc),l[k]? =some y->y.o.dst≠some t:=by
 intro k y hk e;have:=List.find?_eq_none.1 h y (List.mem_reverse.2 (mem_of_getElem? hk));simp [e]at this
theorem At3 (hp:Po P sz ops nb ie M0 n0 l bc ss):∀(d:Nat) {s t:Nat} {m m':Fw},s+d=t->ss[s]? =some m->ss[t]? =some m'->(∀(k:Nat) (y:Rc),l[k]? =some y->y.mem=true->s<=y.s->y.s<t->y.alloc=true)->∀j z,m'.1.get j=some z->(∃(k:Nat) (y:Rc),l[k]? =some y/\y.alloc=true/\s<=y.s/\y.s<t/\j=nb+y.i/\z= .cells y.z true)\/m.1.get j=some z:=by
 intro d
 induction d with
 |zero=>
  intro s t m m' dh hm iU _ j z hz;rw [Nat.add_zero]at dh;subst dh;rw [hm]at iU;cases iU;exact .inr hz
 |succ d ih=>
  intro s t m m' dh hm iU gU j z hz;have ht:t<ss.length:=(List.getElem?_eq_some_iff.1 iU).1;rw [hp.len]at ht;obtain⟨k,y,g1,g2,g3,g4⟩:=Ui l l.length (t-1) (by rw [take_length];omega);have yT:y.s=t-1:=by rw [hp.lF k y g2,g4]
  have yU:=gU k y g2 g3 (by omega) (by omega);obtain⟨m1,m2,f,k1,k2,_,_,k5,_⟩:=hp.alloc k y g2 yU;rw [yT]at k1 k2;rw [show t-1+1=t by omega,iU]at k2;cases k2
  rw [k5]at hz;split at hz
  ·rename_i hj;cases hz
   exact .inl ⟨k,y,g2,yU,by omega,by omega,hj,rfl⟩
  ·rcases ih (t:=t-1) (by omega) hm k1 (fun k y hk hy h1 h2=>gU k y hk hy h1 (by omega)) j z hz with⟨k',y',q1,q2,q3,q4,q5,q6⟩|q
   ·exact .inl ⟨k',y',q1,q2,q3,by omega,q5,q6⟩
   ·exact .inr q
theorem Aqn (hp:Po P sz ops nb ie M0 n0 l bc ss):∀(d:Nat) {s t:Nat} {m m':Fw},s+d=t->ss[s]? =some m->ss[t]? =some m'->(∀(k:Nat) (y:Rc),l[k]? =some y->y.mem=true->s<=y.s->y.s<t->y.alloc=true)->∀j z,m.1.get j=some z->(∀(k:Nat) (y:Rc),l[k]? =some y->y.alloc=true->s<=y.s->y.s<t->j≠nb+y.i)->m'.1.get j=some z:=by
 intro d
 induction d with
 |zero=>
  intro s t m m' dh hm iU _ j z hz _;rw [Nat.add_zero]at dh;subst dh;rw [hm]at iU;cases iU;exact hz
 |succ d ih=>
  intro s t m m' dh hm iU gU j z hz bA;have ht:t<ss.length:=(List.getElem?_eq_some_iff.1 iU).1;rw [hp.len]at ht;obtain⟨k,y,g1,g2,g3,g4⟩:=Ui l l.length (t-1) (by rw [take_length];omega);have yT:y.s=t-1:=by rw [hp.lF k y g2,g4]
  have yU:=gU k y g2 g3 (by omega) (by omega);obtain⟨m1,m2,f,k1,k2,_,_,k5,_⟩:=hp.alloc k y g2 yU;rw [yT]at k1 k2;rw [show t-1+1=t by omega,iU]at k2;cases k2
  rw [k5,if_neg (bA k y g2 yU (by omega) (by omega))];exact ih (t:=t-1) (by omega) hm k1 (fun k y hk hy h1 h2=>gU k y hk hy h1 (by omega)) j z hz (fun k y hk hy h1 h2=>bA k y hk hy h1 (by omega))
theorem At4 {g:yO} (hg:JZ ops g) {A:Nat} (KK:g.A=A) (hp:Po P sz ops nb ie M0 n0 l bc ss) (hl:l.map (fun x=>(x.i,x.o))=g.j8) (ra:∀ {s:Nat} {m:Fw},ss[s]? =some m->nb+ops.size<=m.2) (KM:∀ {s:Nat} {m:Fw} {k:Nat} {y:Rc},ss[s]? =some m->l[k]? =some y->y.alloc=true->s<=y.s->m.1.get (nb+y.i)=none) (Bpy:∀ {p:Nat} {x:Rc},l[p]? =some x->x.w=true->Wq x.tm x.o=true->V3 g.F x.i=true\/∀ {s:Nat} {m:Fw},ss[s]? =some m->CN A l x.i s=true->KF (vS nb s A x.i l m.1 (KE P x))=true) (hRb:∀b,b0.R b->b<nb) {X:Exit->Act->World->Prop} {e0:Env} (hX:∀e a w (m:Fw),ss[Ep l]? =some m->Bg e0 e->Br b0 e m.1.get m.2 w->Jd sz d0 e bc a->X .normal a w): ∀(fuel:Nat) (L:Array Bool) (s:Nat) (e:Env) (a:Act) (w:World),Uj d0 b0 sz nb ops ie l ss L s e a w->Bg e0 e->(L.toList.filter (! ·)).length<=fuel->wpAny P .any ops X fuel L a w:=by
 have ZS:A=BX ops.toList:=by rw [←KK];exact hg.A
 have vU:∀ {k:Nat} {y:Rc},l[k]? =some y->g.j8[k]? =some (y.i,y.o):=by
  intro k y hk;rw [←hl,List.getElem?_map,hk];rfl
 have vV:∀ {k:Nat} {y:Rc},l[k]? =some y->ops[y.i]? =some y.o:=by
  intro k y hk;have:=hg.at_ _ (mem_of_getElem? (vU hk));simpa using this
 have aE:∀ {k:Nat} {y:Rc},l[k]? =some y->y.i<ops.size:=fun hk=>(Array.getElem?_eq_some_iff.1 (vV hk)).1
 have ZT:∀ {i:Nat},i<ops.size->∃(k:Nat) (y:Rc),l[k]? =some y/\y.i=i:=by
  intro i hi;obtain⟨z,h2,h3⟩:=hg.has i hi;rw [←hl]at h2;obtain⟨y,h4,rfl⟩:=mem_map.1 h2;obtain⟨k,hk,tM⟩:=List.mem_iff_getElem.1 h4;exact⟨k,y,by rw [List.getElem?_eq_getElem hk,tM],h3⟩
 have rG:∀ {i j:Nat} {x y:Rc},l[i]? =some x->l[j]? =some y->i<j->(x.i,x.o)∈g.j8.take j/\B_ ops A (g.j8.take j) (y.i,y.o):=by
  intro i j x y hi hj aE;refine⟨?_,KK▸hg.yM j _ (vU hj)⟩;refine mem_of_getElem? (i:=i) ?_;rw [List.getElem?_take_of_lt aE];exact vU hi
 have DV:∀ {i j:Nat} {x y:Rc},l[i]? =some x->l[j]? =some y->i≠j->x.i≠y.i:=by
  intro i j x y hi hj bA h;rcases Nat.lt_or_gt_of_ne bA with aE|aE
  ·obtain⟨g1,g2⟩:=rG hi hj aE;exact g2.ne _ g1 h
  ·obtain⟨g1,g2⟩:=rG hj hi aE;exact g2.ne _ g1 h.symm
 have KN:∀ {i j:Nat} {x y:Rc},l[i]? =some x->l[j]? =some y->x.i=y.i->i=j:=by
  intro i j x y hi hj h;by_cases bA:i=j
  ·exact bA
  ·exact absurd h (DV hi hj bA)
 have sZ:∀ {i j:Nat} {x y:Rc} {t:Nat},l[i]? =some x->l[j]? =some y->i≠j->x.o.dst=some t->y.o.dst≠some t:=by
  intro i j x y t hi hj bA hx hy;rcases Nat.lt_or_gt_of_ne bA with aE|aE
  ·obtain⟨g1,g2⟩:=rG hi hj aE;exact g2.dst _ g1 t hx hy
  ·obtain⟨g1,g2⟩:=rG hj hi aE;exact g2.dst _ g1 t hy hx
 have ZU:∀ {i j:Nat} {x y:Rc} {t:Nat},l[i]? =some x->l[j]? =some y->i≠j->x.o.dst=some t->t∈y.o.looksAt ops->(i<j->gg A x.i y.i=true)/\(j<i->gg A y.i x.i=true):=by
  intro i j x y t hi hj bA hx ht;constructor
  ·intro aE;obtain⟨g1,g2⟩:=rG hi hj aE;exact g2.look _ g1 t hx ht
  ·intro aE;obtain⟨g1,g2⟩:=rG hj hi aE;exact g2.Bsj _ g1 t hx ht
 have Bnn:∀ {i j:Nat} {x y:Rc},l[i]? =some x->l[j]? =some y->x.mem=true->y.ic=true->i<j->gg A x.i y.i=true:=by
  intro i j x y hi hj hx hy aE;obtain⟨g1,g2⟩:=rG hi hj aE;unfold Rc.mem at hx;unfold Rc.ic at hy;simp only [and_eq_true,not_eq_true']at hx hy;exact g2.mem _ g1 hx.2 (by unfold Jj;rw [Pk,yJ,hy.1.2,hy.2];rfl)
 have Bsl:∀ {i:Nat} {x:Rc},l[i]? =some x->∀e∈x.o.after.toList,Region.binds .any e=true->∃(k:Nat) (y:Rc),k<i/\l[k]? =some y/\y.i=e.on:=by
  intro i x hi e he hb;obtain⟨z,h2,h3⟩:=(hg.yM i _ (vU hi)).Bsi e he hb;rw [←hl,←List.map_take]at h2;obtain⟨y,h4,rfl⟩:=mem_map.1 h2;obtain⟨k,hk,tM⟩:=List.mem_iff_getElem.1 h4;have bZ:k<i:=by rw [List.length_take]at hk;omega
  refine⟨k,y,bZ,?_,h3⟩;rw [←List.getElem?_take_of_lt bZ,List.getElem?_eq_getElem hk,tM]
 have o3:∀ {s:Nat},s<=Ep l->∃m,ss[s]? =some m:=fun {s} hs=>⟨ss[s]'(by rw [hp.len];omega),by simp⟩
 have ZV:∀(d:Nat) {L:Array Bool} {s t:Nat} {e:Env} {a:Act} {w:World},Uj d0 b0 sz nb ops ie l ss L s e a w->t<=Ep l->s+d=t->(∀(k:Nat) (y:Rc),l[k]? =some y->y.mem=true->s<=y.s->y.s<t->L.getD y.i false=true)->Uj d0 b0 sz nb ops ie l ss L t e a w:=by
  intro d
  induction d with
  |zero=>intro L s t e a w hD _ dh _;rw [Nat.add_zero]at dh;exact dh▸hD
  |succ d ih=>
   intro L s t e a w hD ht dh ya;have h':s<Ep (l.take l.length):=by rw [take_length];omega
   obtain⟨k,y,h1,h2,h3,h4⟩:=Ui l l.length s h';have yT:y.s=s:=by rw [hp.lF k y h2,h4]
   have sN:=ya k y h2 h3 (by omega) (by omega);rcases Rc.KB h3 with h5|h5
   ·have:=hD.high k y h2 h5 sN;omega
   ·exact ih (hD.Bnl hp h2 h5 yT sN) ht (by omega) fun k y hk hy g1 g2=>ya k y hk hy (by omega) g2
 have l5:∀ {L:Array Bool} {s:Nat} {e:Env} {a:Act} {w:World},Uj d0 b0 sz nb ops ie l ss L s e a w->Bg e0 e->(∀k,k<ops.size->L.getD k false=true)->X .normal a w:=by
  intro L s e a w tS jl eX;have hle:=tS.le;have hD:=ZV (Ep l-s) tS (le_refl _) (by omega) fun k y hk _ _ _=>eX _ (aE hk)
  obtain⟨m,hm⟩:=o3 (le_refl _);obtain⟨F,f1,f2,f3⟩:=hD.mem m hm;refine hX e a w m hm jl (f3.same fun j=> ?_) ⟨⟨fun t av ht=> ?_⟩,hD.sM,hD.defers⟩
  ·rw [f2 j fun k y hk hy _ hs=> ?_];have:=KI hk (Rc.sL hy);rw [←hp.lF k y hk]at this;omega
  ·rw [hp.tm]at ht;split at ht
   ·rename_i y hy;cases ht
    obtain⟨k,h1,h2,h3⟩:=Wt hy;exact⟨by rw [hD.sM];exact hp.fits k y h1 t h3,hD.done k y t h1 h3 (eX _ (aE h1))⟩
   ·rename_i hn;obtain⟨g1,g2⟩:=hD.old t av ht fun k y hk hy=>absurd hy (Wu hn k y hk)
    exact⟨by rw [hD.sM];exact g1,g2⟩
 have KO:∀ {L:Array Bool} {i:Nat},i<L.size->∀k,(L.setIfInBounds i true).getD k false=(if i=k then true else L.getD k false):=by
  intro L i pP k;rw [getD_eq_getD_getElem?,Array.getElem?_setIfInBounds,getD_eq_getD_getElem?];split
  ·subst_vars;simp
  ·rfl
 have o6:∀ {L:Array Bool} {s s':Nat} {e e':Env} {a:Act} {w w':World} {i:Nat} {x:Rc} {v:Value},Uj d0 b0 sz nb ops ie l ss L s e a w->l[i]? =some x->L.getD x.i false=false->(∀ed∈x.o.after.toList,Region.binds .any ed=true->L.getD ed.on false=true)->
  Bg e e'->x.av.rep e' v->(x.ic=true->x.s=s/\s'=s+1/\s<Ep l)->(x.ic=false->s'=s)->(∀m:Fw,ss[s']? =some m->CP b0 nb l (L.setIfInBounds x.i true) s' e' m w')->(∀j,j<ops.size->j≠x.i->L.getD j false=false->e' (nb+j)=none)->Uj d0 b0 sz nb ops ie l ss (L.setIfInBounds x.i true) s' e' (a.put x.o.dst v) w':=by
  intro L s s' e e' a w w' i x v hD hx hi tz mF hv fU i3 gG sY;have pP:x.i<L.size:=by rw [hD.size];exact aE hx
  have gM:=KO pP;have kK:∀t,(a.put x.o.dst v).tmps.getD t undef=(if x.o.dst=some t/\t<a.tmps.size then v else a.tmps.getD t undef):=by
   intro t;cases hd:x.o.dst with
   |none=>simp [Act.put]
   |some d=>
    show(a.tmps.setIfInBounds d v).getD t undef=_
    rw [getD_eq_getD_getElem?,Array.getElem?_setIfInBounds,getD_eq_getD_getElem?];by_cases e:d=t
    ·subst e;by_cases aE:d<a.tmps.size
     ·simp [aE]
     ·simp [aE]
    ·have:¬(some d=some t/\t<a.tmps.size):=fun h=>e (Option.some.inj h.1)
     rw [if_neg e,if_neg this]
  have dL:(a.put x.o.dst v).tmps.size=a.tmps.size:=by
   cases x.o.dst<;>simp [Act.put]
  have ZW:∀ {k:Nat} {y:Rc},l[k]? =some y->x.i=y.i->i=k/\y=x:=by
   intro k y hk h;have:=KN hx hk h;subst this;rw [hx]at hk;cases hk;exact⟨rfl,rfl⟩
  refine⟨by rw [Array.size_setIfInBounds];exact hD.size,fun j o ho hj ed he hb=> ?_,fun k y hk hy hs=> ?_,fun k y hk hy hL=> ?_,?_,gG,fun j hj oo=> ?_,by rw [dL];exact hD.sM,by cases x.o.dst<;>exact hD.defers,fun k y t hk hy l6=> ?_,fun t av ht bV=> ?_⟩
  ·rw [gM]at hj⊢;split at hj
   ·rename_i mN;subst mN;have:=vV hx;rw [ho]at this;cases this
    have:=tz ed he hb;split
    ·rfl
    ·exact this
   ·have:=hD.cl j o ho hj ed he hb;split
    ·rfl
    ·exact this
  ·rw [gM];split
   ·rfl
   ·rename_i bA;cases gF:x.ic with
    |false=>rw [i3 gF]at hs;exact hD.low k y hk hy hs
    |true=>
     obtain⟨g1,g2,_⟩:=fU gF;by_cases h3:y.s=s
     ·have:=KJ hx hk (Rc.yS gF) hy (by rw [←hp.lF i x hx,←hp.lF k y hk,g1,h3]);subst this;rw [hx]at hk;cases hk;exact absurd rfl bA
     ·exact hD.low k y hk hy (by omega)
  ·rw [gM]at hL;split at hL
   ·rename_i bA;obtain⟨_,rfl⟩:=ZW hk bA;obtain⟨g1,g2,_⟩:=fU hy;omega
   ·have:=hD.high k y hk hy hL;cases gF:x.ic with
    |false=>rw [i3 gF];exact this
    |true=>obtain⟨g1,g2,_⟩:=fU gF;omega
  ·cases gF:x.ic with
   |false=>rw [i3 gF];exact hD.le
   |true=>obtain⟨_,g2,g3⟩:=fU gF;omega
  ·rw [gM]at oo;split at oo
   ·cases oo
   ·rename_i bA;exact sY j hj (Ne.symm bA) oo
  ·rw [kK];rw [gM]at l6;by_cases u7:x.i=y.i
   ·obtain⟨_,rfl⟩:=ZW hk u7;have hts:t<a.tmps.size:=by rw [hD.sM];exact hp.fits i y hx t hy
    rw [if_pos ⟨hy,hts⟩];exact hv
   ·rw [if_neg u7]at l6;rw [if_neg (fun h=>sZ hx hk (fun h=>by subst h;rw [hx]at hk;cases hk;exact u7 rfl) h.1 hy)];exact Et mF (hD.done k y t hk hy l6)
  ·have pD:x.o.dst≠some t:=by
    intro hy;have:=bV i x hx hy;rw [gM,if_pos rfl]at this;cases this
   obtain⟨g1,g2⟩:=hD.old t av ht fun k y hk hy=>by
    have:=bV k y hk hy;rw [gM]at this;split at this
    ·cases this
    ·exact this
   rw [kK,if_neg (fun h=>pD h.1)];exact⟨g1,Et mF g2⟩
 have rL:∀ {L:Array Bool} {s:Nat} {e:Env} {w:World} {m:Fw} {i:Nat} {x:Rc},L.size=ops.size->l[i]? =some x->x.alloc=false->CP b0 nb l L s e m w->CP b0 nb l (L.setIfInBounds x.i true) s e m w:=by
  intro L s e w m i x dL hx ha ⟨F,f1,f2,f3⟩;have gM:=KO (L:=L) (i:=x.i) (by rw [dL];exact aE hx);have ZX:∀ {k:Nat} {y:Rc},l[k]? =some y->y.alloc=true->((L.setIfInBounds x.i true).getD y.i false=true↔L.getD y.i false=true):=by
   intro k y hk hy;rw [gM];split
   ·rename_i u_;have:=KN hx hk u_;subst this;rw [hx]at hk;cases hk;rw [ha]at hy;cases hy
   ·exact Iff.rfl
  exact⟨F,fun k y hk hy hL hs=>f1 k y hk hy ((ZX hk hy).1 hL) hs,fun j hj=>f2 j fun k y hk hy hL hs=>hj k y hk hy ((ZX hk hy).2 hL) hs,f3⟩
 intro fuel
 induction fuel with
 |zero=>
  intro L s e a w hD jl CQ;have eX:∀k,k<ops.size->L.getD k false=true:=by
   intro k hk;have oq:L.toList.filter (! ·)=[]:=List.eq_nil_of_length_eq_zero (by omega);have:=List.filter_eq_nil_iff.1 oq (L[k]'(by rw [hD.size];exact hk)) (by simp);rw [getD_eq_getD_getElem?,getElem?_eq_getElem (by rw [hD.size];exact hk)];simpa using this
  refine⟨?_,l5 hD jl eX⟩;unfold Region.ready;refine List.filter_eq_nil_iff.2 fun k hk=> ?_
  have hk:=List.mem_range.1 hk;have h1:=eX k hk;rw [getD_eq_getD_getElem?,getElem?_eq_getElem (by rw [hD.size];exact hk)]at h1;have h1:L[k]'(by rw [hD.size];exact hk)=true:=h1;rw [getD_eq_getD_getElem?,getElem?_eq_getElem (by rw [hD.size];exact hk),getD_some,h1];simp
 |succ fuel ih=>
  intro L s e a w hD jl CQ;have ZY:∀k,k∈Region.ready .any ops L↔k<ops.size/\L.getD k false=false/\∀o,ops[k]? =some o->∀ed∈o.after.toList,Region.binds .any ed=true->L.getD ed.on false=true:=by
   intro k;unfold Region.ready;rw [List.mem_filter,List.mem_range];constructor
   ·rintro⟨h1,h2⟩;simp only [and_eq_true]at h2;refine⟨h1,?_,fun o ho ed he hb=> ?_⟩
    ·have:=h2.1;rw [getD_eq_getD_getElem?,getElem?_eq_getElem (by rw [hD.size];exact h1)]at this⊢;simpa using this
    ·have:=h2.2;rw [ho]at this;simp only [Option.map_some,getD_some,Array.all_eq_true_iff_forall_mem]at this;have:=this ed (by simpa using he);rw [hb]at this;simpa using this
   ·rintro⟨h1,h2,h3⟩;refine⟨h1,?_⟩;simp only [and_eq_true];constructor
    ·rw [getD_eq_getD_getElem?,getElem?_eq_getElem (by rw [hD.size];exact h1)]at h2⊢;simpa using h2
    ·rw [getElem?_eq_getElem h1];simp only [Option.map_some,getD_some,Array.all_eq_true_iff_forall_mem];intro ed he;cases hb:Region.binds .any ed with
     |false=>rfl
     |true=>simpa using h3 ops[k] (by simp [h1]) ed (by simpa using he) hb
  refine⟨fun oq=>l5 hD jl ?_,fun i hi=> ?_⟩
  ·have jN:∀(k:Nat) (y:Rc),l[k]? =some y->L.getD y.i false=true:=by
    intro k
    induction k using Nat.strongRecOn with
    |_ k ihk=>
     intro y hk;cases hc:L.getD y.i false with
     |true=>rfl
     |false=>
      have:y.i∈Region.ready .any ops L:=(ZY y.i).2 ⟨aE hk,hc,fun o ho ed he hb=>by
       rw [vV hk]at ho;cases ho
       obtain⟨k',y',g1,g2,g3⟩:=Bsl hk ed he hb;rw [←g3];exact ihk k' g1 y' g2⟩
      rw [oq]at this;cases this
   intro i hi;obtain⟨k,y,h1,rfl⟩:=ZT hi;exact jN k y h1
  ·obtain⟨h1,h2,h3⟩:=(ZY i).1 hi;obtain⟨p,x,hx,rfl⟩:=ZT h1;have KP:=vV hx;have h3:=h3 x.o KP;have yV:∀b,gg A b x.i=true->L.getD b false=true:=by rw [ZS];exact YY hD.size hD.cl x.i x.o KP h3
   have KQ:∀ {k:Nat} {y:Rc},l[k]? =some y->L.getD y.i false=true->∀b,gg A b y.i=true->L.getD b false=true:=by
    rw [ZS];exact fun hk l6=>YY hD.size hD.cl _ _ (vV hk) (hD.cl _ _ (vV hk) l6)
   have CR:yG e x.tm a ops x.o:=by
    intro t av ht fw;rw [hp.ZO p x hx]at fw;split at fw
    ·rename_i y hy;cases fw
     obtain⟨k,g1,g2,g3⟩:=Wt hy;have rJ:k<p:=by simp at g2;omega
     rw [List.getElem?_take_of_lt rJ]at g1;have dK:=(ZU g1 hx (by omega) g3 ht).1 rJ;exact⟨by rw [hD.sM];exact hp.fits k y g1 t g3,hD.done k y t g1 g3 (yV _ dK)⟩
    ·rename_i hn;obtain⟨g1,g2⟩:=hD.old t av fw fun k y hk hy=>by
      rcases Nat.lt_trichotomy k p with h|h|h
      ·exact absurd hy (Wu hn k y (by rw [List.getElem?_take_of_lt h];exact hk))
      ·subst h;rw [hx]at hk;cases hk;exact h2
      ·cases l6:L.getD y.i false with
       |false=>rfl
       |true=>
        have:=KQ hk l6 x.i ((ZU hk hx (by omega) hy ht).2 h);rw [h2]at this;cases this
     exact⟨by rw [hD.sM];exact g1,g2⟩
   have hw:=R8 (hp.want p x hx) CR;have CS:((L.setIfInBounds x.i true).toList.filter (! ·)).length<=fuel:=by
    have hiL:x.i<L.toList.length:=by rw [Array.length_toList,hD.size];exact h1
    have e1:L.toList=L.toList.take x.i++L.toList[x.i]::L.toList.drop (x.i+1):=by rw [List.getElem_cons_drop,List.take_append_drop]
    have e2:(L.setIfInBounds x.i true).toList=L.toList.take x.i++true::L.toList.drop (x.i+1):=by
     rw [Array.toList_setIfInBounds,List.set_eq_take_append_cons_drop,if_pos hiL]
    have e3:L.toList[x.i]=false:=by
     rw [getD_eq_getD_getElem?,getElem?_eq_getElem (by rw [hD.size];exact h1)]at h2;simpa using h2
    rw [e1,e3]at CQ;rw [e2];simp only [List.filter_append,List.filter_cons,length_append]at CQ⊢;simp at CQ⊢;omega
   have i6:∀ {e':Env},(∀j,j<ops.size->L.getD j false=false->e' (nb+j)=none)->∀j,j<ops.size->j≠x.i->L.getD j false=false->e' (nb+j)=none:=fun h j hj _ hL=>h j hj hL
   unfold wpOp;rw [KP];simp only [hw];cases vW:x.w with
   |false=>
    have gF:x.ic=false:=by unfold Rc.ic;rw [vW];rfl
    have j4:x.alloc=false:=by unfold Rc.alloc;rw [vW];rfl
    simp only [Bool.false_eq_true,if_false];exact ih _ s e _ w (o6 hD hx h2 h3 (Bg.refl e) (by rw [hp.no p x hx vW];simp only [AV.rep]) (fun h=>by rw [gF]at h;cases h) (fun _=>rfl) (fun m hm=>rL hD.size hx j4 (hD.mem m hm)) (i6 hD.free)) jl CS
   |true=>
    simp only [if_true];refine .inl (Qx ?_);cases gF:x.ic with
    |true=>
     have j4:x.alloc=false:=by cases h:x.alloc;rfl;exact absurd h fun h=>Rc.Bkm gF h
     have jf:s<=x.s:=by
      rcases lt_or_ge x.s s with h|h
      ·have:=hD.low p x hx (Rc.yS gF) h;rw [h2]at this;cases this
      ·exact h
     have ZZ:x.s<Ep l:=by rw [hp.lF p x hx];exact KI hx (Rc.yS gF)
     have hD:=ZV (x.s-s) hD (Nat.le_of_lt ZZ) (by omega) fun k y hk hy g1 g2=>by
      refine yV _ (Bnn hk hx hy gF ?_);rcases lt_or_ge k p with h|h
      ·exact h
      ·have:=Jv l h;rw [←hp.lF p x hx,←hp.lF k y hk]at this;omega
     obtain⟨m,m',k1,k2,k3⟩:=hp.ic p x hx gF;obtain⟨F,f1,f2,f3⟩:=hD.mem m k1;have Bp3:∀j,(∃(k:Nat) (y:Rc),l[k]? =some y/\y.alloc=true/\L.getD y.i false=true/\x.s<=y.s/\j=nb+y.i)->m.1.get j=none:=by
      rintro j ⟨k,y,g1,g2,g3,g4,rfl⟩;exact KM k1 g1 g2 g4
     have bV:∀ {j},¬(∃(k:Nat) (y:Rc),l[k]? =some y/\y.alloc=true/\L.getD y.i false=true/\x.s<=y.s/\j=nb+y.i)->F j=m.1.get j:=fun h=>f2 _ fun k y g1 g2 g3 g4 g5=>h ⟨k,y,g1,g2,g3,g4,g5⟩
     obtain⟨b1,bI,yW,yg⟩:=f3.frame (f:=m.1.get) (fun j=>∃(k:Nat) (y:Rc),l[k]? =some y/\y.alloc=true/\L.getD y.i false=true/\x.s<=y.s/\j=nb+y.i)
      (fun b=>b0.R b\/∃j,j<ops.size/\L.getD j false=false/\b=nb+j) (fun b h=> .inl h)
      (fun b h=>by
       rcases h with h|⟨j,g1,g2,rfl⟩
       ·exact⟨f3.res b h,f3.new b (.inr h)⟩
       ·have:=ra k1;exact⟨by omega,hD.free j g1 g2⟩)
      (fun j z hz=>by
       have Z_:¬(∃(k:Nat) (y:Rc),l[k]? =some y/\y.alloc=true/\L.getD y.i false=true/\x.s<=y.s/\j=nb+y.i):=fun h=>by rw [Bp3 j h]at hz;cases hz
       exact⟨by rw [bV Z_];exact hz,Z_⟩)
     refine k3 b1 e a w yW CR.dv _ fun e' v w' mF hM hv=> ?_
     refine ih _ (x.s+1) e' _ w' (o6 hD hx h2 h3 mF hv (fun _=>⟨rfl,rfl,ZZ⟩) (fun h=>by rw [gF]at h;cases h) (fun m2 lY=> ?_) (i6 fun j hj oo=>hM.new _ (.inr (by rw [bI];exact .inr ⟨j,hj,oo,rfl⟩)))) (jl.trans mF) CS;rw [k2]at lY;cases lY
     refine rL hD.size hx j4 ?_;have bA:∀ {k:Nat} {y:Rc},l[k]? =some y->y.alloc=true->x.s<=y.s->x.s+1<=y.s:=by
      intro k y hk hy hs;rcases lt_or_ge x.s y.s with h|h
      ·exact h
      ·have:=KJ hx hk (Rc.yS gF) (Rc.sL hy) (by rw [←hp.lF p x hx,←hp.lF k y hk];omega);subst this;rw [hx]at hk;cases hk;rw [j4]at hy;cases hy
     open Classical in
     refine⟨fun j=>if(∃(k:Nat) (y:Rc),l[k]? =some y/\y.alloc=true/\L.getD y.i false=true/\x.s<=y.s/\j=nb+y.i)then F j else m'.1.get j,fun k y g1 g2 g3 g4=> ?_,fun j hj=> ?_,yg e' m'.1.get m'.2 w' mF hM _ fun j z hz=> ?_⟩
     ·exact(if_pos ⟨k,y,g1,g2,g3,by omega,rfl⟩).trans (f1 k y g1 g2 g3 (by omega))
     ·exact if_neg fun⟨k,y,g1,g2,g3,g4,g5⟩=>hj k y g1 g2 g3 (bA g1 g2 g4) g5
     ·split at hz
      ·rename_i h;exact .inl ⟨h,hz⟩
      ·rename_i h;exact .inr ⟨h,hz⟩
    |false=>
    cases j4:x.alloc with
    |true=>
     obtain⟨mm,mm',f,_,_,k3,k4,_,_⟩:=hp.alloc p x hx j4;have jf:s<=x.s:=by
      rcases lt_or_ge x.s s with h|h
      ·have:=hD.low p x hx (Rc.sL j4) h;rw [h2]at this;cases this
      ·exact h
     obtain⟨m,hm⟩:=o3 hD.le;obtain⟨F,f1,f2,f3⟩:=hD.mem m hm;obtain⟨zs,T,v,g1,g2,g3⟩:=k3 e a w CR.dv;rw [g1];have Bsm:=ra hm;obtain⟨l1,l2⟩:=WZ (M':=fun j=>if j=nb+x.i then some (.cells x.z true)else F j) T f3 (hD.free x.i h1 h2) (fun h=>by have:=hRb _ h;omega) (le_refl m.2) (show nb+x.i<m.2 by omega) g2 (fun j=>rfl);have hv:x.av.rep (e.put (nb+x.i) (w.heap.size,zs.length)) v:=by rw [k4];exact g3 _ _ (Fv _ _ _)
     refine ih _ s _ _ _ (o6 hD hx h2 h3 l1 hv (fun h=>by rw [gF]at h;cases h) (fun _=>rfl) (fun m2 lY=> ?_) (fun j hj bA oo=> ?_)) (jl.trans l1) CS
     ·rw [hm]at lY;cases lY
      have gM:=KO (L:=L) (i:=x.i) (by rw [hD.size];exact h1);refine⟨_,fun k y hk hy sN hs=> ?_,fun j hj=> ?_,l2⟩
      ·by_cases u_:x.i=y.i
       ·have:=KN hx hk u_;subst this;rw [hx]at hk;cases hk;exact if_pos rfl
       ·rw [if_neg (by omega)];rw [gM,if_neg u_]at sN;exact f1 k y hk hy sN hs
      ·have hjx:j≠nb+x.i:=hj p x hx j4 (by rw [gM,if_pos rfl]) jf;rw [if_neg hjx];refine f2 j fun k y hk hy sN hs=>hj k y hk hy (by rw [gM];split;rfl;exact sN) hs
     ·rw [O6 (by omega)];exact hD.free j hj oo
    |false=>
     have CL:t_ x.o=true:=by
      unfold Rc.ic at gF;unfold Rc.alloc at j4;rw [vW]at gF j4;cases h:t_ x.o with
      |true=>rfl
      |false=>
       rw [show H4 x.o=true by unfold H4;rw [h];rfl]at gF j4;cases h':Gd x.o<;>rw [h']at gF j4<;>simp at gF j4
     obtain⟨m,hm⟩:=o3 hD.le;obtain⟨m0,rT,hcv⟩:=hp.calm p x hx vW CL;obtain⟨F,f1,f2,f3⟩:=hD.mem m hm;have hF:∃M:Tr aA,(∀j z,M.get j=some z->F j=some z)/\Pn P x.tm M x.o x.av:=by
      cases sA:Wq x.tm x.o with
      |false=>
       exact⟨Tr.nil,(fun j z hz=>by rw [Tr.get_nil]at hz;cases hz),hcv.any sA⟩
      |true=>
       rcases Bpy hx vW sA with DH|lZ
       ·
        have JV:x.mem=false:=by
         unfold Rc.mem;rw [show H4 x.o=false by unfold H4;rw [CL];rfl];simp
        have Bp4:∀ {k:Nat} {y:Rc},l[k]? =some y->y.mem=true->(k<p->gg A y.i x.i=true)/\(p<k->y.ic=true->gg A x.i y.i=true):=by
         intro k y hk hy;have ud:H4 y.o=true:=by unfold Rc.mem at hy;simp only [and_eq_true]at hy;exact hy.2
         have:=hg.fix p k _ _ (vU hx) (vU hk) DH ud;rw [KK]at this;refine⟨this.1,fun h1 h2=>this.2 h1 ?_⟩;unfold Rc.ic at h2;simp only [and_eq_true,not_eq_true']at h2;show Jj y.o=true
         unfold Jj;rw [Pk,yJ,h2.1.2,h2.2];rfl
        have Bp5:∀ {k:Nat} {y:Rc},l[k]? =some y->y.mem=true->(y.s<x.s↔k<p):=by
         intro k y hk hy;rw [hp.lF p x hx,hp.lF k y hk];constructor
         ·intro h;rcases lt_or_ge k p with h'|h'
          ·exact h'
          ·have:=Jv l h';omega
         ·intro h;have h1:=Mc hk;rw [hy,if_pos rfl]at h1;have h2:=Jv l (i:=k+1) (j:=p) h;omega
        refine⟨m0.1,fun j z hz=> ?_,hcv⟩;have bA:∀ {s':Nat} {m':Fw} {z:aA},ss[s']? =some m'->m'.1.get j=some z->∀(k:Nat) (y:Rc),l[k]? =some y->y.alloc=true->s'<=y.s->j≠nb+y.i:=by
         intro s' m' z ij ql k y hk hy hle hj;subst hj;rw [KM ij hk hy hle]at ql;cases ql
        rcases Nat.le_total s x.s with hsx|hsx
        ·have gU:∀(k:Nat) (y:Rc),l[k]? =some y->y.mem=true->s<=y.s->y.s<x.s->y.alloc=true/\L.getD y.i false=true:=by
          intro k y hk hy yX yY;have hd:=yV _ ((Bp4 hk hy).1 ((Bp5 hk hy).1 yY));rcases Rc.KB hy with h5|h5
          ·have:=hD.high k y hk h5 hd;omega
          ·exact⟨h5,hd⟩
         rcases At3 hp (x.s-s) (by omega) hm rT (fun k y hk hy yX yY=>(gU k y hk hy yX yY).1) j z hz with⟨k,y,q1,q2,q3,q4,rfl,rfl⟩|q
         ·exact f1 k y q1 q2 (gU k y q1 (Rc.sL q2) q3 q4).2 q3
         ·rw [f2 j fun k y hk hy _ hs=>bA hm q k y hk hy hs];exact q
        ·have gU:∀(k:Nat) (y:Rc),l[k]? =some y->y.mem=true->x.s<=y.s->y.s<s->y.alloc=true:=by
          intro k y hk hy yX yY;have hd:=hD.low k y hk hy yY;rcases Rc.KB hy with h5|h5
          ·have wY:p<k:=by
            rcases Nat.lt_trichotomy p k with h|h|h
            ·exact h
            ·subst h;rw [hx]at hk;cases hk;rw [JV]at hy;cases hy
            ·have:=(Bp5 hk hy).2 h;omega
           have:=KQ hk hd x.i ((Bp4 hk hy).2 wY h5);rw [h2]at this;cases this
          ·exact h5
         have ql:=Aqn hp (s-x.s) (by omega) rT hm gU j z hz (fun k y hk hy yX _=>bA rT hz k y hk hy yX);rw [f2 j fun k y hk hy _ hs=>bA hm ql k y hk hy hs];exact ql
       ·have Bp6:CN A l x.i s=true:=by
         unfold CN;refine ZP fun k y hk=> ?_
         cases ud:y.mem with
         |false=>rfl
         |true=>
          simp only [cond_true];cases hb:blt y.s s with
          |true=>
           simp only [cond_true,not_eq_true'];have oo:=hD.low k y hk ud (Aym hb);cases dK:gg A x.i y.i with
           |false=>rfl
           |true=>
            have:=KQ hk oo x.i dK;rw [h2]at this;cases this
          |false=>
           simp only [cond_false];cases ha:Gd y.o with
           |true=>rfl
           |false=>
            simp only [cond_false,not_eq_true'];have hyl:y.ic=true:=by unfold Rc.mem at ud;unfold Rc.ic;rw [ud,ha];rfl
            cases dK:gg A y.i x.i with
            |false=>rfl
            |true=>
             have:=hD.high k y hk hyl (yV _ dK);have:blt y.s s=true:=Ayl this;rw [hb]at this;cases this
        obtain⟨u,h6⟩:=Ayo (lZ hm Bp6);obtain⟨M,h7,h8⟩:=V5 h6;refine⟨M,fun j z hz=> ?_,?_⟩
        ·rcases h8 j z hz with g|⟨y,g1,g2,g3,g4,rfl,rfl⟩
         ·rw [f2 j fun k y hk hy sN hs hj=> ?_]
          ·exact g
          ·subst hj;rw [KM hm hk hy hs]at g;cases g
         ·obtain⟨k,hk,tM⟩:=List.mem_iff_getElem.1 g1;exact f1 k y (by rw [List.getElem?_eq_getElem hk,tM]) g2 (yV _ g4) g3
        ·unfold KE at h7;split at h7
         ·rename_i av fw;cases hsm:same av x.av with
          |true=>rw [Av4 hsm]at fw;exact .inl fw
          |false=>rw [hsm]at h7;cases h7
         ·cases h7
     obtain⟨M,vE,Bsn⟩:=hF;obtain⟨b1,bI,yW,yg⟩:=f3.frame (f:=M.get) (fun j=>M.get j=none) (fun b=>b0.R b\/∃j,j<ops.size/\L.getD j false=false/\b=nb+j) (fun b h=> .inl h)
      (fun b h=>by
       rcases h with h|⟨j,g1,g2,rfl⟩
       ·exact⟨f3.res b h,f3.new b (.inr h)⟩
       ·have:=ra hm;exact⟨by omega,hD.free j g1 g2⟩)
      (fun j z hz=>⟨vE j z hz,fun h=>by rw [hz]at h;cases h⟩)
     refine Pn.ok (n:=m.2) Bsn b1 e a w yW CR.dv _ fun e' v w' mF hM hv=> ?_
     refine ih _ s e' _ w' (o6 hD hx h2 h3 mF hv (fun h=>by rw [gF]at h;cases h) (fun _=>rfl) (fun m2 lY=> ?_) (i6 fun j hj oo=>hM.new _ (.inr (by rw [bI];exact .inr ⟨j,hj,oo,rfl⟩)))) (jl.trans mF) CS;rw [hm]at lY;cases lY
     refine rL hD.size hx j4 ⟨F,f1,f2,yg e' M.get m.2 w' mF hM F fun j z hz=> ?_⟩;cases hc:M.get j with
     |none=>exact .inl ⟨rfl,hz⟩
     |some z'=>
      have:=vE j z' hc;rw [hz]at this;cases this
      exact .inr ⟨nofun,rfl⟩
end
theorem At5 {P:Program} {call:Bq R} (dP:Eo P call) {sz:Nat} {ops:Array Oper} {g:yO} (hg:JZ ops g) {tm:Tm} {M:Tr aA} {n:Nat} {K:Tm->Tr aA->Nat->Option R} {r:R} (h:vT P ops.size g.A g.F g.ld g.al (Nr P sz ops g.j8).get call tm M n K=some r): ∃bc M' n',K bc M' n'=some r/\∀(X:Exit->Act->World->Prop) b0 d0 e a w,Br b0 e M.get n w->Jd sz d0 e tm a->(∀e' a' w',Bg e e'->Br b0 e' M'.get n' w'->Jd sz d0 e' bc a'->X .normal a' w')->wpAny P .any ops X ops.size (replicate ops.size false) a { w with drawn:=w.drawn+1 } :=by
 unfold vT at h;rw [Ei]at h;have Bno:Po P sz ops n tm M (n+ops.size) ([]:List Rc) tm [(M,n+ops.size)]:=
  ⟨rfl,rfl,fun i x hi=>by simp at hi,fun i x hi=>by simp at hi,fun i x hi=>by simp at hi,fun i x hi=>by simp at hi,fun i x hi=>by simp at hi,fun i x hi=>by simp at hi,fun i x hi=>by simp at hi,fun t=>by simp,fun i x hi=>by simp at hi⟩
 obtain⟨bc,recs,eW,h1,h2,h3⟩:=Pp dP (recs:=[]) (eW:=[(M,n+ops.size)]) h (by simpa using Bno) rfl rfl;simp only [List.reverse_nil,List.map_nil,List.nil_append]at h3;cases yZ:KG P n ops.size g.A g.F g.ld g.al recs eW with
 |false=>rw [yZ]at h1;cases h1
 |true=>
 rw [yZ]at h1;obtain⟨M',n',py,rfl,h1⟩:=Anh (show KH eW _=some r from h1);unfold KG at yZ;simp only [Pk,BU,and_eq_true]at yZ;obtain⟨d1,d2,d3⟩:=yZ;have Bp7:∀ {k:Nat} {y:Rc},recs.reverse[k]? =some y->(y.i,y.o)∈g.j8:=by
  intro k y hk;rw [←h3];exact mem_map.2 ⟨y,mem_of_getElem? hk,rfl⟩
 refine⟨bc,M',n',h1,fun X b0 d0 e a w hM hA hX=> ?_⟩;have UB:((M',n')::py).reverse[Ep recs.reverse]? =some (M',n'):=by
  have hlen:=h2.len;simp only [List.reverse_cons,length_append,List.length_singleton]at hlen⊢;rw [List.getElem?_append_right (by omega),show Ep recs.reverse-py.reverse.length=0 by omega];rfl
 have jl:∀k,(replicate ops.size false).getD k false=false:=by
  intro k;rw [getD_eq_getD_getElem?];simp only [Array.getElem?_replicate];split<;>rfl
 refine At4 hg rfl h2 h3 (fun {s m} hm=>ZR d1 (List.mem_reverse.1 (mem_of_getElem? hm))) (fun {s m k y} t0 hk hy hs=> ?_) (fun {p x} hx hw sA=> ?_) hM.res (X:=X) (e0:=e) (fun e' a' w' m rf mF vE hAA=> ?_) ops.size (replicate ops.size false) 0 e a _ ⟨by simp,fun i o ho hi=> ?_,fun k y hk hy hs=>absurd hs (Nat.not_lt_zero _),fun k y hk hy l6=> ?_,Nat.zero_le _,fun m rf=> ?_,fun i hi _=>hM.new _ (.inl (Nat.le_add_right _ _)),hA.size,hA.defers,fun k y t hk hy l6=> ?_,fun t av ht _=> ?_⟩ (Bg.refl e) ?_
 ·cases gU:g.al with
  |false=>
   have:=hg.al gU _ (Bp7 hk);unfold Rc.alloc at hy;rw [this]at hy;simp at hy
  |true=>
   rw [gU]at d2;have h1:=Uh (show allI _ _ 0=true from d2) t0;have h2:=Uh h1 hk;rw [Nat.zero_add,hy,show ble s y.s=true from Nat.ble_eq_true_of_le hs]at h2;exact Ayn h2
 ·cases hld:g.ld with
  |false=>exact .inl (hg.ld hld _ (Bp7 hx) (Avz sA))
  |true=>
   cases hb:V3 g.F x.i with
   |true=>exact .inl rfl
   |false=>
    refine .inr fun {s m} t0 hpo=> ?_
    rw [hld]at d3;have h4:=Uh (show allI _ _ 0=true from d3) hx;simp only [hw,sA,hb,Bool.and_self,Bool.not_false,cond_true]at h4;have h5:=Uh h4 t0;rw [Nat.zero_add,hpo]at h5;exact h5
 ·rw [UB]at rf;cases rf
  exact hX e' a' w' mF vE hAA
 ·rw [jl]at hi;cases hi
 ·rw [jl]at l6;cases l6
 ·rw [h2.first]at rf;cases rf
  exact⟨M.get,⟨fun k y hk hy l6=>by (rw [jl]at l6;cases l6),fun j _=>rfl,(hM.drew _).more (Nat.le_add_right _ _)⟩⟩
 ·rw [jl]at l6;cases l6
 ·have:=hA.tm.at_ t av ht;rw [hA.size]at this;exact this
 ·refine Nat.le_trans (List.length_filter_le _ _) (by simp)
theorem Aqo {P:Program} {call:Bq R} {sz:Nat} {ops:Array Oper} {tm:Tm} {M:Tr aA} {n:Nat} {K:Tm->Tr aA->Nat->Option R} {r:R} (h:(Ws P sz ops).get call tm M n K=some r):∀(i:Nat) (o:Oper),ops[i]? =some o->Bu o=true:=by
 intro i o ho;unfold Ws at h;cases hd:ops.toList.all Bu with
 |true=>exact List.all_eq_true.1 hd o (by simpa using Array.mem_of_getElem? ho)
 |false=>rw [hd]at h;cases h
theorem At6 {P:Program} {call:Bq R} (dP:Eo P call) {sz:Nat} {ops:Array Oper} {tm:Tm} {M:Tr aA} {n:Nat} {K:Tm->Tr aA->Nat->Option R} {r:R} (h:(Ws P sz ops).get call tm M n K=some r): ∃bc M' n',K bc M' n'=some r/\∀(X:Exit->Act->World->Prop) b0 d0 e a w,Br b0 e M.get n w->Jd sz d0 e tm a->(∀e' a' w',Bg e e'->Br b0 e' M'.get n' w'->Jd sz d0 e' bc a'->X .normal a' w')->wpAny P .any ops X ops.size (replicate ops.size false) a { w with drawn:=w.drawn+1 } :=by
 unfold Ws at h;cases hd:ops.toList.all Bu with
 |false=>rw [hd]at h;cases h
 |true=>
 rw [hd]at h;simp only [cond_true]at h;split at h
 case h_2=>cases h
 rename_i A j8 F ld al hr;have hg:=Att hr;simp only [yI]at h;cases ld<;>cases al<;>exact At5 dP hg h
variable {R:Type}
abbrev vX (R:Type):Type:=Tm->Tr aA->Nat->(i4->Tm->Tr aA->Nat->Option R)->Option R
abbrev H5 (R:Type):Type:=Bq R->vX R
def KR (f g:H5 R):H5 R:=fun call tm M n K=>f call tm M n fun ex tm M n=>i4.casesOn (motive:=fun _=>Option R) ex (g call tm M n K) (K .ret tm M n) (fun i=>K (.exit i) tm M n)
def Bae (f:pw R):H5 R:=fun call tm M n K=>f call tm M n fun tm M n=>K .normal tm M n
def Aox (f:pw R) (g:H5 R):H5 R:=fun call tm M n K=>f call tm M n fun tm M n=>g call tm M n K
def Baf (x y:Bx (H5 R)) (gc:Tm->Option AV):H5 R:=fun call tm M n K=>yD (gc tm) fun b=>eV b (jH x fun f=>f call tm M n K) (jH y fun f=>f call tm M n K)
def Ays (id:Nat) (f:H5 R):H5 R:=fun call tm M n K=>f call tm M n fun ex tm M n=>i4.casesOn (motive:=fun _=>Option R) ex (K .normal tm M n) (K .ret tm M n) (fun i=>eV (Nat.beq i id) (K .normal tm M n) (K (.exit i) tm M n))
abbrev vY (R:Type):Type:=vX R->Tm->Tr aA->Nat->(i4->Tm->Tr aA->Nat->Option R)->(Tm->Tr aA->Nat->Option R)->Option R
def Bag:vY R:=fun body tm M n K N=>body tm M n fun ex tm M n=>i4.casesOn (motive:=fun _=>Option R) ex (N tm M n) (K .ret tm M n) (fun i=>K (.exit i) tm M n)
def Bah (i:vY R):vY R:=fun body tm M n K N=>i body tm M n K fun tm M n=>i body tm M n K N
def CT:Nat->Bx (vY R)
 |0=>⟨Bag⟩|j+1=>b1 Bah (CT j)
def Axb (i:vY R) (f:H5 R):H5 R:=fun call tm M n K=>i (f call) tm M n K fun _ _ _=>none
def Axc:H5 R:=fun _ _ _ _ _=>none
def KS (v:Value) (f:FuncId->List AV->Option R):Option R:=match v with
 | .func (.func g) ⟨[]⟩ ⟨l⟩=>fL (l.map .lit) fun l=>f g l
 |_=>none
def Bai (x:AV) (f:FuncId->List AV->Option R):Option R:=AV.casesOn (motive_1:=fun _=>Option R) x (fun v=>KS v f) (fun _ _=>none) (fun _ _ _ _ _ _=>none) (fun _=>none) (fun _=>none) (fun g first mD=>List.casesOn (motive:=fun _=>Option R) first (f g mD) (fun _ _=>none)) (fun _=>none) (fun _ _=>none) (fun _=>none) (fun _ _ _=>none) none (fun _ _ _ _=>none)
def y0 (x:aA) (f:Tm->Nat->List Nat->Code->Code->Nat->i4->Option R):Option R:=aA.casesOn (motive:=fun _=>Option R) x (fun _ _=>none) (fun _ _=>none) (fun r=>tX.casesOn (motive:=fun _=>Option R) r f)
def At7 (P:Program) (sz:Nat) (ps:List Nat) (assign body:Code) (gf:Tm->Option AV):H5 R:=fun call tm M n K=>oK (gf tm) fun f=>Bai f fun g mD=>eV (an (ble (Nat.succ g) YB) (Cs P g)) (jH (Tr.sB n) fun s=>s M (some (.loop ⟨tm,sz,ps,assign,body,0,.normal⟩)) fun M1=>fN (Nat.succ n) fun n1=>call g (.yield n::mD) M1 n1 fun _ M2 n2=>oK ((Tr.gB n).get M2) fun x=>y0 x fun _ _ _ _ _ st ru=>eV (no (Nat.beq st 1)) (jH (Tr.sB n) fun s=>s M2 none fun M3=>i4.casesOn (motive:=fun _=>Option R) ru (K .normal tm M3 n2) (K .ret tm M3 n2) (fun i=>K (.exit i) tm M3 n2)) none) none
def E2 (P:Program) (sz:Nat) (lf:Nat) (cI:Bool):Code->Bx (H5 R)
 | .skip=>⟨fun _ tm M n K=>K .normal tm M n⟩
 | .label _=>⟨fun _ tm M n K=>K .normal tm M n⟩
 | .ret=>⟨fun _ tm M n K=>K .ret tm M n⟩
 | .exit id=>⟨fun _ tm M n K=>K (.exit id) tm M n⟩
 | .seq x y=>match x with
  | .region _ ops false=>b2 Aox (Qt P sz ops ops.toList) (E2 P sz lf cI y)| .region _ ops true=>b2 Aox (Ws P sz ops) (E2 P sz lf cI y)|_=>b2 KR (E2 P sz lf cI x) (E2 P sz lf cI y)
 | .cond c x y=>b1 (Baf (E2 P sz lf cI x) (E2 P sz lf cI y)) (dv c)| .block id c=>b1 (Ays id) (E2 P sz lf cI c)| .loop c=>b2 Axb (CT lf) (E2 P sz lf cI c)| .scope c=>E2 P sz lf cI c| .region _ ops false=>b1 Bae (Qt P sz ops ops.toList)| .region _ ops true=>b1 Bae (Ws P sz ops)| .rangeFunc f ps assign body=>cond cI ⟨Axc⟩ (b1 (At7 P sz ps.toList assign body) (dv f))|_=>⟨Axc⟩
def Ni (b:Base) (ds:List Nat):Prop:=ds.Nodup/\∀D∈ds,b.X D/\b.w.heap[D]? =some (.deferred (some []))
structure Ext (b:Base) (ds:List Nat) (b':Base) (bJ:List Nat):Prop where
 kept:Kept b b'.w
 X:∀k,b.X k->b'.X k
 R:b'.R=b.R
 new:∀D∈bJ,D∈ds\/¬b.X D
theorem Ext.refl (b:Base) (ds:List Nat):Ext b ds b ds:=⟨⟨rfl,rfl,rfl,le_refl _,fun _ _=>rfl⟩,fun _ h=>h,rfl,fun _ h=> .inl h⟩
theorem Ext.trans {b b1 b2:Base} {ds ug CU:List Nat} (h:Ext b ds b1 ug) (k:Ext b1 ug b2 CU):Ext b ds b2 CU:=
 ⟨⟨k.kept.os.trans h.kept.os,k.kept.tape.trans h.kept.tape,k.kept.output.trans h.kept.output,Nat.le_trans h.kept.size k.kept.size,fun j hj=>(k.kept.block j (h.X j hj)).trans (h.kept.block j hj)⟩,fun j hj=>k.X j (h.X j hj),k.R.trans h.R,fun D hD=>by
   rcases k.new D hD with h1|h1
   ·exact h.new D h1
   ·exact .inr fun h2=>h1 (h.X D h2)⟩
def Pq (cI:Bool) (sz:Nat) (b0:Base) (ds:List Nat) (e:Env) (bc:Tm) (M':Tr aA) (n':Nat) (a':Act) (w':World):Prop:=∃e' b' bJ,Bg e e'/\Ext b0 ds b' bJ/\(cI=true->b'=b0/\bJ=ds)/\Br b' e' M'.get n' w'/\Jd sz (bJ.map mk) e' bc a'/\Ni b' bJ
theorem Pq.later {cI:Bool} {sz:Nat} {b0 b1:Base} {ds ug:List Nat} {e e1:Env} {bc:Tm} {M':Tr aA} {n':Nat} {a':Act} {w':World} (hl:Bg e e1) (hx:Ext b0 ds b1 ug) (hr:cI=true->b1=b0/\ug=ds) (h:Pq cI sz b1 ug e1 bc M' n' a' w'):Pq cI sz b0 ds e bc M' n' a' w':=by
 obtain⟨e',b',bJ,h1,h2,h3,h4⟩:=h;exact⟨e',b',bJ,hl.trans h1,hx.trans h2,fun hh=>⟨(h3 hh).1.trans (hr hh).1,(h3 hh).2.trans (hr hh).2⟩,h4⟩
def CV (cI:Bool) (G:Fence):Prop:=Vc.Good G/\(cI=false->G=Fence.wide)
def Baj (P:Program) (cI:Bool) (sz:Nat) (c:Code) (tm:Tm) (M:Tr aA) (n:Nat) (ex:i4) (bc:Tm) (M':Tr aA) (n':Nat):Prop:=∀(G:Fence) (n0:Nat) b0 ds e a w,CV cI G->Br b0 e M.get n w->Jd sz (ds.map mk) e tm a->Ni b0 ds->c.wpIn G n0 P (fun x a' w'=>x=ex.qj/\Pq cI sz b0 ds e bc M' n' a' w') a w
def Lh (P:Program) (cI:Bool) (sz:Nat) (c:Code) (body:vX R):Prop:=∀tm M n K r,body tm M n K=some r->∃ex bc M' n',K ex bc M' n'=some r/\Baj P cI sz c tm M n ex bc M' n'
theorem Jw {cI:Bool} {sz:Nat} {b0:Base} {ds:List Nat} {e e':Env} {tm:Tm} {M:Tr aA} {n:Nat} {a:Act} {w:World} (hl:Bg e e') (hM:Br b0 e' M.get n w) (hA:Jd sz (ds.map mk) e' tm a) (hD:Ni b0 ds):Pq cI sz b0 ds e tm M n a w:=
 ⟨e',b0,ds,hl,Ext.refl _ _,fun _=>⟨rfl,rfl⟩,hM,hA,hD⟩
theorem Ak7 {A A':Act->World->Prop} {Q Q':Exit->Act->World->Prop} (h1:∀a w,A a w->A' a w) (h2:∀x a w,Q x a w->Q' x a w):∀x a w,Exit.then A Q x a w->Exit.then A' Q' x a w:=by
 intro x a w h;cases x<;>first|exact h1 _ _ h|exact h2 _ _ _ h
theorem Qu {G:Fence} {n0:Nat} {P:Program} {c:Code} {Q Q':Exit->Act->World->Prop} (hq:∀x a w,Q x a w->Q' x a w):∀(k:Nat) {a:Act} {w:World},Code.roundsIn G n0 P c Q k a w->Code.roundsIn G n0 P c Q' k a w
 |0,_,_,h=>h
 |k+1,_,_,h=>by
  rw [roundsIn_succ]at h⊢;exact wpIn_mono h (Ak7 (fun _ _=>Qu hq k) hq)
def Bak (P:Program) (cI:Bool) (sz:Nat) (c:Code) (k:Nat) (tm:Tm) (M:Tr aA) (n:Nat) (bc:Tm) (M':Tr aA) (n':Nat):Prop:=∀(G:Fence) (n0:Nat) (Q:Exit->Act->World->Prop) (m:Nat) b0 ds e a w,CV cI G->Br b0 e M.get n w->Jd sz (ds.map mk) e tm a->Ni b0 ds->(∀a' w',Pq cI sz b0 ds e bc M' n' a' w'->Code.roundsIn G n0 P c Q m a' w')->Code.roundsIn G n0 P c Q (k+m) a w
def Bal (P:Program) (cI:Bool) (sz:Nat) (c:Code) (tm:Tm) (M:Tr aA) (n:Nat) (ex:i4) (bc:Tm) (M':Tr aA) (n':Nat):Prop:=∃k,∀(G:Fence) (n0:Nat) b0 ds e a w,CV cI G->Br b0 e M.get n w->Jd sz (ds.map mk) e tm a->Ni b0 ds->Code.roundsIn G n0 P c (fun x a' w'=>x=ex.qj/\Pq cI sz b0 ds e bc M' n' a' w') k a w
def CW (P:Program) (cI:Bool) (sz:Nat) (c:Code) (k:Nat) (it:Tm->Tr aA->Nat->(i4->Tm->Tr aA->Nat->Option R)->(Tm->Tr aA->Nat->Option R)->Option R):Prop:=∀ {tm M n K N r},it tm M n K N=some r->(∃ex bc M' n',K ex bc M' n'=some r/\Bal P cI sz c tm M n ex bc M' n')\/ ∃bc M' n',N bc M' n'=some r/\Bak P cI sz c k tm M n bc M' n'
theorem Av7 {P:Program} {cI:Bool} {sz:Nat} {c:Code} {body:vX R} (hb:Lh P cI sz c body):CW P cI sz c 1 (Bag body):=by
 intro tm M n K N r h;obtain⟨ex,jq,M1,n1,h1,h2⟩:=hb _ _ _ _ _ h;have out:∀ {y:i4},y.qj≠.normal->ex=y->K y jq M1 n1=some r->∃ex bc M' n',K ex bc M' n'=some r/\Bal P cI sz c tm M n ex bc M' n':=by
  intro y hy hex hk;subst hex;refine⟨ex,jq,M1,n1,hk,1,fun G n0 b0 ds e a w hG hM hA hD=> ?_⟩;rw [roundsIn_succ];refine wpIn_mono (h2 G n0 b0 ds e a w hG hM hA hD) ?_;rintro x a' w' ⟨rfl,hx⟩;cases yf:ex.qj with
  |normal=>exact absurd yf hy
  |_=>exact⟨yf▸rfl,hx⟩
 cases ex with
 |normal=>
  refine .inr ⟨jq,M1,n1,h1,fun G n0 Q m b0 ds e a w hG hM hA hD hN=> ?_⟩;rw [Nat.add_comm,roundsIn_succ];refine wpIn_mono (h2 G n0 b0 ds e a w hG hM hA hD) ?_;rintro x a' w' ⟨rfl,hp⟩;exact hN a' w' hp
 |ret=>exact .inl (out (by simp [i4.qj]) rfl h1)
 |exit id=>exact .inl (out (by simp [i4.qj]) rfl h1)
theorem Av8 {P:Program} {cI:Bool} {sz:Nat} {c:Code} {k:Nat} {i:vY R} {body:vX R} (hi:CW P cI sz c k (i body)):CW P cI sz c (k+k) (Bah i body):=by
 intro tm M n K N r h;rcases hi h with h1|⟨jq,M1,n1,h1,h2⟩
 ·exact .inl h1
 ·rcases hi h1 with⟨ex,bc,M',n',h3,m,h4⟩|⟨bc,M',n',h3,h4⟩
  ·refine .inl ⟨ex,bc,M',n',h3,k+m,fun G n0 b0 ds e a w hG hM hA hD=>h2 G n0 _ m b0 ds e a w hG hM hA hD fun a' w' hp=> ?_⟩;obtain⟨e',b',bJ,g1,g2,g3,g4,g5,g6⟩:=hp;exact Qu (fun x a w ⟨hx,hp⟩=>⟨hx,hp.later g1 g2 g3⟩) m (h4 G n0 b' bJ e' a' w' hG g4 g5 g6)
  ·refine .inr ⟨bc,M',n',h3,fun G n0 Q m b0 ds e a w hG hM hA hD hN=> ?_⟩;rw [Nat.add_assoc];refine h2 G n0 Q (k+m) b0 ds e a w hG hM hA hD fun a' w' hp=> ?_
   obtain⟨e',b',bJ,g1,g2,g3,g4,g5,g6⟩:=hp;exact h4 G n0 Q m b' bJ e' a' w' hG g4 g5 g6 fun kJ iV lI=>hN kJ iV (lI.later g1 g2 g3)
theorem At8 {P:Program} {cI:Bool} {sz:Nat} {c:Code} {body:vX R} (hb:Lh P cI sz c body):∀j,CW P cI sz c (2^j) ((CT j).get body)
 |0=>Av7 hb
 |j+1=>by
  rw [Nat.pow_succ,Nat.mul_two];exact Av8 (At8 hb j)
theorem At9 {P:Program} {cI:Bool} {sz:Nat} {c:Code} {f:H5 R} {call:Bq R} (hb:Lh P cI sz c (f call)) (j:Nat):Lh P cI sz (.loop c) (Axb (CT j).get f call):=by
 intro tm M n K r h;rcases At8 hb j h with⟨ex,bc,M',n',h3,k,h4⟩|⟨_,_,_,h1,_⟩
 ·exact⟨ex,bc,M',n',h3,fun G n0 b0 ds e a w hG hM hA hD=>wpIn_loop_rounds k (h4 G n0 b0 ds e a w hG hM hA hD)⟩
 ·cases h1
theorem Av9 {P:Program} {cI:Bool} {sz:Nat} {x y:Code} {f g:H5 R} {call:Bq R} (hf:Lh P cI sz x (f call)) (hg:Lh P cI sz y (g call)):Lh P cI sz (.seq x y) (KR f g call):=by
 intro tm M n K r h;obtain⟨ex,jq,M1,n1,h1,h2⟩:=hf _ _ _ _ _ h;cases ex with
 |normal=>
  obtain⟨ex,bc,M',n',h3,h4⟩:=hg _ _ _ _ _ h1;refine⟨ex,bc,M',n',h3,fun G n0 b0 ds e a w hG hM hA hD=>wpIn_seq (wpIn_mono (h2 G n0 b0 ds e a w hG hM hA hD) ?_)⟩;rintro x a' w' ⟨rfl,e',b',bJ,g1,g2,g3,g4,g5,g6⟩;exact wpIn_mono (h4 G n0 b' bJ e' a' w' hG g4 g5 g6) fun x a w ⟨hx,hp⟩=>⟨hx,hp.later g1 g2 g3⟩
 |ret=>exact⟨.ret,jq,M1,n1,h1,fun G n0 b0 ds e a w hG hM hA hD=>wpIn_seq (wpIn_mono (h2 G n0 b0 ds e a w hG hM hA hD) (by rintro x a' w' ⟨rfl,hx⟩;exact⟨rfl,hx⟩))⟩
 |exit id=>exact⟨.exit id,jq,M1,n1,h1,fun G n0 b0 ds e a w hG hM hA hD=>wpIn_seq (wpIn_mono (h2 G n0 b0 ds e a w hG hM hA hD) (by rintro x a' w' ⟨rfl,hx⟩;exact⟨rfl,hx⟩))⟩
theorem Ak8 {v:Value} {f:FuncId->List AV->Option R} {r:R} (h:KS v f=some r):∃g l,v= .func (.func g) #[] ⟨l⟩/\f g (l.map .lit)=some r:=by
 unfold KS at h;split at h
 ·rw [Qq]at h;exact⟨_,_,rfl,h⟩
 ·cases h
theorem Aqp {x:AV} {f:FuncId->List AV->Option R} {r:R} (h:Bai x f=some r):∃g mD,f g mD=some r/\∀e v,x.rep e v->∃us,v= .func (.func g) #[] ⟨us⟩/\AV.bl e mD us:=by
 cases x with
 |lit v=>
  obtain⟨g,l,rfl,h'⟩:=Ak8 h;exact⟨g,_,h',fun e v hv=>by simp only [AV.rep]at hv;exact⟨l,hv,Kn l⟩⟩
 |func g first mD=>
  cases first with
  |nil=>
   refine⟨g,mD,h,fun e v hv=> ?_⟩;simp only [AV.rep,AV.bl]at hv;obtain⟨vs,us,h1,rfl,h2⟩:=hv;exact⟨us,h1,h2⟩
  |cons a l=>cases h
 |_=>cases h
theorem Nj {x:aA} {f:Tm->Nat->List Nat->Code->Code->Nat->i4->Option R} {r:R} (h:y0 x f=some r):∃l:tX,x= .loop l/\f l.tm l.sz l.ps l.assign l.body l.st l.ru=some r:=by
 cases x with
 |loop l=>exact⟨l,rfl,h⟩
 |_=>cases h
theorem Sa {P:Program} {g:FuncId} (eB:Cs P g=true) (args:Array Value) (w:World):(callFunc g args).run P w= .ok (.enter g args) w:=by
 unfold Cs at eB;split at eB
 ·rename_i f hf;simp only [and_eq_true,not_eq_true']at eB;have hb:f.body.isNone=false:=by cases nI:f.body<;>simp_all
  simp only [callFunc,Sem.run_bind,run_program,Result.andThen_ok,hf,eB.2,Bool.false_eq_true,if_false,hb,Sem.run_pure]
 ·cases eB
theorem Uk (w:World) (B:Nat) (o:Obj):w.grownBy (w.putObj B o) (some B):=grownBy_putObj' w B o
theorem Br.loop {b0:Base} {w:World} {e:Env} {M:Tr aA} {n b B t:Nat} {r r':tX} {S S':Loop} {M':Tr aA} (h:Br b0 e M.get n w) (hx:M.get b=some (.loop r)) (he:e b=some (B,t)) (hS:w.heap[B]? =some (.loop S)) (hB:¬b0.X B) (hM:∀j,M'.get j=if j=b then some (.loop r')else M.get j) (hr:vt e r' S'):Br b0 e M'.get n (w.putObj B (.loop S')):=
 h.kL hx he hB (Uk w B _) hM ⟨B,t,S',he,World.putObj_heap_same (Array.getElem?_eq_some_iff.1 hS).1,hr,hB⟩
theorem Br.getLoop {b0:Base} {w:World} {e:Env} {M:Tr aA} {n b B t:Nat} {r:tX} (h:Br b0 e M.get n w) (hx:M.get b=some (.loop r)) (he:e b=some (B,t)):∃S,w.heap[B]? =some (.loop S)/\vt e r S/\¬b0.X B:=by
 obtain⟨B',t',S,h1,h2,h3,h4⟩:=h.aY b _ hx;rw [he]at h1;cases h1;exact⟨S,h2,h3,h4⟩
theorem Aqq {P:Program} {call:Bq R} (dP:Eo P call) {sz:Nat} {f:Operand} {ps:Array Tmp} {assign body:Code} :Lh P false sz (.rangeFunc f ps assign body) (At7 P sz ps.toList assign body (dv f).get call):=by
 intro tm M n K r h;obtain⟨av,hf,h⟩:=B0 h;rw [Ef]at hf;obtain⟨g,mD,h,dT⟩:=Aqp h;obtain⟨sw,h⟩:=H2 h;rw [Pk,and_eq_true]at sw;obtain⟨M1,h,yW⟩:=Tr.kG (f:=FU) (show Tr.jI FU M n _ _=some r from h);rw [Ei]at h;obtain⟨I3,M2,n2,h,vv⟩:=dP _ _ _ _ _ _ h;obtain⟨x,hx,h⟩:=B0 h;obtain⟨l2,rfl,h⟩:=Nj h;obtain⟨dh,h⟩:=H2 h;obtain⟨M3,h,KT⟩:=Tr.kG (f:=FU) (show Tr.jI FU M2 n _ _=some r from h);have dh:l2.st≠1:=fun e=>by rw [yJ,e]at dh;cases dh
 have hx:M2.get n=some (.loop l2):=hx;have vv:=vv.1 (le_of_ble_eq_true sw.1);refine⟨l2.ru,tm,M3,n2,by cases hp:l2.ru<;>rw [hp]at h<;>exact h,fun G n0 b0 ds e a w hG hM hA hD=> ?_⟩;have DU:=hG.2 rfl;subst DU;obtain⟨us,om,jJ⟩:=dT e _ (X9 hA.tm hf);refine wpIn_rangeFunc fun fn _=> ?_
 obtain⟨D,iG⟩:∃D,D=w.heap.size:=⟨_,rfl⟩
 obtain⟨S,hS⟩:∃S:Loop,S= { state:= .ready,pending:=none,fn,tmps:=a.tmps,params:=ps,assign,body,defers:=w.heap.size } :=⟨_,rfl⟩
 have y1:∀ {k},b0.X k->k<D:=fun hk=>by rw [iG];exact Nat.lt_of_lt_of_le (b0.lt _ hk) hM.kept.size
 let wD:World:=w.alloc (.deferred (some []))
 have CX:wD.heap.size=D+1:=by rw [iG];exact World.size_alloc _ _
 let b1:Base:=⟨wD,fun k=>b0.X k\/k=D,fun k hk=>by
  rw [CX];rcases hk with hk|hk
  ·have:=y1 hk;omega
  ·omega,b0.R⟩
 have hold:∀ {k},k<D->wD.heap[k]? =w.heap[k]? :=fun hk=>by
  have:=World.grownBy_alloc w (.deferred (some [])) none;exact this.block _ (by omega) (by simp)
 have KU:=World.grownBy_alloc w (.deferred (some [])) none;have Bso:wD.heap[D]? =some (.deferred (some [])):=by rw [iG];exact World.alloc_heap_new w _
 have tA:Kept b0 wD:=⟨KU.os.trans hM.kept.os,KU.tape.trans hM.kept.tape,KU.output.trans hM.kept.output,Nat.le_trans hM.kept.size (by rw [CX];omega),fun k hk=>(hold (y1 hk)).trans (hM.kept.block k hk)⟩
 have zm:Br b1 e M.get n wD:=by
  refine⟨hM.new,hM.res,fun b x hb=> ?_,hM.ew,⟨rfl,rfl,rfl,le_refl _,fun _ _=>rfl⟩⟩;have y3:=hM.aY b x hb;obtain⟨B',t',g1,g2,_⟩:=y3.at;refine y3.aW (Bg.refl e) (fun B t hB hX hc=> ?_) fun B t hB=> ?_
  ·rw [g1]at hB;cases hB;rcases hc with hc|hc
   ·exact hX hc
   ·omega
  ·rw [g1]at hB;cases hB;exact hold (by omega)
 have kH:e n=none:=hM.new n (.inl (le_refl _));have Bsp:Br b1 (e.put n (wD.heap.size,0)) M1.get (n+1) (wD.alloc (.loop S)):=by
  refine zm.push rfl kH (fun h=>Nat.lt_irrefl _ (hM.res n h)) (Nat.le_succ n) (Nat.lt_succ_self n) yW ⟨wD.heap.size,0,S,Fv _ _ _,World.alloc_heap_new _ _,?_,fun hc=> ?_⟩
  ·rw [hS];exact⟨rfl,rfl,hA.size,fun t av ht=>⟨(hA.tm.at_ t av ht).1,Et (Bg.put kH _) (hA.tm.at_ t av ht).2⟩,rfl,rfl,rfl⟩
  ·rcases hc with hc|hc
   ·have:=y1 hc;omega
   ·omega
 have Bl8:AV.bl (e.put n (wD.heap.size,0)) (.yield n::mD) (.func (.yield (D+1)) #[] #[]::us):=by
  simp only [AV.bl];exact⟨_,_,rfl,by simp only [AV.rep];exact⟨_,_,Fv _ _ _,by rw [CX]⟩,Dv (Bg.put kH _) jJ⟩
 refine⟨D+1,[mk D],wD.alloc (.loop S),{ target:= .fn (.func g) ⟨us⟩,args:= #[.func (.yield (D+1)) #[] #[]] },wD.alloc (.loop S),g,#[.func (.yield (D+1)) #[] #[]]++⟨us⟩,wD.alloc (.loop S),?_,?_,fun _ _=>trivial,?_,fun h=>(by cases h),callsIn_wide.2 ?_⟩
 ·rw [hS,iG];exact run_enterLoop_outer _ _ _ _ _
 ·simp only [resolve,om];simp [go_sem]
 ·simp [invoke,go_sem,Sa sw.2]
 have hc:=vv b1 _ _ _ Bsp Bl8 (fun v w'=>rangePost Fence.wide n0 P (D+1) (fun x a' w'=>x=l2.ru.qj/\Pq false sz b0 ds e tm M3 n2 a' w') { a with defers:=[mk D]++a.defers } (.returned v) w') ?_
 ·rw [Sa sw.2]at hc;have e1:(⟨.func (.yield (D+1)) #[] #[]::us⟩:Array Value)= #[.func (.yield (D+1)) #[] #[]]++⟨us⟩:=by apply ext';simp
  rw [e1]at hc;refine Calls.mono (hc:Calls P g _ _ _) fun en w' h=> ?_
  cases en with
  |returned v=>exact h
  |panicked c=>exact(h:False).elim
  |outgrown=>exact(h:False).elim
 ·intro e2 v w2 i3 Bp8 _;have KV:e2 n=some (D+1,0):=by have:=i3 n _ (Fv _ _ _);rwa [CX]at this
  obtain⟨S2,y4,l7,vZ⟩:=Bp8.getLoop hx KV;have Bp9:S2.state≠.busy:=by
   rw [l7.state]
   match hs:l2.st with
   |0=>simp [ph]
   |1=>exact absurd hs dh
   |2=>simp [ph]
   |k+3=>simp [ph]
  have ka:=run_endLoop (P:=P) y4 Bp9;refine⟨S2.pending,_,ka,?_⟩;have KW:Br b1 e2 M3.get n2 (w2.putObj (D+1) (.loop { S2 with state:= .exhausted })):=by
   obtain⟨M4,hM4⟩:∃M4:Mm,∀j,M4 j=if j=n then some (.loop { l2 with st:=3 })else M2.get j:=⟨_,fun j=>rfl⟩
   have h4:Br b1 e2 M4 n2 (w2.putObj (D+1) (.loop { S2 with state:= .exhausted })):=
    Bp8.kL hx KV vZ (Uk w2 _ _) hM4 ⟨_,_,_,KV,World.putObj_heap_same (Array.getElem?_eq_some_iff.1 y4).1,⟨rfl,l7.pending,l7.size,l7.tmps,l7.params,l7.assign,l7.body⟩,vZ⟩
   refine h4.sub fun j z hz=> ?_
   rw [KT]at hz;split at hz
   ·cases hz
   ·rename_i hj;rw [hM4,if_neg hj];exact hz
  have mF:Bg e e2:=(Bg.put kH _).trans i3;have CA:∀D'∈D::ds,D'∈ds\/¬b0.X D':=by
   intro D' h';rcases mem_cons.1 h' with rfl|h'
   ·exact .inr fun hc=>by have:=y1 hc;omega
   ·exact .inl h'
  have y5:Pq false sz b0 ds e tm M3 n2 { a with defers:=[mk D]++a.defers } (w2.putObj (D+1) (.loop { S2 with state:= .exhausted })):=by
   refine⟨e2,b1,D::ds,mF,⟨tA,fun k hk=> .inl hk,rfl,CA⟩,nofun,KW,⟨⟨fun t av ht=> ?_⟩,hA.size,by simp [hA.defers]⟩,List.nodup_cons.2 ⟨fun hc=> ?_,hD.1⟩,fun D' h'=> ?_⟩
   ·exact⟨(hA.tm.at_ t av ht).1,Et mF (hA.tm.at_ t av ht).2⟩
   ·have:=y1 (hD.2 D hc).1;omega
   ·rcases mem_cons.1 h' with rfl|h'
    ·exact⟨.inr rfl,Bso⟩
    ·have hXD:=(hD.2 D' h').1;exact⟨.inl hXD,(tA.block D' hXD).trans (hD.2 D' h').2⟩
  have hpe:=l7.pending
  revert y5
  generalize w2.putObj (D+1) (.loop { S2 with state:= .exhausted })=w5;intro y5;rw [hpe];cases hlp:l2.ru with
  |normal=>exact⟨rfl,y5⟩
  |ret=>exact wpIn_ret ⟨rfl,y5⟩
  |exit i=>exact wpIn_exit ⟨rfl,y5⟩
theorem Gj {P:Program} {b:Frame} {a:Act} {k:List Item} {cs:List Frame} {w:World} {c:Code} :step P (lone (b.atR a (.code (.scope c)::k)) cs w)= .next (lone (b.atR a (.code c::.inScope c::k)) cs w):=
 step_lone_go (by simp [stepG,stepG.exec,Frame.atR])
theorem Acz {P:Program} {b:Frame} {a:Act} {k:List Item} {cs:List Frame} {w:World} {c:Code} :step P (lone (b.atR a (.inScope c::k)) cs w)= .next (lone (b.atR a k) cs w):=
 step_lone_go (by simp [stepG,stepG.exec,Frame.atR])
theorem Anj {F:Fence} {n:Nat} {P:Program} {c:Code} {Q:Exit->Act->World->Prop} {a:Act} {w:World} (hn:∀l a w,¬Q (.goto l) a w) (h:c.wpIn F n P Q a w):(Code.scope c).wpIn F n P Q a w:=by
 intro b k cs hro hb hr;have h0:(lone (b.atR a (.code (.scope c)::k)) cs w).fenced P F:=fenced_calm hb hr rfl;obtain⟨e,a₁,w₁,hq,v5⟩:=h b (.inScope c::k) cs hro hb hr;cases e with
 |normal=>exact⟨.normal,a₁,w₁,hq,.head h0 Gj (StepsIn.trans v5 (.one (fenced_calm hb hr rfl) Acz))⟩
 |exit id=>
  have hx:exitTo id (.inScope c::k)=exitTo id k:=by simp [exitTo]
  exact⟨.exit id,a₁,w₁,hq,fun k' hk=> .head h0 Gj (v5.1 k' (by rw [hx];exact hk)),
   fun kW hk=>let ⟨k₁,h1,h2⟩:=v5.2 kW (by rw [hx];exact hk);⟨k₁,h1,.head h0 Gj h2⟩⟩
 |goto l=>exact absurd hq (hn l a₁ w₁)
 |ret=>exact⟨_,a₁,w₁,hq,.of_steps (.one h0 Gj) v5⟩
 |panic ch=>exact⟨_,a₁,w₁,hq,.of_steps (.one h0 Gj) v5⟩
 |outgrown=>exact⟨_,a₁,w₁,hq,.of_steps (.one h0 Gj) v5⟩
theorem KX {P:Program} {call:Bq R} (dP:Eo P call) (hm:P.follows .mixedOrders=true) {sz lf:Nat} {cI:Bool} :∀(c:Code),Lh P cI sz c ((E2 P sz lf cI c).get call):=by
 intro c
 induction c with
 |skip=>exact fun tm M n K r h=>⟨.normal,tm,M,n,h,fun G n0 b0 ds e a w hG hM hA hD=>wpIn_skip ⟨rfl,Jw (Bg.refl e) hM hA hD⟩⟩
 |label l=>exact fun tm M n K r h=>⟨.normal,tm,M,n,h,fun G n0 b0 ds e a w hG hM hA hD=>wpIn_label ⟨rfl,Jw (Bg.refl e) hM hA hD⟩⟩
 |ret=>exact fun tm M n K r h=>⟨.ret,tm,M,n,h,fun G n0 b0 ds e a w hG hM hA hD=>wpIn_ret ⟨rfl,Jw (Bg.refl e) hM hA hD⟩⟩
 |exit id=>exact fun tm M n K r h=>⟨.exit id,tm,M,n,h,fun G n0 b0 ds e a w hG hM hA hD=>wpIn_exit ⟨rfl,Jw (Bg.refl e) hM hA hD⟩⟩
 |seq x y gY gZ=>
  have gen:Lh P cI sz (.seq x y) (KR (E2 P sz lf cI x).get (E2 P sz lf cI y).get call):=Av9 gY gZ;unfold E2;split
  ·rename_i i ops;intro tm M n K r h;refine gen tm M n K r ?_;exact h
  ·rename_i i ops;intro tm M n K r h;refine gen tm M n K r ?_;exact h
  ·exact gen
 |cond c x y gY gZ=>
  intro tm M n K r h;obtain⟨b,hc,h⟩:=R4 (show yD ((dv c).get tm) _=some r from h);rw [Ef]at hc;cases b with
  |true=>
   obtain⟨ex,bc,M',n',h3,h4⟩:=gY _ _ _ _ _ (show(E2 P sz lf cI x).get call tm M n K=some r from h);exact⟨ex,bc,M',n',h3,fun G n0 b0 ds e a w hG hM hA hD=>wpIn_cond_true (by have:=X9 hA.tm hc;simpa only [AV.rep] using this) (h4 G n0 b0 ds e a w hG hM hA hD)⟩
  |false=>
   obtain⟨ex,bc,M',n',h3,h4⟩:=gZ _ _ _ _ _ (show(E2 P sz lf cI y).get call tm M n K=some r from h);exact⟨ex,bc,M',n',h3,fun G n0 b0 ds e a w hG hM hA hD=>wpIn_cond_false (by have:=X9 hA.tm hc;simpa only [AV.rep] using this) (h4 G n0 b0 ds e a w hG hM hA hD)⟩
 |block id c ih=>
  intro tm M n K r h;obtain⟨ex,jq,M1,n1,h1,h2⟩:=ih _ _ _ _ _ (show(E2 P sz lf cI c).get call tm M n _=some r from h);cases ex with
  |normal=>exact⟨.normal,jq,M1,n1,h1,fun G n0 b0 ds e a w hG hM hA hD=>wpIn_block (wpIn_mono (h2 G n0 b0 ds e a w hG hM hA hD) (by rintro x a' w' ⟨rfl,hx⟩;exact⟨rfl,hx⟩))⟩
  |ret=>exact⟨.ret,jq,M1,n1,h1,fun G n0 b0 ds e a w hG hM hA hD=>wpIn_block (wpIn_mono (h2 G n0 b0 ds e a w hG hM hA hD) (by rintro x a' w' ⟨rfl,hx⟩;exact⟨rfl,hx⟩))⟩
  |exit i=>
   simp only at h1;cases hi:Nat.beq i id with
   |true=>
    rw [hi]at h1;have:=eq_of_beq_eq_true hi;subst this;exact⟨.normal,jq,M1,n1,h1,fun G n0 b0 ds e a w hG hM hA hD=>wpIn_block (wpIn_mono (h2 G n0 b0 ds e a w hG hM hA hD) (by rintro x a' w' ⟨rfl,hx⟩;show if i=i then _ else _;rw [if_pos rfl];exact⟨rfl,hx⟩))⟩
   |false=>
    rw [hi]at h1;have bA:i≠id:=fun e=>by subst e;simp at hi
    exact⟨.exit i,jq,M1,n1,h1,fun G n0 b0 ds e a w hG hM hA hD=>wpIn_block (wpIn_mono (h2 G n0 b0 ds e a w hG hM hA hD) (by rintro x a' w' ⟨rfl,hx⟩;show if i=id then _ else _;rw [if_neg bA];exact⟨rfl,hx⟩))⟩
 |loop c ih=>exact At9 ih lf
 |scope c ih=>
  intro tm M n K r h;obtain⟨ex,jq,M1,n1,h1,h2⟩:=ih _ _ _ _ _ (show(E2 P sz lf cI c).get call tm M n K=some r from h);exact⟨ex,jq,M1,n1,h1,fun G n0 b0 ds e a w hG hM hA hD=>Anj (fun l a w hq=>by cases ex<;>cases hq.1) (h2 G n0 b0 ds e a w hG hM hA hD)⟩
 |region id ops draw=>
  intro tm M n K r h;cases draw with
  |false=>
   obtain⟨bc,M',n',h3,h6⟩:=JT dP ops.toList 0 (by simp) (show(Qt P sz ops ops.toList).get call tm M n _=some r from h);refine⟨.normal,bc,M',n',h3,fun G n0 b0 ds e a w hG hM hA hD=>wpIn_region ?_⟩;have:=h6 G n0 (fun x a' w'=>x=i4.normal.qj/\Pq cI sz b0 ds e bc M' n' a' w') b0 (ds.map mk) e a w hG.1 hM hA fun e' a' w' hl gV v7=>⟨rfl,Jw hl gV v7 hD⟩
   rw [List.range_eq_range'];simpa using this
  |true=>
   have eX:=Aqo (show(Ws P sz ops).get call tm M n _=some r from h);obtain⟨bc,M',n',h3,h6⟩:=At6 dP (show(Ws P sz ops).get call tm M n _=some r from h);refine⟨.normal,bc,M',n',h3,fun G n0 b0 ds e a w hG hM hA hD=> ?_⟩;have:=h6 (B9 fun a' w'=>Pq cI sz b0 ds e bc M' n' a' w') b0 (ds.map mk) e a w hM hA fun e' a' w' hl gV v7=>Jw hl gV v7 hD
   refine wpIn_mono (wpIn_region_any hm (Ut hG.1 eX J9 _ _ _ _ this)) fun x a w h=> ?_
   cases x<;>first|exact⟨rfl,h⟩|exact(h:False).elim
 |rangeFunc f ps assign body _ _=>
  unfold E2;cases cI with
  |true=>intro tm M n K r h;cases h
  |false=>exact Aqq dP
 |_=>intro tm M n K r h;cases h
def CY (sz:Nat):List Nat->List AV->Tm->(Tm->Option R)->Option R
 |[],[],tm,K=>K tm|p::ps,a::az,tm,K=>rn sz tm (some p) a fun tm=>CY sz ps az tm K
 |_,_,_,_=>none
theorem Ak9 {sz:Nat} :∀ {ps:List Nat} {az:List AV} {tm:Tm} {K:Tm->Option R} {r:R},CY sz ps az tm K=some r->∃bc,K bc=some r/\ps.length=az.length/\
 ∀e vs (T:Array Value),AV.bl e az vs->Jd sz [] e tm { tmps:=T,defers:=[] } ->Jd sz [] e bc { tmps:=(ps.zip vs).foldl (fun T (x:Nat×Value)=>T.setIfInBounds x.1 x.2) T,defers:=[] }
 |[],[],tm,K,r,h=>⟨tm,h,rfl,fun e vs T hv hA=>by simpa using hA⟩
 |p::ps,a::az,tm,K,r,h=>by
  obtain⟨jq,h1,h2⟩:=JM (show rn sz tm (some p) a (fun tm=>CY sz ps az tm K)=some r from h);obtain⟨bc,h3,h4,h5⟩:=Ak9 h1;refine⟨bc,h3,by simp [h4],fun e vs T hv hA=> ?_⟩;simp only [AV.bl]at hv;obtain⟨x,xs,rfl,hx,lh⟩:=hv;exact h5 e xs _ lh (h2 [] e e _ x hA (Bg.refl e) hx)
 |[],_::_,_,_,_,h=>by cases h
 |_::_,[],_,_,_,h=>by cases h
def KY (P:Program) (lf:Nat) (call:Bq R) (b:Nat) (az:List AV) (M:Tr aA) (n:Nat) (K:AV->Tr aA->Nat->Option R):Option R:=oK ((Tr.gB b).get M) fun x=>y0 x fun tm sz ps assign body st _=>eV (Nat.beq st 0) (CY sz ps az tm fun jq=>jH (E2 P sz lf true assign) fun fa=>fa call jq M n fun ex pz M2 n2=>i4.casesOn (motive:=fun _=>Option R) ex (oK ((Tr.gB b).get M2) fun x2=>y0 x2 fun bc KA ps' az' Bqa iQ Bqb=>eV (Nat.beq iQ 0) (jH (Tr.sB b) fun s=>s M2 (some (.loop ⟨bc,KA,ps',az',Bqa,1,Bqb⟩)) fun M3=>jH (E2 P sz lf true body) fun fb=>fb call pz M3 n2 fun qp _ M4 n4=>oK ((Tr.gB b).get M4) fun x4=>y0 x4 fun KZ K_ LA LB LC _ _=>i4.casesOn (motive:=fun _=>Option R) qp (jH (Tr.sB b) fun s=>s M4 (some (.loop ⟨KZ,K_,LA,LB,LC,0,.normal⟩)) fun M5=>K (.lit (.bool true)) M5 n4) (jH (Tr.sB b) fun s=>s M4 (some (.loop ⟨KZ,K_,LA,LB,LC,2,.ret⟩)) fun M5=>K (.lit (.bool false)) M5 n4) (fun i=>jH (Tr.sB b) fun s=>s M4 (some (.loop ⟨KZ,K_,LA,LB,LC,2,.exit i⟩)) fun M5=>K (.lit (.bool false)) M5 n4)) none) none (fun _=>none)) none
theorem Aqr {P:Program} {call:Bq R} (dP:Eo P call) (hm:P.follows .mixedOrders=true) {lf b:Nat} {az:List AV} {M:Tr aA} {n:Nat} {K:AV->Tr aA->Nat->Option R} {r:R} (h:KY P lf call b az M n K=some r):∃av M' n',K av M' n'=some r/\YJ P b az M n av M' n':=by
 obtain⟨x,hx,h⟩:=B0 h;obtain⟨l,rfl,h⟩:=Nj h;obtain⟨dh,h⟩:=H2 h;have dh:=eq_of_beq_eq_true dh;obtain⟨jq,h,hlen,eG⟩:=Ak9 h;obtain⟨ex,pz,M2,n2,h,cE⟩:=KX dP hm (cI:=true) l.assign _ _ _ _ _ (show(E2 P l.sz lf true l.assign).get call jq M n _=some r from h);cases ex with
 |ret=>cases h
 |exit i=>cases h
 |normal=>
 obtain⟨x2,jZ,h⟩:=B0 (show oK ((Tr.gB b).get M2) _=some r from h);obtain⟨l2,rfl,h⟩:=Nj h;obtain⟨LD,h⟩:=H2 h;have LD:=eq_of_beq_eq_true LD;obtain⟨M3,h,KT⟩:=Tr.kG (f:=FU) (show Tr.jI FU M2 b _ _=some r from h);obtain⟨qp,tm3,M4,n4,h,fX⟩:=KX dP hm (cI:=true) l.body _ _ _ _ _ (show(E2 P l.sz lf true l.body).get call pz M3 n2 _=some r from h);obtain⟨x4,uT,h⟩:=B0 h;obtain⟨l4,rfl,h⟩:=Nj h;have hx:M.get b=some (.loop l):=hx;have jZ:M2.get b=some (.loop l2):=jZ;have uT:M4.get b=some (.loop l4):=uT;obtain⟨bb,vn,M5,hK,nI,hM5⟩:∃(bb:Bool) (vn:Nat) (M5:Tr aA),K (.lit (.bool bb)) M5 n4=some r/\(bb=qp.jump.isNone/\ph vn=if qp.jump.isNone then .ready else .done)/\∀j,M5.get j=if j=b then some (.loop { l4 with st:=vn,ru:=qp })else M4.get j:=by
  cases qp with
  |normal=>
   obtain⟨M5,h1,h2⟩:=Tr.kG (f:=FU) (show Tr.jI FU M4 b _ _=some r from h);exact⟨true,0,M5,h1,⟨rfl,rfl⟩,h2⟩
  |ret=>
   obtain⟨M5,h1,h2⟩:=Tr.kG (f:=FU) (show Tr.jI FU M4 b _ _=some r from h);exact⟨false,2,M5,h1,⟨rfl,rfl⟩,h2⟩
  |exit i=>
   obtain⟨M5,h1,h2⟩:=Tr.kG (f:=FU) (show Tr.jI FU M4 b _ _=some r from h);exact⟨false,2,M5,h1,⟨rfl,rfl⟩,h2⟩
 refine⟨_,M5,n4,hK,fun b0 e w vs hM kF B t hB next hk n0=> ?_⟩;obtain⟨S,hS,hL,hXB⟩:=hM.getLoop hx hB;have uX:=Bk kF;have dL:(⟨vs⟩:Array Value).size=S.params.size:=by rw [hL.params];simp;omega
 have hy:=run_yield (P:=P) (args:=(⟨vs⟩:Array Value)) hS dL;refine⟨S.fn,_,S.assign,S.body,hy,roundIn_of_wpIn trivial ?_⟩;rw [hL.assign,hL.body];have htm:(S.params.zip (⟨vs⟩:Array Value)).foldl (fun tmps (x:Nat×Value)=>tmps.setIfInBounds x.1 x.2) S.tmps=(l.ps.zip vs).foldl (fun T (x:Nat×Value)=>T.setIfInBounds x.1 x.2) S.tmps:=by
  rw [hL.params];have:(⟨l.ps⟩:Array Nat).zip (⟨vs⟩:Array Value)=⟨l.ps.zip vs⟩:=by apply ext';simp
  rw [this];simp
 have kY:Jd l.sz [] e l.tm { tmps:=S.tmps,defers:=[] } :=⟨⟨fun t av ht=>hL.tmps t av ht⟩,hL.size,rfl⟩
 have nF:=eG e vs S.tmps kF kY;rw [←htm]at nF;have hG:CV true (Fence.wide.inRound B):=⟨.inr ⟨B,rfl⟩,nofun⟩
 have tS:Ni b0 []:=⟨List.nodup_nil,nofun⟩
 refine wpIn_mono (cE (Fence.wide.inRound B) n0 b0 [] e _ w hG hM nF tS) ?_;rintro x a2 w2 ⟨rfl,e2,b2,CU,g1,_,g3,g4,g5,_⟩;obtain⟨rfl,rfl⟩:=g3 rfl;have vZ:=g1 _ _ hB;obtain⟨S2,y4,l7,Bsq⟩:=g4.getLoop jZ vZ;refine⟨_,run_beginRound y4 (by rw [l7.state,LD];rfl),?_⟩;have KW:Br b2 e2 M3.get n2 (w2.putObj B (.loop { S2 with state:= .busy })):=
  g4.loop jZ vZ y4 Bsq KT ⟨rfl,l7.pending,l7.size,l7.tmps,l7.params,l7.assign,l7.body⟩
 refine wpIn_mono (fX (Fence.wide.inRound B) n0 b2 [] e2 a2 _ hG KW g5 tS) ?_;rintro x a4 w4 ⟨rfl,e4,b4,ds4,k1,_,k3,k4,k5,_⟩;obtain⟨rfl,rfl⟩:=k3 rfl;have hB4:=k1 _ _ vZ;obtain⟨S4,hS4,y6,Bsr⟩:=k4.getLoop uT hB4;have ka:=run_endRound (P:=P) qp.jump hS4;have Bss:Br b4 e4 M5.get n4 (w4.putObj B (.loop { S4 with state:=(if qp.jump.isNone then .ready else .done),pending:=qp.jump })):=
  k4.loop uT hB4 hS4 Bsr hM5 ⟨nI.2.symm,rfl,y6.size,y6.tmps,y6.params,y6.assign,y6.body⟩
 have l5:=hk e4 (.bool bb) _ (g1.trans k1) Bss (by simp only [AV.rep]);rw [←nI.1]at ka l5;cases qp with
 |normal=>exact⟨_,_,ka,bb,rfl,l5⟩
 |ret=>exact⟨_,_,ka,bb,rfl,l5⟩
 |exit i=>exact⟨_,_,ka,bb,rfl,l5⟩
end Go.Am
