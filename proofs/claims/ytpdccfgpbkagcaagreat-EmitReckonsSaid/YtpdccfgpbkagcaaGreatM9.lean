/- A part of the proof: conditions of the code, contracts, the plain law. -/
import Derived.Test.YtpdccfgpbkagcaaGreatM8
import Derived.Deep.AppendSrc
import Derived.MapKept
import Derived.Laws.IdiomStrings
import Derived.Lib.ConvBytes
open Bool (and_eq_true or_eq_true)
open Nat (le_of_ble_eq_true eq_of_beq_eq_true le_refl add_mul zero_add zero_le lt_irrefl le_succ)
open List (length_cons getElem?_append_left length_append drop_zero length_take map_cons getElem?_drop)
open Option (map_some map_none)
open Array (ext')
namespace Go.Am
open Go.Vc
def T6 (tm:Tm) (x:Operand):Option Int:=match cW tm x with
 |some (.lit (.int _ n))=>some n|_=>none
theorem Dj {e:Env} {tm:Tm} {a:Act} {l:List Operand} (h:O9 e tm a l) {x:Operand} (hl:x∈l) {n:Int} (hx:T6 tm x=some n):∃k,a.eval x= .int k n:=by
 unfold T6 at hx;split at hx
 ·rename_i k m hm;cases hx
  have:=h x hl _ hm;simp only [AV.rep]at this;exact⟨k,this⟩
 ·cases hx
def IC (P:Program) (tm:Tm) (t:TypeId) (b k n sz c:Nat) (ex:Bool) (lo hi mx:Option Operand):Option AV:=match P.underlying t with
 |some (.slice e)=>match P.info? e with
  |some i=>cond (Nat.beq i.size sz) (match lo,hi,mx with
   |none,none,none=>some (.slice b k n sz c ex)|some l,none,none=>match T6 tm l with
    |some l=>cond (decide (0<=l)&&decide (l<=n)) (some (.slice b (k+l.toNat*sz) (n-l.toNat) sz (c-l.toNat) ex)) none|none=>none
   |none,some h,none=>match T6 tm h with
    |some h=>cond (decide (0<=h)&&(decide (h<=n)||decide (h<=c))) (some (.slice b k h.toNat sz c ex)) none|none=>none
   |some l,some h,none=>match T6 tm l,T6 tm h with
    |some l,some h=>cond (decide (0<=l)&&decide (l<=h)&&(decide (h<=n)||decide (h<=c))) (some (.slice b (k+l.toNat*sz) (h.toNat-l.toNat) sz (c-l.toNat) ex)) none|_,_=>none
   |none,some h,some m=>match T6 tm h,T6 tm m with
    |some h,some m=>cond (decide (0<=h)&&decide (h<=m)&&(decide (m<=n)||decide (m<=c))) (some (.slice b k h.toNat sz m.toNat true)) none|_,_=>none
   |_,_,_=>none) none
  |none=>none
 |_=>none
def Ko (P:Program) (t:TypeId):Option (List AV):=match P.info? t with
 |some i=>match i.zero with
  |some z=>some (AV.cells (.lit z))|none=>none
 |none=>none
def sD (tm:Tm):List (Nat×Operand)->Option (List (Nat×AV))
 |[]=>some []|(i,x)::l=>match cW tm x with
  |some a=>match sD tm l with
   |some az=>some ((i,a)::az)|none=>none
  |none=>none
def Vw (P:Program):List Field->Option (List (Nat×Nat))
 |[]=>some []|f::fs=>match P.info? f.type with
  |some i=>match Vw P fs with
   |some r=>some ((f.offset,i.size)::r)|none=>none
  |none=>none
def BE (P:Program) (tm:Tm) (t:TypeId) (parts:List (Nat×Operand)):Option AV:=match Ko P t,sD tm parts with
 |some z,some ps=>match P.underlying t with
  |some (.struct fs)=>match Vw P fs.toList with
   |some l=>match Np (l[·]?) z ps with
    |some r=>some (.agg r)|none=>none
   |none=>none
  |some (.array _ e)=>match P.info? e with
   |some i=>match Np (fun k=>some (k*i.size,i.size)) z ps with
    |some r=>some (.agg r)|none=>none
   |none=>none
  |_=>none
 |_,_=>none
def ID (d:Option TypeDesc):AV->AV->Option Bool
 | .ptr ..,.lit (.pointer none)=>match d with
  |some (.pointer _)=>some false|_=>none
 | .slice ..,.lit (.slice none _ _)=>match d with
  |some (.slice _)=>some false|_=>none
 | .map _,.lit (.map none)=>match d with
  |some (.map _ _)=>some false|_=>none
 | .iface ..,.lit .nilIface=>match d with
  |some (.interface _)=>some false|_=>none
 | .func ..,.lit .nilFunc=>match d with
  |some (.func ..)=>some false
  |_=>none
 |_,_=>none
def qn (op:BinOp) (lo hi n:Int):Option Bool:=match op with
 | .lss=>cond (decide (hi<n)) (some true) (cond (decide (n<=lo)) (some false) none)| .leq=>cond (decide (hi<=n)) (some true) (cond (decide (n<lo)) (some false) none)| .gtr=>cond (decide (n<lo)) (some true) (cond (decide (hi<=n)) (some false) none)| .geq=>cond (decide (n<=lo)) (some true) (cond (decide (hi<n)) (some false) none)| .eql=>cond (decide (hi<n)||decide (n<lo)) (some false) none| .neq=>cond (decide (hi<n)||decide (n<lo)) (some true) none|_=>none
def Wl:BinOp->BinOp
 | .lss=> .gtr| .leq=> .geq| .gtr=> .lss| .geq=> .leq|op=>op
def IE (op:BinOp):AV->AV->Option Bool
 | .qi k lo hi,.lit (.int k' n)=>cond (decide (k=k')) (qn op lo hi n) none| .lit (.int k' n),.qi k lo hi=>cond (decide (k=k')) (qn (Wl op) lo hi n) none| .same _ k lo hi,.lit (.int k' n)=>cond (decide (k=k')) (qn op lo hi n) none| .lit (.int k' n),.same _ k lo hi=>cond (decide (k=k')) (qn (Wl op) lo hi n) none| .same i k _ _,.same j k' _ _=>cond (Nat.beq i j&&decide (k=k')) (match op with
  | .eql=>some true| .neq=>some false|_=>none) none
 |_,_=>none
def Rz (ok:Bool) (a:AV):AV:=cond ok (.tuple [a,.lit (.bool true)]) a
def IG (P:Program) (t asserted:TypeId) (ok:Bool) (a:AV):Option AV:=match P.underlying asserted with
 |some (.interface want)=>match P.info? t with
  |some i=>match Instr.missingMethod want i.methods with
   |none=>some (Rz ok (.iface t a))|some _=>none
  |none=>none
 |some _=>cond (Nat.beq t asserted) (some (Rz ok a)) (cond ok (match P.info? asserted with
  |some i=>match i.zero with
   |some z=>some (.tuple [.lit z,.lit (.bool false)])|none=>none
  |none=>none) none)
 |none=>none
def Ji (P:Program) (tm:Tm) (o:Oper):Option AV:=match o.op with
 | .move x=>cW tm x| .assign x=>cW tm x| .pick c x y=>match cW tm c with
  |some (.lit (.bool b))=>cond b (cW tm x) (cW tm y)|_=>none
 | .nilCheck x=>match cW tm x with
  |some (.ptr b k)=>some (.ptr b k)|some (.func f l m)=>some (.func f l m)
  |some (.lit _)=>Pb P tm o|_=>none
 | .fieldAddr t x f=>match cW tm x,P.underlying t with
  |some (.ptr b k),some (.struct fs)=>match fs[f]? with
   |some lG=>match P.info? lG.type with
    |some i=>cond (Nat.beq i.size 0) none (some (.ptr b (k+lG.offset)))|none=>none
   |none=>none
  |_,_=>none
 | .indexAddr t x i=>match T6 tm i with
  |some n=>match cW tm x,P.underlying t with
   |some (.slice b k len sz _ _),some (.slice e)=>match P.info? e with
    |some inf=>cond (decide (0<=n)&&decide (n<len)&&Nat.beq inf.size sz) (some (.ptr b (k+n.toNat*sz))) none|none=>none
   |some (.ptr b k),some (.array len e)=>match P.info? e with
    |some inf=>cond (decide (0<=n)&&decide (n<len)) (some (.ptr b (k+n.toNat*inf.size))) none|none=>none
   |_,_=>none
  |none=>none
 | .slice t x lo hi mx=>match cW tm x with
  |some (.slice b k n sz c ex)=>IC P tm t b k n sz c ex lo hi mx|some (.lit _)=>Pb P tm o|_=>none
 | .field t x f=>match cW tm x with
  |some (.agg l)=>match P.underlying t with
   |some (.struct fs)=>match fs[f]? with
    |some lG=>BD P lG.type l lG.offset|none=>none
   |_=>none
  |some (.lit _)=>Pb P tm o|_=>none
 | .index t x i=>match cW tm x with
  |some (.agg l)=>match P.underlying t,T6 tm i with
   |some (.array len e),some n=>match P.info? e with
    |some inf=>cond (decide (0<=n)&&decide (n<len)) (BD P e l (n.toNat*inf.size)) none|none=>none
   |_,_=>none
  |some (.lit _)=>Pb P tm o|_=>none
 | .extract x i=>match cW tm x with
  |some (.tuple l)=>l[i]?|some (.lit _)=>Pb P tm o|_=>none
 | .build t ps=>cond (plain tm (ps.toList.map (·.2))) (Pb P tm o) (BE P tm t ps.toList)| .makeFunc (.func f) first mD=>match po tm first.toList,po tm mD.toList with
  |some l,some m=>some (.func f l m)
  |_,_=>none
 | .binOp op t x y _=>match cW tm x,cW tm y with
  |some u,some v=>match ID (P.underlying t) u v with
   |some b=>match op with
    | .eql=>some (.lit (.bool b))| .neq=>some (.lit (.bool !b))|_=>none
   |none=>match IE op u v with
    |some b=>some (.lit (.bool b))|none=>Pb P tm o
  |_,_=>none
 | .call { callee:= .builtin .len,args:=⟨[x]⟩,argTypes:=⟨[t]⟩ } =>match cW tm x with
  |some (.slice _ _ n _ _ _)=>match P.underlying t with
   |some (.slice _)=>some (.lit (.int .i64 n))|_=>none
  |some (.lit _)=>Pb P tm o|_=>none
 | .call { callee:= .builtin .cap,args:=⟨[x]⟩,argTypes:=⟨[t]⟩ } =>match cW tm x with
  |some (.slice _ _ _ _ c true)=>match P.underlying t with
   |some (.slice _)=>some (.lit (.int .i64 c))|_=>none
  |some (.lit _)=>Pb P tm o|_=>none
 | .call { callee:= .builtin .min,.. } =>Pb P tm o| .call { callee:= .builtin .max,.. } =>Pb P tm o| .unOp .. =>Pb P tm o| .convert .. =>Pb P tm o| .makeInterface t x=>cond (plain tm [x]) (Pb P tm o) (match cW tm x with
  |some a=>match P.underlying t with
   |some (.interface _)=>none|some _=>some (.iface t a)|none=>none
  |none=>none)
 | .typeAssert x _ t ok=>match cW tm x with
  |some (.iface d a)=>IG P d t ok a|_=>Pb P tm o
 |_=>none
theorem BF (B o n:Nat):(⟨B,o,none⟩:Addr).add n=⟨B,o+n,none⟩:=Bo B o n
theorem Nc {P:Program} {o:Oper} {av:AV} {e:Env} {a:Act} {p:ig} (hp:B8 P a.eval o=some p) (h:p.then fun v=>av.rep e v):∃v,av.rep e v/\∀w,(execOp a.eval o).run P w= .ok (.value v) w:=by
 obtain⟨v,h1,_,h2⟩:=E5 hp h;exact⟨v,h1,h2⟩
theorem Aqa {P:Program} {tm:Tm} {o:Oper} {t:TypeId} {x:Operand} {lo hi mx:Option Operand} {b k n sz c:Nat} {ex:Bool} {av:AV} (ho:o.op= .slice t x lo hi mx) (h:IC P tm t b k n sz c ex lo hi mx=some av) (hx:cW tm x=some (.slice b k n sz c ex)):L8 P tm o av:=by
 intro e a ht;have hr:=ht _ (by simp [ho,Op.operands]) _ hx;simp only [AV.rep]at hr;obtain⟨B,tt,kk,A,h1,h2,h3,h4,h5,h6,h7⟩:=hr;unfold IC at h;split at h
 case h_2=>cases h
 rename_i el hu;split at h
 case h_2=>cases h
 rename_i inf hi;cases hb:Nat.beq inf.size sz with
 |false=>rw [hb]at h;cases h
 |true=>
 rw [hb]at h;have dL:inf.size=sz:=eq_of_beq_eq_true hb;simp only [cond_true]at h;have key:∀(l h':Nat),l<=h'->h'<=kk->(AV.slice b (k+l*sz) (h'-l) sz (c-l) ex).rep e (.slice (Cn (some A) l kk inf.size) (h'-l) (kk-l)):=by
  intro l h' g1 g2;simp only [AV.rep];by_cases hk:kk=l
  ·subst hk;refine⟨B,tt,0,A,h1,by simp [Cn],.inr rfl,by omega,by omega,fun hx=>by have:=h6 hx;omega,?_⟩;simp only [Nat.zero_mul,Nat.add_zero];omega
  ·rcases h3 with rfl|h3
   ·refine⟨B,tt,kk-l,⟨B,k+l*sz,none⟩,h1,?_,.inl rfl,by omega,by omega,fun hx=>by have:=h6 hx;omega,?_⟩
    ·unfold Cn;rw [if_neg hk,dL];simp [BF]
    ·have:l*sz+(kk-l)*sz=kk*sz:=by rw [←add_mul];congr 1;omega
     omega
   ·omega
 have cF:∀p,B8 P a.eval o=some p->(p.then fun v=>av.rep e v)->∃v,av.rep e v/\∀w,(execOp a.eval o).run P w= .ok (.value v) w:=fun p=>Nc (e:=e)
 split at h
 ·cases h
  refine cF (.when True (.slice (Cn (some A) 0 kk inf.size) (n-0) (kk-0))) (by simp only [B8,ho,hu,h2,bounds,map_none,hi]) ⟨trivial,?_⟩;have:=key 0 n (by omega) h4;simpa using this
 ·rename_i l;split at h
  ·rename_i l' hl;cases hc:(decide (0<=l')&&decide (l'<=(n:Int)))with
   |false=>rw [hc]at h;cases h
   |true=>
    rw [hc]at h;cases h;simp only [and_eq_true,decide_eq_true_eq]at hc;obtain⟨kd,hl⟩:=Dj ht (by simp [ho,Op.operands]) hl;exact cF (.when (0<=l'/\l'<=(n:Int)) (.slice (Cn (some A) l'.toNat kk inf.size) (n-l'.toNat) (kk-l'.toNat))) (by simp only [B8,ho,hu,h2,bounds,map_none,map_some,hl,hi]) ⟨⟨hc.1,hc.2⟩,key l'.toNat n (by omega) h4⟩
  ·cases h
 ·rename_i l;split at h
  ·rename_i l' hl;cases hc:(decide (0<=l')&&(decide (l'<=(n:Int))||decide (l'<=(c:Int))))with
   |false=>rw [hc]at h;cases h
   |true=>
    rw [hc]at h;cases h;simp only [and_eq_true,or_eq_true,decide_eq_true_eq]at hc;obtain⟨kd,hl⟩:=Dj ht (by simp [ho,Op.operands]) hl;refine cF (.when (0<=l'/\l'<=(kk:Int)) (.slice (Cn (some A) 0 kk inf.size) (l'.toNat-0) (kk-0))) (by simp only [B8,ho,hu,h2,bounds,map_none,map_some,hl,hi]) ⟨⟨hc.1,by omega⟩,?_⟩;have:=key 0 l'.toNat (by omega) (by omega);simpa using this
  ·cases h
 ·rename_i l l2;split at h
  ·rename_i l' h' hl hh;cases hc:(decide (0<=l')&&decide (l'<=h')&&(decide (h'<=(n:Int))||decide (h'<=(c:Int))))with
   |false=>rw [hc]at h;cases h
   |true=>
    rw [hc]at h;cases h;simp only [and_eq_true,or_eq_true,decide_eq_true_eq]at hc;obtain⟨kd,hl⟩:=Dj ht (by simp [ho,Op.operands]) hl;obtain⟨kd2,hh⟩:=Dj ht (by simp [ho,Op.operands]) hh;exact cF (.when ((0<=h'/\h'<=(kk:Int))/\0<=l'/\l'<=(h'.toNat:Int)) (.slice (Cn (some A) l'.toNat kk inf.size) (h'.toNat-l'.toNat) (kk-l'.toNat))) (by simp only [B8,ho,hu,h2,bounds,map_some,hl,hh,hi]) ⟨⟨⟨by omega,by omega⟩,hc.1.1,by omega⟩,key l'.toNat h'.toNat (by omega) (by omega)⟩
  ·cases h
 ·rename_i l l2;split at h
  ·rename_i h' m' hh hm;cases hc:(decide (0<=h')&&decide (h'<=m')&&(decide (m'<=(n:Int))||decide (m'<=(c:Int))))with
   |false=>rw [hc]at h;cases h
   |true=>
    rw [hc]at h;cases h;simp only [and_eq_true,or_eq_true,decide_eq_true_eq]at hc;obtain⟨kd,hh⟩:=Dj ht (by simp [ho,Op.operands]) hh;obtain⟨kd2,hm⟩:=Dj ht (by simp [ho,Op.operands]) hm;refine cF (.when ((0<=m'/\m'<=(kk:Int))/\0<=h'/\h'<=(m'.toNat:Int)) (.slice (some A) h'.toNat m'.toNat)) (by simp only [B8,ho,hu,h2,hh,hm,hi]) ⟨⟨⟨by omega,by omega⟩,by omega,by omega⟩,?_⟩;simp only [AV.rep];refine⟨B,tt,m'.toNat,A,h1,rfl,?_,by omega,le_refl _,fun _=>rfl,?_⟩
    ·rcases h3 with h3|h3
     ·exact .inl h3
     ·exact .inr (by omega)
    ·have:m'.toNat*sz<=kk*sz:=Nat.mul_le_mul_right _ (by omega);omega
  ·cases h
 ·cases h
theorem IH {tm:Tm} {e:Env} {a:Act} :∀ {l:List (Nat×Operand)} {az:List (Nat×AV)},O9 e tm a (l.map (·.2))->sD tm l=some az->
 (l.map fun p=>(p.1,a.eval p.2)).map (·.1)=az.map (·.1)/\AV.bl e (az.map (·.2)) ((l.map fun p=>(p.1,a.eval p.2)).map (·.2))
 |[],_,_,h=>by simp only [sD]at h;cases h;exact⟨rfl,by simp [AV.bl]⟩
 |(i,x)::l,_,ht,h=>by
  simp only [sD]at h;split at h
  ·rename_i av fw;split at h
   ·rename_i az has;cases h
    obtain⟨h1,h2⟩:=IH (ht.sub fun y hy=>by simp only [map_cons];exact List.mem_cons_of_mem _ hy) has;refine⟨by simp only [map_cons,h1],?_⟩;simp only [map_cons,AV.bl];exact⟨_,_,rfl,ht x (by simp) _ fw,h2⟩
   ·cases h
  ·cases h
theorem Vx {P:Program} {t:TypeId} {z:List AV} (h:Ko P t=some z):∃v,(∀e,AV.bl e z v.cells.toList)/\∀w,(zeroValue t).run P w= .ok v w:=by
 unfold Ko at h;split at h
 ·rename_i i hi;split at h
  ·rename_i v hv;cases h
   exact⟨v,fun e=>L7 (by simp [AV.rep]),fun w=>by simp [zeroValue,typeInfo,hi,hv]⟩
  ·cases h
 ·cases h
theorem WT {P:Program} :∀ {fs:List Field} {r:List (Nat×Nat)},Vw P fs=some r->∀w,(fs.mapM fun f=>(do pure (f.offset,←sizeOf f.type):Sem (Nat×Nat))).run P w= .ok r w
 |[],_,h,w=>by simp only [Vw]at h;cases h;rfl
 |f::fs,_,h,w=>by
  simp only [Vw]at h;split at h
  ·rename_i i hi;split at h
   ·rename_i r hr;cases h
    have:=WT hr w;simp only [List.mapM_cons,Sem.run_bind,sizeOf,typeInfo,run_program,Result.andThen_ok,hi,Sem.run_pure]at this⊢;rw [this];rfl
   ·cases h
  ·cases h
theorem WU {P:Program} {tm:Tm} {o:Oper} {t:TypeId} {ps:Array (Nat×Operand)} {av:AV} (ho:o.op= .build t ps) (h:BE P tm t ps.toList=some av):L8 P tm o av:=by
 intro e a ht;unfold BE at h;split at h
 case h_2=>cases h
 rename_i z az hz has;obtain⟨zv,AW,WV⟩:=Vx hz;obtain⟨p1,p2⟩:=IH (ht.sub fun y hy=>by simpa [ho,Op.operands] using hy) has;have ov:(ps.map fun(i,x)=>(i,a.eval x)).toList=ps.toList.map fun p=>(p.1,a.eval p.2):=by simp
 split at h
 ·rename_i fs hu;split at h
  case h_2=>cases h
  rename_i l hl;split at h
  case h_2=>cases h
  rename_i r hr;cases h
  obtain⟨dr,g1,g2⟩:=T5 (cs:=zv.cells) hr (AW e) p1 p2;refine⟨.agg dr,by simp only [AV.rep];exact⟨dr.toList,rfl,g2⟩,fun w=> ?_⟩;have hs:=WT (P:=P) hl w;have hm:(fs.mapM fun f=>(do pure (f.offset,←sizeOf f.type):Sem (Nat×Nat))).run P w= .ok l.toArray w:=by
   rw [Array.mapM_eq_mapM_toList,Sem.run_map,hs];rfl
  have hg:(fun i:Nat=>l.toArray[i]?)=(fun i:Nat=>l[i]?):=by funext i;simp
  simp only [execOp,ho,Instr.build,Sem.run_bind,WV w,Result.andThen_ok,underlying,run_program,hu,Sem.run_pure,hm,ov,hg,g1]
 ·rename_i n el hu;split at h
  case h_2=>cases h
  rename_i i hi;split at h
  case h_2=>cases h
  rename_i r hr;cases h
  obtain⟨dr,g1,g2⟩:=T5 (cs:=zv.cells) hr (AW e) p1 p2;refine⟨.agg dr,by simp only [AV.rep];exact⟨dr.toList,rfl,g2⟩,fun w=> ?_⟩;simp only [execOp,ho,Instr.build,Sem.run_bind,WV w,Result.andThen_ok,underlying,run_program,hu,Sem.run_pure,sizeOf,typeInfo,hi,ov,g1]
 ·cases h
theorem Avj {P:Program} {tm:Tm} {o:Oper} {t yt:TypeId} {op:BinOp} {x y:Operand} {u v:AV} {b:Bool} (ho:o.op= .binOp op t x y yt) (hx:cW tm x=some u) (hy:cW tm y=some v) (hn:ID (P.underlying t) u v=some b): (op= .eql->L8 P tm o (.lit (.bool b)))/\(op= .neq->L8 P tm o (.lit (.bool !b))):=by
 unfold ID at hn;split at hn
 ·split at hn
  case h_2=>cases hn
  rename_i el hu;cases hn
  constructor
  all_goals
   rintro rfl e a ht;have rx:=ht x (by simp [ho,Op.operands]) _ hx;have ry:=ht y (by simp [ho,Op.operands]) _ hy;simp only [AV.rep]at rx ry;obtain⟨B,tt,h1,h2⟩:=rx;refine Nc (e:=e) (p:= .val (.bool _)) (by simp only [B8,ho,h2,ry,hu,G9,Bool.and_false,cond_false];rfl) ?_;simp [ig.then,AV.rep]
 ·split at hn
  case h_2=>cases hn
  rename_i el hu;cases hn
  constructor
  all_goals
   rintro rfl e a ht;have rx:=ht x (by simp [ho,Op.operands]) _ hx;have ry:=ht y (by simp [ho,Op.operands]) _ hy;simp only [AV.rep]at rx ry;obtain⟨B,tt,k,A,h1,h2,_⟩:=rx;refine Nc (e:=e) (p:= .val (.bool _)) (by simp only [B8,ho,h2,ry,hu,G9,Bool.and_false,cond_false];rfl) ?_;simp [ig.then,AV.rep]
 ·split at hn
  case h_2=>cases hn
  rename_i el hu;cases hn
  constructor
  all_goals
   rintro rfl e a ht;have rx:=ht x (by simp [ho,Op.operands]) _ hx;have ry:=ht y (by simp [ho,Op.operands]) _ hy;simp only [AV.rep]at rx ry;obtain⟨B,tt,h1,h2⟩:=rx;refine Nc (e:=e) (p:= .val (.bool _)) (by simp only [B8,ho,h2,ry,hu,G9,Bool.and_false,cond_false];rfl) ?_;simp [ig.then,AV.rep]
 ·split at hn
  case h_2=>cases hn
  rename_i el hu;cases hn
  constructor
  all_goals
   rintro rfl e a ht;have rx:=ht x (by simp [ho,Op.operands]) _ hx;have ry:=ht y (by simp [ho,Op.operands]) _ hy;simp only [AV.rep]at rx ry;obtain⟨B,h2,_⟩:=rx;refine⟨.bool _,by (simp only [AV.rep];rfl),fun w=> ?_⟩;have hq:∀(t':TypeId) (v:Value),Sem.run P (Op.equalIn Op.maxDepth t (.iface t' v) .nilIface) w= .ok false w:=by
    have h0:∀(d:Nat) (t':TypeId) (v:Value),(Op.equalIn (d+1) t (.iface t' v) .nilIface).run P w= .ok false w:=fun d t' v=>by simp [Op.equalIn,underlying,hu]
    exact fun t' v=>h0 9999 t' v
   simp [execOp,ho,h2,ry,eqGuard,binOp,Op.equal,underlying,hu,hq]
 ·split at hn
  case h_2=>cases hn
  rename_i ps rs vr hu;cases hn
  constructor
  all_goals
   rintro rfl e a ht;have rx:=ht x (by simp [ho,Op.operands]) _ hx;have ry:=ht y (by simp [ho,Op.operands]) _ hy;simp only [AV.rep]at rx ry;obtain⟨vs,us,h2,_⟩:=rx;refine⟨.bool _,by (simp only [AV.rep];rfl),fun w=> ?_⟩;have hq:∀(a:Value) (l m:Array Value) (f:FuncId),Sem.run P (Op.equalIn Op.maxDepth t (.func (.func f) l m) .nilFunc) w= .ok false w:=by
    have h0:∀(d:Nat) (l m:Array Value) (f:FuncId),(Op.equalIn (d+1) t (.func (.func f) l m) .nilFunc).run P w= .ok false w:=fun d l m f=>by simp [Op.equalIn,underlying,hu]
    exact fun _ l m f=>h0 9999 l m f
   simp [execOp,ho,h2,ry,eqGuard,binOp,Op.equal,underlying,hu,hq undef]
 ·cases hn
theorem Am2 {P:Program} {tm:Tm} {o:Oper} {x:Operand} {xt d t:TypeId} {ok:Bool} {a av:AV} (ho:o.op= .typeAssert x xt t ok) (hx:cW tm x=some (.iface d a)) (h:IG P d t ok a=some av):L8 P tm o av:=by
 intro e ac ht;have hr:=ht _ (by simp [ho,Op.operands]) _ hx;simp only [AV.rep]at hr;obtain⟨u,h2,h3⟩:=hr;have holds:∀ {b:AV} {v:Value},b.rep e v->(Rz ok b).rep e (if ok then .tuple #[v,.bool true]else v):=by
  intro b v hb;cases ok with
  |true=>simp only [Rz,cond_true,if_true,AV.rep];exact⟨[v,.bool true],rfl,by simp only [AV.bl];exact⟨_,_,rfl,hb,_,_,rfl,by simp only [AV.rep],rfl⟩⟩
  |false=>exact hb
 unfold IG at h;split at h
 ·rename_i want hu;split at h
  case h_2=>cases h
  rename_i i hi;split at h
  case h_2=>cases h
  rename_i hm;cases h
  refine⟨_,holds (b:= .iface d a) (v:= .iface d u) (by simp only [AV.rep];exact⟨u,rfl,h3⟩),fun w=> ?_⟩;simp [execOp,ho,Instr.typeAssert,h2,underlying,hu,typeInfo,hi,hm]
 ·rename_i ds bA hu;cases hb:Nat.beq d t with
  |true=>
   rw [hb]at h;simp only [cond_true]at h;cases h
   have:=eq_of_beq_eq_true hb;subst this;refine⟨_,holds h3,fun w=> ?_⟩;cases ds<;>first|exact absurd rfl (bA _)|simp [execOp,ho,Instr.typeAssert,h2,underlying,hu]
  |false=>
   rw [hb]at h;simp only [cond_false]at h;have hdt:d≠t:=fun e=>by subst e;simp at hb
   cases ok with
   |false=>cases h
   |true=>
    simp only [cond_true]at h;split at h
    case h_2=>cases h
    rename_i i hi;split at h
    case h_2=>cases h
    rename_i z hz;cases h
    refine⟨.tuple #[z,.bool false],by simp only [AV.rep];exact⟨[z,.bool false],rfl,by simp only [AV.bl,AV.rep];exact⟨_,_,rfl,rfl,_,_,rfl,rfl,rfl⟩⟩,fun w=> ?_⟩;cases ds<;>first|exact absurd rfl (bA _)|simp [execOp,ho,Instr.typeAssert,h2,underlying,hu,hdt,zeroValue,typeInfo,hi,hz]
 ·cases h
theorem BG {op:BinOp} {lo hi m n:Int} {b:Bool} (h:qn op lo hi n=some b) (h1:lo<=m) (h2:m<=hi) {P:Program} {t:TypeId} {k:IntKind} (w:World):(binOp op t (.int k m) (.int k n)).run P w= .ok (.bool b) w:=by
 unfold qn at h;split at h
 ·cases c1:decide (hi<n)with
  |true=>
   rw [c1]at h;cases h;have:=of_decide_eq_true c1;simp [binOp,Op.intArith,Op.intBits,Op.intCmp];omega
  |false=>
   rw [c1]at h;cases c2:decide (n<=lo)with
   |true=>rw [c2]at h;cases h;have:=of_decide_eq_true c2;simp [binOp,Op.intArith,Op.intBits,Op.intCmp];omega
   |false=>rw [c2]at h;cases h
 ·cases c1:decide (hi<=n)with
  |true=>
   rw [c1]at h;cases h;have:=of_decide_eq_true c1;simp [binOp,Op.intArith,Op.intBits,Op.intCmp];omega
  |false=>
   rw [c1]at h;cases c2:decide (n<lo)with
   |true=>rw [c2]at h;cases h;have:=of_decide_eq_true c2;simp [binOp,Op.intArith,Op.intBits,Op.intCmp];omega
   |false=>rw [c2]at h;cases h
 ·cases c1:decide (n<lo)with
  |true=>
   rw [c1]at h;cases h;have:=of_decide_eq_true c1;simp [binOp,Op.intArith,Op.intBits,Op.intCmp];omega
  |false=>
   rw [c1]at h;cases c2:decide (hi<=n)with
   |true=>rw [c2]at h;cases h;have:=of_decide_eq_true c2;simp [binOp,Op.intArith,Op.intBits,Op.intCmp];omega
   |false=>rw [c2]at h;cases h
 ·cases c1:decide (n<=lo)with
  |true=>
   rw [c1]at h;cases h;have:=of_decide_eq_true c1;simp [binOp,Op.intArith,Op.intBits,Op.intCmp];omega
  |false=>
   rw [c1]at h;cases c2:decide (hi<n)with
   |true=>rw [c2]at h;cases h;have:=of_decide_eq_true c2;simp [binOp,Op.intArith,Op.intBits,Op.intCmp];omega
   |false=>rw [c2]at h;cases h
 ·cases c1:(decide (hi<n)||decide (n<lo))with
  |true=>
   rw [c1]at h;cases h;simp only [or_eq_true,decide_eq_true_eq]at c1;simp [binOp,Op.intArith,Op.intBits,Op.intCmp];omega
  |false=>rw [c1]at h;cases h
 ·cases c1:(decide (hi<n)||decide (n<lo))with
  |true=>
   rw [c1]at h;cases h;simp only [or_eq_true,decide_eq_true_eq]at c1;simp [binOp,Op.intArith,Op.intBits,Op.intCmp];omega
  |false=>rw [c1]at h;cases h
 ·cases h
theorem WW {op:BinOp} {m n:Int} {b:Bool} {P:Program} {t:TypeId} {k:IntKind} {w:World} (cF:(∃lo hi,(qn (Wl op) lo hi n).isSome=true)) (h:(binOp (Wl op) t (.int k m) (.int k n)).run P w= .ok (.bool b) w):(binOp op t (.int k n) (.int k m)).run P w= .ok (.bool b) w:=by
 obtain⟨lo,hi,cF⟩:=cF;cases op<;>first|(simp [Wl,qn]at cF;done)|skip
 all_goals
  simp only [Wl]at h;simp [binOp,Op.intArith,Op.intBits,Op.intCmp]at h⊢;rw [←h]<;>first|rfl|exact BEq.comm|exact bne_comm|exact decide_eq_decide.2 eq_comm|(congr 1;exact decide_eq_decide.2 eq_comm)|(congr 1;exact BEq.comm)
theorem Ax7 {P:Program} {tm:Tm} {o:Oper} {t yt:TypeId} {op:BinOp} {x y:Operand} {u v:AV} {b:Bool} (ho:o.op= .binOp op t x y yt) (hx:cW tm x=some u) (hy:cW tm y=some v) (hn:IE op u v=some b):L8 P tm o (.lit (.bool b)):=by
 intro e a ht;have rx:=ht x (by simp [ho,Op.operands]) _ hx;have ry:=ht y (by simp [ho,Op.operands]) _ hy;refine⟨.bool b,by simp only [AV.rep],fun w=> ?_⟩;unfold IE at hn;split at hn
 ·rename_i k lo hi k' n;simp only [AV.rep]at rx ry;obtain⟨m,rx,h1,h2⟩:=rx;cases hk:decide (k=k')with
  |false=>rw [hk]at hn;cases hn
  |true=>
   rw [hk]at hn;have:=of_decide_eq_true hk;subst this;have hr:=BG hn h1 h2 (P:=P) (t:=t) (k:=k) w;have hg:(eqGuard op t x y (.int k m) (.int k n)).run P w= .ok () w:=by cases op<;>rfl
   simp only [execOp,ho,rx,ry,Sem.run_bind,hg,hr,Result.andThen_ok,Sem.run_pure]
 ·rename_i k' n k lo hi;simp only [AV.rep]at rx ry;obtain⟨m,ry,h1,h2⟩:=ry;cases hk:decide (k=k')with
  |false=>rw [hk]at hn;cases hn
  |true=>
   rw [hk]at hn;have:=of_decide_eq_true hk;subst this;have hr:=WW ⟨lo,hi,by rw [show qn (Wl op) lo hi n=some b from hn];rfl⟩ (BG hn h1 h2 (P:=P) (t:=t) (k:=k) w);have hg:(eqGuard op t x y (.int k n) (.int k m)).run P w= .ok () w:=by cases op<;>rfl
   simp only [execOp,ho,rx,ry,Sem.run_bind,hg,hr,Result.andThen_ok,Sem.run_pure]
 ·rename_i i k lo hi k' n;simp only [AV.rep]at rx ry;obtain⟨B,tt,_,rx,h1,h2⟩:=rx;generalize vp B tt=m at rx h1 h2;cases hk:decide (k=k')with
  |false=>rw [hk]at hn;cases hn
  |true=>
   rw [hk]at hn;have:=of_decide_eq_true hk;subst this;have hr:=BG hn h1 h2 (P:=P) (t:=t) (k:=k) w;have hg:(eqGuard op t x y (.int k m) (.int k n)).run P w= .ok () w:=by cases op<;>rfl
   simp only [execOp,ho,rx,ry,Sem.run_bind,hg,hr,Result.andThen_ok,Sem.run_pure]
 ·rename_i k' n i k lo hi;simp only [AV.rep]at rx ry;obtain⟨B,tt,_,ry,h1,h2⟩:=ry;generalize vp B tt=m at ry h1 h2;cases hk:decide (k=k')with
  |false=>rw [hk]at hn;cases hn
  |true=>
   rw [hk]at hn;have:=of_decide_eq_true hk;subst this;have hr:=WW ⟨lo,hi,by rw [show qn (Wl op) lo hi n=some b from hn];rfl⟩ (BG hn h1 h2 (P:=P) (t:=t) (k:=k) w);have hg:(eqGuard op t x y (.int k n) (.int k m)).run P w= .ok () w:=by cases op<;>rfl
   simp only [execOp,ho,rx,ry,Sem.run_bind,hg,hr,Result.andThen_ok,Sem.run_pure]
 ·rename_i i k lo hi j k' BH fh;simp only [AV.rep]at rx ry;obtain⟨B,tt,cT,rx,_⟩:=rx;obtain⟨B',tt',ec,ry,_⟩:=ry;cases hk:(Nat.beq i j&&decide (k=k'))with
  |false=>rw [hk]at hn;cases hn
  |true=>
   rw [hk]at hn;simp only [and_eq_true,decide_eq_true_eq]at hk;have h1:=eq_of_beq_eq_true hk.1;have h2:=hk.2;subst h1 h2;rw [cT]at ec;cases ec
   generalize vp B tt=m at rx ry;simp only [cond_true]at hn;have hg:(eqGuard op t x y (.int k m) (.int k m)).run P w= .ok () w:=by cases op<;>rfl
   have hr:(binOp op t (.int k m) (.int k m)).run P w= .ok (.bool b) w:=by
    split at hn
    ·cases hn;simp [binOp,Op.intArith,Op.intBits,Op.intCmp]
    ·cases hn;simp [binOp,Op.intArith,Op.intBits,Op.intCmp]
    ·cases hn
   simp only [execOp,ho,rx,ry,Sem.run_bind,hg,hr,Result.andThen_ok,Sem.run_pure]
 ·cases hn
theorem Pd {P:Program} {tm:Tm} {o:Oper} {av:AV} (h:Ji P tm o=some av):L8 P tm o av:=by
 have hc:∀ {x y:Option AV} {b:Bool},cond b x y=some av->(b=true/\x=some av)\/(b=false/\y=some av):=by
  intro x y b h;cases b
  ·exact .inr ⟨rfl,h⟩
  ·exact .inl ⟨rfl,h⟩
 unfold Ji at h;split at h
 ·rename_i x ho;exact fun e a ht=>⟨_,ht _ (by simp [ho,Op.operands]) _ h,fun w=>by simp only [execOp,ho];rfl⟩
 ·rename_i x ho;exact fun e a ht=>⟨_,ht _ (by simp [ho,Op.operands]) _ h,fun w=>by simp only [execOp,ho];rfl⟩
 ·rename_i c x y ho;split at h
  ·rename_i b hb;intro e a ht;have II:=ht _ (by simp [ho,Op.operands]) _ hb;simp only [AV.rep]at II;cases b with
   |true=>exact⟨_,ht _ (by simp [ho,Op.operands]) _ h,fun w=>by simp only [execOp,ho,II,asBool];rfl⟩
   |false=>exact⟨_,ht _ (by simp [ho,Op.operands]) _ h,fun w=>by simp only [execOp,ho,II,asBool];rfl⟩
  ·cases h
 ·rename_i x ho;split at h
  ·rename_i b k hx;cases h
   intro e a ht;have hr:=ht _ (by simp [ho,Op.operands]) _ hx;have kW:=hr;simp only [AV.rep]at kW;obtain⟨B,tt,h1,h2⟩:=kW;exact⟨_,hr,fun w=>by simp only [execOp,ho,h2];rfl⟩
  ·rename_i f l m hx;cases h
   intro e a ht;have hr:=ht _ (by simp [ho,Op.operands]) _ hx;have kW:=hr;simp only [AV.rep]at kW;obtain⟨vs,us,h2,_⟩:=kW;exact⟨_,hr,fun w=>by simp only [execOp,ho,h2];rfl⟩
  ·exact En h
  ·cases h
 ·rename_i t x f ho;split at h
  case h_2=>cases h
  rename_i b k fs hx hu;split at h
  case h_2=>cases h
  rename_i lG hf;split at h
  case h_2=>cases h
  rename_i i hi;rcases hc h with⟨_,h⟩|⟨h0,h⟩
  ·cases h
  cases h
  intro e a ht;have hr:=ht _ (by simp [ho,Op.operands]) _ hx;simp only [AV.rep]at hr;obtain⟨B,tt,h1,h2⟩:=hr;have hz:i.size≠0:=fun e=>by rw [e]at h0;cases h0
  obtain⟨n,hn⟩:=Nat.exists_eq_succ_of_ne_zero hz;refine Nc (e:=e) (p:= .ptr (some ⟨B,k,none⟩) fun a=> .pointer (some (a.add lG.offset))) (by simp only [B8,ho,hu,hf,hi,hn,h2]) ?_;simp only [ig.then,Ak,AV.rep,BF];exact⟨B,tt,h1,rfl⟩
 ·rename_i t x i ho;split at h
  case h_2=>cases h
  rename_i n hn;split at h
  ·rename_i b k len sz c ex el hx hu;split at h
   case h_2=>cases h
   rename_i inf hi;rcases hc h with⟨hb,h⟩|⟨_,h⟩
   rotate_left
   ·cases h
   cases h
   simp only [and_eq_true,decide_eq_true_eq]at hb;obtain⟨⟨b1,b2⟩,b3⟩:=hb;have dL:=eq_of_beq_eq_true b3;intro e a ht;obtain⟨kd,hn⟩:=Dj ht (by simp [ho,Op.operands]) hn;have hr:=ht _ (by simp [ho,Op.operands]) _ hx;simp only [AV.rep]at hr;obtain⟨B,tt,kk,A,h1,h2,h3,h4,_⟩:=hr;rcases h3 with rfl|h3
   rotate_left
   ·omega
   refine Nc (e:=e) (p:= .ui (some ⟨B,k,none⟩) (0<=n/\n<len) fun a=> .pointer (some (a.add (n.toNat*inf.size)))) (by simp only [B8,ho,hu,h2,hn,hi]) ⟨⟨b1,b2⟩,?_⟩;simp only [Ak,AV.rep,BF,dL];exact⟨B,tt,h1,rfl⟩
  ·rename_i b k len el hx hu;split at h
   case h_2=>cases h
   rename_i inf hi;rcases hc h with⟨hb,h⟩|⟨_,h⟩
   rotate_left
   ·cases h
   cases h
   simp only [and_eq_true,decide_eq_true_eq]at hb;intro e a ht;obtain⟨kd,hn⟩:=Dj ht (by simp [ho,Op.operands]) hn;have hr:=ht _ (by simp [ho,Op.operands]) _ hx;simp only [AV.rep]at hr;obtain⟨B,tt,h1,h2⟩:=hr;refine Nc (e:=e) (p:= .ui (some ⟨B,k,none⟩) (0<=n/\n<len) fun a=> .pointer (some (a.add (n.toNat*inf.size)))) (by simp only [B8,ho,hu,h2,hn,hi]) ⟨hb,?_⟩;simp only [Ak,AV.rep,BF];exact⟨B,tt,h1,rfl⟩
  ·cases h
 ·rename_i t x lo hi mx ho;split at h
  ·rename_i hx;exact Aqa ho h hx
  ·exact En h
  ·cases h
 ·rename_i t x f ho;split at h
  ·rename_i l hx;split at h
   case h_2=>cases h
   rename_i fs hu;split at h
   case h_2=>cases h
   rename_i lG hf;intro e a ht;have hr:=ht _ (by simp [ho,Op.operands]) _ hx;simp only [AV.rep]at hr;obtain⟨vs,h2,h3⟩:=hr;obtain⟨v,g1,g2⟩:=WO h h3;refine⟨v,g1,fun w=> ?_⟩;simp only [execOp,ho,Instr.field,underlying,Sem.run_bind,run_program,Result.andThen_ok,hu,Sem.run_pure,hf,h2,asAgg,g2 w]
  ·exact En h
  ·cases h
 ·rename_i t x i ho;split at h
  ·rename_i l hx;split at h
   case h_2=>cases h
   rename_i len el n hu hn;split at h
   case h_2=>cases h
   rename_i inf hi;rcases hc h with⟨hb,h⟩|⟨_,h⟩
   rotate_left
   ·cases h
   simp only [and_eq_true,decide_eq_true_eq]at hb;intro e a ht;obtain⟨kd,hn⟩:=Dj ht (by simp [ho,Op.operands]) hn;have hr:=ht _ (by simp [ho,Op.operands]) _ hx;simp only [AV.rep]at hr;obtain⟨vs,h2,h3⟩:=hr;obtain⟨v,g1,g2⟩:=WO h h3;refine⟨v,g1,fun w=> ?_⟩;simp only [execOp,ho,Instr.index,asIntOf,hn,underlying,Sem.run_bind,run_program,Result.andThen_ok,hu,Sem.run_pure,h2,hb.1,hb.2,and_self,if_true,sizeOf,typeInfo,hi,g2 w]
  ·exact En h
  ·cases h
 ·rename_i x i ho;split at h
  ·rename_i l hx;intro e a ht;have hr:=ht _ (by simp [ho,Op.operands]) _ hx;simp only [AV.rep]at hr;obtain⟨vs,h2,h3⟩:=hr;obtain⟨v,g1,g2⟩:=Hz h3 h;refine⟨v,g2,fun w=> ?_⟩;have:(⟨vs⟩:Array Value)[i]? =some v:=by simpa using g1
   simp only [execOp,ho,Instr.extract,h2,this];rfl
  ·exact En h
  ·cases h
 ·rename_i t ps ho;rcases hc h with⟨_,h⟩|⟨_,h⟩
  ·exact En h
  ·exact WU ho h
 ·rename_i f first mD ho
  split at h
  case h_2=>cases h
  rename_i l m hl hm;cases h
  intro e a ht;refine⟨.func (.func f) (first.map a.eval) (mD.map a.eval),?_,fun w=>by simp only [execOp,ho];rfl⟩;simp only [AV.rep];exact⟨first.toList.map a.eval,mD.toList.map a.eval,by congr 1<;>(apply ext';simp),Nb (ht.sub fun y hy=>by simp only [ho,Op.operands,Array.toList_append,List.mem_append];exact .inl hy) hl,Nb (ht.sub fun y hy=>by simp only [ho,Op.operands,Array.toList_append,List.mem_append];exact .inr hy) hm⟩
 ·rename_i op t x y yt ho;split at h
  case h_2=>cases h
  rename_i u v hx hy;split at h
  ·rename_i b hb;obtain⟨h1,h2⟩:=Avj ho hx hy hb;split at h
   ·cases h;exact h1 rfl
   ·cases h;exact h2 rfl
   ·cases h
  ·split at h
   ·rename_i b hb;cases h
    exact Ax7 ho hx hy hb
   ·exact En h
 ·rename_i x t ho;split at h
  ·rename_i b k n sz c ex hx;split at h
   case h_2=>cases h
   rename_i el hu;cases h
   intro e a ht;have hr:=ht _ (by simp [ho,Op.operands,Call.operands]) _ hx;simp only [AV.rep]at hr;obtain⟨B,tt,kk,A,h1,h2,_⟩:=hr;refine⟨.int .i64 n,by simp only [AV.rep],fun w=> ?_⟩;simp [execOp,ho,resolve,invoke,builtin,Builtin.len_,underlying,hu,h2,goInt]
  ·exact En h
  ·cases h
 ·rename_i x t ho;split at h
  ·rename_i b k n sz c hx;split at h
   case h_2=>cases h
   rename_i el hu;cases h
   intro e a ht;have hr:=ht _ (by simp [ho,Op.operands,Call.operands]) _ hx;simp only [AV.rep]at hr;obtain⟨B,tt,kk,A,h1,h2,_,_,_,h6,_⟩:=hr;have:=h6 trivial;subst this;refine⟨.int .i64 kk,by simp only [AV.rep],fun w=> ?_⟩;simp [execOp,ho,resolve,invoke,builtin,Builtin.cap_,underlying,hu,h2,goInt]
  ·exact En h
  ·cases h
 ·exact En h
 ·exact En h
 ·exact En h
 ·exact En h
 ·rename_i t x ho;rcases hc h with⟨_,h⟩|⟨_,h⟩
  ·exact En h
  ·split at h
   case h_2=>cases h
   rename_i a hx;split at h
   ·cases h
   ·rename_i d bA hu;cases h
    intro e ac ht;refine⟨.iface t (ac.eval x),by simp only [AV.rep];exact⟨_,rfl,ht _ (by simp [ho,Op.operands]) _ hx⟩,fun w=> ?_⟩;cases d<;>first|exact absurd rfl (bA _)|simp [execOp,ho,Instr.makeInterface,underlying,hu]
   ·cases h
 ·rename_i x xt t ok ho;split at h
  ·rename_i d a hx;exact Am2 ho hx h
  ·exact En h
 ·cases h
variable {R:Type}
def fL:List AV->(List AV->Option R)->Option R
 |[],K=>K []|a::l,K=>fL l fun l=>K (a::l)
theorem Qq:∀(l:List AV) (K:List AV->Option R),fL l K=K l
 |[],_=>rfl
 |b::l,K=>by simp only [fL,Qq l]
def rD:List AV->Nat->List AV->(List AV->Option R)->Option R
 |l,_,[],K=>K l|[],_,_::_,_=>none|_::l,0,a::az,K=>rD l 0 az fun t=>K (a::t)
 |x::l,k+1,a::az,K=>rD l k (a::az) fun t=>K (x::t)
theorem WX (x a:AV) (l az:List AV):∀i,T3 (x::l) (i+1) az=x::T3 l i az:=by
 induction az generalizing l with
 |nil=>intro i;rfl
 |cons b az ih=>intro i;simp only [T3,List.set_cons_succ];exact ih _ _
theorem Pe {r:R} :∀ {l:List AV} {k:Nat} {az:List AV} {K:List AV->Option R},rD l k az K=some r->K (T3 l k az)=some r/\k+az.length<=max l.length k
 |l,k,[],K,h=>by
  have h':K l=some r:=by cases l<;>cases k<;>exact h
  exact⟨h',by simp only [List.length_nil];omega⟩
 |[],k,a::az,K,h=>by cases k<;>cases h
 |x::l,0,a::az,K,h=>by
  simp only [rD]at h;obtain⟨h1,h2⟩:=Pe h;refine⟨?_,by simp only [length_cons]at h2⊢;omega⟩;simp only [T3,List.set_cons_zero];rw [WX a a];exact h1
 |x::l,k+1,a::az,K,h=>by
  simp only [rD]at h;obtain⟨h1,h2⟩:=Pe h;refine⟨?_,by simp only [length_cons]at h2⊢;omega⟩;rw [WX x a];exact h1
theorem yy {b:Nat} {rw:Bool} :∀(vs:List Value) (o:Nat) (w:World) (l:List Value),Ku w b rw l->Ku (w.setCells b o vs) b rw (over l o vs)/\w.grownBy (w.setCells b o vs) (some b)
 |[],o,w,l,h=>⟨h,⟨rfl,rfl,rfl,le_refl _,fun _ _ _=>rfl⟩⟩
 |v::vs,o,w,l,h=>by
  have h1:Ku (w.setCell ⟨b,o,none⟩ v) b rw (l.set o v):=h.set rfl;obtain⟨h2,h3⟩:=yy vs (o+1) _ _ h1;refine⟨h2,⟨h3.os,h3.tape,h3.output,?_,fun k hk hm=> ?_⟩⟩
  ·have:(w.setCell ⟨b,o,none⟩ v).heap.size=w.heap.size:=by simp [World.setCell]
   rw [←this];exact h3.size
  ·have hs:k<(w.setCell ⟨b,o,none⟩ v).heap.size:=by simpa [World.setCell] using hk
   show(World.setCells (w.setCell ⟨b,o,none⟩ v) b (o+1) vs).heap[k]? =_
   rw [h3.block k hs hm,heap_setCell,if_neg (fun e=>hm (by rw [e]))]
theorem Vy {b i:Nat} :∀(vs:List Value) (j:Nat) (w:World),Bp w ⟨b,i,none⟩ j vs=w.setCells b (i+j) vs
 |[],_,_=>rfl
 |v::vs,j,w=>by
  simp only [Bp,World.setCells];rw [Vy vs (j+1),Bo];rfl
theorem T7 {w:World} {b i:Nat} {rw:Bool} {l:List Value} (h:Ku w b rw l) {n:Nat} (hn:i+n<=l.length):∀j,j<n->(∃v,w.cell? ((⟨b,i,none⟩:Addr).add (0+j))=some v)/\w.frozen? ((⟨b,i,none⟩:Addr).add (0+j))=false:=by
 intro j hj;rw [zero_add,Bo];exact⟨⟨_,h.cell (List.getElem?_eq_getElem (show i+j<l.length by omega))⟩,h.frozen (by omega)⟩
theorem IJ:∀(us A B:List Value) (i:Nat),i+us.length<=A.length->over (A++B) i us=over A i us++B
 |[],_,_,_,_=>rfl
 |u::us,A,B,i,h=>by
  simp only [length_cons]at h;simp only [over];rw [List.set_append_left _ _ (by omega),IJ us _ _ _ (by simp;omega)]
theorem IK:∀(us A:List Value) (i:Nat),i+us.length<=A.length->over A i us=A.take i++us++A.drop (i+us.length)
 |[],A,i,_=>by simp [over]
 |u::us,A,i,h=>by
  simp only [length_cons]at h;simp only [over];rw [IK us _ _ (by simp;omega)];have h1:(A.set i u).take (i+1)=A.take i++[u]:=by
   rw [List.take_add_one,List.take_set_of_le (le_refl _)];simp [show i<A.length by omega]
  have h2:(A.set i u).drop (i+1+us.length)=A.drop (i+(u::us).length):=by
   rw [List.drop_set_of_lt (by omega)];simp only [length_cons];congr 1;omega
  rw [h1,h2];simp
def fT (P:Program) (tm:Tm) (o:Oper) (M:Tr aA) (n:Nat) (av:AV) (M':Tr aA) (n':Nat):Prop:=∀b0 e a w,Br b0 e M.get n w->O9 e tm a o.op.operands.toList->∀next:Value->World->Prop,(∀e' v w',Bg e e'->Br b0 e' M'.get n' w'->av.rep e' v->next v w')->C9 P next ((execOp a.eval o).run P w)
theorem fT.pure {P:Program} {tm:Tm} {o:Oper} {M:Tr aA} {n:Nat} {av:AV} (h:L8 P tm o av):fT P tm o M n av M n:=by
 intro b0 e a w hM hT next hk;obtain⟨v,h1,h2⟩:=h e a hT;rw [h2 w];exact hk e v w (Bg.refl e) hM h1
def FU:Nat:=40
def vw (P:Program) (tm:Tm) (t:TypeId) (x:Operand) (M:Tr aA) (K:AV->Option R):Option R:=match cW tm x with
 |some (.ptr b k)=>match M.get b with
  |some (.cells l _)=>match rz P t with
   |some true=>match P.info? t with
    |some i=>cond (Nat.ble (k+i.size) l.length) (fL ((l.drop k).take i.size) fun cs=>K (.agg cs)) none
    |none=>none
   |some false=>match l[k]? with
    |some av=>K av|none=>none
   |none=>none
  |_=>none
 |_=>none
theorem IL {P:Program} {tm:Tm} {o:Oper} {t:TypeId} {x:Operand} {M:Tr aA} {n:Nat} {K:AV->Option R} {r:R} (ho:o.op= .load t x) (h:vw P tm t x M K=some r):∃av,K av=some r/\fT P tm o M n av M n:=by
 unfold vw at h;split at h
 case h_2=>cases h
 rename_i b k hx;split at h
 case h_2=>cases h
 rename_i l rw hb;have base:∀ {b0:Base} {e:Env} {a:Act} {w:World},Br b0 e M.get n w->O9 e tm a o.op.operands.toList->∃B vs rest,a.eval x= .pointer (some ⟨B,k,none⟩)/\Ku w B rw (vs++rest)/\AV.bl e l vs:=by
  intro b0 e a w hM hT;obtain⟨B,t,vs,rest,h1,h2,h3,h4,h5⟩:=hM.aY b _ hb;have hr:=hT _ (by simp [ho,Op.operands]) _ hx;simp only [AV.rep]at hr;obtain⟨B',t',g1,g2⟩:=hr;rw [h1]at g1;cases g1;exact⟨B,vs,rest,g2,h2,h4⟩
 split at h
 ·rename_i ha;split at h
  case h_2=>cases h
  rename_i i hi;cases hc:Nat.ble (k+i.size) l.length with
  |false=>rw [hc]at h;cases h
  |true=>
   rw [hc]at h;simp only [cond_true,Qq]at h;have hle:=le_of_ble_eq_true hc;refine⟨_,h,fun b0 e a w hM hT next hk=> ?_⟩;obtain⟨B,vs,rest,g1,g2,g3⟩:=base hM hT;have hlen:=Bk g3;have hs:((vs.drop k).take i.size).length=i.size:=by simp;omega
   have ir:Ac w ⟨B,k,none⟩ ((vs.drop k).take i.size):=g2.cells k fun j hj=>by
    rw [hs]at hj;rw [getElem?_append_left (by omega),List.getElem?_eq_getElem (by omega)];simp
   have hl:=Hg (P:=P) (w:=w) (a:=⟨B,k,none⟩) ((vs.drop k).take i.size) 0 #[] (fun j hj=>by simpa using ir j hj);rw [hs]at hl;simp only [execOp,ho,Instr.loadAt,g1,Instr.sureAddr,loadVar,Sem.run_bind,Sem.run_pure,Result.andThen_ok,L9 ha,if_true,sizeOf,typeInfo,run_program,hi,loadCells,hl,C9];exact hk e _ w (Bg.refl e) hM (by simp only [AV.rep];exact⟨_,by simp,Ee (Fp g3)⟩)
 ·rename_i ha;split at h
  case h_2=>cases h
  rename_i av fw;refine⟨_,h,fun b0 e a w hM hT next hk=> ?_⟩;obtain⟨B,vs,rest,g1,g2,g3⟩:=base hM hT;obtain⟨v,hv,hr⟩:=Hz g3 fw;have aE:=(List.getElem?_eq_some_iff.1 hv).1;have hc:w.cell? ⟨B,k,none⟩=some v:=g2.cell (by rw [getElem?_append_left aE];exact hv);simp only [execOp,ho,Instr.loadAt,g1,Instr.sureAddr,loadVar,Sem.run_bind,Sem.run_pure,Result.andThen_ok,L9 ha,Bool.false_eq_true,if_false,run_load,hc,C9];exact hk e v w (Bg.refl e) hM hr
 ·cases h
def qo:List AV->Bool
 |[]=>true|a::l=>a.one&&qo l
theorem T8 {e:Env} :∀ {l:List AV} {vs:List Value},qo l=true->AV.bl e l vs->∀v∈vs,v.oneCell'=true
 |[],_,_,h,v,hv=>by simp only [AV.bl]at h;subst h;cases hv
 |_::_,_,ho,h,v,hv=>by
  simp only [AV.bl]at h;obtain⟨x,xs,rfl,h1,h2⟩:=h;simp only [qo,and_eq_true]at ho;rcases List.mem_cons.1 hv with rfl|hv
  ·exact Avh ho.1 h1
  ·exact T8 ho.2 h2 v hv
def BI (P:Program) (tm:Tm) (t:TypeId) (x v:Operand) (M:Tr aA) (K:Tr aA->Option R):Option R:=match cW tm x,cW tm v with
 |some (.ptr b k),some av=>match M.get b with
  |some (.cells l rw)=>match P.info? t with
   |some i=>cond (Nat.beq av.cells.length i.size&&qo av.cells&&Nat.ble (k+i.size) l.length) (rD l k av.cells fun l=>Tr.jI FU M b (some (.cells l rw)) K) none
   |none=>none
  |_=>none
 |_,_=>none
theorem WY {P:Program} {tm:Tm} {o:Oper} {t:TypeId} {x v:Operand} {M:Tr aA} {n:Nat} {K:Tr aA->Option R} {r:R} (ho:o.op= .store t x v) (h:BI P tm t x v M K=some r):∃M',K M'=some r/\fT P tm o M n (.lit undef) M' n:=by
 unfold BI at h;split at h
 case h_2=>cases h
 rename_i b k av hx hv;split at h
 case h_2=>cases h
 rename_i l rw hb;split at h
 case h_2=>cases h
 rename_i i hi;cases hc:(Nat.beq av.cells.length i.size&&qo av.cells&&Nat.ble (k+i.size) l.length)with
 |false=>rw [hc]at h;cases h
 |true=>
  rw [hc]at h;simp only [and_eq_true]at hc;obtain⟨⟨c1,c2⟩,c3⟩:=hc;have c1:=eq_of_beq_eq_true c1;have c3:=le_of_ble_eq_true c3;obtain⟨h1,_⟩:=Pe h;obtain⟨M',h2,gV⟩:=Tr.kG (f:=FU) h1;refine⟨M',h2,fun b0 e a w hM hT next hk=> ?_⟩;obtain⟨B,tt,vs,rest,g1,g2,g3,g4,g5⟩:=hM.aY b _ hb;have hr:=hT _ (by simp [ho,Op.operands]) _ hx;simp only [AV.rep]at hr;obtain⟨B',t',q1,q2⟩:=hr;rw [g1]at q1;cases q1;have IM:=L7 (hT _ (by simp [ho,Op.operands]) _ hv);have uX:=Bk IM;have WS:=Bk g4;have dL:(a.eval v).cells.size=i.size:=by rw [←c1,←uX];simp
  have dh:=Gn (P:=P) (a:=⟨B,k,none⟩) (a.eval v).cells.toList w 0 (T8 c2 IM) (T7 g2 (by simp only [length_append];omega));rw [Vy,Nat.add_zero]at dh;obtain⟨s1,s2⟩:=yy (a.eval v).cells.toList k w _ g2;rw [IJ _ _ _ _ (by omega)]at s1;simp only [execOp,ho,Instr.storeAt,q2,Instr.sureAddr,storeVar,sizeOf,typeInfo,hi,dL,dh,Sem.run_bind,Sem.run_pure,Result.andThen_ok,run_program,ne_eq,not_true_eq_false,if_false,C9];refine hk e _ _ (Bg.refl e) (hM.kL hb g1 g5 s2 gV ⟨B,tt,_,rest,g1,s1,?_,T4 k IM g4,g5⟩) (by simp only [AV.rep]);rw [←g3];simp [Vv]
theorem WZ {b0:Base} {w:World} {e:Env} {M:Mm} {M':Mm} {n n' i:Nat} {z:List AV} {zs:List Value} (T:TypeId) (hM:Br b0 e M n w) (hi:e i=none) (hR:¬b0.R i) (hn:n<=n') (dK:i<n') (hz:AV.bl e z zs) (gV:∀j,M' j=if j=i then some (.cells z true)else M j): Bg e (e.put i (w.heap.size,zs.length))/\Br b0 (e.put i (w.heap.size,zs.length)) M' n' (w.alloc (.cells ⟨zs⟩ T)):=by
 refine⟨Bg.put hi _,hM.push rfl hi hR hn dK gV ⟨w.heap.size,zs.length,zs,[],Fv _ _ _,?_,by simp,Dv (Bg.put hi _) hz,fun hx=> ?_⟩⟩
 ·rw [List.append_nil];exact WA (cB.new rfl rfl)
 ·have:=b0.lt _ hx;have:=hM.kept.size;omega
def sE (M:Tr aA) (n:Nat) (z:List AV) (K:Tr aA->Nat->Option R):Option R:=fL z fun z=>Tr.jI FU M n (some (.cells z true)) fun M'=>fN (n+1) fun n'=>K M' n'
theorem T9 {M:Tr aA} {n:Nat} {z:List AV} {K:Tr aA->Nat->Option R} {r:R} (h:sE M n z K=some r):∃M',K M' (n+1)=some r/\∀j,M'.get j=if j=n then some (.cells z true)else M.get j:=by
 unfold sE at h;rw [Qq]at h;obtain⟨M',h1,h2⟩:=Tr.kG (f:=FU) h;rw [Ei]at h1;exact⟨M',h1,h2⟩
def R0 (P:Program) (tm:Tm) (o:Oper) (z:List AV) (f:Nat->AV):Prop:=∀e a w,O9 e tm a o.op.operands.toList->∃zs T v,(execOp a.eval o).run P w= .ok (.value v) (w.alloc (.cells ⟨zs⟩ T))/\AV.bl e z zs/\∀(e':Env) i,e' i=some (w.heap.size,zs.length)->(f i).rep e' v
theorem R0.W_ {P:Program} {tm:Tm} {o:Oper} {z:List AV} {f:Nat->AV} (h:R0 P tm o z f) {M M':Tr aA} {n:Nat} (gV:∀j,M'.get j=if j=n then some (.cells z true)else M.get j):fT P tm o M n (f n) M' (n+1):=by
 intro b0 e a w hM hT next hk;obtain⟨zs,T,v,h1,h2,h3⟩:=h e a w hT;obtain⟨l1,l2⟩:=WZ T hM (hM.new n (.inl (le_refl _))) (fun h=>lt_irrefl _ (hM.res n h)) (le_succ n) (Nat.lt_succ_self n) h2 gV;rw [h1];exact hk _ v _ l1 l2 (h3 _ n (Fv _ _ _))
theorem K9 {α:Type} (z:List α):∀n,(Hf z n).length=n*z.length
 |0=>by simp [Hf]
 |n+1=>by simp only [Hf,length_append,K9 z n,add_mul];omega
theorem Wm {α:Type} (z:List α):∀(n i:Nat),i<n*z.length->(Hf z n)[i]? =z[i%z.length]?
 |0,i,h=>by omega
 |n+1,i,h=>by
  simp only [Hf];have hz:0<z.length:=by
   rcases Nat.eq_zero_or_pos z.length with e|e
   ·rw [e]at h;omega
   ·exact e
  by_cases hi:i<z.length
  ·rw [getElem?_append_left hi,Nat.mod_eq_of_lt hi]
  ·rw [List.getElem?_append_right (by omega),Wm z n _ (by rw [add_mul]at h;omega),←Nat.mod_eq_sub_mod (by omega)]
theorem XA {e:Env} {z:List AV} {zs:Array Value} (h:AV.bl e z zs.toList) (len:Nat):AV.bl e (Hf z len) ((Array.range (len*zs.size)).map (zs[·%zs.size]!)).toList:=by
 have hl:zs.size=z.length:=by have:=Bk h;simpa using this
 refine Ix (by simp [K9,hl]) fun i a hi=> ?_
 have aE:i<len*z.length:=by have:=(List.getElem?_eq_some_iff.1 hi).1;rwa [K9]at this
 rw [Wm z len i aE]at hi;obtain⟨v,hv,hr⟩:=Hz h hi;refine⟨v,?_,hr⟩;have h1:i%zs.size<zs.size:=by rw [hl];exact(List.getElem?_eq_some_iff.1 hi).1
 have h2:zs[i%zs.size]! =v:=by
  rw [hl]at h1⊢;have:zs[i%z.length]? =some v:=by simpa using hv
  rw [getElem!_pos zs _ (by rw [hl];exact h1)];rw [Array.getElem?_eq_getElem (by rw [hl];exact h1)]at this;exact Option.some.inj this
 simp [hl,aE];rw [hl]at h2;exact h2
def Pf (P:Program) (tm:Tm) (t:TypeId) (len:Nat) (ps:List (Nat×Operand)):Option (List AV×(Nat->AV)):=match P.underlying t with
 |some (.slice e)=>match P.info? e,Ko P e,sD tm ps with
  |some i,some z,some az=>cond (Nat.beq z.length i.size&&Nat.ble (len*i.size) 16777216) (match Np (fun k=>some (k*i.size,i.size)) (Hf z len) az with
   |some row=>some (row,fun n=> .slice n 0 len i.size len true)
   |none=>none) none
  |_,_,_=>none
 |_=>none
theorem Aas {P:Program} {tm:Tm} {o:Oper} {t:TypeId} {len:Nat} {ps:Array (Nat×Operand)} {z:List AV} {f:Nat->AV} (ho:o.op= .buildSlice t len ps) (h:Pf P tm t len ps.toList=some (z,f)):R0 P tm o z f:=by
 unfold Pf at h;split at h
 case h_2=>cases h
 rename_i el hu;split at h
 case h_2=>cases h
 rename_i i zc az hi hz has;cases hc:(Nat.beq zc.length i.size&&Nat.ble (len*i.size) 16777216)with
 |false=>rw [hc]at h;cases h
 |true=>
 rw [hc]at h;simp only [and_eq_true]at hc;have c1:=eq_of_beq_eq_true hc.1;have c2:=le_of_ble_eq_true hc.2;simp only [cond_true]at h;split at h
 case h_2=>cases h
 rename_i row ik;cases h
 intro e a w hT;obtain⟨zv,z1,z2⟩:=Vx hz;have qB:zv.cells.size=i.size:=by have:=Bk (z1 e);rw [←c1,←this];simp
 obtain⟨p1,p2⟩:=IH (hT.sub fun y hy=>by simpa [ho,Op.operands] using hy) has;have XB:=XA (e:=e) (zs:=zv.cells) (z1 e) len;rw [qB]at XB;obtain⟨dr,g1,g2⟩:=T5 (cs:=(Array.range (len*i.size)).map (zv.cells[·%i.size]!)) ik XB p1 p2;have ov:(ps.map fun(i,x)=>(i,a.eval x)).toList=ps.toList.map fun p=>(p.1,a.eval p.2):=by simp
 have eA:(execOp a.eval o).run P w= .ok (.value (.slice (some ⟨w.heap.size,0,none⟩) len len)) (w.alloc (.cells dr el)):=by
  by_cases h0:len*i.size=0
  ·have IP:∀f:Nat->Value,(Array.range (len*i.size)).map f= #[]:=fun f=>by rw [h0];simp
   rw [IP]at g1;simp only [execOp,ho,Instr.buildSlice,underlying,Sem.run_bind,run_program,Result.andThen_ok,hu,Sem.run_pure,sizeOf,typeInfo,hi,ov];rw [if_neg (by omega)];simp only [h0,if_true,Sem.run_bind,Sem.run_pure,Result.andThen_ok];rw [h0]at IP;simp only [IP,g1];rfl
  ·simp only [execOp,ho,Instr.buildSlice,underlying,Sem.run_bind,run_program,Result.andThen_ok,hu,Sem.run_pure,sizeOf,typeInfo,hi,ov];rw [if_neg (by omega)];simp only [h0,if_false,Sem.run_bind,z2 w,Sem.run_pure,Result.andThen_ok,qB,g1];rfl
 have hlen:dr.size=len*i.size:=by
  have h3:=Bk g2;have h4:∀ {place:Nat->Option (Nat×Nat)} {l l':List AV} {r:List (Nat×AV)},Np place l r=some l'->l'.length=l.length:=by
   intro place l l' r
   induction r generalizing l with
   |nil=>intro h;simp only [Np]at h;cases h;rfl
   |cons p r ih=>
    intro h;obtain⟨j,b⟩:=p;simp only [Np]at h;split at h
    ·rename_i off size hp;cases dV:(Nat.beq b.cells.length size&&Nat.ble (off+size) l.length)with
     |false=>rw [dV]at h;cases h
     |true=>rw [dV]at h;rw [ih h,WQ]
    ·cases h
  have h5:=h4 ik;rw [K9,c1]at h5;have:dr.toList.length=dr.size:=by simp
  omega
 refine⟨dr.toList,el,_,eA,g2,fun e' n hn=> ?_⟩;simp only [AV.rep];exact⟨_,_,len,_,hn,rfl,.inl rfl,le_refl _,le_refl _,fun _=>rfl,by rw [Array.length_toList,hlen];omega⟩
def Nd (P:Program) (tm:Tm) (o:Oper):Option (List AV×(Nat->AV)):=match o.op with
 | .alloc t=>match Ko P t with
  |some z=>some (z,fun n=> .ptr n 0)
  |none=>none
 | .box _ x=>match cW tm x with
  |some av=>some (av.cells,fun n=> .ptr n 0)
  |none=>none
 | .buildSlice t len ps=>Pf P tm t len ps.toList|_=>none
theorem XC {P:Program} {tm:Tm} {o:Oper} {z:List AV} {f:Nat->AV} (h:Nd P tm o=some (z,f)):R0 P tm o z f:=by
 unfold Nd at h;split at h
 ·rename_i t ho;split at h
  case h_2=>cases h
  rename_i z' hz;cases h
  intro e a w hT;obtain⟨zv,z1,z2⟩:=Vx hz;refine⟨zv.cells.toList,t,.pointer (some ⟨w.heap.size,0,none⟩),?_,z1 e,fun e' i hi=>by simp only [AV.rep];exact⟨_,_,hi,rfl⟩⟩;simp only [execOp,ho,Instr.alloc,Sem.run_bind,z2 w,Result.andThen_ok];rfl
 ·rename_i t x ho;split at h
  case h_2=>cases h
  rename_i av hx;cases h
  intro e a w hT;refine⟨(a.eval x).cells.toList,t,.pointer (some ⟨w.heap.size,0,none⟩),?_,L7 (hT _ (by simp [ho,Op.operands]) _ hx),fun e' i hi=>by simp only [AV.rep];exact⟨_,_,hi,rfl⟩⟩;simp only [execOp,ho,Instr.box];rfl
 ·rename_i t len ps ho;exact Aas ho h
 ·cases h
def Vz (P:Program) (tm:Tm) (o:Oper) (M:Tr aA) (n:Nat) (K:AV->Tr aA->Nat->Option R):Option R:=match Nd P tm o with
 |some (z,f)=>sE M n z fun M' n'=>fA (f n) fun av=>K av M' n'
 |none=>none
theorem P3 {P:Program} {tm:Tm} {o:Oper} {M:Tr aA} {n:Nat} {K:AV->Tr aA->Nat->Option R} {r:R} (h:Vz P tm o M n K=some r):∃av M' n',K av M' n'=some r/\fT P tm o M n av M' n':=by
 unfold Vz at h;split at h
 ·rename_i z f hz;obtain⟨M',h1,h2⟩:=T9 h;rw [O8]at h1;exact⟨_,_,_,h1,(XC hz).W_ h2⟩
 ·cases h
def IQ (tx:Option TypeDesc) (M:Tr aA) (sz:Nat):AV->Option (Nat×List AV)
 | .slice b o n tZ _ _=>match tx,M.get b with
  |some (.slice _),some (.cells l _)=>cond (Nat.beq tZ sz&&Nat.ble (o+n*sz) l.length&&qo ((l.drop o).take (n*sz))) (some (n,(l.drop o).take (n*sz))) none|_,_=>none
 | .lit (.slice none 0 _)=>match tx with
  |some (.slice _)=>some (0,[])|_=>none
 | .lit (.string s)=>match tx with
  |some .string=>cond (Nat.beq sz 1) (some (s.size,(byteCells s).map .lit)) none|_=>none
 |_=>none
theorem P4 {P:Program} {b0:Base} {w:World} {e:Env} {M:Tr aA} {n:Nat} (hM:Br b0 e M.get n w) {tx:TypeId} {sz:Nat} {x:AV} {v:Value} (hx:x.rep e v) {m:Nat} {news:List AV} (h:IQ (P.underlying tx) M sz x=some (m,news)): ∃us,AV.bl e news us/\Src P sz tx v m us w:=by
 unfold IQ at h;split at h
 ·rename_i b o n' tZ c ex;split at h
  case h_2=>cases h
  rename_i e' l rw hk hb;cases hc:(Nat.beq tZ sz&&Nat.ble (o+n'*sz) l.length&&qo ((l.drop o).take (n'*sz)))with
  |false=>rw [hc]at h;cases h
  |true=>
   rw [hc]at h;cases h;simp only [and_eq_true]at hc;obtain⟨⟨c1,c2⟩,c3⟩:=hc;have c2:=le_of_ble_eq_true c2;simp only [AV.rep]at hx;obtain⟨B',t',k,A,q1,q2,q3,q4,_⟩:=hx;obtain⟨B,tt,vs,rest,h1,h2,h3,h4,h5⟩:=hM.aY b _ hb;rw [h1]at q1;cases q1;have hlen:=Bk h4;have hr:=Ee (n:=m*sz) (Fp (n:=o) h4);refine⟨_,hr,?_⟩;subst q2;refine Src.ofSlice w hk A m k _ (by simp;omega) (fun j u hj=> ?_) (T8 c3 hr);have aE:j<m*sz:=by
    have:=(List.getElem?_eq_some_iff.1 hj).1;simp only [length_take]at this;omega
   have rT:0<m:=by rcases Nat.eq_zero_or_pos m with e0|e0;(rw [e0]at aE;omega);exact e0
   rcases q3 with rfl|q3
   rotate_left
   ·omega
   rw [Bo];rw [List.getElem?_take_of_lt aE,getElem?_drop]at hj;exact h2.cell (by rw [getElem?_append_left (by omega)];exact hj)
 ·split at h
  ·rename_i e' hk;cases h
   simp only [AV.rep]at hx;subst hx;exact⟨[],by simp [AV.bl],Src.ofNil w hk _⟩
  ·cases h
 ·rename_i s;split at h
  ·rename_i hk;cases hc:Nat.beq sz 1 with
   |false=>rw [hc]at h;cases h
   |true=>
    rw [hc]at h;cases h;have:=eq_of_beq_eq_true hc;subst this;have hv:v= .string s:=by simpa only [AV.rep] using hx
    subst hv;exact⟨_,Kn _,Src.ofString w hk s⟩
  ·cases h
 ·cases h
def IU (P:Program) (tm:Tm) (t tx:TypeId) (s x:Operand) (M:Tr aA) (n:Nat) (K:AV->Tr aA->Nat->Option R):Option R:=match P.underlying t with
 |some (.slice e)=>match P.info? e,cW tm s,cW tm x with
  |some i,some sv,some xv=>match i.zero,IQ (P.underlying tx) M i.size xv with
   |some z,some (m,news)=>cond (Nat.beq z.cells.size i.size) (match sv with
    | .lit (.slice none 0 0)=>cond (Nat.beq m 0) (K (.lit (.slice none 0 0)) M n)
     (cond (Nat.ble (m*i.bytes) 140737488355328&&Nat.ble m 4611686018427387904) (fN m fun m=>sE M n news fun M' n'=>K (.slice n 0 m i.size m false) M' n') none)
    | .slice b o k sz c ex=>cond (Nat.beq sz i.size) (match M.get b with
     |some (.cells l rw)=>cond (Nat.beq m 0) (K (.slice b o k sz c ex) M n)
      (cond (Nat.ble (k+m) c&&rw&&Nat.ble (o+k*sz) l.length)
       (fL (l.take (o+k*sz)++news++l.drop (o+k*sz+m*sz)) fun l'=>Tr.jI FU M b (some (.cells l' true)) fun M'=>fN (k+m) fun km=>K (.slice b o km sz c ex) M' n)
       (cond (Nat.ble ((k+m)*i.bytes) 140737488355328&&Nat.ble (k+m) 4611686018427387904&&Nat.ble (o+k*sz) l.length&&Nat.ble (c+1) (k+m))
        (cond ex (fN (k+m) fun km=>sE M n ((l.drop o).take (k*sz)++news) fun M' n'=>K (.slice n 0 km sz km false) M' n')
         (cond (Nat.beq o 0&&rw) (fN (k+m) fun km=>Tr.jI FU M b none fun M1=>sE M1 n (l.take (k*sz)++news) fun M' n'=>K (.slice n 0 km sz km false) M' n') none))
        none))
     |_=>none) none
    |_=>none) none
   |_,_=>none
  |_,_,_=>none
 |_=>none
theorem Am3 {b0:Base} {w:World} {e:Env} {M M':Mm} {n:Nat} (hM:Br b0 e M n w) {row:List AV} {us:List Value} (hr:AV.bl e row us) (el:TypeId) (rest:Array Value) (gV:∀j,M' j=if j=n then some (.cells row true)else M j): ∃e',Bg e e'/\Br b0 e' M' (n+1) (w.drew.alloc (.cells (us.toArray++rest) el))/\e' n=some (w.heap.size,us.length+rest.size):=by
 have IV:Br b0 e M n w.drew:=hM.drew _;have kH:e n=none:=hM.new n (.inl (le_refl _));refine⟨_,Bg.put kH (w.heap.size,us.length+rest.size),IV.push rfl kH (fun h=>lt_irrefl _ (hM.res n h)) (le_succ n) (Nat.lt_succ_self n) gV ⟨w.heap.size,us.length+rest.size,us,rest.toList,Fv _ _ _,?_,by simp,Dv (Bg.put kH _) hr,fun hx=> ?_⟩,Fv _ _ _⟩
 ·have:=cB.new (w:=w.drew) (cs:=us.toArray++rest) (T:=el) (b:=w.heap.size) rfl rfl;exact WA (by simpa using this)
 ·have:=b0.lt _ hx;have:=hM.kept.size;omega
theorem Am4 {P:Program} {tm:Tm} {o:Oper} {c:Call} {t tx:TypeId} {s x:Operand} {M:Tr aA} {n:Nat} {K:AV->Tr aA->Nat->Option R} {r:R} (ho:o.op= .call c) (dV:c.callee= .builtin .append) (n9:c.args= #[s,x]) (yz:c.argTypes= #[t,tx]) (h:IU P tm t tx s x M n K=some r):∃av M' n',K av M' n'=some r/\fT P tm o M n av M' n':=by
 have key:∀ {a:Act} {w w':World} {v:Value} {next:Value->World->Prop},(Builtin.append_ #[t,tx] o.type #[a.eval s,a.eval x]).run P w= .ok v w'->next v w'->C9 P next ((execOp a.eval o).run P w):=by
  intro a w w' v next h1 h2;have:(execOp a.eval o).run P w= .ok (.value v) w':=by
   simp only [execOp,ho,resolve,dV,n9,yz,invoke,builtin,Sem.run_bind,Sem.run_pure,Result.andThen_ok];rw [show(#[s,x].map a.eval)= #[a.eval s,a.eval x] from by simp,h1];rfl
  rw [this];exact h2
 have t0:s∈o.op.operands.toList:=by simp [ho,Op.operands,Call.operands,dV,n9]
 have su:x∈o.op.operands.toList:=by simp [ho,Op.operands,Call.operands,dV,n9]
 unfold IU at h;split at h
 case h_2=>cases h
 rename_i el hu;split at h
 case h_2=>cases h
 rename_i i sv xv hi IW vx;split at h
 case h_2=>cases h
 rename_i z m news hz vy;cases nw:Nat.beq z.cells.size i.size with
 |false=>rw [nw]at h;cases h
 |true=>
 rw [nw]at h;have qB:=eq_of_beq_eq_true nw;simp only [cond_true]at h;have grow:∀ {M1 M':Tr aA} {row:List AV} {p_:Nat},(∀j,M'.get j=if j=n then some (.cells row true)else M1.get j)->∀ {b0:Base} {e:Env} {a:Act} {w:World} {us:List Value} {kk:Nat} {next:Value->World->Prop},Br b0 e M1.get n w->AV.bl e row us->us.length=p_*i.size->p_<=kk->
  (∀e' v w',Bg e e'->Br b0 e' M'.get (n+1) w'->(AV.slice n 0 p_ i.size p_ false).rep e' v->next v w')->
  (Builtin.append_ #[t,tx] o.type #[a.eval s,a.eval x]).run P w= .ok (.slice (some ⟨w.heap.size,0,none⟩) p_ kk) (w.drew.alloc (.cells (us.toArray++Builtin.zeroCells z.cells (kk-p_)) el))->C9 P next ((execOp a.eval o).run P w):=by
  intro M1 M' row p_ gV b0 e a w us kk next hM hr hl hle hk eA;obtain⟨e',l1,l2,l3⟩:=Am3 hM hr el (Builtin.zeroCells z.cells (kk-p_)) gV;refine key eA (hk e' _ _ l1 l2 ?_);simp only [AV.rep];refine⟨_,_,kk,_,l3,rfl,.inl rfl,hle,hle,nofun,?_⟩;rw [size_zeroCells,qB,hl,←add_mul,zero_add];exact Nat.mul_le_mul_right _ (by omega)
 split at h
 ·
  have vz:∀ {e a},O9 e tm a o.op.operands.toList->a.eval s= .slice none 0 0:=fun hT=>by have:=hT s t0 _ IW;simpa only [AV.rep] using this
  cases hm:Nat.beq m 0 with
  |true=>
   rw [hm]at h;have:=eq_of_beq_eq_true hm;subst this;refine⟨_,_,_,h,fun b0 e a w hM hT next hk=> ?_⟩;obtain⟨us,jJ,hs⟩:=P4 hM (hT x su _ vx) vy;refine key (v:= .slice none 0 0) (w':=w) ?_ (hk e _ w (Bg.refl e) hM (by simp only [AV.rep]));rw [vz hT];rcases hs.kind with⟨e',hk⟩|hk<;>simp [Builtin.append_,run_underlying hu,run_underlying hk,sizeOf,typeInfo,hi,hs.len,hs.cells]
  |false=>
   rw [hm]at h;simp only [cond_false]at h;have rT:m≠0:=fun e=>by subst e;cases hm
   cases hb:(Nat.ble (m*i.bytes) 140737488355328&&Nat.ble m 4611686018427387904)with
   |false=>rw [hb]at h;cases h
   |true=>
    rw [hb]at h;simp only [cond_true,Ei]at h;simp only [and_eq_true]at hb;have b1:=le_of_ble_eq_true hb.1;have b2:=le_of_ble_eq_true hb.2;obtain⟨M',h1,h2⟩:=T9 h;refine⟨_,_,_,h1,fun b0 e a w hM hT next hk=> ?_⟩;obtain⟨us,jJ,hs⟩:=P4 hM (hT x su _ vx) vy;have eA:=run_append_grow_src (P:=P) w t tx o.type el i z hu hi hz none 0 0 [] (run_firstCells_none w.drew i.size 0 0 0) (a.eval x) m us hs (by omega) (by omega) (growslice_fits (by omega) (by rw [zero_add];exact b1));rw [←vz hT,zero_add,List.nil_append]at eA;exact grow h2 hM jJ hs.newsLen (grownCap_ge _ _ _ _) hk eA
 ·rename_i b gL k sz cc ex;cases cE:Nat.beq sz i.size with
  |false=>rw [cE]at h;cases h
  |true=>
  rw [cE]at h;have:=eq_of_beq_eq_true cE;subst this;simp only [cond_true]at h;split at h
  case h_2=>cases h
  rename_i l vB hb;have vz:∀ {b0:Base} {e:Env} {a:Act} {w:World},Br b0 e M.get n w->O9 e tm a o.op.operands.toList->∃B tt kk A vs rest,e b=some (B,tt)/\a.eval s= .slice (some A) k kk/\(A=⟨B,gL,none⟩\/kk=0)/\k<=kk/\cc<=kk/\(ex=true->kk=cc)/\gL+kk*i.size<=tt/\Ku w B vB (vs++rest)/\(vs++rest).length=tt/\AV.bl e l vs/\¬b0.X B:=by
   intro b0 e a w hM hT;have hr:=hT s t0 _ IW;simp only [AV.rep]at hr;obtain⟨B',t',kk,A,q1,q2,q3,q4,q5,q6,q7⟩:=hr;obtain⟨B,tt,vs,rest,h1,h2,h3,h4,h5⟩:=hM.aY b _ hb;rw [h1]at q1;cases q1;exact⟨_,_,kk,A,vs,rest,h1,q2,q3,q4,q5,q6,q7,h2,h3,h4,h5⟩
  cases hm:Nat.beq m 0 with
  |true=>
   rw [hm]at h;have:=eq_of_beq_eq_true hm;subst this;refine⟨_,_,_,h,fun b0 e a w hM hT next hk=> ?_⟩;obtain⟨us,jJ,hs⟩:=P4 hM (hT x su _ vx) vy;have hr:=hT s t0 _ IW;have kW:=hr;simp only [AV.rep]at kW;obtain⟨B',t',kk,A,q1,q2,q3,q4,_⟩:=kW;have Bpu:us=[]:=by have:=hs.newsLen;rw [Nat.zero_mul]at this;exact List.eq_nil_of_length_eq_zero this
   refine key (v:=a.eval s) (w':=w) ?_ (hk e _ w (Bg.refl e) hM hr);rw [q2];have u0:=hs.cells;rw [Bpu]at u0;rcases hs.kind with⟨e',hk⟩|hk<;>simp [Builtin.append_,run_underlying hu,run_underlying hk,sizeOf,typeInfo,hi,hs.len,u0,q4,storeCells]
  |false=>
   rw [hm]at h;simp only [cond_false]at h;have rT:m≠0:=fun e=>by subst e;cases hm
   cases hA:(Nat.ble (k+m) cc&&vB&&Nat.ble (gL+k*i.size) l.length)with
   |true=>
    rw [hA]at h;simp only [cond_true,Qq]at h;simp only [and_eq_true]at hA;obtain⟨⟨a1,a2⟩,a3⟩:=hA;have a1:=le_of_ble_eq_true a1;have a3:=le_of_ble_eq_true a3;obtain⟨M',h1,h2⟩:=Tr.kG (f:=FU) h;rw [Ei]at h1;refine⟨_,_,_,h1,fun b0 e a w hM hT next hk=> ?_⟩;obtain⟨us,jJ,hs⟩:=P4 hM (hT x su _ vx) vy;obtain⟨B,tt,kk,A,vs,rest,g1,g2,g3,g4,g5,g6,g7,g8,g9,mE,vD⟩:=vz hM hT;rcases g3 with rfl|g3
    rotate_left
    ·omega
    have g8:Ku w B true (vs++rest):=by rw [a2]at g8;exact g8
    have jk:=hs.newsLen;have uX:=Bk mE;have rB:gL+k*i.size+us.length<=(vs++rest).length:=by
     rw [g9,jk];have:(k+m)*i.size<=kk*i.size:=Nat.mul_le_mul_right _ (by omega);rw [add_mul]at this;omega
    have lg:∀j,j<us.length->∃v,w.cell? ⟨B,gL+k*i.size+j,none⟩=some v:=fun j hj=>⟨_,g8.cell (List.getElem?_eq_getElem (by omega))⟩
    have eA:=run_append_room_src (P:=P) w t tx o.type el i hu hi B gL k kk (a.eval x) m us hs (by omega) (fun j hj=>by obtain⟨v,hv⟩:=lg j hj;rw [hv];rfl) (fun j hj=>g8.frozen (by omega));rw [←g2]at eA;obtain⟨s1,s2⟩:=yy us (gL+k*i.size) w _ g8;rw [IK _ _ _ rB]at s1;have s9:(vs++rest).take (gL+k*i.size)++us++(vs++rest).drop (gL+k*i.size+us.length)=(vs.take (gL+k*i.size)++us++vs.drop (gL+k*i.size+m*i.size))++rest.drop (gL+k*i.size+m*i.size-vs.length):=by
     rw [List.take_append_of_le_length (by omega),List.drop_append,jk];simp
    refine key eA (hk e _ _ (Bg.refl e) (hM.kL hb g1 vD s2 h2 ⟨B,tt,_,rest.drop (gL+k*i.size+m*i.size-vs.length),g1,?_,?_,C6 (C6 (Ee mE) jJ) (Fp mE),vD⟩) ?_)
    ·rw [←s9];exact s1
    ·rw [←s9,←g9];simp only [length_append,length_take,List.length_drop]at rB⊢;omega
    ·simp only [AV.rep];exact⟨B,tt,kk,_,g1,rfl,.inl rfl,by omega,g5,g6,g7⟩
   |false=>
    rw [hA]at h;simp only [cond_false]at h;cases hB:(Nat.ble ((k+m)*i.bytes) 140737488355328&&Nat.ble (k+m) 4611686018427387904&&Nat.ble (gL+k*i.size) l.length&&Nat.ble (cc+1) (k+m))with
    |false=>rw [hB]at h;cases h
    |true=>
    rw [hB]at h;simp only [cond_true]at h;simp only [and_eq_true]at hB;obtain⟨⟨⟨b1,b2⟩,b3⟩,b4⟩:=hB;have b1:=le_of_ble_eq_true b1;have b2:=le_of_ble_eq_true b2;have b3:=le_of_ble_eq_true b3;have b4:=le_of_ble_eq_true b4;have XD:∀ {e:Env} {a:Act} {w:World} {us:List Value} {B kk:Nat} {A:Addr} {vs rest:List Value},Src P i.size tx (a.eval x) m us w->a.eval s= .slice (some A) k kk->(A=⟨B,gL,none⟩\/kk=0)->k<=kk->Ku w B vB (vs++rest)->AV.bl e l vs->kk<k+m->
     (Builtin.append_ #[t,tx] o.type #[a.eval s,a.eval x]).run P w= .ok (.slice (some ⟨w.heap.size,0,none⟩) (k+m) (grownCap w (k+m) kk el)) (w.drew.alloc (.cells (((vs.drop gL).take (k*i.size)++us).toArray++Builtin.zeroCells z.cells (grownCap w (k+m) kk el-(k+m))) el)):=by
     intro e a w us B kk A vs rest hs g2 g3 g4 g8 mE aE;have uX:=Bk mE;rw [g2];refine run_append_grow_src (P:=P) w t tx o.type el i z hu hi hz (some A) k kk ((vs.drop gL).take (k*i.size)) ?_ (a.eval x) m us hs (by omega) (by omega) (growslice_fits (by omega) b1);refine run_firstCells_some w.drew i.size k A k kk _ (by simp;omega) fun j u hj=> ?_
     have aE:j<k*i.size:=by
      have:=(List.getElem?_eq_some_iff.1 hj).1;simp only [length_take]at this;omega
     have tA:0<k:=by rcases Nat.eq_zero_or_pos k with e0|e0;(rw [e0]at aE;omega);exact e0
     rcases g3 with rfl|g3
     rotate_left
     ·omega
     rw [Bo];rw [List.getElem?_take_of_lt aE,getElem?_drop]at hj;exact g8.cell (by rw [getElem?_append_left (by omega)];exact hj)
    have FW:∀ {e:Env} {us vs:List Value},us.length=m*i.size->AV.bl e l vs->((vs.drop gL).take (k*i.size)++us).length=(k+m)*i.size:=by
     intro e us vs h1 h2;have:=Bk h2;simp only [length_append,length_take,List.length_drop,h1,add_mul];omega
    cases hex:ex with
    |true=>
     rw [hex]at h;simp only [cond_true,Ei]at h;obtain⟨M',h1,h2⟩:=T9 h;refine⟨_,_,_,h1,fun b0 e a w hM hT next hk=> ?_⟩;obtain⟨us,jJ,hs⟩:=P4 hM (hT x su _ vx) vy;obtain⟨B,tt,kk,A,vs,rest,g1,g2,g3,g4,g5,g6,g7,g8,g9,mE,vD⟩:=vz hM hT;have:=g6 hex;exact grow h2 hM (C6 (Ee (Fp mE)) jJ) (FW hs.newsLen mE) (grownCap_ge _ _ _ _) hk (XD hs g2 g3 g4 g8 mE (by omega))
    |false=>
     rw [hex]at h;simp only [cond_false]at h;cases o1:(Nat.beq gL 0&&vB)with
     |false=>rw [o1]at h;cases h
     |true=>
     rw [o1]at h;simp only [cond_true,Ei]at h;simp only [and_eq_true]at o1;have:=eq_of_beq_eq_true o1.1;subst this;obtain⟨M1,h1,h2⟩:=Tr.kG (f:=FU) h;obtain⟨M',h3,h4⟩:=T9 h1;refine⟨_,_,_,h3,fun b0 e a w hM hT next hk=> ?_⟩;obtain⟨us,jJ,hs⟩:=P4 hM (hT x su _ vx) vy;obtain⟨B,tt,kk,A,vs,rest,g1,g2,g3,g4,g5,g6,g7,g8,g9,mE,vD⟩:=vz hM hT;by_cases ra:k+m<=kk
     ·have kH:e n=none:=hM.new n (.inl (le_refl _));rcases g3 with rfl|g3
      rotate_left
      ·omega
      have g8:Ku w B true (vs++rest):=by rw [o1.2]at g8;exact g8
      have jk:=hs.newsLen;have uX:=Bk mE;rw [zero_add]at b3 g7;have rB:k*i.size+us.length<=(vs++rest).length:=by
       rw [g9,jk];have:(k+m)*i.size<=kk*i.size:=Nat.mul_le_mul_right _ ra;rw [add_mul]at this;omega
      have lg:∀j,j<us.length->∃v,w.cell? ⟨B,0+k*i.size+j,none⟩=some v:=fun j hj=>⟨_,g8.cell (List.getElem?_eq_getElem (by omega))⟩
      have eA:=run_append_room_src (P:=P) w t tx o.type el i hu hi B 0 k kk (a.eval x) m us hs ra (fun j hj=>by obtain⟨v,hv⟩:=lg j hj;rw [hv];rfl) (fun j hj=>g8.frozen (by omega));rw [←g2]at eA;obtain⟨s1,s2⟩:=yy us (0+k*i.size) w _ g8;rw [zero_add]at s1 eA s2;rw [IK _ _ _ rB]at s1;have s9:(vs++rest).take (k*i.size)++us++(vs++rest).drop (k*i.size+us.length)=(vs.take (k*i.size)++us)++(vs++rest).drop (k*i.size+us.length):=by
       rw [List.take_append_of_le_length (by omega)]
      have vE:∀j,M'.get j=if j=n then some (.cells (l.take (k*i.size)++news) true)else if j=b then none else M.get j:=fun j=>by rw [h4,h2]
      refine key eA (hk (e.put n (B,tt)) _ _ (Bg.put kH _) (hM.move hb g1 vD s2 vE ⟨B,tt,vs.take (k*i.size)++us,(vs++rest).drop (k*i.size+us.length),?_,?_,?_,Dv (Bg.put kH _) (C6 (Ee mE) jJ),vD⟩) ?_)
      ·exact Fv _ _ _
      ·rw [←s9];exact s1
      ·rw [←s9,←g9];simp only [length_append,length_take,List.length_drop]at rB⊢;omega
      ·simp only [AV.rep];exact⟨B,tt,kk,_,Fv _ _ _,rfl,.inl rfl,ra,ra,nofun,by omega⟩
     ·have IV:=hM.drop h2;have hr:=XD hs g2 g3 g4 g8 mE (by omega);rw [drop_zero]at hr;have XE:=FW hs.newsLen mE;rw [drop_zero]at XE;exact grow h4 IV (C6 (Ee mE) jJ) XE (grownCap_ge _ _ _ _) hk hr
 ·cases h
open Go.MapKept (IsKey run_checkKey run_findKey run_setObj_map)
open Go.Lib (bytesWorld bytesCells bytesWorld_at_old bytesWorld_at_new bytesWorld_size)
variable {R:Type}
def sF (d:TypeDesc) (v:Value):Bool:=match d,v with
 | .int k,.int k' _=>decide (k'=k)| .string,.string _=>true| .bool,.bool _=>true|_,_=>false
theorem IX {d:TypeDesc} {v:Value} (h:sF d v=true):IsKey d v:=by
 unfold sF at h;split at h
 ·simpa [IsKey] using h
 ·trivial
 ·trivial
 ·cases h
def Wo (d:TypeDesc) (k:Value):List (Value×AV)->Nat->Option (Option (Nat×AV))
 |[],_=>some none|(k',a)::es,i=>match Instr.sameNow d k k' with
  |some true=>some (some (i,a))|some false=>Wo d k es (i+1)|none=>none
theorem Nf {e:Env} {d:TypeDesc} {k:Value} :∀ {es:List (Value×AV)} {ms:List MapEntry} {i:Nat},B7 e es ms->Wo d k es i=some none->Instr.findNow d k ms i=some none
 |[],ms,i,h,_=>by simp only [B7]at h;subst h;rfl
 |(k',a)::es,ms,i,h,hf=>by
  obtain⟨m,jo,rfl,rfl,h3,h4⟩:=h;simp only [Wo]at hf;simp only [Instr.findNow];split at hf
  ·cases hf
  ·rename_i hs;rw [hs];exact Nf h4 hf
  ·cases hf
theorem Ng {e:Env} {d:TypeDesc} {k:Value} :∀ {es:List (Value×AV)} {ms:List MapEntry} {i j:Nat} {a:AV},B7 e es ms->Wo d k es i=some (some (j,a))->
 ∃v m,Instr.findNow d k ms i=some (some (j,v))/\a.rep e v/\i<=j/\ms[j-i]? =some m/\Instr.sameNow d k m.key=some true
 |[],ms,i,j,a,h,hf=>by cases hf
 |(k',a')::es,ms,i,j,a,h,hf=>by
  obtain⟨m,jo,rfl,rfl,h3,h4⟩:=h;simp only [Wo]at hf;simp only [Instr.findNow];split at hf
  ·rename_i hs;cases hf
   exact⟨_,m,by rw [hs],h3,le_refl _,by simp,hs⟩
  ·rename_i hs;obtain⟨v,m',g1,g2,g3,g4,g5⟩:=Ng h4 hf;refine⟨v,m',by rw [hs];exact g1,g2,by omega,?_,g5⟩;rw [show j-i=(j-(i+1))+1 by omega];simpa using g4
  ·cases hf
theorem Akm {d:TypeDesc} {k k':Value} (n:Nat) (h:Instr.sameNow d k k'=some true):Instr.sameBits n k' k=true:=by
 unfold Instr.sameNow at h;split at h
 ·rename_i j a j' b;split at h
  ·rename_i hk;subst hk;simp at h;subst h;cases n<;>simp [Instr.sameBits]
  ·cases h
 ·rename_i a b;have h:(a==b)=true:=Option.some.inj h;have e:a=b:=by
   obtain⟨a⟩:=a;obtain⟨b⟩:=b;have h:(a==b)=true:=h;rw [eq_of_beq h]
  subst e;cases n<;>exact h
 ·simp at h;subst h;cases n<;>simp [Instr.sameBits]
 ·cases h
theorem Nq {e:Env} {k:Value} {a:AV} {v:Value} (hv:a.rep e v):∀ {es:List (Value×AV)} {ms:List MapEntry} (i:Nat),B7 e es ms->B7 e (es.set i (k,a)) (ms.modify i fun m=> { m with key:=k,val:=v })
 |[],ms,i,h=>by simp only [B7]at h;subst h;cases i<;>simp [B7]
 |(k',a')::es,ms,0,h=>by
  obtain⟨m,jo,rfl,h2,h3,h4⟩:=h;exact⟨_,jo,rfl,rfl,hv,h4⟩
 |(k',a')::es,ms,i+1,h=>by
  obtain⟨m,jo,rfl,h2,h3,h4⟩:=h;exact⟨m,_,rfl,h2,h3,Nq hv i h4⟩
theorem Qr {e:Env} {k:Value} {a:AV} {v:Value} {c:Nat} (hv:a.rep e v):∀ {es:List (Value×AV)} {ms:List MapEntry},B7 e es ms->B7 e (es++[(k,a)]) (ms++[{ key:=k,val:=v,born:=c }])
 |[],ms,h=>by simp only [B7]at h;subst h;exact⟨_,[],rfl,rfl,hv,rfl⟩
 |(k',a')::es,ms,h=>by
  obtain⟨m,jo,rfl,h2,h3,h4⟩:=h;exact⟨m,_,rfl,h2,h3,Qr hv h4⟩
def vF:List (Value×AV)->Nat->(Value×AV)->(List (Value×AV)->Option R)->Option R
 |[],_,_,K=>K []|_::es,0,x,K=>K (x::es)|y::es,i+1,x,K=>vF es i x fun es=>K (y::es)
theorem XF:∀(es:List (Value×AV)) (i:Nat) (x:Value×AV) (K:List (Value×AV)->Option R),vF es i x K=K (es.set i x)
 |[],_,_,_=>by simp [vF]
 |_::_,0,_,_=>by simp [vF]
 |_::es,i+1,x,K=>by simp [vF,XF es]
def BJ:List (Value×AV)->(Value×AV)->(List (Value×AV)->Option R)->Option R
 |[],x,K=>K [x]|y::es,x,K=>BJ es x fun es=>K (y::es)
theorem XG:∀(es:List (Value×AV)) (x:Value×AV) (K:List (Value×AV)->Option R),BJ es x K=K (es++[x])
 |[],_,_=>rfl
 |_::es,x,K=>by simp [BJ,XG es]
def IY (P:Program) (tm:Tm) (t:TypeId):Option Operand->Bool
 |none=>true|some x=>match T6 tm x,P.underlying t with
  |some _,some (.map _ _)=>true|_,_=>false
def IZ (P:Program) (tm:Tm) (t:TypeId) (r:Option Operand) (M:Tr aA) (n:Nat) (K:AV->Tr aA->Nat->Option R):Option R:=cond (IY P tm t r) (Tr.jI FU M n (some (.map [] 0)) fun M'=>fN (n+1) fun n'=>K (.map n) M' n') none
theorem Ako {P:Program} {tm:Tm} {o:Oper} {t:TypeId} {x:Option Operand} {M:Tr aA} {n:Nat} {K:AV->Tr aA->Nat->Option R} {r:R} (ho:o.op= .makeMap t x) (h:IZ P tm t x M n K=some r):∃av M' n',K av M' n'=some r/\fT P tm o M n av M' n':=by
 unfold IZ at h;cases hc:IY P tm t x with
 |false=>rw [hc]at h;cases h
 |true=>
  rw [hc]at h;obtain⟨M',h1,h2⟩:=Tr.kG (f:=FU) h;rw [Ei]at h1;refine⟨_,_,_,h1,fun b0 e a w hM hT next hk=> ?_⟩;have eA:(execOp a.eval o).run P w= .ok (.value (.map (some w.heap.size))) (w.alloc (.map #[] 0)):=by
   cases x with
   |none=>simp only [execOp,ho];rfl
   |some y=>
    simp only [IY]at hc;split at hc
    case h_2=>cases hc
    rename_i k kt et hy hu;obtain⟨kk,dU⟩:=Dj hT (by simp [ho,Op.operands]) hy;simp [execOp,ho,Instr.makeMap,underlying,hu,dU,asInt,asIntOf]
  rw [eA];have kH:e n=none:=hM.new n (.inl (le_refl _));refine hk (e.put n (w.heap.size,0)) _ _ (Bg.put kH _) (hM.push (M':=M'.get) rfl kH (fun h=>lt_irrefl _ (hM.res n h)) (le_succ n) (Nat.lt_succ_self n) h2 ⟨w.heap.size,0,[],Fv _ _ _,by simp [World.alloc,-World.alloc_eq],rfl,fun hx=> ?_⟩) (by simp only [AV.rep];exact⟨_,_,Fv _ _ _,rfl⟩);have:=b0.lt _ hx;have:=hM.kept.size;omega
def BK (P:Program) (t:TypeId) (ok:Bool):Option AV:=match P.info? t with
 |some i=>match i.zero with
  |some z=>some (cond ok (.tuple [.lit z,.lit (.bool false)]) (.lit z))|none=>none
 |none=>none
def I0 (P:Program) (tm:Tm) (t:TypeId) (x ix:Operand) (ok:Bool) (M:Tr aA):Option AV:=match P.underlying t with
 |some (.map kt el)=>match P.underlying kt with
  |some d=>match cW tm ix with
   |some (.lit kv)=>cond (sF d kv) (match cW tm x with
    |some (.map b)=>match M.get b with
     |some (.map es _)=>match Wo d kv es 0 with
      |some (some (_,a))=>some (Rz ok a)|some none=>BK P el ok|none=>none
     |_=>none
    |some (.lit (.map none))=>BK P el ok|_=>none) none
   |_=>none
  |none=>none
 |_=>none
theorem Am5 {e:Env} {ok:Bool} {b:AV} {v:Value} (hb:b.rep e v):(Rz ok b).rep e (if ok then .tuple #[v,.bool true]else v):=by
 cases ok with
 |true=>simp only [Rz,cond_true,if_true,AV.rep];exact⟨[v,.bool true],rfl,by simp only [AV.bl];exact⟨_,_,rfl,hb,_,_,rfl,by simp only [AV.rep],rfl⟩⟩
 |false=>exact hb
theorem XH {P:Program} {t:TypeId} {ok:Bool} {av:AV} (h:BK P t ok=some av) (e:Env):∃z,(∀w,(zeroValue t).run P w= .ok z w)/\av.rep e (if ok then .tuple #[z,.bool false]else z):=by
 unfold BK at h;split at h
 case h_2=>cases h
 rename_i i hi;split at h
 case h_2=>cases h
 rename_i z hz;cases h
 refine⟨z,fun w=>by simp [zeroValue,typeInfo,hi,hz],?_⟩;cases ok with
 |true=>simp only [cond_true,if_true,AV.rep];exact⟨[z,.bool false],rfl,by simp only [AV.bl,AV.rep];exact⟨_,_,rfl,rfl,_,_,rfl,rfl,rfl⟩⟩
 |false=>simp only [cond_false,AV.rep];rfl
theorem Am6 {P:Program} {tm:Tm} {o:Oper} {t:TypeId} {x ix:Operand} {ok:Bool} {M:Tr aA} {n:Nat} {av:AV} (ho:o.op= .lookup t x ix ok) (h:I0 P tm t x ix ok M=some av):fT P tm o M n av M n:=by
 intro b0 e a w hM hT next hk;unfold I0 at h;split at h
 case h_2=>cases h
 rename_i kt el hu;split at h
 case h_2=>cases h
 rename_i d hd;split at h
 case h_2=>cases h
 rename_i kv tB;cases hc:sF d kv with
 |false=>rw [hc]at h;cases h
 |true=>
 rw [hc]at h;simp only [cond_true]at h;have pP:=hT _ (by simp [ho,Op.operands]) _ tB;simp only [AV.rep]at pP;have lZ:∀b,(Instr.checkKey b 10000 kt kv).run P w= .ok () w:=fun b=>run_checkKey hd (IX hc) b 9999
 split at h
 ·rename_i b hx;split at h
  case h_2=>cases h
  rename_i es clock hb;have hr:=hT _ (by simp [ho,Op.operands]) _ hx;simp only [AV.rep]at hr;obtain⟨B,tt,q1,q2⟩:=hr;obtain⟨B',t',ms,g1,g2,g3,g4⟩:=hM.aY b _ hb;rw [q1]at g1;cases g1;have gM:=MapKept.run_getObj_map (P:=P) g2;split at h
  ·rename_i j I3 hf;cases h
   obtain⟨v,m,f1,f2,_⟩:=Ng g3 hf;have lE:=run_findKey (P:=P) (w:=w) hd f1;have eA:(execOp a.eval o).run P w= .ok (.value (if ok then .tuple #[v,.bool true]else v)) w:=by
    simp [execOp,ho,Instr.lookup,underlying,hu,q2,pP,gM,lZ,lE]
   rw [eA];exact hk e _ w (Bg.refl e) hM (Am5 f2)
  ·rename_i hf;have f1:=Nf g3 hf;have lE:=run_findKey (P:=P) (w:=w) hd f1;obtain⟨z,z1,z2⟩:=XH h e;have eA:(execOp a.eval o).run P w= .ok (.value (if ok then .tuple #[z,.bool false]else z)) w:=by
    simp [execOp,ho,Instr.lookup,underlying,hu,q2,pP,gM,lZ,lE,z1]
   rw [eA];exact hk e _ w (Bg.refl e) hM z2
  ·cases h
 ·rename_i hx;have hr:=hT _ (by simp [ho,Op.operands]) _ hx;simp only [AV.rep]at hr;have lE:=run_findKey (P:=P) (w:=w) (l:=[]) hd (show Instr.findNow d kv [] 0=some none from rfl);obtain⟨z,z1,z2⟩:=XH h e;have eA:(execOp a.eval o).run P w= .ok (.value (if ok then .tuple #[z,.bool false]else z)) w:=by
   simp [execOp,ho,Instr.lookup,underlying,hu,hr,pP,lZ,lE,z1]
  rw [eA];exact hk e _ w (Bg.refl e) hM z2
 ·cases h
def Ya (P:Program) (tm:Tm) (t:TypeId) (m k x:Operand) (M:Tr aA) (K:Tr aA->Option R):Option R:=match P.underlying t with
 |some (.map kt _)=>match P.underlying kt with
  |some d=>match cW tm k with
   |some (.lit kv)=>cond (sF d kv) (match cW tm x with
    |some av=>match cW tm m with
     |some (.map b)=>match M.get b with
      |some (.map es c)=>match Wo d kv es 0 with
       |some (some (i,_))=>vF es i (kv,av) fun es=>Tr.jI FU M b (some (.map es c)) K
       |some none=>BJ es (kv,av) fun es=>fN (c+1) fun c=>Tr.jI FU M b (some (.map es c)) K
       |none=>none
      |_=>none
     |_=>none
    |none=>none) none
   |_=>none
  |none=>none
 |_=>none
theorem Kz (w:World) (B:Nat) (ob:Obj):w.grownBy { w with heap:=w.heap.setIfInBounds B ob } (some B):=
 ⟨rfl,rfl,rfl,by simp,fun k hk bA=>by
  simp only [Array.getElem?_setIfInBounds];rw [if_neg (fun h=>bA (by rw [h]))]⟩
theorem XI {P:Program} {tm:Tm} {o:Oper} {t:TypeId} {m k x:Operand} {M:Tr aA} {n:Nat} {K:Tr aA->Option R} {r:R} (ho:o.op= .mapUpdate t m k x\/o.op= .insert t m k x) (h:Ya P tm t m k x M K=some r): ∃M',K M'=some r/\fT P tm o M n (.lit undef) M' n:=by
 unfold Ya at h;split at h
 case h_2=>cases h
 rename_i kt el hu;split at h
 case h_2=>cases h
 rename_i d hd;split at h
 case h_2=>cases h
 rename_i kv tB;cases hc:sF d kv with
 |false=>rw [hc]at h;cases h
 |true=>
 rw [hc]at h;simp only [cond_true]at h;split at h
 case h_2=>cases h
 rename_i av hx;split at h
 case h_2=>cases h
 rename_i b hm;split at h
 case h_2=>cases h
 rename_i es c hb;have vG:∀y,y=m\/y=k\/y=x->y∈o.op.operands.toList:=by
  intro y hy;rcases ho with ho|ho<;>rcases hy with rfl|rfl|rfl<;>simp [ho,Op.operands]
 have vH:∀(a:Act) (w w':World),(Instr.mapUpdate t (a.eval m) (a.eval k) (a.eval x)).run P w= .ok () w'->(execOp a.eval o).run P w= .ok .skip w':=by
  intro a w w' hr;rcases ho with ho|ho<;>simp [execOp,ho,hr]
 have lZ:∀w b,(Instr.checkKey b 10000 kt kv).run P w= .ok () w:=fun w b=>run_checkKey hd (IX hc) b 9999
 have fin:∀(pA:List (Value×AV)) (c':Nat) (M':Tr aA),(∀j,M'.get j=if j=b then some (.map pA c')else M.get j)->
  (∀(a:Act) (e:Env) (w:World) (B:Nat) (ms:List MapEntry),a.eval m= .map (some B)->a.eval k=kv->av.rep e (a.eval x)->w.heap[B]? =some (.map ⟨ms⟩ c)->B7 e es ms->∃jo,B7 e pA jo/\(Instr.mapUpdate t (a.eval m) (a.eval k) (a.eval x)).run P w= .ok () { w with heap:=w.heap.setIfInBounds B (.map ⟨jo⟩ c') })->
  fT P tm o M n (.lit undef) M' n:=by
  intro pA c' M' gV eA b0 e a w hM hT next hk;have hr:=hT _ (vG m (.inl rfl)) _ hm;simp only [AV.rep]at hr;obtain⟨B,tt,q1,q2⟩:=hr;obtain⟨B',t',ms,g1,g2,g3,g4⟩:=hM.aY b _ hb;rw [q1]at g1;cases g1;have mw:=hT _ (vG k (.inr (.inl rfl))) _ tB;simp only [AV.rep]at mw;obtain⟨jo,r1,r2⟩:=eA a e w B ms q2 mw (hT _ (vG x (.inr (.inr rfl))) _ hx) g2 g3;rw [vH a w _ r2];have aE:=(Array.getElem?_eq_some_iff.1 g2).1;refine hk e _ _ (Bg.refl e) (hM.kL hb q1 g4 (Kz w B _) gV ⟨B,tt,jo,q1,by simp [aE],r1,g4⟩) (by simp only [AV.rep])
 split at h
 ·rename_i i a' hf;rw [XF]at h;obtain⟨M',h1,h2⟩:=Tr.kG (f:=FU) h;refine⟨M',h1,fin _ _ M' h2 fun a e w B ms q2 mw I4 g2 g3=> ?_⟩;obtain⟨v,me,f1,f2,f3,f4,f5⟩:=Ng g3 hf;rw [Nat.sub_zero]at f4;have lE:=run_findKey (P:=P) (w:=w) hd f1;have gM:=MapKept.run_getObj_map (P:=P) g2;have hme:(⟨ms⟩:Array MapEntry)[i]? =some me:=by simpa using f4
  have dh:∀w:World,(Instr.keyThatStays me.key kv).run P w= .ok kv w:=fun w=>by
   unfold Instr.keyThatStays;rw [if_pos (Akm 10000 f5)];rfl
  refine⟨_,Nq I4 i g3,?_⟩;have m5:=run_setObj_map (P:=P) (.map ((⟨ms⟩:Array MapEntry).modify i fun e=> { e with key:=kv,val:=a.eval x }) c) g2;simp only [Instr.mapUpdate,underlying,hu,Sem.run_bind,run_program,Sem.run_pure,Result.andThen_ok,q2,gM,mw,lZ,lE,hme,map_some,Option.getD_some,dh,m5];congr 4;apply ext';simp
 ·rename_i hf;rw [XG,Ei]at h;obtain⟨M',h1,h2⟩:=Tr.kG (f:=FU) h;refine⟨M',h1,fin _ _ M' h2 fun a e w B ms q2 mw I4 g2 g3=> ?_⟩;have f1:=Nf g3 hf;have lE:=run_findKey (P:=P) (w:=w) hd f1;have gM:=MapKept.run_getObj_map (P:=P) g2;refine⟨_,Qr (c:=c) I4 g3,?_⟩;have m5:=run_setObj_map (P:=P) (.map ((⟨ms⟩:Array MapEntry).push { key:=kv,val:=a.eval x,born:=c }) (c+1)) g2;simp only [Instr.mapUpdate,underlying,hu,Sem.run_bind,run_program,Sem.run_pure,Result.andThen_ok,q2,gM,mw,lZ,lE,m5];congr 4;apply ext';simp
 ·cases h
def vI:List (Value×AV)->Nat->(List (Value×AV)->Option R)->Option R
 |[],_,K=>K []|_::es,0,K=>K es|y::es,i+1,K=>vI es i fun es=>K (y::es)
theorem XJ:∀(es:List (Value×AV)) (i:Nat) (K:List (Value×AV)->Option R),vI es i K=K (es.eraseIdx i)
 |[],_,_=>by simp [vI]
 |_::_,0,_=>by simp [vI]
 |_::es,i+1,K=>by simp [vI,XJ es]
theorem Pg {e:Env} :∀ {es:List (Value×AV)} {ms:List MapEntry} (i:Nat),B7 e es ms->B7 e (es.eraseIdx i) (ms.eraseIdx i)
 |[],ms,i,h=>by simp only [B7]at h;subst h;simp [B7]
 |(k,a)::es,ms,0,h=>by
  obtain⟨m,jo,rfl,h2,h3,h4⟩:=h;exact h4
 |(k,a)::es,ms,i+1,h=>by
  obtain⟨m,jo,rfl,h2,h3,h4⟩:=h;exact⟨m,_,rfl,h2,h3,Pg i h4⟩
def I5 (P:Program) (tm:Tm) (t:TypeId) (m k:Operand) (M:Tr aA) (K:Tr aA->Option R):Option R:=match P.underlying t with
 |some (.map kt _)=>match P.underlying kt with
  |some d=>match cW tm k with
   |some (.lit kv)=>cond (sF d kv) (match cW tm m with
    |some (.map b)=>match M.get b with
     |some (.map es c)=>match Wo d kv es 0 with
      |some (some (i,_))=>vI es i fun es=>Tr.jI FU M b (some (.map es c)) K
      |some none=>Tr.jI FU M b (some (.map es c)) K|none=>none
     |_=>none
    |_=>none) none
   |_=>none
  |none=>none
 |_=>none
theorem Am7 {P:Program} {tm:Tm} {o:Oper} {t tk:TypeId} {m k:Operand} {c0:Call} {M:Tr aA} {n:Nat} {K:Tr aA->Option R} {r:R} (ho:o.op= .call c0) (dV:c0.callee= .builtin .delete) (n9:c0.args=⟨[m,k]⟩) (yz:c0.argTypes=⟨[t,tk]⟩) (h:I5 P tm t m k M K=some r): ∃M',K M'=some r/\fT P tm o M n (.lit (.tuple #[])) M' n:=by
 unfold I5 at h;split at h
 case h_2=>cases h
 rename_i kt el hu;split at h
 case h_2=>cases h
 rename_i d hd;split at h
 case h_2=>cases h
 rename_i kv tB;cases hc:sF d kv with
 |false=>rw [hc]at h;cases h
 |true=>
 rw [hc]at h;simp only [cond_true]at h;split at h
 case h_2=>cases h
 rename_i b hm;split at h
 case h_2=>cases h
 rename_i es c hb;have vG:∀y,y=m\/y=k->y∈o.op.operands.toList:=by
  intro y hy;rcases hy with rfl|rfl<;>simp [ho,Op.operands,Call.operands,n9,dV]
 have vH:∀ {a:Act} {w w':World} {v:Value},(Builtin.delete_ #[t,tk] o.type #[a.eval m,a.eval k]).run P w= .ok v w'->(execOp a.eval o).run P w= .ok (.value v) w':=by
  intro a w w' v hr;simp [execOp,ho,resolve,dV,n9,yz,invoke,builtin,hr]
 have lZ:∀w b,(Instr.checkKey b 10000 kt kv).run P w= .ok () w:=fun w b=>run_checkKey hd (IX hc) b 9999
 have fin:∀(pA:List (Value×AV)) (M':Tr aA),(∀j,M'.get j=if j=b then some (.map pA c)else M.get j)->
  (∀(a:Act) (e:Env) (w:World) (B:Nat) (ms:List MapEntry),a.eval m= .map (some B)->a.eval k=kv->w.heap[B]? =some (.map ⟨ms⟩ c)->B7 e es ms->∃jo,B7 e pA jo/\(Builtin.delete_ #[t,tk] o.type #[a.eval m,a.eval k]).run P w= .ok (.tuple #[]) { w with heap:=w.heap.setIfInBounds B (.map ⟨jo⟩ c) })->
  fT P tm o M n (.lit (.tuple #[])) M' n:=by
  intro pA M' gV eA b0 e a w hM hT next hk;have hr:=hT _ (vG m (.inl rfl)) _ hm;simp only [AV.rep]at hr;obtain⟨B,tt,q1,q2⟩:=hr;obtain⟨B',t',ms,g1,g2,g3,g4⟩:=hM.aY b _ hb;rw [q1]at g1;cases g1;have mw:=hT _ (vG k (.inr rfl)) _ tB;simp only [AV.rep]at mw;obtain⟨jo,r1,r2⟩:=eA a e w B ms q2 mw g2 g3;rw [vH r2];have aE:=(Array.getElem?_eq_some_iff.1 g2).1;refine hk e _ _ (Bg.refl e) (hM.kL hb q1 g4 (Kz w B _) gV ⟨B,tt,jo,q1,by simp [aE],r1,g4⟩) (by simp only [AV.rep])
 split at h
 ·rename_i i a' hf;rw [XJ]at h;obtain⟨M',h1,h2⟩:=Tr.kG (f:=FU) h;refine⟨M',h1,fin _ M' h2 fun a e w B ms q2 mw g2 g3=> ?_⟩;obtain⟨v,me,f1,f2,f3,f4,f5⟩:=Ng g3 hf;rw [Nat.sub_zero]at f4;have lE:=run_findKey (P:=P) (w:=w) hd f1;have gM:=MapKept.run_getObj_map (P:=P) g2;refine⟨_,Pg i g3,?_⟩;have m5:=run_setObj_map (P:=P) (.map (ms.eraseIdx i).toArray c) g2;simp [Builtin.delete_,run_underlying hu,q2,gM,mw,lZ,lE,m5,Result.andThen]
 ·rename_i hf;obtain⟨M',h1,h2⟩:=Tr.kG (f:=FU) h;refine⟨M',h1,fin _ M' h2 fun a e w B ms q2 mw g2 g3=> ?_⟩;have f1:=Nf g3 hf;have lE:=run_findKey (P:=P) (w:=w) hd f1;have gM:=MapKept.run_getObj_map (P:=P) g2;refine⟨ms,g3,?_⟩;have m5:=run_setObj_map (P:=P) (.map (⟨ms⟩:Array MapEntry) c) g2;simp [Builtin.delete_,run_underlying hu,q2,gM,mw,lZ,lE,m5,Result.andThen]
 ·cases h
def R3 (P:Program) (tm:Tm) (t:TypeId) (l c:Operand):Option (List AV×(Nat->AV)):=match P.underlying t with
 |some (.slice e)=>match P.info? e,Ko P e,T6 tm l,T6 tm c with
  |some i,some z,some l,some c=>cond (decide (0<=l)&&decide (l<=c)&&Nat.beq z.length i.size&&decide ((i.bytes:Int)*c<=281474976710656)&&decide (c<=9223372036854775807)) (some (Hf z c.toNat,fun n=> .slice n 0 l.toNat i.size c.toNat true)) none
  |_,_,_,_=>none
 |_=>none
theorem Acy {P:Program} {tm:Tm} {o:Oper} {t:TypeId} {l c:Operand} {z:List AV} {f:Nat->AV} (ho:o.op= .makeSlice t l c) (h:R3 P tm t l c=some (z,f)):R0 P tm o z f:=by
 unfold R3 at h;split at h
 case h_2=>cases h
 rename_i el hu;split at h
 case h_2=>cases h
 rename_i i z' ln cn hi hz hl hc;cases hb:(decide (0<=ln)&&decide (ln<=cn)&&Nat.beq z'.length i.size&&decide ((i.bytes:Int)*cn<=281474976710656)&&decide (cn<=9223372036854775807))with
 |false=>rw [hb]at h;cases h
 |true=>
 rw [hb]at h;cases h
 simp only [and_eq_true,decide_eq_true_eq]at hb;obtain⟨⟨⟨⟨b1,b2⟩,b3⟩,b4⟩,b5⟩:=hb;have b3:=eq_of_beq_eq_true b3;intro e a w hT;obtain⟨kl,hl⟩:=Dj hT (by simp [ho,Op.operands]) hl;obtain⟨kc,hc⟩:=Dj hT (by simp [ho,Op.operands]) hc;unfold Ko at hz;rw [hi]at hz;simp only at hz;split at hz
 case h_2=>cases hz
 rename_i zv hzv;cases hz
 have XK:AV.bl e (AV.cells (.lit zv)) zv.cells.toList:=L7 (by simp only [AV.rep]);have hlen:=Bk XK;have dL:zv.cells.size=i.size:=by rw [←b3,←hlen];simp
 have ik:=XA XK cn.toNat;rw [dL]at ik;refine⟨(madeCells zv.cells (cn.toNat*i.size)).toList,el,.slice (some ⟨w.heap.size,0,none⟩) ln.toNat cn.toNat,?_,?_,fun e' j hj=> ?_⟩
 ·have:=run_make (P:=P) w t el i zv hu hi hzv kl kc ln cn b1 b2 b4 b5;simp only [execOp,ho,hl,hc,Sem.run_bind,this,Result.andThen_ok,Sem.run_pure]
 ·unfold madeCells;rw [dL];exact ik
 ·simp only [AV.rep];refine⟨w.heap.size,_,cn.toNat,_,hj,rfl,.inl rfl,by omega,le_refl _,fun _=>rfl,?_⟩;rw [Array.length_toList,size_madeCells];omega
def yA:List AV->Option (List UInt8)
 |[]=>some []| .lit (.int .u8 n)::l=>cond (decide (0<=n)&&decide (n<256)) (match yA l with
  |some bs=>some (UInt8.ofNat n.toNat::bs)|none=>none) none
 |_::_=>none
theorem XL {e:Env} :∀ {l:List AV} {bs:List UInt8} {vs:List Value},yA l=some bs->AV.bl e l vs->vs=bs.map fun b=> .int .u8 b.toNat
 |[],bs,vs,h,hr=>by simp only [yA]at h;cases h;simp only [AV.bl]at hr;subst hr;rfl
 |a::l,bs,vs,h,hr=>by
  unfold yA at h;split at h
  ·rename_i oq;cases oq
  ·rename_i n l' heq;cases heq
   cases hc:(decide (0<=n)&&decide (n<256))with
   |false=>rw [hc]at h;cases h
   |true=>
    rw [hc]at h;simp only [cond_true]at h;split at h
    case h_2=>cases h
    rename_i bs' I6;cases h
    simp only [and_eq_true,decide_eq_true_eq]at hc;simp only [AV.bl,AV.rep]at hr;obtain⟨x,xs,rfl,rfl,h2⟩:=hr;rw [XL I6 h2];simp only [map_cons,List.cons.injEq,and_true,Value.int.injEq,true_and];rw [show(UInt8.ofNat n.toNat).toNat=n.toNat by simp;omega];omega
  ·cases h
def BL (P:Program) (tm:Tm) (s d:TypeId) (x:Operand) (M:Tr aA):Option AV:=match cW tm x with
 |some (.slice b o n sz _ _)=>match P.underlying s,P.underlying d with
  |some (.slice e),some .string=>match P.underlying e,M.get b with
   |some (.int .u8),some (.cells l _)=>cond (Nat.beq sz 1&&Nat.ble (o+n) l.length) (match yA ((l.drop o).take n)with
    |some bs=>some (.lit (.string ⟨⟨bs⟩⟩))|none=>none) none
   |_,_=>none
  |_,_=>none
 |_=>none
theorem XM {P:Program} {tm:Tm} {o:Oper} {s d:TypeId} {x:Operand} {M:Tr aA} {n:Nat} {av:AV} (ho:o.op= .convert s d x) (h:BL P tm s d x M=some av):fT P tm o M n av M n:=by
 intro b0 e a w hM hT next hk;unfold BL at h;split at h
 case h_2=>cases h
 rename_i b gL len sz c ex hx;split at h
 case h_2=>cases h
 rename_i el hs hd;split at h
 case h_2=>cases h
 rename_i l rw he hb;cases hc:(Nat.beq sz 1&&Nat.ble (gL+len) l.length)with
 |false=>rw [hc]at h;cases h
 |true=>
 rw [hc]at h;simp only [cond_true]at h;split at h
 case h_2=>cases h
 rename_i bs I6;cases h
 simp only [and_eq_true]at hc;have hle:=le_of_ble_eq_true hc.2;obtain⟨B,tt,vs,rest,g1,g2,g3,g4,g5⟩:=hM.aY b _ hb;have hr:=hT _ (by simp [ho,Op.operands]) _ hx;simp only [AV.rep]at hr;obtain⟨B',t',kk,A,q1,q2,q3,q4,_⟩:=hr;rw [g1]at q1;cases q1;have kF:=XL I6 (Ee (n:=len) (Fp (n:=gL) g4));have hlen:=Bk g4;have xO:bs.length=len:=by
  have:=congrArg List.length kF;simp at this;omega
 have eA:=run_convert_bytes_back (P:=P) w s d el A kk bs hs he hd fun j hj=>by
  rcases q3 with rfl|q3
  rotate_left
  ·omega
  rw [Bo];have h1:((vs.drop gL).take len)[j]? =some (.int .u8 (bs[j].toNat:Int)):=by rw [kF];simp [hj]
  rw [List.getElem?_take_of_lt (by omega),getElem?_drop]at h1;exact g2.cell (by rw [getElem?_append_left (by omega)];exact h1)
 rw [xO]at eA;have l5:(execOp a.eval o).run P w= .ok (.value (.string ⟨bs.toArray⟩)) w:=by
  simp only [execOp,ho,q2,Sem.run_bind,eA,Result.andThen_ok,Sem.run_pure]
 rw [l5];exact hk e _ w (Bg.refl e) hM (by simp only [AV.rep])
def I7 (P:Program) (tm:Tm) (s d:TypeId) (x:Operand) (M:Tr aA) (n:Nat) (K:AV->Tr aA->Nat->Option R):Option R:=match cW tm x with
 |some (.lit (.string t))=>match P.underlying s,P.underlying d with
  |some .string,some (.slice e)=>match P.underlying e with
   |some (.int .u8)=>fL ((byteCells t).map .lit) fun l=>Tr.jI FU M n (some (.cells l false)) fun M'=>fN (n+1) fun n'=>fN t.size fun z=>K (.slice n 0 z 1 z false) M' n'
   |_=>none
  |_,_=>none
 |_=>none
theorem Am8 {P:Program} {tm:Tm} {o:Oper} {s d:TypeId} {x:Operand} {M:Tr aA} {n:Nat} {K:AV->Tr aA->Nat->Option R} {r:R} (ho:o.op= .convert s d x) (h:I7 P tm s d x M n K=some r):∃av M' n',K av M' n'=some r/\fT P tm o M n av M' n':=by
 unfold I7 at h;split at h
 case h_2=>cases h
 rename_i t hx;split at h
 case h_2=>cases h
 rename_i el hs hd;split at h
 case h_2=>cases h
 rename_i he;rw [Qq]at h;obtain⟨M',h1,h2⟩:=Tr.kG (f:=FU) h;rw [Ei,Ei]at h1;refine⟨_,_,_,h1,fun b0 e a w hM hT next hk=> ?_⟩;have hr:=hT _ (by simp [ho,Op.operands]) _ hx;simp only [AV.rep]at hr;have eA:(execOp a.eval o).run P w= .ok (.value (.slice (some ⟨w.heap.size,0,none⟩) t.size (grownCap w t.size 0 el))) (bytesWorld w el t):=by
  simp only [execOp,ho,hr,Sem.run_bind,Lib.run_convert_string_bytes w s d el t hs hd he,Result.andThen_ok,Sem.run_pure]
 rw [eA];have kH:e n=none:=hM.new n (.inl (le_refl _));have jf:t.size<=grownCap w t.size 0 el:=by have:=grownCap_ge w t.size 0 el;omega
 have ir:(bytesCells w el t).toList=byteCells t++(Array.replicate (grownCap w t.size 0 el-t.size) (Value.int .u8 0)).toList:=by
  unfold bytesCells byteCells;simp
 have xO:(byteCells t).length=t.size:=byteCells_length t;refine hk (e.put n (w.heap.size,grownCap w t.size 0 el)) _ _ (Bg.put kH _) (hM.WB (M':=M'.get) ⟨rfl,rfl,rfl,?_,fun k hk _=>bytesWorld_at_old w el t k hk⟩ kH (fun h=>lt_irrefl _ (hM.res n h)) (le_succ n) (Nat.lt_succ_self n) h2
  ⟨w.heap.size,grownCap w t.size 0 el,byteCells t,(Array.replicate (grownCap w t.size 0 el-t.size) (Value.int .u8 0)).toList,Fv _ _ _,⟨el,((bytesCells w el t).size,(bytesCells w el t).size+1),?_,by exact .inr ⟨rfl,Nat.le_of_eq (by rw [←ir];simp)⟩⟩,?_,Kn _,fun hx=> ?_⟩) ?_
 ·rw [bytesWorld_size];omega
 ·rw [bytesWorld_at_new,←ir]
 ·rw [length_append,xO];simp;omega
 ·have:=b0.lt _ hx;have:=hM.kept.size;omega
 ·simp only [AV.rep];exact⟨_,_,grownCap w t.size 0 el,_,Fv _ _ _,rfl,.inl rfl,jf,jf,nofun,by omega⟩
def yB:AV->Option Nat
 | .slice _ _ n _ _ _=>some n| .lit (.slice none n _)=>some n|_=>none
theorem XN {e:Env} {a:AV} {v:Value} {n:Nat} (h:yB a=some n) (hr:a.rep e v):∃base c,v= .slice base n c:=by
 unfold yB at h;split at h
 ·cases h
  simp only [AV.rep]at hr;obtain⟨B,t,k,A,_,rfl,_⟩:=hr;exact⟨_,_,rfl⟩
 ·cases h
  simp only [AV.rep]at hr;exact⟨_,_,hr⟩
 ·cases h
def I8 (P:Program) (tm:Tm) (t:TypeId) (d x:Operand) (M:Tr aA) (K:AV->Tr aA->Option R):Option R:=match P.underlying t with
 |some (.slice e)=>match P.info? e,cW tm d,cW tm x with
  |some i,some da,some xa=>match yB da,yB xa with
   |some dl,some xl=>cond (Nat.beq (Nat.min xl dl) 0) (K (.lit (.int .i64 0)) M) (match da,xa with
    | .slice b o _ sz _ _,.slice b2 o2 _ tZ _ _=>fN (Nat.min xl dl) fun n=>match M.get b,M.get b2 with
     |some (.cells l true),some (.cells l2 _)=>cond (Nat.beq i.size sz&&Nat.beq tZ sz&&Nat.ble (o+n*sz) l.length&&Nat.ble (o2+n*sz) l2.length&&qo ((l2.drop o2).take (n*sz))) (rD l o ((l2.drop o2).take (n*sz)) fun l=>Tr.jI FU M b (some (.cells l true)) fun M'=>K (.lit (.int .i64 n)) M') none
     |_,_=>none
    |_,_=>none)
   |_,_=>none
  |_,_,_=>none
 |_=>none
theorem As1 {P:Program} {tm:Tm} {o:Oper} {c:Call} {t tx:TypeId} {d x:Operand} {M:Tr aA} {n:Nat} {K:AV->Tr aA->Option R} {r:R} (ho:o.op= .call c) (dV:c.callee= .builtin .copy) (n9:c.args= #[d,x]) (yz:c.argTypes= #[t,tx]) (h:I8 P tm t d x M K=some r):∃av M',K av M'=some r/\fT P tm o M n av M' n:=by
 have vH:∀ {a:Act} {w w':World} {v:Value},(Builtin.copy_ #[t,tx] o.type #[a.eval d,a.eval x]).run P w= .ok v w'->(execOp a.eval o).run P w= .ok (.value v) w':=by
  intro a w w' v hr;simp [execOp,ho,resolve,dV,n9,yz,invoke,builtin,hr]
 unfold I8 at h;split at h
 case h_2=>cases h
 rename_i el hu;split at h
 case h_2=>cases h
 rename_i i da xa hi hd hx;split at h
 case h_2=>cases h
 rename_i dl xl cz gF;have XO:d∈o.op.operands.toList:=by simp [ho,Op.operands,Call.operands,dV,n9]
 have XP:x∈o.op.operands.toList:=by simp [ho,Op.operands,Call.operands,dV,n9]
 cases hz:Nat.beq (Nat.min xl dl) 0 with
 |true=>
  rw [hz]at h;simp only [cond_true]at h;have hz:=eq_of_beq_eq_true hz;refine⟨_,_,h,fun b0 e a w hM hT next hk=> ?_⟩;obtain⟨bd,cd,ed⟩:=XN cz (hT _ XO _ hd);obtain⟨bx,cx,ex⟩:=XN gF (hT _ XP _ hx);have eA:(Builtin.copy_ #[t,tx] o.type #[a.eval d,a.eval x]).run P w= .ok (.int .i64 0) w:=by
   have I9:(Builtin.firstCells i.size 0 (.slice bx xl cx)).run P w= .ok #[] w:=by
    cases bx with
    |none=>exact run_firstCells_none w _ _ _ _
    |some A=>exact run_firstCells_some w i.size 0 A xl cx [] (by simp) (fun j v hj=>by simp at hj)
   cases bd<;>simp [Builtin.copy_,run_underlying hu,ed,ex,Builtin.lenOf,hz,sizeOf,typeInfo,hi,I9,storeCells,goInt]
  rw [vH eA];exact hk e _ w (Bg.refl e) hM (by simp only [AV.rep])
 |false=>
  rw [hz]at h;simp only [cond_false]at h;have hz:Nat.min xl dl≠0:=fun e=>by rw [e]at hz;cases hz
  split at h
  case h_2=>cases h
  rename_i b gL XQ sz cd exd b2 o2 I_ tZ cx exx;simp only [yB,Option.some.injEq]at cz gF;subst cz;subst gF;rw [Ei]at h;split at h
  case h_2=>cases h
  rename_i l l2 rw2 hb dY;generalize hn:Nat.min I_ XQ=m at h hz;cases hc:(Nat.beq i.size sz&&Nat.beq tZ sz&&Nat.ble (gL+m*sz) l.length&&Nat.ble (o2+m*sz) l2.length&&qo ((l2.drop o2).take (m*sz)))with
  |false=>rw [hc]at h;cases h
  |true=>
  rw [hc]at h;simp only [cond_true]at h;simp only [and_eq_true]at hc;obtain⟨⟨⟨⟨c1,c2⟩,c3⟩,c4⟩,c5⟩:=hc;have c1:=eq_of_beq_eq_true c1;have c3:=le_of_ble_eq_true c3;have c4:=le_of_ble_eq_true c4;obtain⟨h1,_⟩:=Pe h;obtain⟨M',h2,gV⟩:=Tr.kG (f:=FU) h1;refine⟨_,M',h2,fun b0 e a w hM hT next hk=> ?_⟩;obtain⟨B,tt,vs,rest,g1,g2,g3,g4,g5⟩:=hM.aY b _ hb;obtain⟨B2,tt2,oa,Bsz,f1,f2,f3,f4,f5⟩:=hM.aY b2 _ dY;have hr:=hT _ XO _ hd;simp only [AV.rep]at hr;obtain⟨B',t',k,A,q1,q2,q3,q4,_⟩:=hr;rw [g1]at q1;cases q1;have du:=hT _ XP _ hx;simp only [AV.rep]at du;obtain⟨B2',t2',k2,A2,p1,p2,p3,p4,_⟩:=du;rw [f1]at p1;cases p1;have GH:m<=I_:=hn▸Nat.min_le_left _ _;have lY:m<=XQ:=hn▸Nat.min_le_right _ _;rcases q3 with rfl|q3
  rotate_left
  ·omega
  rcases p3 with rfl|p3
  rotate_left
  ·omega
  have jr:=Ee (n:=m*sz) (Fp (n:=o2) f4);have Bs0:=Bk f4;have hlen:=Bk g4;have jJ:((oa.drop o2).take (m*sz)).length=m*sz:=by simp;omega
  have I9:=run_firstCells_some (P:=P) w i.size m ⟨B2,o2,none⟩ I_ k2 ((oa.drop o2).take (m*sz)) (by rw [jJ,c1]) (fun j v hj=>by
   have u9:j<m*sz:=by rw [←jJ];exact(List.getElem?_eq_some_iff.1 hj).1
   rw [Bo];rw [List.getElem?_take_of_lt u9,getElem?_drop]at hj;exact f2.cell (by rw [getElem?_append_left (by omega)];exact hj))
  have dh:=Gn (P:=P) (a:=⟨B,gL,none⟩) ((oa.drop o2).take (m*sz)) w 0 (T8 c5 jr) (T7 g2 (by simp only [length_append];omega));rw [Vy,Nat.add_zero]at dh;obtain⟨s1,s2⟩:=yy ((oa.drop o2).take (m*sz)) gL w _ g2;rw [IJ _ _ _ _ (by omega)]at s1;have eA:(Builtin.copy_ #[t,tx] o.type #[a.eval d,a.eval x]).run P w= .ok (.int .i64 m) (w.setCells B gL ((oa.drop o2).take (m*sz))):=by
   simp [Builtin.copy_,run_underlying hu,q2,p2,Builtin.lenOf,hn,sizeOf,typeInfo,hi,I9,dh,goInt]
  rw [vH eA];refine hk e _ _ (Bg.refl e) (hM.kL hb g1 g5 s2 gV ⟨B,_,_,rest,g1,s1,?_,T4 gL jr g4,g5⟩) (by simp only [AV.rep]);rw [←g3];simp [Vv]
def yC (P:Program) (tm:Tm) (o:Oper) (M:Tr aA) (n:Nat) (K:AV->Tr aA->Nat->Option R):Option R:=match o.op with
 | .call { callee:= .builtin .append,args:=⟨[s,x]⟩,argTypes:=⟨[t,tx]⟩ } =>IU P tm t tx s x M n K| .call { callee:= .builtin .copy,args:=⟨[d,x]⟩,argTypes:=⟨[t,_]⟩ } =>I8 P tm t d x M fun av M'=>K av M' n
 | .call { callee:= .builtin .delete,args:=⟨[m,k]⟩,argTypes:=⟨[t,_]⟩ } =>I5 P tm t m k M fun M'=>K (.lit (.tuple #[])) M' n
 | .convert s d x=>match BL P tm s d x M with
  |some av=>fA av fun av=>K av M n
  |none=>I7 P tm s d x M n K
 | .makeMap t x=>IZ P tm t x M n K| .lookup t x ix ok=>match I0 P tm t x ix ok M with
  |some av=>fA av fun av=>K av M n
  |none=>none
 | .mapUpdate t m k x=>Ya P tm t m k x M fun M'=>K (.lit undef) M' n
 | .insert t m k x=>Ya P tm t m k x M fun M'=>K (.lit undef) M' n
 | .makeSlice t l c=>match R3 P tm t l c with
  |some (z,f)=>sE M n z fun M' n'=>fA (f n) fun av=>K av M' n'
  |none=>none
 |_=>none
theorem Avl {P:Program} {tm:Tm} {o:Oper} {M:Tr aA} {n:Nat} {K:AV->Tr aA->Nat->Option R} {r:R} (h:yC P tm o M n K=some r):∃av M' n',K av M' n'=some r/\fT P tm o M n av M' n':=by
 unfold yC at h;split at h
 ·rename_i s x t tx ho;exact Am4 ho rfl rfl rfl h
 ·rename_i d x t tx ho;obtain⟨av,M',h1,h2⟩:=As1 ho rfl rfl rfl h;exact⟨_,_,_,h1,h2⟩
 ·rename_i m k t tx ho;obtain⟨M',h1,h2⟩:=Am7 ho rfl rfl rfl h;exact⟨_,_,_,h1,h2⟩
 ·rename_i s d x ho;split at h
  ·rename_i av fw;rw [O8]at h;exact⟨_,_,_,h,XM ho fw⟩
  ·exact Am8 ho h
 ·rename_i t x ho;exact Ako ho h
 ·rename_i t x ix ok ho;split at h
  ·rename_i av fw;rw [O8]at h;exact⟨_,_,_,h,Am6 ho fw⟩
  ·cases h
 ·rename_i t m k x ho;obtain⟨M',h1,h2⟩:=XI (.inl ho) h;exact⟨_,_,_,h1,h2⟩
 ·rename_i t m k x ho;obtain⟨M',h1,h2⟩:=XI (.inr ho) h;exact⟨_,_,_,h1,h2⟩
 ·rename_i t l c ho;split at h
  ·rename_i z f hz;obtain⟨M',h1,h2⟩:=T9 h;rw [O8]at h1;exact⟨_,_,_,h1,(Acy ho hz).W_ h2⟩
  ·cases h
 ·cases h
variable {R:Type}
def dv:Operand->Bx (Tm->Option AV)
 | .tmp t=>Tm.gB t| .const v=>⟨fun _=>some (.lit v)⟩
 | .func f=>⟨fun _=>some (.lit (.func (.func f) #[] #[]))⟩
 | .global _=>⟨fun _=>none⟩
theorem Ef (x:Operand) (tm:Tm):(dv x).get tm=cW tm x:=by cases x<;>rfl
def b1 {α β:Type} (f:α->β):Bx α->Bx β
 |⟨g⟩=>⟨f g⟩
def b2 {α β γ:Type} (f:α->β->γ):Bx α->Bx β->Bx γ
 |⟨g⟩,⟨h⟩=>⟨f g h⟩
def b3 {α β γ δ:Type} (f:α->β->γ->δ):Bx α->Bx β->Bx γ->Bx δ
 |⟨g⟩,⟨h⟩,⟨i⟩=>⟨f g h i⟩
def BM (v:Value) (f:IntKind->Int->Option R):Option R:=Value.casesOn (motive_1:=fun _=>Option R) v (fun _=>none) f (fun _ _=>none) (fun _ _ _=>none) (fun _=>none) (fun _=>none) (fun _ _ _=>none) (fun _=>none) (fun _=>none) (fun _ _ _=>none) none (fun _ _=>none) none (fun _=>none) (fun _=>none)
def Azv (v:Value) (f:Bool->Option R):Option R:=Value.casesOn (motive_1:=fun _=>Option R) v f (fun _ _=>none) (fun _ _=>none) (fun _ _ _=>none) (fun _=>none) (fun _=>none) (fun _ _ _=>none) (fun _=>none) (fun _=>none) (fun _ _ _=>none) none (fun _ _=>none) none (fun _=>none) (fun _=>none)
def JA (x:AV) (f:Value->Option R):Option R:=AV.casesOn (motive_1:=fun _=>Option R) x f (fun _ _=>none) (fun _ _ _ _ _ _=>none) (fun _=>none) (fun _=>none) (fun _ _ _=>none) (fun _=>none) (fun _ _=>none) (fun _=>none) (fun _ _ _=>none) none (fun _ _ _ _=>none)
def oK {α:Type} (x:Option α) (f:α->Option R):Option R:=Option.casesOn (motive:=fun _=>Option R) x none f
def BN (x:Option AV) (f:IntKind->Int->Option R):Option R:=oK x fun x=>JA x fun v=>BM v f
def yD (x:Option AV) (f:Bool->Option R):Option R:=oK x fun x=>JA x fun v=>Azv v f
theorem B0 {α:Type} {x:Option α} {f:α->Option R} {r:R} (h:oK x f=some r):∃a,x=some a/\f a=some r:=by
 cases x with
 |none=>cases h
 |some a=>exact⟨a,rfl,h⟩
theorem XR {x:AV} {f:Value->Option R} {r:R} (h:JA x f=some r):∃v,x= .lit v/\f v=some r:=by
 cases x<;>first|exact⟨_,rfl,h⟩|cases h
theorem V0 {x:Option AV} {f:IntKind->Int->Option R} {r:R} (h:BN x f=some r):∃k a,x=some (.lit (.int k a))/\f k a=some r:=by
 obtain⟨a,rfl,h⟩:=B0 h;obtain⟨v,rfl,h⟩:=XR h;cases v<;>first|exact⟨_,_,rfl,h⟩|cases h
theorem R4 {x:Option AV} {f:Bool->Option R} {r:R} (h:yD x f=some r):∃b,x=some (.lit (.bool b))/\f b=some r:=by
 obtain⟨a,rfl,h⟩:=B0 h;obtain⟨v,rfl,h⟩:=XR h;cases v<;>first|exact⟨_,rfl,h⟩|cases h
def BO:IntKind->Nat
 | .i8=>127| .i16=>32767| .i32=>2147483647| .i64=>9223372036854775807| .u8=>255| .u16=>65535| .u32=>4294967295| .u64=>18446744073709551615
theorem wrap_small {k:IntKind} {s:Nat} (h:s<=BO k):k.wrap (Int.ofNat s)=Int.ofNat s:=by
 cases k<;>simp only [BO]at h<;>simp only [IntKind.wrap,IntKind.bits,IntKind.signed]<;>simp<;>omega
def vJ:IntKind->Nat
 | .i8=>0| .i16=>1| .i32=>2| .i64=>3| .u8=>4| .u16=>5| .u32=>6| .u64=>7
theorem Avp {k k':IntKind} (h:Nat.beq (vJ k) (vJ k')=true):k=k':=by
 cases k<;>cases k'<;>first|rfl|exact absurd h (by decide)
def rE (a b:Int) (f:Nat->Nat->Option R) (s:Option R):Option R:=Int.casesOn (motive:=fun _=>Option R) a (fun m=>Int.casesOn (motive:=fun _=>Option R) b (fun n=>f m n) (fun _=>s)) (fun _=>s)
def eV (b:Bool) (x y:Option R):Option R:=Bool.casesOn (motive:=fun _=>Option R) b y x
def sG (k:IntKind) (s:Nat) (K:AV->Option R) (t1:Option R):Option R:=fN s fun s=>eV (Nat.ble s (BO k)) (K (.lit (.int k (.ofNat s)))) t1
def t2 (b:Bool) (K:AV->Option R):Option R:=eV b (K (.lit (.bool true))) (K (.lit (.bool false)))
def JB:BinOp->Option (IntKind->Int->Int->AV)
 | .add=>some fun k a b=> .lit (.int k (k.wrap (Int.add a b)))
 | .sub=>some fun k a b=> .lit (.int k (k.wrap (Int.sub a b)))
 | .mul=>some fun k a b=> .lit (.int k (k.wrap (Int.mul a b)))
 | .and=>some fun k a b=> .lit (.int k (k.wrap (BitVec.ofInt k.bits a&&&BitVec.ofInt k.bits b).toNat))
 | .or=>some fun k a b=> .lit (.int k (k.wrap (BitVec.ofInt k.bits a|||BitVec.ofInt k.bits b).toNat))
 | .xor=>some fun k a b=> .lit (.int k (k.wrap (BitVec.ofInt k.bits a^^^BitVec.ofInt k.bits b).toNat))
 | .eql=>some fun _ a b=> .lit (.bool (a==b))
 | .neq=>some fun _ a b=> .lit (.bool (a !=b))
 | .lss=>some fun _ a b=> .lit (.bool (decide (a<b)))
 | .leq=>some fun _ a b=> .lit (.bool (decide (a<=b)))
 | .gtr=>some fun _ a b=> .lit (.bool (decide (a>b)))
 | .geq=>some fun _ a b=> .lit (.bool (decide (a>=b)))
 |_=>none
theorem Avq {op:BinOp} {f:IntKind->Int->Int->AV} (h:JB op=some f) {P:Program} {t:TypeId} {k:IntKind} {a b:Int} :∃v,f k a b= .lit v/\∀w,(binOp op t (.int k a) (.int k b)).run P w= .ok v w:=by
 unfold JB at h;split at h<;>first|cases h;exact⟨_,rfl,fun w=>by simp [binOp,Op.intArith,Op.intBits,Op.intCmp]<;>rfl⟩|cases h
abbrev yE (R:Type):Type:=IntKind->Int->Int->(AV->Option R)->Option R
def H0 (f:IntKind->Int->Int->AV):yE R:=fun k a b K=>fA (f k a b) K
def BP:BinOp->Option (Bx (yE R))
 | .add=>some ⟨fun k a b K=>rE a b (fun m n=>sG k (Nat.add m n) K (H0 (fun k a b=> .lit (.int k (k.wrap (Int.add a b)))) k a b K)) (H0 (fun k a b=> .lit (.int k (k.wrap (Int.add a b)))) k a b K)⟩
 | .sub=>some ⟨fun k a b K=>rE a b (fun m n=>eV (Nat.ble n m) (sG k (Nat.sub m n) K (H0 (fun k a b=> .lit (.int k (k.wrap (Int.sub a b)))) k a b K)) (H0 (fun k a b=> .lit (.int k (k.wrap (Int.sub a b)))) k a b K)) (H0 (fun k a b=> .lit (.int k (k.wrap (Int.sub a b)))) k a b K)⟩
 | .mul=>some ⟨fun k a b K=>rE a b (fun m n=>sG k (Nat.mul m n) K (H0 (fun k a b=> .lit (.int k (k.wrap (Int.mul a b)))) k a b K)) (H0 (fun k a b=> .lit (.int k (k.wrap (Int.mul a b)))) k a b K)⟩
 | .and=>some ⟨H0 fun k a b=> .lit (.int k (k.wrap (BitVec.ofInt k.bits a&&&BitVec.ofInt k.bits b).toNat))⟩
 | .or=>some ⟨H0 fun k a b=> .lit (.int k (k.wrap (BitVec.ofInt k.bits a|||BitVec.ofInt k.bits b).toNat))⟩
 | .xor=>some ⟨H0 fun k a b=> .lit (.int k (k.wrap (BitVec.ofInt k.bits a^^^BitVec.ofInt k.bits b).toNat))⟩
 | .eql=>some ⟨fun k a b K=>rE a b (fun m n=>t2 (Nat.beq m n) K) (H0 (fun _ a b=> .lit (.bool (a==b))) k a b K)⟩
 | .neq=>some ⟨fun k a b K=>rE a b (fun m n=>eV (Nat.beq m n) (K (.lit (.bool false))) (K (.lit (.bool true)))) (H0 (fun _ a b=> .lit (.bool (a !=b))) k a b K)⟩
 | .lss=>some ⟨fun k a b K=>rE a b (fun m n=>eV (Nat.ble n m) (K (.lit (.bool false))) (K (.lit (.bool true)))) (H0 (fun _ a b=> .lit (.bool (decide (a<b)))) k a b K)⟩
 | .leq=>some ⟨fun k a b K=>rE a b (fun m n=>t2 (Nat.ble m n) K) (H0 (fun _ a b=> .lit (.bool (decide (a<=b)))) k a b K)⟩
 | .gtr=>some ⟨fun k a b K=>rE a b (fun m n=>eV (Nat.ble m n) (K (.lit (.bool false))) (K (.lit (.bool true)))) (H0 (fun _ a b=> .lit (.bool (decide (a>b)))) k a b K)⟩
 | .geq=>some ⟨fun k a b K=>rE a b (fun m n=>t2 (Nat.ble n m) K) (H0 (fun _ a b=> .lit (.bool (decide (a>=b)))) k a b K)⟩
 |_=>none
theorem As4 (f:IntKind->Int->Int->AV) (k:IntKind) (a b:Int) (K:AV->Option R):H0 f k a b K=K (f k a b):=O8 _ _
theorem Ayb (k:IntKind) (s:Nat) (K:AV->Option R):sG k s K (K (.lit (.int k (k.wrap (Int.ofNat s)))))=K (.lit (.int k (k.wrap (Int.ofNat s)))):=by
 unfold sG;rw [Ei];cases h:Nat.ble s (BO k)with
 |false=>rfl
 |true=>rw [wrap_small (le_of_ble_eq_true h)];rfl
theorem JC {k:IntKind} {s:Nat} {z:Int} (hz:z=Int.ofNat s) (K:AV->Option R):sG k s K (K (.lit (.int k (k.wrap z))))=K (.lit (.int k (k.wrap z))):=by subst hz;exact Ayb k s K
theorem JD (b:Bool) (K:AV->Option R):t2 b K=K (.lit (.bool b)):=by cases b<;>rfl
theorem Ua (b:Bool) (K:AV->Option R):eV b (K (.lit (.bool false))) (K (.lit (.bool true)))=K (.lit (.bool !b)):=by cases b<;>rfl
theorem q1 (m n:Nat):(Int.ofNat m==Int.ofNat n)=Nat.beq m n:=by
 rw [Bool.eq_iff_iff,beq_iff_eq,Nat.beq_eq];exact⟨fun h=>Int.ofNat.inj h,fun h=>congrArg _ h⟩
theorem q2 (m n:Nat):(Int.ofNat m !=Int.ofNat n)= !Nat.beq m n:=by rw [bne,q1]
theorem q3 (m n:Nat):decide (Int.ofNat m<Int.ofNat n)= !Nat.ble n m:=by
 rw [Bool.eq_iff_iff,decide_eq_true_iff,Bool.not_eq_true',←Bool.not_eq_true,Nat.ble_eq];simp only [Int.ofNat_eq_natCast];omega
theorem q4 (m n:Nat):decide (Int.ofNat m<=Int.ofNat n)=Nat.ble m n:=by
 rw [Bool.eq_iff_iff,decide_eq_true_iff,Nat.ble_eq];simp only [Int.ofNat_eq_natCast];omega
theorem Avs {op:BinOp} {q:Bx (yE R)} (h:BP op=some q):∃f,JB op=some f/\∀k a b K,q.get k a b K=K (f k a b):=by
 unfold BP at h;split at h<;>first|(cases h;refine⟨_,rfl,fun k a b K=> ?_⟩;simp only [As4])|cases h
 ·cases a<;>cases b<;>first|rfl|(show sG _ _ _ _=_;exact JC rfl K)
 ·cases a<;>cases b<;>first|rfl|skip
  rename_i m n;show eV _ _ _=_
  cases hb:Nat.ble n m with
  |false=>rfl
  |true=>exact JC (by have:=le_of_ble_eq_true hb;show((m:Int)-(n:Int))=((m-n:Nat):Int);omega) K
 ·cases a<;>cases b<;>first|rfl|(show sG _ _ _ _=_;exact JC rfl K)
 all_goals
  cases a<;>cases b<;>first|rfl|skip
  rename_i m n
  first
   |(show t2 _ _=_;rw [JD,q1])
   |(show eV _ (K _) (K _)=_;rw [Ua,q2])
   |(show eV _ (K _) (K _)=_;rw [Ua,q3])
   |(show t2 _ _=_;rw [JD,q4])
   |(show eV _ (K _) (K _)=_;rw [Ua,gt_iff_lt,q3])
   |(show t2 _ _=_;rw [JD];show _=K (AV.lit (.bool (decide (Int.ofNat n<=Int.ofNat m))));rw [q4])
   |(show eV _ (K _) (K _)=_;rw [Ua];show _=K (AV.lit (.bool (decide (Int.ofNat n<Int.ofNat m))));rw [q3])
def BQ:BinOp->Option (IntKind->Int->Int->AV)
 | .shl=>some fun k a b=> .lit (.int k (k.wrap (a*2^(min b.toNat k.bits))))
 | .shr=>some fun k a b=> .lit (.int k (a.fdiv (2^(min b.toNat k.bits))))
 |_=>none
theorem Ayc {op:BinOp} {f:IntKind->Int->Int->AV} (h:BQ op=some f) {P:Program} {t:TypeId} {k k':IntKind} {a b:Int} (hb:¬b<0):∃v,f k a b= .lit v/\∀w,(binOp op t (.int k a) (.int k' b)).run P w= .ok v w:=by
 unfold BQ at h;split at h<;>first|cases h;exact⟨_,rfl,fun w=>by simp [binOp,Op.shift,hb]⟩|cases h
abbrev i5 (R:Type):Type:=Tm->(AV->Option R)->Option R
def Mb (P:Program) (o:Oper) (f:i5 R):Prop:=∀tm K r,f tm K=some r->∃av,K av=some r/\L8 P tm o av
theorem Mb.of {P:Program} {o:Oper} {f:i5 R} (h:∀tm K r,f tm K=some r->∃av,Ji P tm o=some av/\K av=some r):Mb P o f:=fun tm K r hr=>by
 obtain⟨av,h1,h2⟩:=h tm K r hr;exact⟨av,h2,Pd h1⟩
theorem XS {P:Program} {o:Oper} {op:BinOp} {t t':TypeId} {x y:Operand} (ho:o.op= .binOp op t x y t') {tm:Tm} {k k':IntKind} {a b:Int} {v:Value} (hx:cW tm x=some (.lit (.int k a))) (hy:cW tm y=some (.lit (.int k' b))) (hv:∀w,(binOp op t (.int k a) (.int k' b)).run P w= .ok v w):L8 P tm o (.lit v):=by
 intro e ac ht;have rx:=ht x (by simp [ho,Op.operands]) _ hx;have ry:=ht y (by simp [ho,Op.operands]) _ hy;simp only [AV.rep]at rx ry;refine⟨v,by simp only [AV.rep],fun w=> ?_⟩;have hg:(eqGuard op t x y (.int k a) (.int k' b)).run P w= .ok () w:=by
  cases op<;>rfl
 simp only [execOp,ho,rx,ry,Sem.run_bind,hg,hv w,Result.andThen_ok,Sem.run_pure]
def Ub (P:Program) (o:Oper):i5 R:=fun tm K=>match Ji P tm o with
 |some av=>fA av K|none=>none
theorem R5 {P:Program} {o:Oper} {tm:Tm} {K:AV->Option R} {r:R} (h:Ub P o tm K=some r):∃av,Ji P tm o=some av/\K av=some r:=by
 unfold Ub at h;split at h
 ·rename_i av fw;rw [O8]at h;exact⟨av,fw,h⟩
 ·cases h
def JE (x:AV) (f:Value->Option R) (s:Option R):Option R:=AV.casesOn (motive_1:=fun _=>Option R) x f (fun _ _=>none) (fun _ _ _ _ _ _=>none) (fun _=>none) (fun _=>none) (fun _ _ _=>none) (fun _=>none) (fun _ _=>none) (fun _=>none) (fun _ _ _=>s) none (fun _ _ _ _=>s)
theorem XT {x:AV} {f:Value->Option R} {s:Option R} {r:R} (h:JE x f s=some r):(∃v,x= .lit v/\f v=some r)\/s=some r:=by
 cases x<;>first|exact .inl ⟨_,rfl,h⟩|exact .inr h|cases h
theorem XU {v:Value} {f:IntKind->Int->Option R} {r:R} (h:BM v f=some r):∃k a,v= .int k a/\f k a=some r:=by
 cases v<;>first|exact⟨_,_,rfl,h⟩|cases h
def Dw (f:yE R) (s:i5 R) (gx gy:Tm->Option AV):i5 R:=fun tm K=>oK (gx tm) fun x=>JE x (fun u=>BM u fun k a=>oK (gy tm) fun y=>JE y (fun v=>BM v fun k' b=>eV (Nat.beq (vJ k) (vJ k')) (f k a b K) none) (s tm K)) (s tm K)
theorem Avt {P:Program} {o:Oper} {op:BinOp} {t t':TypeId} {x y:Operand} (ho:o.op= .binOp op t x y t') {q:Bx (yE R)} (hq:BP op=some q):Mb P o (Dw q.get (Ub P o) (dv x).get (dv y).get):=by
 intro tm K r h;have t1:Ub P o tm K=some r->∃av,K av=some r/\L8 P tm o av:=fun h=>by
  obtain⟨av,h1,h2⟩:=R5 h;exact⟨av,h2,Pd h1⟩
 obtain⟨x',hx,h⟩:=B0 h;rcases XT h with⟨u,rfl,h⟩|h
 case inr=>exact t1 h
 obtain⟨k,a,rfl,h⟩:=XU h;obtain⟨y',hy,h⟩:=B0 h;rcases XT h with⟨v,rfl,h⟩|h
 case inr=>exact t1 h
 obtain⟨k',b,rfl,h9⟩:=XU h;cases hk:Nat.beq (vJ k) (vJ k')with
 |false=>rw [hk]at h9;cases h9
 |true=>
  rw [hk]at h9;have hk:=Avp hk;subst hk;obtain⟨f,hf,hK⟩:=Avs hq;change q.get k a b K=some r at h9;rw [hK]at h9;refine⟨_,h9,?_⟩;rw [Ef]at hx hy;obtain⟨v,hv,hr⟩:=Avq hf (P:=P) (t:=t) (k:=k) (a:=a) (b:=b);rw [hv];exact XS ho hx hy hr
def XV (f:IntKind->Int->Int->AV) (gx gy:Tm->Option AV):i5 R:=fun tm K=>BN (gx tm) fun k a=>BN (gy tm) fun _ b=>cond (decide (b<0)) none (fA (f k a b) K)
theorem Ayd {P:Program} {o:Oper} {op:BinOp} {t t':TypeId} {x y:Operand} (ho:o.op= .binOp op t x y t') {f:IntKind->Int->Int->AV} (hq:BQ op=some f):Mb P o (XV (R:=R) f (dv x).get (dv y).get):=by
 intro tm K r h;obtain⟨k,a,hx,h⟩:=V0 h;obtain⟨k',b,hy,h⟩:=V0 h;rw [Ef]at hx hy;cases hk:decide (b<0)with
 |true=>rw [hk]at h;cases h
 |false=>
  rw [hk]at h;simp only [cond_false,O8]at h;obtain⟨v,e1,e2⟩:=Ayc hq (P:=P) (t:=t) (k:=k) (k':=k') (a:=a) (of_decide_eq_false hk);refine⟨_,h,?_⟩;rw [e1];exact XS ho hx hy e2
def JF (gx:Tm->Option AV):i5 R:=fun tm K=>oK (gx tm) K
def XW (gc gx gy:Tm->Option AV):i5 R:=fun tm K=>yD (gc tm) fun b=>eV b (oK (gx tm) K) (oK (gy tm) K)
theorem XX {P:Program} {o:Oper} {x:Operand} (ho:o.op= .move x\/o.op= .assign x):Mb P o (JF (R:=R) (dv x).get):=Mb.of fun tm K r h=>by
 obtain⟨a,hx,h⟩:=B0 h;rw [Ef]at hx;refine⟨a,?_,h⟩;rcases ho with ho|ho<;>(unfold Ji;rw [ho];exact hx)
theorem As7 {P:Program} {o:Oper} {c x y:Operand} (ho:o.op= .pick c x y):Mb P o (XW (R:=R) (dv c).get (dv x).get (dv y).get):=Mb.of fun tm K r h=>by
 obtain⟨b,hx,h⟩:=R4 h;rw [Ef]at hx;unfold Ji;rw [ho];cases b with
 |true=>
  obtain⟨a,h1,h2⟩:=B0 (show oK _ K=some r from h);rw [Ef]at h1;exact⟨a,by simp only [hx,cond_true,h1],h2⟩
 |false=>
  obtain⟨a,h1,h2⟩:=B0 (show oK _ K=some r from h);rw [Ef]at h1;exact⟨a,by simp only [hx,cond_false,h1],h2⟩
def XY (gx:Tm->Option AV):i5 R:=fun tm K=>yD (gx tm) fun b=>eV b (K (.lit (.bool false))) (K (.lit (.bool true)))
theorem Avu {P:Program} {o:Oper} {t:TypeId} {x:Operand} (ho:o.op= .unOp .not t x):Mb P o (XY (R:=R) (dv x).get):=by
 intro tm K r h;obtain⟨b,hx,h⟩:=R4 h;rw [Ef]at hx;rw [Ua]at h;refine⟨_,h,fun e a ht=> ?_⟩;have rx:=ht x (by simp [ho,Op.operands]) _ hx;simp only [AV.rep]at rx;exact⟨.bool !b,by simp only [AV.rep],fun w=>by simp only [execOp,ho,rx];rfl⟩
def Bau (x:AV) (f:Nat->Nat->Option R):Option R:=AV.casesOn (motive_1:=fun _=>Option R) x (fun _=>none) f (fun _ _ _ _ _ _=>none) (fun _=>none) (fun _=>none) (fun _ _ _=>none) (fun _=>none) (fun _ _=>none) (fun _=>none) (fun _ _ _=>none) none (fun _ _ _ _=>none)
def vK (x:Option AV) (f:Nat->Nat->Option R):Option R:=oK x fun x=>Bau x f
theorem P5 {x:Option AV} {f:Nat->Nat->Option R} {r:R} (h:vK x f=some r):∃b k,x=some (.ptr b k)/\f b k=some r:=by
 obtain⟨a,rfl,h⟩:=B0 h;cases a<;>first|exact⟨_,_,rfl,h⟩|cases h
def Bav (x:AV) (f:Nat->Nat->Nat->Nat->Nat->Bool->Option R) (s:Option R):Option R:=AV.casesOn (motive_1:=fun _=>Option R) x (fun _=>s) (fun _ _=>none) f (fun _=>none) (fun _=>none) (fun _ _ _=>none) (fun _=>none) (fun _ _=>none) (fun _=>none) (fun _ _ _=>none) none (fun _ _ _ _=>none)
def JG (x:Option AV) (f:Nat->Nat->Nat->Nat->Nat->Bool->Option R) (s:Option R):Option R:=oK x fun x=>Bav x f s
theorem XZ {x:Option AV} {f:Nat->Nat->Nat->Nat->Nat->Bool->Option R} {s:Option R} {r:R} (h:JG x f s=some r):(∃b k n sz c ex,x=some (.slice b k n sz c ex)/\f b k n sz c ex=some r)\/(∃v,x=some (.lit v))/\s=some r:=by
 obtain⟨a,rfl,h⟩:=B0 h;cases a<;>first|exact .inl ⟨_,_,_,_,_,_,rfl,h⟩|exact .inr ⟨⟨_,rfl⟩,h⟩|cases h
def X_ (x:Option AV) (f:Nat->Option R):Option R:=BN x fun _ a=>Int.casesOn (motive:=fun _=>Option R) a f (fun _=>none)
theorem Aqc {x:Option AV} {f:Nat->Option R} {r:R} (h:X_ x f=some r):∃k i,x=some (.lit (.int k (Int.ofNat i)))/\f i=some r:=by
 obtain⟨k,a,rfl,h⟩:=V0 h;cases a<;>first|exact⟨_,_,rfl,h⟩|cases h
def JH (P:Program) (t:TypeId) (f:Nat):Option Nat:=match P.underlying t with
 |some (.struct fs)=>match fs[f]? with
  |some lG=>match P.info? lG.type with
   |some i=>cond (Nat.beq i.size 0) none (some lG.offset)|none=>none
  |none=>none
 |_=>none
def YA (off:Nat) (gx:Tm->Option AV):i5 R:=fun tm K=>vK (gx tm) fun b k=>fN (Nat.add k off) fun k=>K (.ptr b k)
theorem Aqd {P:Program} {o:Oper} {t:TypeId} {x:Operand} {f off:Nat} (ho:o.op= .fieldAddr t x f) (hf:JH P t f=some off):Mb P o (YA (R:=R) off (dv x).get):=Mb.of fun tm K r h=>by
 obtain⟨b,k,hx,h⟩:=P5 h;rw [Ef]at hx;rw [Ei]at h;refine⟨_,?_,h⟩;unfold JH at hf;unfold Ji;rw [ho];split at hf
 case h_2=>cases hf
 rename_i fs hu;split at hf
 case h_2=>cases hf
 rename_i lG xU;split at hf
 case h_2=>cases hf
 rename_i i hi;cases hz:Nat.beq i.size 0 with
 |true=>rw [hz]at hf;cases hf
 |false=>
  rw [hz]at hf;cases hf;simp only [hx,hu,xU,hi,hz,cond_false];rfl
def JI (P:Program) (t:TypeId):Option Nat:=match P.underlying t with
 |some (.slice e)=>match P.info? e with
  |some inf=>some inf.size|none=>none
 |_=>none
def YC (size:Nat) (gx gi:Tm->Option AV):i5 R:=fun tm K=>X_ (gi tm) fun i=>JG (gx tm) (fun b k len sz _ _=>eV (Nat.ble (Nat.succ i) len) (eV (Nat.beq size sz) (fN (Nat.add k (Nat.mul i sz)) fun k=>K (.ptr b k)) none) none) none
theorem Aqe {P:Program} {o:Oper} {t:TypeId} {x i:Operand} {size:Nat} (ho:o.op= .indexAddr t x i) (hf:JI P t=some size):Mb P o (YC (R:=R) size (dv x).get (dv i).get):=Mb.of fun tm K r h=>by
 obtain⟨ki,i,hi,h⟩:=Aqc h;rcases XZ h with⟨b,k,len,sz,c,ex,hx,h⟩|⟨_,h⟩
 case inr=>cases h
 rw [Ef]at hx hi;unfold JI at hf;unfold Ji;rw [ho];split at hf
 case h_2=>cases hf
 rename_i e hu;split at hf
 case h_2=>cases hf
 rename_i inf v9;cases hf
 cases h1:Nat.ble (Nat.succ i) len with
 |false=>rw [h1]at h;cases h
 |true=>
  rw [h1]at h;change eV (Nat.beq inf.size sz) _ none=some r at h;cases h2:Nat.beq inf.size sz with
  |false=>rw [h2]at h;cases h
  |true=>
   rw [h2]at h;change fN _ _=some r at h;rw [Ei]at h;refine⟨_,?_,h⟩;have aE:=le_of_ble_eq_true h1;have c1:decide ((0:Int)<=Int.ofNat i)=true:=by simp
   have c2:decide (Int.ofNat i<(len:Int))=true:=by simp;omega
   simp only [T6,hi,hx,hu,v9,c1,c2,h2,Bool.and_true,cond_true];rfl
def YD (s:i5 R) (gx:Tm->Option AV):i5 R:=fun tm K=>JG (gx tm) (fun _ _ n _ _ _=>K (.lit (.int .i64 (.ofNat n)))) (s tm K)
theorem Avv {P:Program} {o:Oper} {x:Operand} {t e:TypeId} (ho:o.op= .call { callee:= .builtin .len,args:=⟨[x]⟩,argTypes:=⟨[t]⟩ }) (ht:P.underlying t=some (.slice e)):Mb P o (YD (R:=R) (Ub P o) (dv x).get):=Mb.of fun tm K r h=>by
 rcases XZ h with⟨b,k,len,sz,c,ex,hx,h⟩|⟨_,h⟩
 case inr=>exact R5 h
 rw [Ef]at hx;refine⟨_,?_,h⟩;unfold Ji;rw [ho];simp only [hx,ht];rfl
def vL:Nat->Bx (List AV->Option AV)
 |0=>⟨fun l=>List.casesOn (motive:=fun _=>Option AV) l none (fun a _=>some a)⟩
 |i+1=>match vL i with
  |⟨g⟩=>⟨fun l=>List.casesOn (motive:=fun _=>Option AV) l none (fun _ l=>g l)⟩
theorem Yb:∀(i:Nat) (l:List AV),(vL i).get l=l[i]?
 |0,[]=>rfl
 |0,_::_=>rfl
 |i+1,[]=>rfl
 |i+1,a::l=>by rw [List.getElem?_cons_succ,←Yb i l];rfl
def Baw (x:AV) (f:List AV->Option R) (s:Option R):Option R:=AV.casesOn (motive_1:=fun _=>Option R) x (fun _=>s) (fun _ _=>none) (fun _ _ _ _ _ _=>none) (fun _=>none) f (fun _ _ _=>none) (fun _=>none) (fun _ _=>none) (fun _=>none) (fun _ _ _=>none) none (fun _ _ _ _=>none)
def YE (s:i5 R) (g:List AV->Option AV) (gx:Tm->Option AV):i5 R:=fun tm K=>oK (gx tm) fun x=>Baw x (fun l=>oK (g l) K) (s tm K)
theorem Avw {P:Program} {o:Oper} {x:Operand} {i:Nat} (ho:o.op= .extract x i):Mb P o (YE (R:=R) (Ub P o) (vL i).get (dv x).get):=Mb.of fun tm K r h=>by
 obtain⟨a,hx,h⟩:=B0 h;rw [Ef]at hx;cases a with
 |tuple l=>
  obtain⟨a,h1,h2⟩:=B0 (show oK _ K=some r from h);rw [Yb]at h1;refine⟨a,?_,h2⟩;unfold Ji;rw [ho];simp only [hx,h1]
 |lit v=>exact R5 h
 |_=>cases h
def v1 (v:Value):Bool:=Value.casesOn (motive_1:=fun _=>Bool) v (fun _=>true) (fun _ _=>true) (fun _ _=>true) (fun _ _ _=>false) (fun _=>true) (fun _=>true) (fun _ _ _=>true) (fun _=>true) (fun _=>true) (fun _ _ _=>true) true (fun _ _=>true) true (fun _=>false) (fun _=>false)
def a1 (x:AV):Bool:=AV.casesOn (motive_1:=fun _=>Bool) x v1 (fun _ _=>true) (fun _ _ _ _ _ _=>true) (fun _=>false) (fun _=>false) (fun _ _ _=>true) (fun _=>true) (fun _ _=>true) (fun _=>true) (fun _ _ _=>true) true (fun _ _ _ _=>true)
theorem JJ {x:AV} (h:a1 x=true):x.one=true/\x.cells=[x]:=by
 cases x with
 |lit v=>cases v<;>first|exact⟨rfl,rfl⟩|cases h
 |agg l=>cases h
 |tuple l=>cases h
 |_=>exact⟨rfl,rfl⟩
theorem Yc:∀(cs pre z:List AV),cs.length<=z.length->T3 (pre++z) pre.length cs=pre++(cs++z.drop cs.length)
 |[],pre,z,_=>by simp [T3]
 |c::cs,pre,[],h=>by simp at h
 |c::cs,pre,x::z,h=>by
  have:=Yc cs (pre++[c]) z (by simpa using h);simp only [T3];have e:(pre++x::z).set pre.length c=(pre++[c])++z:=by simp
  rw [e];have e2:pre.length+1=(pre++[c]).length:=by simp
  rw [e2,this];simp
def Uc:List AV->List (Nat×Nat×AV)->Option (List AV)
 |l,[]=>some l|l,(off,size,a)::r=>cond (Nat.beq a.cells.length size&&Nat.ble (off+size) l.length) (Uc (T3 l off a.cells) r) none
def sH (tm:Tm):List (Nat×Nat×Operand)->Option (List (Nat×Nat×AV))
 |[]=>some []|(off,size,x)::l=>match cW tm x with
  |some a=>match sH tm l with
   |some r=>some ((off,size,a)::r)|none=>none
  |none=>none
def vM (place:Nat->Option (Nat×Nat)):List (Nat×Operand)->Option (List (Nat×Nat×Operand))
 |[]=>some []|(i,x)::l=>match place i with
  |some (off,size)=>match vM place l with
   |some r=>some ((off,size,x)::r)|none=>none
  |none=>none
theorem R6 {place:Nat->Option (Nat×Nat)} {tm:Tm} :∀ {ps:List (Nat×Operand)} {qs:List (Nat×Nat×Operand)} {vs:List (Nat×Nat×AV)},vM place ps=some qs->sH tm qs=some vs->∃az,sD tm ps=some az/\∀l,Np place l az=Uc l vs
 |[],qs,vs,h,he=>by
  simp only [vM]at h;cases h;simp only [sH]at he;cases he;exact⟨[],rfl,fun l=>rfl⟩
 |(i,x)::ps,qs,vs,h,he=>by
  simp only [vM]at h;split at h
  case h_2=>cases h
  rename_i off size hp;split at h
  case h_2=>cases h
  rename_i qs' hq;cases h
  simp only [sH]at he;split at he
  case h_2=>cases he
  rename_i a ha;split at he
  case h_2=>cases he
  rename_i ve hv;cases he
  obtain⟨az,h1,h2⟩:=R6 hq hv;refine⟨(i,a)::az,by simp only [sD,ha,h1],fun l=> ?_⟩;simp only [Np,Uc,hp,h2]
def V1 (x:AV) (f:List AV->Option R):Option R:=AV.casesOn (motive_1:=fun _=>Option R) x (fun v=>f (AV.cells (.lit v))) (fun _ _=>none) (fun _ _ _ _ _ _=>none) f (fun _=>none) (fun _ _ _=>none) (fun _=>none) (fun _ _=>none) (fun _=>none) (fun _ _ _=>none) none (fun _ _ _ _=>none)
theorem Wp {x:AV} {f:List AV->Option R} {r:R} (h:V1 x f=some r):f x.cells=some r:=by
 cases x<;>first|exact h|cases h
def sI:Nat->Bx (List AV->List AV->(List AV->Option R)->Option R)
 |0=>⟨fun cs l K=>List.casesOn (motive:=fun _=>Option R) cs (K l) (fun _ _=>none)⟩
 |s+1=>match sI s with
  |⟨g⟩=>⟨fun cs l K=>List.casesOn (motive:=fun _=>Option R) cs none (fun a cs=>g cs l fun r=>K (a::r))⟩
theorem YF {l:List AV} {r:R} :∀(s:Nat) {cs:List AV} {K:List AV->Option R},(sI s).get cs l K=some r->cs.length=s/\K (cs++l)=some r:=by
 intro s
 induction s with
 |zero=>
  intro cs K h;cases cs with
  |nil=>exact⟨rfl,h⟩
  |cons a cs=>cases h
 |succ s ih=>
  intro cs K h;cases cs with
  |nil=>cases h
  |cons a cs=>
   obtain⟨h1,h2⟩:=ih (show(sI s).get cs l (fun r=>K (a::r))=some r from h);exact⟨by simp [h1],h2⟩
abbrev sJ (R:Type):Type:=Tm->(List AV->Option R)->Option R
def Az1 (x:AV) (g:sJ R):sJ R:=fun tm K=>g tm fun l=>K (x::l)
def YG (gx:Tm->Option AV) (p:List AV->List AV->(List AV->Option R)->Option R) (g:sJ R):sJ R:=fun tm K=>oK (gx tm) fun a=>eV (a1 a) (g tm fun l=>K (a::l)) (V1 a fun cs=>g tm fun l=>p cs l K)
def Az3 (gx:Tm->Option AV) (p:List AV->List AV->(List AV->Option R)->Option R) (g:sJ R):sJ R:=fun tm K=>oK (gx tm) fun a=>V1 a fun cs=>g tm fun l=>p cs l K
def Ph:List AV->Nat->Nat->List (Nat×Nat×Operand)->Bx (sJ R)
 |[],_,0,[]=>⟨fun _ K=>K []⟩
 |[],_,_,_=>⟨fun _ _=>none⟩
 |_::z,pos,k+1,qs=>Ph z (pos+1) k qs|x::z,_,0,[]=>⟨fun _ K=>K (x::z)⟩
 |x::z,pos,0,(off,size,y)::qs=>cond (Nat.beq pos off)
  (match size with
   |0=>⟨fun _ _=>none⟩
   |1=>b3 YG (dv y) (sI 1) (Ph z (pos+1) 0 qs)|s+2=>b3 Az3 (dv y) (sI (s+2)) (Ph z (pos+1) (s+1) qs))
  (b1 (Az1 x) (Ph z (pos+1) 0 ((off,size,y)::qs)))
theorem Aqg {tm:Tm} {r:R} :∀(z:List AV) (pos k:Nat) (qs:List (Nat×Nat×Operand)) {K:List AV->Option R},(Ph z pos k qs).get tm K=some r->∃vs out,sH tm qs=some vs/\K out=some r/\k<=z.length/\∀pre:List AV,pre.length=pos+k->Uc (pre++z.drop k) vs=some (pre++out):=by
 intro z
 induction z with
 |nil=>
  intro pos k qs K h;cases k with
  |succ k=>simp only [Ph]at h;cases h
  |zero=>
   cases qs with
   |nil=>exact⟨[],[],rfl,h,le_refl _,fun pre _=>by simp [Uc]⟩
   |cons q qs=>simp only [Ph]at h;cases h
 |cons x z ih=>
  intro pos k qs K h;cases k with
  |succ k=>
   simp only [Ph]at h;obtain⟨vs,out,h1,h2,h3,h4⟩:=ih _ _ _ h;exact⟨vs,out,h1,h2,by simp only [length_cons];omega,fun pre hp=>by simpa using h4 pre (by omega)⟩
  |zero=>
   cases qs with
   |nil=>exact⟨[],x::z,rfl,h,zero_le _,fun pre _=>by simp [Uc]⟩
   |cons q qs=>
    obtain⟨off,size,y⟩:=q;simp only [Ph]at h;cases hp:Nat.beq pos off with
    |false=>
     rw [hp]at h;obtain⟨vs,out,h1,h2,h3,h4⟩:=ih _ _ _ (show(Ph z (pos+1) 0 ((off,size,y)::qs)).get tm (fun l=>K (x::l))=some r from h);exact⟨vs,x::out,h1,h2,zero_le _,fun pre db=>by simpa using h4 (pre++[x]) (by simp;omega)⟩
    |true=>
     rw [hp]at h;have hp:=eq_of_beq_eq_true hp;subst hp;simp only [cond_true]at h;split at h
     ·cases h
     ·obtain⟨a,g1,g2⟩:=B0 (show oK ((dv y).get tm) (fun a=>eV (a1 a) ((Ph z (pos+1) 0 qs).get tm fun l=>K (a::l)) (V1 a fun cs=>(Ph z (pos+1) 0 qs).get tm fun l=>(sI 1).get cs l K))=some r from h);rw [Ef]at g1;cases ha:a1 a with
      |false=>
       rw [ha]at g2;have g2:=Wp (show V1 a (fun cs=>(Ph z (pos+1) 0 qs).get tm fun l=>(sI 1).get cs l K)=some r from g2);obtain⟨vs,out,h1,h2,h3,h4⟩:=ih _ _ _ g2;obtain⟨e1,e2⟩:=YF _ h2;refine⟨(pos,1,a)::vs,a.cells++out,by simp only [sH,g1,h1],e2,zero_le _,fun pre db=> ?_⟩;have hb:Nat.ble (pos+1) (pre++x::z).length=true:=Nat.ble_eq_true_of_le (by simp;omega);have hq:Nat.beq a.cells.length 1=true:=by rw [e1];exact Nat.beq_refl _
       have hs:=Yc a.cells pre (x::z) (by rw [e1];simp);have jN:pos=pre.length:=by omega
       simp only [Uc,drop_zero,hb,hq,Bool.and_self,cond_true];rw [←jN]at hs;rw [hs];have:=h4 (pre++a.cells) (by simp [e1];omega);rw [e1];simpa [List.append_assoc] using this
      |true=>
       rw [ha]at g2;obtain⟨_,hc⟩:=JJ ha;obtain⟨vs,out,h1,h2,h3,h4⟩:=ih _ _ _ (show(Ph z (pos+1) 0 qs).get tm (fun l=>K (a::l))=some r from g2);refine⟨(pos,1,a)::vs,a::out,by simp only [sH,g1,h1],h2,zero_le _,fun pre db=> ?_⟩;have hb:Nat.ble (pos+1) (pre++x::z).length=true:=Nat.ble_eq_true_of_le (by simp;omega);have hs:=Yc [a] pre (x::z) (by simp);have jN:pos=pre.length:=by omega
       simp only [Uc,hc,drop_zero,length_cons,List.length_nil,hb];rw [←jN]at hs;rw [hs];have:=h4 (pre++[a]) (by simp;omega);simpa using this
     ·rename_i s;obtain⟨a,g1,g2⟩:=B0 (show oK ((dv y).get tm) (fun a=>V1 a fun cs=>(Ph z (pos+1) (s+1) qs).get tm fun l=>(sI (s+2)).get cs l K)=some r from h);rw [Ef]at g1;have g2:=Wp g2;obtain⟨vs,out,h1,h2,h3,h4⟩:=ih _ _ _ g2;obtain⟨e1,e2⟩:=YF _ h2;refine⟨(pos,s+2,a)::vs,a.cells++out,by simp only [sH,g1,h1],e2,zero_le _,fun pre db=> ?_⟩;have hb:Nat.ble (pos+(s+2)) (pre++x::z).length=true:=Nat.ble_eq_true_of_le (by simp;omega);have hq:Nat.beq a.cells.length (s+2)=true:=by rw [e1];exact Nat.beq_refl _
      have hs:=Yc a.cells pre (x::z) (by rw [e1];simp;omega);have jN:pos=pre.length:=by omega
      simp only [Uc,drop_zero,hb,hq,Bool.and_self,cond_true];rw [←jN]at hs;rw [hs];have:=h4 (pre++a.cells) (by simp [e1];omega);rw [e1];simpa [List.append_assoc] using this
def Ayf (g:sJ R):i5 R:=fun tm K=>g tm fun l=>K (.agg l)
def YH (P:Program) (t:TypeId) (ps:List (Nat×Operand)):Option (List (Nat×Nat×Operand)):=match P.underlying t with
 |some (.struct fs)=>match Vw P fs.toList with
  |some l=>vM (l[·]?) ps|none=>none
 |some (.array _ e)=>match P.info? e with
  |some i=>vM (fun k=>some (k*i.size,i.size)) ps
  |none=>none
 |_=>none
def JK:Nat->List (Nat×Nat×Operand)->Bool
 |_,[]=>true|pos,(off,size,_)::l=>cond (Nat.ble pos off) (JK (Nat.add off size) l) false
def JL (P:Program) (t:TypeId) (ps:List (Nat×Operand)):Option (Bx (i5 R)):=match Ko P t,YH P t ps with
 |some z,some qs=>cond (JK 0 qs) (match qm z some with
  |some z=>some (b1 Ayf (Ph z 0 0 qs))|none=>none) none
 |_,_=>none
theorem Aqh {P:Program} {o:Oper} {t:TypeId} {ps:Array (Nat×Operand)} {q:Bx (i5 R)} (ho:o.op= .build t ps) (h:JL P t ps.toList=some q):Mb P o q.get:=by
 intro tm K r hr;unfold JL at h;split at h
 case h_2=>cases h
 rename_i z qs hz hq;cases ik:JK 0 qs with
 |false=>rw [ik]at h;cases h
 |true=>
 rw [ik]at h;simp only [cond_true,yx]at h;cases h
 obtain⟨vs,out,h1,h2,h3,h4⟩:=Aqg z 0 0 qs (show(Ph z 0 0 qs).get tm (fun l=>K (.agg l))=some r from hr);refine⟨_,h2,WU ho ?_⟩;have h4:=h4 [] rfl;simp only [List.nil_append,drop_zero]at h4;unfold YH at hq;unfold BE;split at hq
 ·rename_i fs hu;split at hq
  case h_2=>cases hq
  rename_i l hl;obtain⟨az,e1,e2⟩:=R6 hq h1;simp only [hz,e1,hu,hl,e2,h4]
 ·rename_i n e hu;split at hq
  case h_2=>cases hq
  rename_i i hi;obtain⟨az,e1,e2⟩:=R6 hq h1;simp only [hz,e1,hu,hi,e2,h4]
 ·cases hq
def isInt (P:Program) (t:TypeId):Bool:=match P.underlying t with
 |some (.int _)=>true|_=>false
def BR (P:Program) (o:Oper):Option (Bx (i5 R)):=match o.op with
 | .move x=>some (b1 JF (dv x))| .assign x=>some (b1 JF (dv x))| .pick c x y=>some (b3 XW (dv c) (dv x) (dv y))| .binOp op t x y _=>cond (isInt P t) (match BP op with
  |some q=>some (b3 (fun q=>Dw q (Ub P o)) q (dv x) (dv y))
  |none=>match BQ op with
   |some f=>some (b2 (XV f) (dv x) (dv y))|none=>none) none
 | .unOp .not _ x=>some (b1 XY (dv x))| .fieldAddr t x f=>match JH P t f with
  |some off=>some (b1 (YA off) (dv x))|none=>none
 | .indexAddr t x i=>match JI P t with
  |some sz=>some (b2 (YC sz) (dv x) (dv i))|none=>none
 | .extract x i=>some (b2 (YE (Ub P o)) (vL i) (dv x))| .build t ps=>JL P t ps.toList| .call { callee:= .builtin .len,args:=⟨[x]⟩,argTypes:=⟨[t]⟩ } =>match P.underlying t with
  |some (.slice _)=>some (b1 (YD (Ub P o)) (dv x))|_=>none
 |_=>none
theorem YI {P:Program} {o:Oper} {q:Bx (i5 R)} (h:BR P o=some q):Mb P o q.get:=by
 unfold BR at h;split at h
 ·rename_i x ho;cases h;exact XX (.inl ho)
 ·rename_i x ho;cases h;exact XX (.inr ho)
 ·rename_i c x y ho;cases h;exact As7 ho
 ·rename_i op t x y t' ho;cases ht:isInt P t with
  |false=>rw [ht]at h;cases h
  |true=>
   rw [ht]at h;simp only [cond_true]at h;split at h
   ·rename_i q hq;cases h;exact Avt ho hq
   ·split at h
    ·rename_i f hf;cases h;exact Ayd ho hf
    ·cases h
 ·rename_i t x ho;cases h;exact Avu ho
 ·rename_i t x f ho;split at h
  ·rename_i off hf;cases h;exact Aqd ho hf
  ·cases h
 ·rename_i t x i ho;split at h
  ·rename_i sz hf;cases h;exact Aqe ho hf
  ·cases h
 ·rename_i x i ho;cases h;exact Avw ho
 ·rename_i t ps ho;exact Aqh ho h
 ·rename_i x t ho;split at h
  ·rename_i e he;cases h;exact Avv ho he
  ·cases h
 ·cases h
end Go.Am
