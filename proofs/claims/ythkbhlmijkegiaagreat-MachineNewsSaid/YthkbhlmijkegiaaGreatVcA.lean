/- The conditions of Go code: a library of this claim. -/
import Derived.WalkKit
open Option (map_none)
namespace Go.Vc
abbrev Zb (b:Nat):Addr:=⟨b,0,none⟩
open Go.RowKit (Below)
inductive dv where
 |int (k:IntKind)|bool|string|slice|pointer|map|any
inductive kX where
 |one (c:dv)|agg (cs:List dv)
def HF (P:Program) (t:TypeId):dv:=
 match P.underlying t with
 |some (.int k)=> .int k|some .bool=> .bool|some .string=> .string|some (.slice _)=> .slice|some (.pointer _)=> .pointer|some (.map _ _)=> .map|_=> .any
def H6 {α:Type} (l:List α):Nat->List α
 |0=>[]|n+1=>l++H6 l n
def Zo (P:Program):Nat->TypeId->List dv
 |0,_=>[]|n+1,t=>
  match P.underlying t with
  |some (.struct fs)=>fs.toList.flatMap fun f=>Zo P n f.type
  |some (.array k e)=>H6 (Zo P n e) k|_=>[HF P t]
def M9 (P:Program) (t:TypeId):kX:=
 match P.underlying t with
 |some (.struct _)=> .agg (Zo P 6 t)|some (.array _ _)=> .agg (Zo P 6 t)|_=> .one (HF P t)
def Hq (P:Program) (t:TypeId):Nat:=match P.info? t with|some i=>i.size|none=>0
def bS (l:List UInt8):ByteArray:=⟨⟨l⟩⟩
abbrev _root_.Go.Value.q (n:Int):Value:= .int .i64 n
abbrev _root_.Go.Value.s (l:List UInt8):Value:= .string (bS l)
def sl (s:ByteArray):List UInt8:=s.data.toList
def dv.ex:dv->(Value->Prop)->Prop
 | .int k,K=>∃n:Int,K (.int k n)| .bool,K=>∃b:Bool,K (.bool b)| .string,K=>∃s:List UInt8,K (.string (bS s))| .slice,K=>∃(a:Option Addr) (n c:Nat),K (.slice a n c)| .pointer,K=>∃p:Option Addr,K (.pointer p)| .map,K=>∃r:Option Nat,K (.map r)| .any,K=>∃v:Value,K v
theorem dv.qt {c:dv} {K:Value->Prop} (h:c.ex K):∃v,K v:=by
 cases c<;>simp only [dv.ex]at h
 case slice=>obtain⟨a,n,c,h⟩:=h;exact⟨_,h⟩
 all_goals (obtain⟨a,h⟩:=h;exact⟨_,h⟩)
theorem dv.qu {c:dv} {K K':Value->Prop} (h:c.ex K) (hk:∀v,K v->K' v):c.ex K':=by
 cases c<;>simp only [dv.ex]at h⊢
 case slice=>obtain⟨a,n,c,h⟩:=h;exact⟨_,_,_,hk _ h⟩
 all_goals (obtain⟨a,h⟩:=h;exact⟨_,hk _ h⟩)
def Kb:List dv->(List Value->Prop)->Prop
 |[],K=>K []|c::cs,K=>c.ex fun v=>Kb cs fun l=>K (v::l)
theorem Kc:∀ {cs:List dv} {K:List Value->Prop},Kb cs K->∃l,l.length=cs.length/\K l
 |[],K,h=>⟨[],rfl,h⟩
 |c::cs,K,h=>by
  obtain⟨v,h⟩:=dv.qt h;obtain⟨l,hl,h⟩:=Kc h;exact⟨v::l,by simp [hl],h⟩
theorem Kd:∀ {cs:List dv} {K K':List Value->Prop},Kb cs K->(∀l,K l->K' l)->Kb cs K'
 |[],_,_,h,hk=>hk _ h
 |_::_,_,_,h,hk=>dv.qu h fun _ h=>Kd h fun _ h=>hk _ h
def kX.ex:kX->(Value->Prop)->Prop
 | .one c,K=>c.ex K| .agg cs,K=>Kb cs fun l=>K (.agg ⟨l⟩)
theorem kX.qu {t:kX} {K K':Value->Prop} (h:t.ex K) (hk:∀v,K v->K' v):t.ex K':=by
 cases t with
 |one c=>exact dv.qu h hk
 |agg cs=>exact Kd h fun _ h=>hk _ h
theorem kX.qt {t:kX} {K:Value->Prop} (h:t.ex K):∃v,K v:=by
 cases t with
 |one c=>exact dv.qt h
 |agg cs=>obtain⟨l,_,h⟩:=Kc h;exact⟨_,h⟩
def Vv:List kX->(List Value->Prop)->Prop
 |[],K=>K []|t::ts,K=>t.ex fun v=>Vv ts fun l=>K (v::l)
theorem Pz:∀ {ts:List kX} {K:List Value->Prop},Vv ts K->∃l,K l
 |[],_,h=>⟨[],h⟩
 |_::_,_,h=>by
  obtain⟨v,h⟩:=kX.qt h;obtain⟨l,h⟩:=Pz h;exact⟨v::l,h⟩
theorem P0:∀ {ts:List kX} {K K':List Value->Prop},Vv ts K->(∀l,K l->K' l)->Vv ts K'
 |[],_,_,h,hk=>hk _ h
 |_::_,_,_,h,hk=>kX.qu h fun _ h=>P0 h fun _ h=>hk _ h
def Ed (P:Program) (t:TypeId) (v:Value) (K:Value->Prop):Prop:=
 match P.underlying t with
 |some (.tuple ts)=>match ts.toList with
  |[]=>K v|l=>Vv (l.map (M9 P)) fun us=>v= .tuple ⟨us⟩/\K (.tuple ⟨us⟩)
 |_=>match M9 P t with
  | .one .any=>K v|ty=>ty.ex fun u=>v=u/\K u
theorem D2 {P:Program} {t:TypeId} {v:Value} {K:Value->Prop} (h:Ed P t v K):K v:=by
 unfold Ed at h;split at h
 ·split at h
  ·exact h
  ·obtain⟨l,h1,h2⟩:=Pz h;rw [h1];exact h2
 ·split at h
  ·exact h
  ·obtain⟨u,h1,h2⟩:=kX.qt h;rw [h1];exact h2
theorem L3 {P:Program} {t:TypeId} {v:Value} {K K':Value->Prop} (h:Ed P t v K) (hk:∀v,K v->K' v):Ed P t v K':=by
 unfold Ed at h⊢;split at h
 ·split at h
  ·exact hk _ h
  ·exact P0 h fun _ h=>⟨h.1,hk _ h.2⟩
 ·split at h
  ·exact hk _ h
  ·exact kX.qu h fun _ h=>⟨h.1,hk _ h.2⟩
def Ad (w:World) (a:Addr) (l:List Value):Prop:=∀i (h:i<l.length),w.cell? (a.add i)=some l[i]
def Af (w:World) (a:Addr) (n:Nat):Prop:=∀i,i<n->(∃v,w.cell? (a.add i)=some v)/\w.frozen? (a.add i)=false
def Bi (w:World) (a:Addr):Nat->List Value->World
 |_,[]=>w|i,v::l=>Bi (w.setCell (a.add i) v) a (i+1) l
def setCells (w:World) (a:Addr) (l:List Value):World:=Bi w a 0 l
def Ea:List dv->List Value->Prop->Prop
 |[],[],K=>K| .any::cs,v::l,K=>v.oneCell'=true/\Ea cs l K| .int _::cs,.int _ _::l,K=>Ea cs l K| .bool::cs,.bool _::l,K=>Ea cs l K| .string::cs,.string _::l,K=>Ea cs l K| .slice::cs,.slice _ _ _::l,K=>Ea cs l K| .pointer::cs,.pointer _::l,K=>Ea cs l K| .map::cs,.map _::l,K=>Ea cs l K|_,_,_=>False
theorem T6:∀ {cs:List dv} {l:List Value} {K:Prop},Ea cs l K->l.length=cs.length/\(∀v∈l,v.oneCell'=true)/\K:=by
 intro cs
 induction cs with
 |nil=>intro l K h;cases l<;>simp_all [Ea]
 |cons c cs ih=>
  intro l K h;cases l with
  |nil=>cases c<;>simp [Ea]at h
  |cons v l=>
   cases c<;>cases v<;>simp only [Ea]at h<;>first
    |(exact h.elim)
    |(obtain⟨h1,h⟩:=h;obtain⟨a,b,d⟩:=ih h;exact⟨by simp [a],by intro u hu;cases hu with|head=>exact h1|tail _ hu=>exact b u hu,d⟩)
    |(obtain⟨a,b,d⟩:=ih h;exact⟨by simp [a],by intro u hu;cases hu with|head=>rfl|tail _ hu=>exact b u hu,d⟩)
theorem T7:∀ {cs:List dv} {l:List Value} {K K':Prop},Ea cs l K->(K->K')->Ea cs l K':=by
 intro cs
 induction cs with
 |nil=>intro l K K' h hk;cases l<;>simp_all [Ea]
 |cons c cs ih=>
  intro l K K' h hk;cases l with
  |nil=>cases c<;>simp [Ea]at h
  |cons v l=>
   cases c<;>cases v<;>simp only [Ea]at h⊢<;>first
    |(exact⟨h.1,ih h.2 hk⟩)
    |(exact ih h hk)
def aG (K:Value->World->Prop):Ending->World->Prop
 | .returned v,w=>K v w|_,_=>False
def Bd {α:Type} (P:Program) (s:Sem α) (K:α->World->Prop) (w:World):Prop:=∃v w',s.run P w= .ok v w'/\K v w'
def Sm {α:Type} (P:Program):Sem α->Option α
 | .pure a=>some a| .program k=>Sm P (k P)|_=>none
theorem Z3 {α:Type} {P:Program} :∀ {s:Sem α} {a:α},Sm P s=some a->∀w,s.run P w= .ok a w:=by
 intro s
 induction s with
 |pure a=>intro b h w;simp [Sm]at h;simp [Sem.run,h]
 |program k ih=>intro b h w;simp only [Sm]at h;simp only [Sem.run];exact ih P h w
 |_=>intro b h w;simp [Sm]at h
def jI {α:Type} (P:Program):Sem α->(α->World->Prop)->World->Prop
 | .pure a,K,w=>K a w| .new o k,K,w=>∀b w',b=w.heap.size->w'=w.alloc o->jI P (k b) K w'| .program k,K,w=>jI P (k P) K w| .mark _ k,K,w=>jI P k K w|_,_,_=>False
theorem VI {α:Type} {P:Program} :∀ {s:Sem α} {K:α->World->Prop} {w:World},jI P s K w->Bd P s K w:=by
 intro s
 induction s with
 |pure a=>intro K w h;exact⟨a,w,rfl,h⟩
 |new o k ih=>intro K w h;simp only [jI]at h;obtain⟨v,w',h1,h2⟩:=ih _ (h _ _ rfl rfl);exact⟨v,w',by simp only [Sem.run];exact h1,h2⟩
 |program k ih=>intro K w h;simp only [jI]at h;obtain⟨v,w',h1,h2⟩:=ih _ h;exact⟨v,w',by simp only [Sem.run];exact h1,h2⟩
 |mark m k ih=>intro K w h;simp only [jI]at h;obtain⟨v,w',h1,h2⟩:=ih h;exact⟨v,w',by simp only [Sem.run];exact h1,h2⟩
 |_=>intro K w h;exact absurd h (by simp [jI])
theorem VJ {α:Type} {P:Program} :∀ {s:Sem α} {K K':α->World->Prop} {w:World},jI P s K w->(∀v w,K v w->K' v w)->jI P s K' w:=by
 intro s
 induction s with
 |pure a=>intro K K' w h hk;exact hk _ _ h
 |new o k ih=>intro K K' w h hk;exact fun b w' hb hw=>ih _ (h b w' hb hw) hk
 |program k ih=>intro K K' w h hk;exact ih _ h hk
 |mark m k ih=>intro K K' w h hk;exact ih h hk
 |_=>intro K K' w h;exact absurd h (by simp [jI])
inductive gZ where
 |val (v:Value)|when (c:Prop) (v:Value)|ptr (p:Option Addr) (v:Addr->Value)|rS (p:Option Addr) (c:Prop) (v:Addr->Value)
def Ak:Option Addr->(Addr->Prop)->Prop
 |some a,K=>K a|none,_=>False
def gZ.then:gZ->(Value->Prop)->Prop
 | .val v,K=>K v| .when c v,K=>c/\K v| .ptr p v,K=>Ak p fun a=>K (v a)
 | .rS p c v,K=>c/\Ak p fun a=>K (v a)
theorem gZ.pn {p:gZ} {K K':Value->Prop} (h:p.then K) (hk:∀v,K v->K' v):p.then K':=by
 cases p with
 |val v=>exact hk _ h
 |when c v=>exact⟨h.1,hk _ h.2⟩
 |ptr p v=>cases p with|none=>exact h|some a=>exact hk _ h
 |rS p c v=>cases p with|none=>exact⟨h.1,h.2⟩|some a=>exact⟨h.1,hk _ h.2⟩
def bounds (low high:Option Value) (len cap:Nat):Option (Prop×Nat×Nat):=
 match low,high with
 |none,none=>some (True,0,len)|some (.int _ l),none=>some (0<=l/\l<=len,l.toNat,len)|none,some (.int _ h)=>some (0<=h/\h<=cap,0,h.toNat)|some (.int _ l),some (.int _ h)=>some ((0<=h/\h<=cap)/\0<=l/\l<=h.toNat,l.toNat,h.toNat)|_,_=>none
def rT (lo hi:Option Value) (s:List UInt8):List UInt8:=
 match lo,hi with
 |none,none=>s|some (.int _ l),none=>s.drop l.toNat|none,some (.int _ h)=>s.take h.toNat|some (.int _ l),some (.int _ h)=>(s.take h.toNat).drop l.toNat|_,_=>s
def Ke (a:Option Addr) (l cap size:Nat):Option Addr:=if cap=l then a else a.map (·.add (l*size))
def generic (P:Program) (ρ:Operand->Value) (o:Oper):Option gZ:=
 match Sm P (execOp ρ o)with
 |some (.value v)=>some (.val v)|_=>none
def HG (op:BinOp) (a b:List UInt8):Option gZ:=
 match op with
 | .add=>some (.when (((a.length+b.length:Nat):Int)<=IntKind.i64.max) (.string (bS (a++b))))| .eql=>some (.val (.bool (a==b)))| .neq=>some (.val (.bool !(a==b)))| .lss=>some (.val (.bool (Op.bytesLess a b)))| .leq=>some (.val (.bool (Op.bytesLess a b||a==b)))| .gtr=>some (.val (.bool !(Op.bytesLess a b||a==b)))| .geq=>some (.val (.bool !(Op.bytesLess a b)))|_=>none
def om (P:Program) (xs ys:List Value):List Field->Option Bool
 |[]=>some true|f::fs=>cond (f.name== "_") none (match P.underlying f.type,xs[f.offset]?,ys[f.offset]? with
  |some (.int _),some (.int k a),some (.int k' b)=>cond (decide (k=k')) (match om P xs ys fs with|some r=>some (a==b&&r)|none=>none) none
  |some .bool,some (.bool a),some (.bool b)=>(match om P xs ys fs with|some r=>some (a==b&&r)|none=>none)
  |some .string,some (.string a),some (.string b)=>(match om P xs ys fs with|some r=>some (sl a==sl b&&r)|none=>none)
  |_,_,_=>none)
def rU (P:Program) (xs ys:List Value):List Field->Option Bool
 |[]=>some true|f::fs=>cond (f.name== "_") none (match P.underlying f.type with
  |some (.struct gs)=>cond (P.stoodInHeld f.type) none (match om P ((xs.drop f.offset).take (P.cellsOf f.type)) ((ys.drop f.offset).take (P.cellsOf f.type)) gs.toList,rU P xs ys fs with
   |some a,some r=>some (a&&r)|_,_=>none)
  |_=>match om P xs ys [f],rU P xs ys fs with
   |some a,some r=>some (a&&r)|_,_=>none)
def wM (P:Program) (t:TypeId) (xs ys:List Value):Option Bool:=
 match P.underlying t with
 |some (.struct fs)=>cond (P.stoodInHeld t||P.eqGuardType P.depth t) none (match om P xs ys fs.toList with
  |some b=>some b|none=>rU P xs ys fs.toList)
 |_=>none
theorem Na {P:Program} {t:TypeId} {d:TypeDesc} {w:World} {xs:Array Value} {off:Nat} {v:Value} (hd:P.underlying t=some d) (hn:(match d with| .struct _| .array _ _=>true|_=>false)=false) (hv:xs.toList[off]? =some v):
 (part t xs off).run P w= .ok v w:=by
 have ha:(isAgg t).run P w= .ok false w:=by
  simp only [isAgg,underlying,Sem.run_bind,run_program,Result.andThen_ok,hd,Sem.run_pure];cases d<;>simp_all
 have zB:xs[off]? =some v:=by simpa using hv
 simp [part,ha,zB]
theorem Z4 {P:Program} {xs ys:Array Value} {w:World} (d:Nat):∀ {fs:List Field} {b:Bool},om P xs.toList ys.toList fs=some b->(Op.eqFields (d+1) xs ys fs).run P w= .ok b w:=by
 intro fs
 induction fs with
 |nil=>intro b h;simp only [om]at h;cases h;rfl
 |cons f fs ih=>
  intro b h;simp only [om]at h;cases hn:(f.name== "_")with
  |true=>rw [hn]at h;cases h
  |false=>
   rw [hn]at h;have cf:f.name≠ "_" :=by intro e;rw [e]at hn;cases hn
   simp only [cond_false]at h;split at h
   ·rename_i _ k a k' c h1 h2 h3;cases hk:decide (k=k')with
    |false=>rw [hk]at h;cases h
    |true=>
     rw [hk]at h;have:=of_decide_eq_true hk;subst this;simp only [cond_true]at h;split at h
     ·rename_i r hr;cases h
      simp only [Op.eqFields,cf,ne_eq,not_false_eq_true,if_true,Sem.run_bind,Na h1 rfl h2,Na h1 rfl h3,Result.andThen_ok,run_equalIn_int w d f.type k _ a c h1];cases po:(a==c)with
      |false=>simp
      |true=>simp [ih hr]
     ·cases h
   ·rename_i a c h1 h2 h3;split at h
    ·rename_i r hr;cases h
     simp only [Op.eqFields,cf,ne_eq,not_false_eq_true,if_true,Sem.run_bind,Na h1 rfl h2,Na h1 rfl h3,Result.andThen_ok,run_equalIn_bool' w d f.type a c h1];cases po:(a==c)with
     |false=>simp
     |true=>simp [ih hr]
    ·cases h
   ·rename_i a c h1 h2 h3;split at h
    ·rename_i r hr;cases h
     simp only [Op.eqFields,cf,ne_eq,not_false_eq_true,if_true,Sem.run_bind,Na h1 rfl h2,Na h1 rfl h3,Result.andThen_ok,run_equalIn_string w d f.type a c h1];rw [ByteArray.toList_eq,ByteArray.toList_eq];show((if(!(sl a==sl c))=true then pure false else Op.eqFields (d+1) xs ys fs:Sem Bool).run P w)=_
     cases po:(sl a==sl c)with
     |false=>simp
     |true=>simp [ih hr]
    ·cases h
   ·cases h
theorem R7 {P:Program} {xs ys:Array Value} {w:World} {d:Nat} {f:Field} {fs:List Field} {a r:Bool} (h1:(Op.eqFields d xs ys [f]).run P w= .ok a w) (h2:(Op.eqFields d xs ys fs).run P w= .ok r w): (Op.eqFields d xs ys (f::fs)).run P w= .ok (a&&r) w:=by
 simp only [Op.eqFields]at h1⊢;by_cases hn:f.name≠ "_"
 ·rw [if_pos hn]at h1⊢;simp only [Sem.run_bind]at h1⊢;cases e1:(part f.type xs f.offset).run P w with
  |ok x w1=>
   rw [e1]at h1;simp only [Result.andThen_ok]at h1⊢;cases e2:(part f.type ys f.offset).run P w1 with
   |ok y w2=>
    rw [e2]at h1;simp only [Result.andThen_ok]at h1⊢;cases e3:(Op.equalIn d f.type x y).run P w2 with
    |ok q w3=>
     rw [e3]at h1;simp only [Result.andThen_ok]at h1⊢;cases q with
     |false=>
      simp only [Bool.not_false,if_true,Sem.run_pure]at h1⊢;cases h1;rfl
     |true=>
      simp only [Bool.not_true,Bool.false_eq_true,if_false,Sem.run_pure]at h1⊢;cases h1;rw [h2];rfl
    |_=>rw [e3]at h1;cases h1
   |_=>rw [e2]at h1;cases h1
  |_=>rw [e1]at h1;cases h1
 ·rw [if_neg hn]at h1⊢;cases h1;rw [h2];rfl
theorem VK {P:Program} {t:TypeId} {gs:Array Field} {w:World} {xs:Array Value} {off:Nat} (hu:P.underlying t=some (.struct gs)): (part t xs off).run P w= .ok (.agg (xs.extract off (off+P.cellsOf t))) w:=by
 obtain⟨i,hi⟩:=info_of_underlying hu;simp [part,isAgg,run_underlying hu,run_sizeOf w hi]
theorem VL {P:Program} {xs ys:Array Value} {w:World} (d:Nat):∀ {fs:List Field} {b:Bool},rU P xs.toList ys.toList fs=some b->(Op.eqFields (d+2) xs ys fs).run P w= .ok b w:=by
 intro fs
 induction fs with
 |nil=>intro b h;simp only [rU]at h;cases h;rfl
 |cons f fs ih=>
  intro b h;simp only [rU]at h;cases hn:(f.name== "_")with
  |true=>rw [hn]at h;cases h
  |false=>
   rw [hn]at h;have cf:f.name≠ "_" :=by intro e;rw [e]at hn;cases hn
   simp only [cond_false]at h;split at h
   ·rename_i gs hu;cases hs:P.stoodInHeld f.type with
    |true=>rw [hs]at h;cases h
    |false=>
     rw [hs]at h;simp only [cond_false]at h;split at h
     ·rename_i a r ha hr;cases h
      refine R7 ?_ (ih hr);have hl:∀zs:Array Value,(zs.extract f.offset (f.offset+P.cellsOf f.type)).toList=(zs.toList.drop f.offset).take (P.cellsOf f.type):=fun zs=>by
       rw [Array.toList_extract];simp [List.extract]
      have hf:P.fieldsOf f.type=gs:=by simp [Program.fieldsOf,hu]
      simp only [Op.eqFields,cf,ne_eq,not_false_eq_true,if_true,Sem.run_bind,VK hu,Result.andThen_ok];rw [run_equalIn_struct w (d+1) f.type _ _ (by rw [hf];exact hu) hs,hf,Z4 d (by rw [hl,hl];exact ha)];cases a<;>rfl
     ·cases h
   ·split at h
    ·rename_i a r ha hr;cases h
     exact R7 (Z4 (d+1) ha) (ih hr)
    ·cases h
theorem HH {P:Program} {t:TypeId} {xs ys:Array Value} {b:Bool} (h:wM P t xs.toList ys.toList=some b) (w:World) (op:BinOp) (x y:Operand): (eqGuard op t x y (.agg xs) (.agg ys)).run P w= .ok () w/\(Op.equal t (.agg xs) (.agg ys)).run P w= .ok b w:=by
 unfold wM at h;split at h
 ·rename_i fs HJ;cases hc:(P.stoodInHeld t||P.eqGuardType P.depth t)with
  |true=>rw [hc]at h;cases h
  |false=>
   rw [hc]at h;simp only [Bool.or_eq_false_iff]at hc;refine⟨run_eqGuard_agg w op t x y xs ys hc.2,?_⟩;have hf:P.fieldsOf t=fs:=by simp [Program.fieldsOf,HJ]
   unfold Op.equal Op.maxDepth;rw [show(10000:Nat)=9998+1+1 from rfl,run_equalIn_struct w _ t xs ys (by rw [hf];exact HJ) hc.1,hf];simp only [cond_false]at h;split at h
   ·rename_i b' hb;cases h
    exact Z4 _ hb
   ·exact VL (d:=9997) h
 ·cases h
def Nb:Operand->Bool
 | .const _=>true|_=>false
def wN:Value->Bool
 | .nilIface=>true| .iface _ _=>true|_=>false
def H2:Value->Bool
 | .nilIface=>true|_=>false
theorem Ya {P:Program} {t:TypeId} {ms:Array (String×TypeId)} (h:P.underlying t=some (.interface ms)) {v:Value} (hv:wN v=true) (w:World):(Op.equal t v .nilIface).run P w= .ok (H2 v) w:=by
 unfold Op.equal Op.maxDepth;rw [show(10000:Nat)=9999+1 from rfl];generalize 9999=d;cases v<;>first|(cases hv;done)|simp [Op.equalIn,underlying,h,H2]
def VM (P:Program) (e:TypeId):Bool:=match P.underlying e with
 |some (.func ..)=>true
 |_=>false
def zC (P:Program) (n:Nat) (e:TypeId):Bool:=VM P e&&Nat.ble n 6
def B0 (P:Program) (ρ:Operand->Value) (o:Oper):Option gZ:=
 match o.op with
 | .move x=>some (.val (ρ x))| .assign x=>some (.val (ρ x))| .nilCheck x=>match ρ x with
  | .pointer p=>some (.ptr p fun a=> .pointer (some a))
  | .func (.func f) a b=>some (.val (.func (.func f) a b))
  | .iface t v=>some (.val (.iface t v))|_=>none
 | .index t x i=>match P.underlying t,ρ x,ρ i with
  |some .string,.string s,.int _ n=>some (.when (0<=n/\n<(sl s).length) (.int .u8 ((sl s).getD n.toNat 0).toNat))|some (.array n e),.agg _,.int _ _=>cond (Nb i||zC P n e) (generic P ρ o) none|_,_,_=>none
 | .indexAddr t x i=>match P.underlying t,ρ x,ρ i with
  |some (.slice e),.slice p len _,.int _ n=>match P.info? e with
   |some inf=>some (.rS p (0<=n/\n<len) fun a=> .pointer (some (a.add (n.toNat*inf.size))))
   |none=>none
  |some (.array len e),.pointer p,.int _ n=>match P.info? e with
   |some inf=>some (.rS p (0<=n/\n<len) fun a=> .pointer (some (a.add (n.toNat*inf.size))))
   |none=>none
  |_,_,_=>none
 | .slice t x lo hi none=>match P.underlying t,ρ x with
  |some .string,.string s=>match bounds (lo.map ρ) (hi.map ρ) (sl s).length (sl s).length with
   |some (c,_,_)=>some (.when c (.string (bS (rT (lo.map ρ) (hi.map ρ) (sl s)))))|none=>none
  |some (.slice e),.slice a len cap=>match bounds (lo.map ρ) (hi.map ρ) len cap with
   |some (c,l,h)=>match P.info? e with
    |some inf=>some (.when c (.slice (Ke a l cap inf.size) (h-l) (cap-l)))|none=>none
   |none=>none
  |_,_=>none
 | .slice t x none (some hi) (some mx)=>match P.underlying t,ρ x,ρ hi,ρ mx with
  |some (.slice e),.slice a _ cap,.int _ n,.int _ k=>match P.info? e with
   |some _=>some (.when ((0<=k/\k<=cap)/\0<=n/\n<=(k.toNat:Int)) (.slice a n.toNat k.toNat))|none=>none
  |_,_,_,_=>none
 | .binOp op t x y _=>cond (Nb y&&H2 (ρ y)) (match op,P.underlying t with
  | .eql,some (.interface _)=>some (.when (wN (ρ x)=true) (.bool (H2 (ρ x))))| .neq,some (.interface _)=>some (.when (wN (ρ x)=true) (.bool (!H2 (ρ x))))|_,_=>none) (match op,ρ x,ρ y with
  | .quo,.int k a,.int k' b=>if k=k' then some (.when (b≠0) (.int k (k.wrap (a.tdiv b))))else none
  | .rem,.int k a,.int k' b=>if k=k' then some (.when (b≠0) (.int k (a.tmod b)))else none
  | .shl,.int k a,.int _ b=>some (.when (0<=b) (.int k (k.wrap (a*2^(min b.toNat k.bits)))))| .shr,.int k a,.int _ b=>some (.when (0<=b) (.int k (a.fdiv (2^(min b.toNat k.bits)))))|op,.string a,.string b=>HG op (sl a) (sl b)| .eql,.slice a _ _,.slice none _ _=>(match P.underlying t with|some (.slice _)=>some (.val (.bool a.isNone))|_=>none)
  | .neq,.slice a _ _,.slice none _ _=>(match P.underlying t with|some (.slice _)=>some (.val (.bool !a.isNone))|_=>none)
  | .eql,.pointer a,.pointer none=>(match P.underlying t with|some (.pointer _)=>some (.val (.bool a.isNone))|_=>none)
  | .neq,.pointer a,.pointer none=>(match P.underlying t with|some (.pointer _)=>some (.val (.bool !a.isNone))|_=>none)
  | .eql,.map a,.map none=>(match P.underlying t with|some (.map _ _)=>some (.val (.bool a.isNone))|_=>none)
  | .neq,.map a,.map none=>(match P.underlying t with|some (.map _ _)=>some (.val (.bool !a.isNone))|_=>none)
  | .eql,.pointer _,.pointer _=>none| .neq,.pointer _,.pointer _=>none| .eql,.agg xs,.agg ys=>(match wM P t xs.toList ys.toList with|some b=>some (.val (.bool b))|none=>none)
  | .neq,.agg xs,.agg ys=>(match wM P t xs.toList ys.toList with|some b=>some (.val (.bool !b))|none=>none)
  |_,.agg _,.agg _=>none|_,_,_=>generic P ρ o)
 | .pick c a b=>match ρ c with
  | .bool b'=>some (.val (cond b' (ρ a) (ρ b)))|_=>none
 | .makeFunc f a b=>some (.val (.func f (a.map ρ) (b.map ρ)))
 | .unOp .. =>generic P ρ o| .convert a b x=>match P.underlying a,P.underlying b,ρ x with
  |some _,some (.int k),.int _ n=>some (.val (.int k (k.wrap n)))|some _,some .string,.string s=>some (.val (.string s))|_,_,_=>none
 | .makeInterface .. =>generic P ρ o| .fieldAddr t x f=>match P.underlying t with
  |some (.struct fs)=>match fs[f]? with
   |some kg=>match P.info? kg.type with
    |some inf=>match inf.size,ρ x with
     |_+1,.pointer p=>some (.ptr p fun a=> .pointer (some (a.add kg.offset)))
     |_,_=>none
    |none=>none
   |none=>none
  |_=>none
 | .field .. =>generic P ρ o| .extract .. =>generic P ρ o| .build .. =>generic P ρ o| .call { callee:= .builtin b,.. } =>match b with
  | .len=>generic P ρ o| .cap=>generic P ρ o| .min=>generic P ρ o| .max=>generic P ρ o|_=>none
 |_=>none
theorem VN {P:Program} {ρ:Operand->Value} {o:Oper} {p:gZ} (h:generic P ρ o=some p):∃v,p= .val v/\∀w,(execOp ρ o).run P w= .ok (.value v) w:=by
 unfold generic at h;split at h
 ·rename_i v hv;cases h
  exact⟨v,rfl,Z3 hv⟩
 ·cases h
theorem VO (s:ByteArray) (a b:Nat):s.extract a b=bS (((sl s).take b).drop a):=by
 obtain⟨⟨l⟩⟩:=s;rw [ByteArray.extract_mk];show ByteArray.mk _=ByteArray.mk ⟨(l.take b).drop a⟩
 congr 1;apply Array.ext';simp [List.drop_take]
theorem Z5 {low high:Option Value} {len cap:Nat} {c:Prop} {l u:Nat} (hb:bounds low high len cap=some (c,l,u)) (hc:c) {P:Program} {w:World} {s:Bool} : (Instr.sliceBounds s len cap low high none).run P w= .ok (l,u,cap) w:=by
 unfold bounds at hb;split at hb
 ·cases hb;simp [Instr.sliceBounds]
 ·cases hb;simp [Instr.sliceBounds,Instr.sliceBound,asIntOf,hc.1,hc.2]
 ·cases hb;simp [Instr.sliceBounds,Instr.sliceBound,asIntOf,hc.1,hc.2]
 ·cases hb
  obtain⟨⟨a1,a2⟩,a3,a4⟩:=hc;simp only [Instr.sliceBounds,Instr.sliceBound,asIntOf,Sem.run_bind,Sem.run_pure,Result.andThen_ok,Sem.run_ite,a1,a2,and_self,if_true];rw [if_pos ⟨a3,a4⟩];rfl
 ·cases hb
theorem VP {low high:Option Value} {s:List UInt8} {c:Prop} {l u:Nat} (hb:bounds low high s.length s.length=some (c,l,u)):rT low high s=(s.take u).drop l:=by
 unfold bounds at hb;split at hb
 ·cases hb;simp [rT]
 ·cases hb;simp [rT]
 ·cases hb;simp [rT]
 ·cases hb;simp [rT]
 ·cases hb
theorem O8 {P:Program} {t e:TypeId} (h:P.underlying t=some (.slice e)) (a:Option Addr) (n c m k:Nat) (w:World):(Op.equal t (.slice a n c) (.slice none m k)).run P w= .ok a.isNone w:=by
 unfold Op.equal Op.maxDepth;rw [show(10000:Nat)=9999+1 from rfl];generalize 9999=d;cases a<;>simp [Op.equalIn,underlying,h]
theorem L4 {P:Program} {t e:TypeId} (h:P.underlying t=some (.pointer e)) (a:Option Addr) (w:World):(Op.equal t (.pointer a) (.pointer none)).run P w= .ok a.isNone w:=by
 unfold Op.equal Op.maxDepth;rw [show(10000:Nat)=9999+1 from rfl];generalize 9999=d;cases a<;>simp [Op.equalIn,underlying,h]
theorem R8 {P:Program} {t k e:TypeId} (h:P.underlying t=some (.map k e)) (a:Option Nat) (w:World):(Op.equal t (.map a) (.map none)).run P w= .ok a.isNone w:=by
 unfold Op.equal Op.maxDepth;rw [show(10000:Nat)=9999+1 from rfl];generalize 9999=d;cases a<;>simp [Op.equalIn,underlying,h]
theorem Fo {P:Program} {ρ:Operand->Value} {o:Oper} {p:gZ} (h:B0 P ρ o=some p) {K:Value->Prop} (hk:p.then K): ∃v,K v/\(∀K',K' v->p.then K')/\∀w,(execOp ρ o).run P w= .ok (.value v) w:=by
 have key:∀ {q:gZ},generic P ρ o=some q->q.then K->∃v,K v/\(∀K',K' v->q.then K')/\∀w,(execOp ρ o).run P w= .ok (.value v) w:=by
  intro q hq hk;obtain⟨v,rfl,hr⟩:=VN hq;exact⟨v,hk,fun _ h=>h,hr⟩
 obtain⟨dst,op,type,pos,after,guard⟩:=o;cases op<;>simp only [B0]at h
 case move x=>cases h;exact⟨_,hk,fun _ h=>h,fun w=>rfl⟩
 case assign x=>cases h;exact⟨_,hk,fun _ h=>h,fun w=>rfl⟩
 case pick c a b=>
  split at h
  ·rename_i b' hb;cases h
   refine⟨_,hk,fun _ h=>h,fun w=> ?_⟩;simp only [execOp,hb,asBool];cases b'<;>rfl
  ·cases h
 case makeFunc f a b=>cases h;exact⟨_,hk,fun _ h=>h,fun w=>rfl⟩
 case nilCheck x=>
  split at h
  ·rename_i q hq;cases h
   cases q with
   |none=>exact hk.elim
   |some a=>exact⟨_,hk,fun _ h=>h,fun w=>by simp only [execOp,hq];rfl⟩
  ·rename_i hq;cases h;exact⟨_,hk,fun _ h=>h,fun w=>by simp only [execOp,hq];rfl⟩
  ·rename_i hq;cases h;exact⟨_,hk,fun _ h=>h,fun w=>by simp only [execOp,hq];rfl⟩
  ·cases h
 case index t x i=>
  split at h
  ·rename_i s k n h1 h2 h3;cases h
   obtain⟨⟨cN,gK⟩,hk⟩:=hk;refine⟨_,hk,fun _ h=>⟨⟨cN,gK⟩,h⟩,fun w=> ?_⟩;have aP:n.toNat<s.size:=by show n.toNat<(sl s).length;omega
   have hg:s[n.toNat]? =some ((sl s).getD n.toNat 0):=by
    rw [getElem?_pos s n.toNat aP];obtain⟨⟨l⟩⟩:=s;have:n.toNat<l.length:=aP;simp [sl,List.getD,this];rfl
   simp [execOp,Instr.index,asIntOf,underlying,h1,h2,h3,cN,hg]
  ·rename_i na e _ _ _ _ _ _;cases hb:(Nb i||zC P na e)with
   |true=>rw [hb]at h;exact key h hk
   |false=>rw [hb]at h;cases h
  ·cases h
 case indexAddr t x i=>
  split at h
  ·rename_i e q len cap k n h1 h2 h3;split at h
   ·rename_i inf hi;cases h
    obtain⟨⟨cN,gK⟩,hk⟩:=hk;cases q with
    |none=>exact hk.elim
    |some a=>
     refine⟨_,hk,fun _ h=>⟨⟨cN,gK⟩,h⟩,fun w=> ?_⟩;simp [execOp,Instr.indexAt,asIntOf,underlying,sizeOf,typeInfo,h1,h2,h3,cN,gK,hi]
   ·cases h
  ·rename_i len e q k n h1 h2 h3;split at h
   ·rename_i inf hi;cases h
    obtain⟨⟨cN,gK⟩,hk⟩:=hk;cases q with
    |none=>exact hk.elim
    |some a=>
     refine⟨_,hk,fun _ h=>⟨⟨cN,gK⟩,h⟩,fun w=> ?_⟩;simp [execOp,Instr.indexAt,Instr.sureAddr,asIntOf,underlying,sizeOf,typeInfo,h1,h2,h3,cN,gK,hi]
   ·cases h
  ·cases h
 case convert a b x=>
  split at h
  ·rename_i h1 h2 h3;cases h
   refine⟨_,hk,fun _ h=>h,fun w=> ?_⟩;simp [execOp,convert,underlying,h1,h2,h3,Conv.intToInt]
  ·rename_i h1 h2 h3;cases h
   refine⟨_,hk,fun _ h=>h,fun w=> ?_⟩;simp [execOp,convert,underlying,h1,h2,h3]
  ·cases h
 case fieldAddr t x f=>
  split at h
  ·rename_i fs h1;split at h
   ·rename_i kg h2;split at h
    ·rename_i inf h3;split at h
     ·rename_i n q hn hq;cases h
      cases q with
      |none=>exact hk.elim
      |some a=>
       refine⟨_,hk,fun _ h=>h,fun w=> ?_⟩;simp [execOp,Instr.fieldAt,Instr.sureAddr,underlying,fieldPlace,sizeOf,typeInfo,h1,h2,h3,hq,hn]
     ·cases h
    ·cases h
   ·cases h
  ·cases h
 case slice t x lo hi mx=>
  cases mx with
  |some m=>
   cases lo with
   |some l=>simp at h
   |none=>
    cases hi with
    |none=>simp at h
    |some hi=>
     simp only at h;split at h
     ·rename_i e a len cap k1 n k2 k h1 h2 h3 h4;split at h
      ·rename_i inf tP;cases h
       obtain⟨⟨⟨c1,c2⟩,c3,c4⟩,hk⟩:=hk;refine⟨_,hk,fun _ h=>⟨⟨⟨c1,c2⟩,c3,c4⟩,h⟩,fun w=> ?_⟩;have ha:(if k.toNat=0 then a else a.map (·.add (0*inf.size)))=a:=by
        split
        ·rfl
        ·cases a<;>simp [Addr.add]
       have b1:(Instr.sliceBound (ρ m) cap .slice3Acap).run P w= .ok k.toNat w:=by
        rw [h4];simp [Instr.sliceBound,asIntOf,c1,c2]
       have b3:∀q:Nat,n<=(q:Int)->(Instr.sliceBound (ρ hi) q .slice3B).run P w= .ok n.toNat w:=fun q hq=>by
        rw [h3];simp [Instr.sliceBound,asIntOf,c3,hq]
       have b2:=b3 _ c4;simp only [execOp,Instr.sliceAt,Instr.slice,Instr.sliceBounds,underlying,h1,h2,Sem.run_bind,run_program,Result.andThen_ok,Sem.run_pure,Option.map_some,map_none,b1,b2,sizeOf,typeInfo,tP,if_true,Nat.sub_zero,ha]
      ·cases h
     ·cases h
  |none=>
   simp only at h;split at h
   ·rename_i s h1 h2;split at h
    ·rename_i c l u hb;cases h
     obtain⟨hc,hk⟩:=hk;refine⟨_,hk,fun _ h=>⟨hc,h⟩,fun w=> ?_⟩;have eD:=Z5 hb hc (P:=P) (w:=w) (s:=false);simp only [execOp,Instr.sliceAt,Instr.slice,underlying,h1,h2,Sem.run_bind,run_program,Result.andThen_ok,Sem.run_pure];simp only [Option.isSome_none,Bool.false_eq_true,if_false,map_none];have VQ:(Instr.sliceBounds false s.size s.size (lo.map ρ) (hi.map ρ) none).run P w= .ok (l,u,s.size) w:=eD;simp [VQ,VO,VP hb]
    ·cases h
   ·rename_i e a len cap h1 h2;split at h
    ·rename_i c l u hb;split at h
     ·rename_i inf tP;cases h
      obtain⟨hc,hk⟩:=hk;refine⟨_,hk,fun _ h=>⟨hc,h⟩,fun w=> ?_⟩;have eD:=Z5 hb hc (P:=P) (w:=w) (s:=true);simp only [execOp,Instr.sliceAt,Instr.slice,underlying,h1,h2,Sem.run_bind,run_program,Result.andThen_ok,Sem.run_pure,map_none,eD,sizeOf,typeInfo,tP,Ke]
     ·cases h
    ·cases h
   ·cases h
 case binOp wO t x y yt=>
  cases mw:(Nb y&&H2 (ρ y))with
  |true=>
   rw [mw]at h;simp only [cond_true]at h;rw [Bool.and_eq_true]at mw;have hy:ρ y= .nilIface:=by
    revert mw
    cases ρ y<;>simp [H2]
   obtain⟨yc,rfl⟩:∃c,y= .const c:=by
    have:=mw.1;cases y<;>first|exact⟨_,rfl⟩|(cases this;done)
   have go:∀ {ms:Array (String×TypeId)} (_:P.underlying t=some (.interface ms)) (_:wN (ρ x)=true) (w:World),(eqGuard wO t x (.const yc) (ρ x) (ρ (.const yc))).run P w= .ok () w/\(Op.equal t (ρ x) (ρ (.const yc))).run P w= .ok (H2 (ρ x)) w:=by
    intro ms hu hx w;rw [hy];refine⟨?_,Ya hu hx w⟩
    revert hx
    cases ρ x<;>intro hx<;>first|(cases hx;done)|(cases wO<;>simp [eqGuard])
   split at h
   ·rename_i ms hu;cases h
    obtain⟨hc,hk⟩:=hk;refine⟨_,hk,fun _ h=>⟨hc,h⟩,fun w=> ?_⟩;obtain⟨g1,g2⟩:=go hu hc w;have hb:(binOp .eql t (ρ x) (ρ (.const yc))).run P w= .ok (.bool (H2 (ρ x))) w:=by
     have oo:=hc;rw [hy]at g2⊢
     revert g2 oo
     cases ρ x<;>intro g2 oo<;>first|(cases oo;done)|(simp only [binOp,Sem.run_bind,g2];rfl)
    simp only [execOp,Sem.run_bind,g1,Result.andThen_ok,hb];rfl
   ·rename_i ms hu;cases h
    obtain⟨hc,hk⟩:=hk;refine⟨_,hk,fun _ h=>⟨hc,h⟩,fun w=> ?_⟩;obtain⟨g1,g2⟩:=go hu hc w;have hb:(binOp .neq t (ρ x) (ρ (.const yc))).run P w= .ok (.bool (!H2 (ρ x))) w:=by
     have oo:=hc;rw [hy]at g2⊢
     revert g2 oo
     cases ρ x<;>intro g2 oo<;>first|(cases oo;done)|(simp only [binOp,Sem.run_bind,g2];rfl)
    simp only [execOp,Sem.run_bind,g1,Result.andThen_ok,hb];rfl
   ·cases h
  |false=>
  rw [mw]at h;simp only [cond_false]at h;split at h
  ·rename_i k a k' b h1 h2;split at h
   ·rename_i oq;cases h
    obtain⟨hc,hk⟩:=hk;refine⟨_,hk,fun _ h=>⟨hc,h⟩,fun w=> ?_⟩;simp [execOp,eqGuard,binOp,Op.intDiv,h1,h2,oq,hc]
   ·cases h
  ·rename_i k a k' b h1 h2;split at h
   ·rename_i oq;cases h
    obtain⟨hc,hk⟩:=hk;refine⟨_,hk,fun _ h=>⟨hc,h⟩,fun w=> ?_⟩;simp [execOp,eqGuard,binOp,Op.intDiv,h1,h2,oq,hc]
   ·cases h
  ·rename_i k a k' b h1 h2;cases h
   obtain⟨hc,hk⟩:=hk;refine⟨_,hk,fun _ h=>⟨hc,h⟩,fun w=> ?_⟩;have:¬b<0:=by omega
   simp [execOp,eqGuard,binOp,Op.shift,h1,h2,this]
  ·rename_i k a k' b h1 h2;cases h
   obtain⟨hc,hk⟩:=hk;refine⟨_,hk,fun _ h=>⟨hc,h⟩,fun w=> ?_⟩;have:¬b<0:=by omega
   simp [execOp,eqGuard,binOp,Op.shift,h1,h2,this]
  ·rename_i wO _ _ _ a b h1 h2;cases wO<;>simp only [HG]at h<;>first
    |(cases h;done)
    |(cases h
      obtain⟨hc,hk⟩:=hk;refine⟨_,hk,fun _ h=>⟨hc,h⟩,fun w=> ?_⟩;have oo:¬((a.size+b.size:Nat):Int)>IntKind.i64.max:=by
       show¬(((sl a).length+(sl b).length:Nat):Int)>IntKind.i64.max
       omega
      simp only [execOp,eqGuard,binOp,Op.stringOp,h1,h2,oo,if_false];simp;rfl)
    |(cases h
      refine⟨_,hk,fun _ h=>h,fun w=> ?_⟩;simp [execOp,eqGuard,binOp,Op.stringOp,h1,h2,ByteArray.toList_eq,sl])
  ·rename_i h1 h2;split at h
   ·rename_i hd;cases h
    refine⟨_,hk,fun _ h=>h,fun w=> ?_⟩;simp [execOp,eqGuard,binOp,h1,h2,O8 hd]
   ·cases h
  ·rename_i h1 h2;split at h
   ·rename_i hd;cases h
    refine⟨_,hk,fun _ h=>h,fun w=> ?_⟩;simp [execOp,eqGuard,binOp,h1,h2,O8 hd]
   ·cases h
  ·rename_i h1 h2;split at h
   ·rename_i hd;cases h
    refine⟨_,hk,fun _ h=>h,fun w=> ?_⟩;simp [execOp,eqGuard,binOp,h1,h2,L4 hd]
   ·cases h
  ·rename_i h1 h2;split at h
   ·rename_i hd;cases h
    refine⟨_,hk,fun _ h=>h,fun w=> ?_⟩;simp [execOp,eqGuard,binOp,h1,h2,L4 hd]
   ·cases h
  ·rename_i h1 h2;split at h
   ·rename_i hd;cases h
    refine⟨_,hk,fun _ h=>h,fun w=> ?_⟩;simp [execOp,eqGuard,binOp,h1,h2,R8 hd]
   ·cases h
  ·rename_i h1 h2;split at h
   ·rename_i hd;cases h
    refine⟨_,hk,fun _ h=>h,fun w=> ?_⟩;simp [execOp,eqGuard,binOp,h1,h2,R8 hd]
   ·cases h
  ·cases h
  ·cases h
  ·rename_i xs ys h1 h2;split at h
   ·rename_i b hb;cases h
    refine⟨_,hk,fun _ h=>h,fun w=> ?_⟩;obtain⟨e1,e2⟩:=HH hb w .eql x y;simp [execOp,binOp,h1,h2,e1,e2]
   ·cases h
  ·rename_i xs ys h1 h2;split at h
   ·rename_i b hb;cases h
    refine⟨_,hk,fun _ h=>h,fun w=> ?_⟩;obtain⟨e1,e2⟩:=HH hb w .neq x y;simp [execOp,binOp,h1,h2,e1,e2]
   ·cases h
  ·cases h
  ·exact key h hk
 case call c=>
  obtain⟨callee,args,argTypes⟩:=c;cases callee with
  |builtin b=>cases b<;>simp only at h<;>first|exact key h hk|cases h
  |value f=>simp at h
  |invoke r m=>simp at h
 all_goals first|exact key h hk|(cases h;done)
def Cd (P:Program) (f:FuncId):Bool:=
 match P.funcs[f]? with
 |some fn=>fn.body.isSome&& !(fn.name== "runtime.NumGoroutine")|none=>false
def wP (str:Bool) (v:Value) (K:Value->Prop):Prop:=(v= .tuple #[.bool false]/\K (.tuple #[.bool false]))\/ cond str (∃n c:Int,v= .tuple #[.bool true,.int .i64 n,.int .i32 c]/\K (.tuple #[.bool true,.int .i64 n,.int .i32 c])) (∃k e:Value,v= .tuple #[.bool true,k,e]/\K (.tuple #[.bool true,k,e]))
theorem VR {str:Bool} {v:Value} {K:Value->Prop} (h:wP str v K):K v:=by
 rcases h with⟨h1,h2⟩|h
 ·rw [h1];exact h2
 ·cases str with
  |true=>obtain⟨n,c,h1,h2⟩:=h;rw [h1];exact h2
  |false=>obtain⟨n,c,h1,h2⟩:=h;rw [h1];exact h2
theorem VS {str:Bool} {v:Value} {K K':Value->Prop} (h:wP str v K) (hk:∀v,K v->K' v):wP str v K':=by
 rcases h with⟨h1,h2⟩|h
 ·exact .inl ⟨h1,hk _ h2⟩
 ·refine .inr ?_;cases str with
  |true=>obtain⟨n,c,h1,h2⟩:=h;exact⟨n,c,h1,hk _ h2⟩
  |false=>obtain⟨n,c,h1,h2⟩:=h;exact⟨n,c,h1,hk _ h2⟩
def wQ (P:Program) (t:Nat) (v:Value) (K:Value->Prop):Prop:=Vv [M9 P (t/100000),M9 P (t%100000)] fun us=>v= .tuple ⟨us⟩/\K (.tuple ⟨us⟩)
theorem VT {P:Program} {t:Nat} {v:Value} {K:Value->Prop} (h:wQ P t v K):K v:=by
 obtain⟨l,h1,h2⟩:=Pz h;rw [h1];exact h2
theorem VU {P:Program} {t:Nat} {v:Value} {K K':Value->Prop} (h:wQ P t v K) (hk:∀v,K v->K' v):wQ P t v K':=
 P0 h fun _ h=>⟨h.1,hk _ h.2⟩
def P1 (next:Value->World->Prop):Next->World->Prop
 | .value v,w=>next v w| .skip,w=>next undef w|_,_=>False
def R9 (P:Program) (g:FuncId) (args:Array Value) (K:Value->World->Prop) (w:World):Prop:=∃v w',(callFunc g args).run P w= .ok (.value v) w'/\K v w'
def Eh (P:Program) (fv:Value) (args:Array Value) (K:Value->World->Prop) (w:World):Prop:=
 match fv with
 | .func (.func g) first captured=>cond (Cd P g) (Calls P g (first++args++captured) w (aG K)) (R9 P g (first++args++captured) K w)
 |_=>False
def T8 (P:Program) (ρ:Operand->Value) (o:Oper) (next:Value->World->Prop) (w:World):Prop:=
 match o.op with
 | .load t x=>match ρ x,P.underlying t with
  | .pointer p,some _=>Ak p fun a=>match M9 P t with
   | .one c=>c.ex fun v=>w.cell? a=some v/\next v w
   | .agg cs=>cond (cs.length==Hq P t) (Kb cs fun l=>Ad w a l/\next (.agg ⟨l⟩) w) False
  |_,_=>False
 | .store t x v=>match ρ x with
  | .pointer p=>Ak p fun a=>match M9 P t with
   | .one c=>cond (1==Hq P t) (Ea [c] [ρ v] (Af w a 1/\∀w',w'=w.setCell a (ρ v)->next undef w')) False
   | .agg cs=>match ρ v with
    | .agg l=>cond (cs.length==Hq P t) (Ea cs l.toList (Af w a cs.length/\∀w',w'=setCells w a l.toList->next undef w')) False
    |_=>False
  |_=>False
 | .alloc _=>jI P (execOp ρ o) (P1 next) w
 | .box _ _=>jI P (execOp ρ o) (P1 next) w
 | .buildSlice _ _ _=>jI P (execOp ρ o) (P1 next) w
 | .makeMap _ _=>jI P (execOp ρ o) (P1 next) w
 | .lookup t x i ok=>Bd P (Instr.lookup t (ρ x) (ρ i) ok) (fun v w'=>Ed P o.type v (next · w')) w
 | .insert t m k x=>Bd P (Instr.mapUpdate t (ρ m) (ρ k) (ρ x)) (fun _ w'=>next undef w') w
 | .mapUpdate t m k x=>Bd P (Instr.mapUpdate t (ρ m) (ρ k) (ρ x)) (fun _ w'=>next undef w') w
 | .mapEntry t m k=>Bd P (Instr.mapEntry t (ρ m) (ρ k)) (fun v w'=>Ed P o.type v (next · w')) w
 | .entryStore t m s x=>Bd P (Instr.entryStore t (ρ m) (ρ s) (ρ x)) (fun _ w'=>next undef w') w
 | .range t x=>Bd P (Instr.range t (ρ x)) (fun v w'=>∃a,v= .pointer (some a)/\next (.pointer (some a)) w') w
 | .next it s=>Bd P (Instr.next (ρ it) s o.type) (fun v w'=>wP s v (next · w')) w
 | .entry it=>Bd P (Instr.entry (ρ it)) (fun v w'=>wQ P o.type v (next · w')) w
 | .typeAssert x t a ok=>Bd P (Instr.typeAssert (ρ x) t a ok) (fun v w'=>Ed P o.type v (next · w')) w
 | .index t x i=>Bd P (Instr.index t (ρ x) (ρ i)) (fun v w'=>Ed P o.type v (next · w')) w
 | .makeSlice t l c=>Bd P (Instr.makeSlice t (ρ l) (ρ c)) (fun v w'=>Ed P o.type v (next · w')) w
 | .convert s d x=>Bd P (convert s d (ρ x)) (fun v w'=>Ed P o.type v (next · w')) w
 | .binOp op t x y _=>Bd P (do eqGuard op t x y (ρ x) (ρ y);binOp op t (ρ x) (ρ y)) (fun v w'=>Ed P o.type v (next · w')) w
 | .call c=>match c.callee with
  | .value f=>Eh P (ρ f) (c.args.map ρ) (fun v w'=>Ed P o.type v (next · w')) w
  | .builtin b=>match b with
   | .append=>Bd P (Builtin.append_ c.argTypes o.type (c.args.map ρ)) (fun v w'=>Ed P o.type v (next · w')) w
   | .copy=>Bd P (Builtin.copy_ c.argTypes o.type (c.args.map ρ)) (fun v w'=>Ed P o.type v (next · w')) w
   | .delete=>Bd P (Builtin.delete_ c.argTypes o.type (c.args.map ρ)) (fun v w'=>next v w') w
   | .clear=>Bd P (Builtin.clear_ c.argTypes o.type (c.args.map ρ)) (fun v w'=>next v w') w
   | .len=>Bd P (Builtin.len_ c.argTypes o.type (c.args.map ρ)) (fun v w'=>Ed P o.type v (next · w')) w
   |_=>False
  | .invoke r m=>match ρ r with
   | .iface t v=>match Sm P (method (P.types.size+Made.depth) t v m)with
    |some (g,recv)=>cond (Cd P g) (Calls P g (#[recv]++c.args.map ρ) w (aG fun v w'=>Ed P o.type v (next · w'))) False
    |none=>False
   |_=>False
 |_=>False
def Hj (P:Program) (ρ:Operand->Value) (o:Oper) (next:Value->World->Prop) (w:World):Prop:=
 match B0 P ρ o with
 |some p=>p.then (next · w)
 |none=>T8 P ρ o next w
def D6 (P:Program) (next:Value->World->Prop):Result Next->Prop
 | .ok (.value v) w=>next v w| .ok .skip w=>next undef w| .ok (.enter f args) w=>Calls P f args w (aG next)|_=>False
theorem H7 {P:Program} {w:World} {a:Addr} :∀(l:List Value) (i:Nat) (acc:Array Value),(∀j (h:j<l.length),w.cell? (a.add (i+j))=some l[j])->(loadCellsFrom a i l.length acc).run P w= .ok (acc++l.toArray) w:=by
 intro l
 induction l with
 |nil=>intro i acc _;simp [loadCellsFrom]
 |cons v l ih=>
  intro i acc h;have h0:=h 0 (by simp);simp only [Nat.add_zero,List.getElem_cons_zero]at h0;simp only [List.length_cons,loadCellsFrom,Sem.run_bind,run_load,h0,Result.andThen_ok];rw [ih (i+1) (acc.push v) (fun j hj=>by have:=h (j+1) (by simp;omega);rw [show i+1+j=i+(j+1) by omega];simpa using this)];simp
theorem Hr {P:Program} {a:Addr} :∀(l:List Value) (w:World) (i:Nat),(∀v∈l,v.oneCell'=true)->(∀j,j<l.length->(∃v,w.cell? (a.add (i+j))=some v)/\w.frozen? (a.add (i+j))=false)->(storeCells a l i).run P w= .ok () (Bi w a i l):=by
 intro l
 induction l with
 |nil=>intro w i _ _;simp [storeCells,Bi]
 |cons v l ih=>
  intro w i h1 h2;obtain⟨⟨u,hu⟩,hf⟩:=h2 0 (by simp);simp only [Nat.add_zero]at hu hf;simp only [storeCells,Sem.run_bind,run_store P w _ _ _ (h1 v (by simp)),hu,hf,Bool.false_eq_true,if_false,Result.andThen_ok,Bi];refine ih _ _ (fun u hu=>h1 u (by simp [hu])) (fun j hj=> ?_);obtain⟨⟨x,hx⟩,zD⟩:=h2 (j+1) (by simp;omega);rw [show i+1+j=i+(j+1) by omega];refine⟨?_,?_⟩
  ·obtain⟨v',zB⟩:=RowKit.cell?_setCell_some (w:=w) (p:=a.add i) (x:=v) (q:=a.add (i+(j+1))) (v:=x) hx;exact⟨v',zB⟩
  ·rw [World.frozen?_setCell];exact zD
end Go.Vc
