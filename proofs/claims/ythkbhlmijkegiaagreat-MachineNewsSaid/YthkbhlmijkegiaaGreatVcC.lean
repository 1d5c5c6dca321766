/- The conditions of Go code: a library of this claim. -/
import Derived.Test.YthkbhlmijkegiaaGreatVcB
namespace Go.Vc
theorem Jf {P:Program} {ρ:Operand->Value} {o:Oper} {next:Value->World->Prop} {w:World} (h:Hj P ρ o next w):D6 P next ((execOp ρ o).run P w):=by
 unfold Hj at h;split at h
 ·rename_i p hp;obtain⟨v,h1,_,h2⟩:=Fo hp h;rw [h2 w];exact h1
 ·exact VV h
theorem So {P:Program} {o:Oper} {a:Act} {next:Act->World->Prop} {Q:Exit->Act->World->Prop} {r:Result Next} (h:D6 P (fun v w=>next (a.put o.dst v) w) r):o.upon P a next Q r:=by
 cases r with
 |ok x w=>
  cases x with
  |value v=>exact h
  |skip=>exact h
  |enter f args=>
   refine Calls.mono (h:Calls P f args w _) fun e w' h=> ?_
   cases e with
   |returned v=>exact h
   |panicked c=>exact(h:False).elim
   |outgrown=>exact(h:False).elim
  |_=>exact(h:False).elim
 |halt x w=>exact(h:False).elim
theorem VW {P:Program} {next next':Value->World->Prop} {r:Result Next} (h:D6 P next r) (hk:∀v w,next v w->next' v w):D6 P next' r:=by
 cases r with
 |ok x w=>
  cases x with
  |value v=>exact hk _ _ h
  |skip=>exact hk _ _ h
  |enter f args=>
   refine Calls.mono (h:Calls P f args w _) fun e w' h=> ?_
   cases e with
   |returned v=>exact hk _ _ h
   |panicked c=>exact h
   |outgrown=>exact h
  |_=>exact h
 |halt x w=>exact h
theorem Zp {P:Program} {o:Oper} {a:Act} {w:World} {next:Act->World->Prop} {Q:Exit->Act->World->Prop}
 (h:Hj P a.eval o (fun v w=>next (a.put o.dst v) w) w):o.wp P a w next Q:=So (Jf h)
def B1 (ops:List Oper) (i:Nat):Bool:=ops.any fun o=>match o.guard with|some (j,_)=>j==i|none=>false
def Dz (b:Bool) (next:Value->World->Prop) (v:Value) (w:World):Prop:=
 match b,v with
 |true,.bool c=>cond c (next (.bool true) w) (next (.bool false) w)|_,v=>next v w
theorem Av (b:Bool) (next:Value->World->Prop) (v:Value) (w:World):Dz b next v w↔next v w:=by
 unfold Dz;split
 ·rename_i c;cases c<;>exact Iff.rfl
 ·exact Iff.rfl
def HM (ops:List Oper) (d i:Nat):Nat:=
 match ops.find? fun o=>match o.op with| .extract (.tmp t) j=>t==d&&j==i|_=>false with
 |some o=>o.type|none=>0
def Et (ops:List Oper) (o:Oper):Oper:=
 match o.op,o.dst with
 | .entry _,some d=> { o with type:=HM ops d 0*100000+HM ops d 1 }
 |_,_=>o
theorem Xf (ops:List Oper) (o:Oper):(Et ops o).dst=o.dst:=by
 unfold Et;split<;>rfl
theorem Ua (ops:List Oper) (o:Oper) (ρ:Operand->Value):execOp ρ (Et ops o)=execOp ρ o:=by
 unfold Et;split
 ·rename_i h1 _;simp only [execOp,h1]
 ·rfl
theorem Ub (ops:List Oper) (o:Oper) (t:TypeId) (x:Operand) (h:o.op= .load t x):Et ops o=o:=by
 unfold Et;rw [h]
theorem Uc (P:Program) (ρ:Operand->Value) (ops:List Oper) (o:Oper):B0 P ρ (Et ops o)=B0 P ρ o:=by
 unfold Et;split
 ·rename_i h1 _;simp only [B0,h1]
 ·rfl
def Kv (P:Program) (ops:Array Oper) (Q:Act->World->Prop):List Oper->Nat->Act->World->Prop
 |[],_,a,w=>Q a w|o::rest,i,a,w=>
  cond (Region.wanted o (yielded ops a.tmps))
   (Hj P a.eval (Et ops.toList o) (Dz (B1 ops.toList i) fun v w'=>Kv P ops Q rest (i+1) (a.put o.dst v) w') w)
   (Kv P ops Q rest (i+1) (a.put o.dst undef) w)
theorem Kw {P:Program} {ρ:Operand->Value} {o:Oper} {next next':Value->World->Prop} {w:World} (h:T8 P ρ o next w) (hk:∀v w,next v w->next' v w):T8 P ρ o next' w:=by
 have qv:∀ {α:Type} {s:Sem α} {K K':α->World->Prop},Bd P s K w->(∀v w,K v w->K' v w)->Bd P s K' w:=fun⟨v,w',h1,h2⟩ hk=>⟨v,w',h1,hk _ _ h2⟩
 have HN:∀ {g:FuncId} {args:Array Value} {t:TypeId},Calls P g args w (aG fun v w'=>Ed P t v (next · w'))->Calls P g args w (aG fun v w'=>Ed P t v (next' · w')):=by
  intro g args t h;refine h.mono fun e w' h=> ?_
  cases e with
  |returned v=>have h':Ed P t v (next · w'):=h;exact L3 h' fun v h=>hk _ _ h
  |panicked c=>exact h
  |outgrown=>exact h
 have VX:∀ {s:Sem Next},jI P s (P1 next) w->jI P s (P1 next') w:=by
  intro s h;refine VJ h fun v w h=> ?_
  cases v<;>first|exact hk _ _ h|exact h
 obtain⟨dst,op,type,pos,after,guard⟩:=o;cases op<;>simp only [T8]at h⊢
 case load t x=>
  split at h
  ·rename_i q _ _ _;obtain⟨a,rfl⟩:∃a,q=some a:=by cases q with|none=>exact h.elim|some a=>exact⟨a,rfl⟩
   simp only [Ak]at h⊢;split at h
   ·exact dv.qu h fun v h=>⟨h.1,hk _ _ h.2⟩
   ·revert h
    generalize (List.length _==Hq P t)=b;intro h;cases b
    ·exact h
    ·exact Kd h fun l h=>⟨h.1,hk _ _ h.2⟩
  ·exact h
 case store t x v=>
  split at h
  ·rename_i q _;obtain⟨a,rfl⟩:∃a,q=some a:=by cases q with|none=>exact h.elim|some a=>exact⟨a,rfl⟩
   simp only [Ak]at h⊢;split at h
   ·revert h
    generalize (1==Hq P t)=b;intro h;cases b
    ·exact h
    ·exact T7 h fun h=>⟨h.1,fun w' hw=>hk _ _ (h.2 w' hw)⟩
   ·split at h
    ·revert h
     generalize (List.length _==Hq P t)=b;intro h;cases b
     ·exact h
     ·exact T7 h fun h=>⟨h.1,fun w' hw=>hk _ _ (h.2 w' hw)⟩
    ·exact h
  ·exact h
 case call c=>
  obtain⟨callee,args,argTypes⟩:=c;cases callee with
  |value f=>
   simp only [Eh]at h⊢;split at h
   ·revert h
    generalize Cd P _=b;intro h;cases b
    ·obtain⟨v,w',h1,h2⟩:=h;exact⟨v,w',h1,L3 h2 fun v h=>hk _ _ h⟩
    ·exact HN h
   ·exact h
  |builtin b=>
   cases b<;>simp only at h⊢<;>first
    |exact h
    |exact qv h fun v w h=>L3 h fun v h=>hk _ _ h
    |exact qv h fun v w h=>hk _ _ h
  |invoke r m=>
   simp only at h⊢;split at h
   ·split at h
    ·revert h
     generalize Cd P _=b;intro h;cases b
     ·exact h
     ·exact HN h
    ·exact h
   ·exact h
 all_goals first
  |exact h
  |exact VX h
  |exact qv h fun v w h=>L3 h fun v h=>hk _ _ h
  |exact qv h fun v w h=>VS h fun v h=>hk _ _ h
  |exact qv h fun v w h=>VU h fun v h=>hk _ _ h
  |exact qv h fun v w h=>hk _ _ h
  |exact qv h fun v w ⟨a,h1,h2⟩=>⟨a,h1,hk _ _ h2⟩
theorem Cq {P:Program} {ρ:Operand->Value} {o:Oper} {next next':Value->World->Prop} {w:World} (h:Hj P ρ o next w) (hk:∀v w,next v w->next' v w):Hj P ρ o next' w:=by
 unfold Hj at h⊢;split at h
 ·exact gZ.pn h fun v h=>hk _ _ h
 ·exact Kw h hk
theorem VY {P:Program} {ops:Array Oper} {Q:Exit->Act->World->Prop} :∀(l:List Oper) (i:Nat) (a:Act) (w:World),Kv P ops (Q .normal) l i a w->wpList P ops Q l a w:=by
 intro l
 induction l with
 |nil=>intro i a w h;exact h
 |cons o rest ih=>
  intro i a w h;simp only [Kv]at h;simp only [wpList];cases hw:Region.wanted o (yielded ops a.tmps)with
  |true=>
   rw [hw]at h;simp only [if_true];refine .inl (So ?_);have h1:=Jf (Cq h fun v w' h=>(Av _ _ _ _).1 h);rw [Ua]at h1;refine VW h1 fun v w' h=>ih _ _ _ h
  |false=>
   rw [hw]at h;simp only [Bool.false_eq_true,if_false];exact ih _ _ _ h
theorem HO {P:Program} {id:Nat} {ops:Array Oper} {Q:Exit->Act->World->Prop} {a:Act} {w:World} (h:Kv P ops (Q .normal) ops.toList 0 a w):(Code.region id ops false).wp P Q a w:=by
 refine wp_region ?_;have:=VY _ _ _ _ h;have e:=wpOps_eq_wpList (P:=P) (ops:=ops) (Q:=Q) ops.toList 0 (fun j=>by simp);rw [←e]at this;rw [List.range_eq_range'];simpa using this
end Go.Vc
