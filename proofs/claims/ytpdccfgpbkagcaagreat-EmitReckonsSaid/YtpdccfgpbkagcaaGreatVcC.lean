/- The conditions of Go code: a library of this claim. -/
import Derived.Test.YtpdccfgpbkagcaaGreatVcB
namespace Go.Vc
theorem Ll {P:Program} {ρ:Operand->Value} {o:Oper} {next:Value->World->Prop} {w:World} (h:G5 P ρ o next w):C9 P next ((execOp ρ o).run P w):=by
 unfold G5 at h;split at h
 ·rename_i p hp;obtain⟨v,h1,_,h2⟩:=E5 hp h;rw [h2 w];exact h1
 ·exact Ao4 h
theorem Qx {P:Program} {o:Oper} {a:Act} {next:Act->World->Prop} {Q:Exit->Act->World->Prop} {r:Result Next} (h:C9 P (fun v w=>next (a.put o.dst v) w) r):o.upon P a next Q r:=by
 cases r with
 |ok x w=>
  cases x with
  |value v=>exact h
  |skip=>exact h
  |enter f args=>
   refine Calls.mono (h:Calls P f args w _) fun e w' h=> ?_
   cases e with
   |returned v=>exact h
   |panicked c=>exact(h:False).elim
   |outgrown=>exact(h:False).elim
  |_=>exact(h:False).elim
 |halt x w=>exact(h:False).elim
theorem Alj {P:Program} {next next':Value->World->Prop} {r:Result Next} (h:C9 P next r) (hk:∀v w,next v w->next' v w):C9 P next' r:=by
 cases r with
 |ok x w=>
  cases x with
  |value v=>exact hk _ _ h
  |skip=>exact hk _ _ h
  |enter f args=>
   refine Calls.mono (h:Calls P f args w _) fun e w' h=> ?_
   cases e with
   |returned v=>exact hk _ _ h
   |panicked c=>exact h
   |outgrown=>exact h
  |_=>exact h
 |halt x w=>exact h
theorem X0 {P:Program} {o:Oper} {a:Act} {w:World} {next:Act->World->Prop} {Q:Exit->Act->World->Prop}
 (h:G5 P a.eval o (fun v w=>next (a.put o.dst v) w) w):o.wp P a w next Q:=Qx (Ll h)
def B1 (ops:List Oper) (i:Nat):Bool:=ops.any fun o=>match o.guard with|some (j,_)=>j==i|none=>false
def C3 (b:Bool) (next:Value->World->Prop) (v:Value) (w:World):Prop:=
 match b,v with
 |true,.bool c=>cond c (next (.bool true) w) (next (.bool false) w)|_,v=>next v w
theorem A6 (b:Bool) (next:Value->World->Prop) (v:Value) (w:World):C3 b next v w↔next v w:=by
 unfold C3;split
 ·rename_i c;cases c<;>exact Iff.rfl
 ·exact Iff.rfl
def LZ (ops:List Oper) (d i:Nat):Nat:=
 match ops.find? fun o=>match o.op with| .extract (.tmp t) j=>t==d&&j==i|_=>false with
 |some o=>o.type|none=>0
def Dx (ops:List Oper) (o:Oper):Oper:=
 match o.op,o.dst with
 | .entry _,some d=> { o with type:=LZ ops d 0*100000+LZ ops d 1 }
 |_,_=>o
theorem V7 (ops:List Oper) (o:Oper):(Dx ops o).dst=o.dst:=by
 unfold Dx;split<;>rfl
theorem Sf (ops:List Oper) (o:Oper) (ρ:Operand->Value):execOp ρ (Dx ops o)=execOp ρ o:=by
 unfold Dx;split
 ·rename_i h1 _;simp only [execOp,h1]
 ·rfl
theorem Sg (ops:List Oper) (o:Oper) (t:TypeId) (x:Operand) (h:o.op= .load t x):Dx ops o=o:=by
 unfold Dx;rw [h]
theorem Sh (P:Program) (ρ:Operand->Value) (ops:List Oper) (o:Oper):B8 P ρ (Dx ops o)=B8 P ρ o:=by
 unfold Dx;split
 ·rename_i h1 _;simp only [B8,h1]
 ·rfl
def Jy (P:Program) (ops:Array Oper) (Q:Act->World->Prop):List Oper->Nat->Act->World->Prop
 |[],_,a,w=>Q a w|o::rest,i,a,w=>
  cond (Region.wanted o (yielded ops a.tmps))
   (G5 P a.eval (Dx ops.toList o) (C3 (B1 ops.toList i) fun v w'=>Jy P ops Q rest (i+1) (a.put o.dst v) w') w)
   (Jy P ops Q rest (i+1) (a.put o.dst undef) w)
theorem Jz {P:Program} {ρ:Operand->Value} {o:Oper} {next next':Value->World->Prop} {w:World} (h:Se P ρ o next w) (hk:∀v w,next v w->next' v w):Se P ρ o next' w:=by
 have sR:∀ {α:Type} {s:Sem α} {K K':α->World->Prop},Bh P s K w->(∀v w,K v w->K' v w)->Bh P s K' w:=fun⟨v,w',h1,h2⟩ hk=>⟨v,w',h1,hk _ _ h2⟩
 have L_:∀ {g:FuncId} {args:Array Value} {t:TypeId},Calls P g args w (aD fun v w'=>Dg P t v (next · w'))->Calls P g args w (aD fun v w'=>Dg P t v (next' · w')):=by
  intro g args t h;refine h.mono fun e w' h=> ?_
  cases e with
  |returned v=>have h':Dg P t v (next · w'):=h;exact Kv h' fun v h=>hk _ _ h
  |panicked c=>exact h
  |outgrown=>exact h
 have swp:∀ {s:Sem Next},kI P s (N3 next) w->kI P s (N3 next') w:=by
  intro s h;refine Aqx h fun v w h=> ?_
  cases v<;>first|exact hk _ _ h|exact h
 obtain⟨dst,op,type,pos,after,guard⟩:=o;cases op<;>simp only [Se]at h⊢
 case load t x=>
  split at h
  ·rename_i q _ _ _;obtain⟨a,rfl⟩:∃a,q=some a:=by cases q with|none=>exact h.elim|some a=>exact⟨a,rfl⟩
   simp only [Ak]at h⊢;split at h
   ·exact cX.sQ h fun v h=>⟨h.1,hk _ _ h.2⟩
   ·revert h
    generalize (List.length _==Gm P t)=b;intro h;cases b
    ·exact h
    ·exact Jm h fun l h=>⟨h.1,hk _ _ h.2⟩
  ·exact h
 case store t x v=>
  split at h
  ·rename_i q _;obtain⟨a,rfl⟩:∃a,q=some a:=by cases q with|none=>exact h.elim|some a=>exact⟨a,rfl⟩
   simp only [Ak]at h⊢;split at h
   ·revert h
    generalize (1==Gm P t)=b;intro h;cases b
    ·exact h
    ·exact Sd h fun h=>⟨h.1,fun w' hw=>hk _ _ (h.2 w' hw)⟩
   ·split at h
    ·revert h
     generalize (List.length _==Gm P t)=b;intro h;cases b
     ·exact h
     ·exact Sd h fun h=>⟨h.1,fun w' hw=>hk _ _ (h.2 w' hw)⟩
    ·exact h
  ·exact h
 case call c=>
  obtain⟨callee,args,argTypes⟩:=c;cases callee with
  |value f=>
   simp only [Qj]at h⊢;split at h
   ·revert h
    generalize Cs P _=b;intro h;cases b
    ·obtain⟨v,w',h1,h2⟩:=h;exact⟨v,w',h1,Kv h2 fun v h=>hk _ _ h⟩
    ·exact L_ h
   ·exact h
  |builtin b=>
   cases b<;>simp only at h⊢<;>first
    |exact h
    |exact sR h fun v w h=>Kv h fun v h=>hk _ _ h
    |exact sR h fun v w h=>hk _ _ h
  |invoke r m=>
   simp only at h⊢;split at h
   ·split at h
    ·revert h
     generalize Cs P _=b;intro h;cases b
     ·exact h
     ·exact L_ h
    ·exact h
   ·exact h
 all_goals first
  |exact h
  |exact swp h
  |exact sR h fun v w h=>Kv h fun v h=>hk _ _ h
  |exact sR h fun v w h=>Ali h fun v h=>hk _ _ h
  |exact sR h fun v w h=>Ahp h fun v h=>hk _ _ h
  |exact sR h fun v w h=>hk _ _ h
  |exact sR h fun v w ⟨a,h1,h2⟩=>⟨a,h1,hk _ _ h2⟩
theorem C7 {P:Program} {ρ:Operand->Value} {o:Oper} {next next':Value->World->Prop} {w:World} (h:G5 P ρ o next w) (hk:∀v w,next v w->next' v w):G5 P ρ o next' w:=by
 unfold G5 at h⊢;split at h
 ·exact ig.rH h fun v h=>hk _ _ h
 ·exact Jz h hk
theorem Ao5 {P:Program} {ops:Array Oper} {Q:Exit->Act->World->Prop} :∀(l:List Oper) (i:Nat) (a:Act) (w:World),Jy P ops (Q .normal) l i a w->wpList P ops Q l a w:=by
 intro l
 induction l with
 |nil=>intro i a w h;exact h
 |cons o rest ih=>
  intro i a w h;simp only [Jy]at h;simp only [wpList];cases hw:Region.wanted o (yielded ops a.tmps)with
  |true=>
   rw [hw]at h;simp only [if_true];refine .inl (Qx ?_);have h1:=Ll (C7 h fun v w' h=>(A6 _ _ _ _).1 h);rw [Sf]at h1;refine Alj h1 fun v w' h=>ih _ _ _ h
  |false=>
   rw [hw]at h;simp only [Bool.false_eq_true,if_false];exact ih _ _ _ h
theorem MB {P:Program} {id:Nat} {ops:Array Oper} {Q:Exit->Act->World->Prop} {a:Act} {w:World} (h:Jy P ops (Q .normal) ops.toList 0 a w):(Code.region id ops false).wp P Q a w:=by
 refine wp_region ?_;have:=Ao5 _ _ _ _ h;have e:=wpOps_eq_wpList (P:=P) (ops:=ops) (Q:=Q) ops.toList 0 (fun j=>by simp);rw [←e]at this;rw [List.range_eq_range'];simpa using this
end Go.Vc
