/- The conditions of Go code: a library of this claim. -/
import Derived.Test.YtcakelelfklhdaaGreatDoorVcB
namespace Go.Vc
theorem Nn {P:Program} {ρ:Operand->Value} {o:Oper} {next:Value->World->Prop} {w:World} (h:Kd P ρ o next w):Kf P next ((execOp ρ o).run P w):=by
 unfold Kd at h
 split at h
 ·rename_i p hp
  obtain⟨v,h1,_,h2⟩:=Jd hp h
  rw [h2 w];exact h1
 ·exact Akz h
theorem X1 {P:Program} {o:Oper} {a:Act} {next:Act->World->Prop} {Q:Exit->Act->World->Prop} {r:Result Next}
 (h:Kf P (fun v w=>next (a.put o.dst v) w) r):o.upon P a next Q r:=by
 cases r with
 |ok x w=>
  cases x with
  |value v=>exact h
  |skip=>exact h
  |enter f args=>
   refine Calls.mono (h:Calls P f args w _) fun e w' h=> ?_
   cases e with
   |returned v=>exact h
   |panicked c=>exact(h:False).elim
   |outgrown=>exact(h:False).elim
  |_=>exact(h:False).elim
 |halt x w=>exact(h:False).elim
theorem Ah2 {P:Program} {next next':Value->World->Prop} {r:Result Next} (h:Kf P next r) (hk:∀v w,next v w->next' v w):Kf P next' r:=by
 cases r with
 |ok x w=>
  cases x with
  |value v=>exact hk _ _ h
  |skip=>exact hk _ _ h
  |enter f args=>
   refine Calls.mono (h:Calls P f args w _) fun e w' h=> ?_
   cases e with
   |returned v=>exact hk _ _ h
   |panicked c=>exact h
   |outgrown=>exact h
  |_=>exact h
 |halt x w=>exact h
theorem Xk {P:Program} {o:Oper} {a:Act} {w:World} {next:Act->World->Prop} {Q:Exit->Act->World->Prop}
 (h:Kd P a.eval o (fun v w=>next (a.put o.dst v) w) w):o.wp P a w next Q:=X1 (Nn h)
def C1 (ops:List Oper) (i:Nat):Bool:=ops.any fun o=>match o.guard with|some (j,_)=>j==i|none=>false
def Ep (b:Bool) (next:Value->World->Prop) (v:Value) (w:World):Prop:=
 match b,v with
 |true,.bool c=>cond c (next (.bool true) w) (next (.bool false) w)
 |_,v=>next v w
theorem A2 (b:Bool) (next:Value->World->Prop) (v:Value) (w:World):Ep b next v w↔next v w:=by
 unfold Ep
 split
 ·rename_i c;cases c<;>exact Iff.rfl
 ·exact Iff.rfl
def Asd (ops:List Oper) (d i:Nat):Nat:=
 match ops.find? fun o=>match o.op with| .extract (.tmp t) j=>t==d&&j==i|_=>false with
 |some o=>o.type
 |none=>0
def F1 (ops:List Oper) (o:Oper):Oper:=
 match o.op,o.dst with
 | .entry _,some d=> { o with type:=Asd ops d 0*100000+Asd ops d 1 }
 |_,_=>o
theorem Vz (ops:List Oper) (o:Oper):(F1 ops o).dst=o.dst:=by
 unfold F1;split<;>rfl
theorem Ta (ops:List Oper) (o:Oper) (ρ:Operand->Value):execOp ρ (F1 ops o)=execOp ρ o:=by
 unfold F1
 split
 ·rename_i h1 _;simp only [execOp,h1]
 ·rfl
theorem Tb (ops:List Oper) (o:Oper) (t:TypeId) (x:Operand) (h:o.op= .load t x):F1 ops o=o:=by
 unfold F1;rw [h]
theorem Tc (P:Program) (ρ:Operand->Value) (ops:List Oper) (o:Oper):F3 P ρ (F1 ops o)=F3 P ρ o:=by
 unfold F1
 split
 ·rename_i h1 _;simp only [F3,h1]
 ·rfl
def L4 (P:Program) (ops:Array Oper) (Q:Act->World->Prop):List Oper->Nat->Act->World->Prop
 |[],_,a,w=>Q a w
 |o::rest,i,a,w=>
  cond (Region.wanted o (yielded ops a.tmps))
   (Kd P a.eval (F1 ops.toList o) (Ep (C1 ops.toList i) fun v w'=>L4 P ops Q rest (i+1) (a.put o.dst v) w') w)
   (L4 P ops Q rest (i+1) (a.put o.dst undef) w)
theorem L5 {P:Program} {ρ:Operand->Value} {o:Oper} {next next':Value->World->Prop} {w:World} (h:Sz P ρ o next w) (hk:∀v w,next v w->next' v w):Sz P ρ o next' w:=by
 have sem:∀ {α:Type} {s:Sem α} {K K':α->World->Prop},Bl P s K w->(∀v w,K v w->K' v w)->Bl P s K' w:=fun⟨v,w',h1,h2⟩ hk=>⟨v,w',h1,hk _ _ h2⟩
 have cal:∀ {g:FuncId} {args:Array Value} {t:TypeId},Calls P g args w (Ret fun v w'=>Fc P t v (next · w'))->Calls P g args w (Ret fun v w'=>Fc P t v (next' · w')):=by
  intro g args t h
  refine h.mono fun e w' h=> ?_
  cases e with
  |returned v=>have h':Fc P t v (next · w'):=h;exact Mq h' fun v h=>hk _ _ h
  |panicked c=>exact h
  |outgrown=>exact h
 have swp:∀ {s:Sem Next},Swp P s (Pl next) w->Swp P s (Pl next') w:=by
  intro s h
  refine Amj h fun v w h=> ?_
  cases v<;>first|exact hk _ _ h|exact h
 obtain⟨dst,op,type,pos,after,guard⟩:=o
 cases op<;>simp only [Sz]at h⊢
 case load t x=>
  split at h
  ·rename_i q _ _ _
   obtain⟨a,rfl⟩:∃a,q=some a:=by cases q with|none=>exact h.elim|some a=>exact⟨a,rfl⟩
   simp only [A3]at h⊢
   split at h
   ·exact CTy.Ax2 h fun v h=>⟨h.1,hk _ _ h.2⟩
   ·revert h
    generalize (List.length _==Js P t)=b
    intro h
    cases b
    ·exact h
    ·exact Lr h fun l h=>⟨h.1,hk _ _ h.2⟩
  ·exact h
 case store t x v=>
  split at h
  ·rename_i q _
   obtain⟨a,rfl⟩:∃a,q=some a:=by cases q with|none=>exact h.elim|some a=>exact⟨a,rfl⟩
   simp only [A3]at h⊢
   split at h
   ·revert h
    generalize (1==Js P t)=b
    intro h
    cases b
    ·exact h
    ·exact Sy h fun h=>⟨h.1,fun w' hw=>hk _ _ (h.2 w' hw)⟩
   ·split at h
    ·revert h
     generalize (List.length _==Js P t)=b
     intro h
     cases b
     ·exact h
     ·exact Sy h fun h=>⟨h.1,fun w' hw=>hk _ _ (h.2 w' hw)⟩
    ·exact h
  ·exact h
 case call c=>
  obtain⟨callee,args,argTypes⟩:=c
  cases callee with
  |value f=>
   simp only [Amm]at h⊢
   split at h
   ·revert h
    generalize Hx P _=b
    intro h
    cases b
    ·obtain⟨v,w',h1,h2⟩:=h;exact⟨v,w',h1,Mq h2 fun v h=>hk _ _ h⟩
    ·exact cal h
   ·exact h
  |builtin b=>
   cases b<;>simp only at h⊢<;>first
    |exact h
    |exact sem h fun v w h=>Mq h fun v h=>hk _ _ h
    |exact sem h fun v w h=>hk _ _ h
  |invoke r m=>
   simp only at h⊢
   split at h
   ·split at h
    ·revert h
     generalize Hx P _=b
     intro h
     cases b
     ·exact h
     ·exact cal h
    ·exact h
   ·exact h
 all_goals first
  |exact h
  |exact swp h
  |exact sem h fun v w h=>Mq h fun v h=>hk _ _ h
  |exact sem h fun v w h=>Ah1 h fun v h=>hk _ _ h
  |exact sem h fun v w h=>Ae7 h fun v h=>hk _ _ h
  |exact sem h fun v w h=>hk _ _ h
  |exact sem h fun v w ⟨a,h1,h2⟩=>⟨a,h1,hk _ _ h2⟩
theorem Ey {P:Program} {ρ:Operand->Value} {o:Oper} {next next':Value->World->Prop} {w:World} (h:Kd P ρ o next w) (hk:∀v w,next v w->next' v w):Kd P ρ o next' w:=by
 unfold Kd at h⊢
 split at h
 ·exact Pur.Aw3 h fun v h=>hk _ _ h
 ·exact L5 h hk
theorem Ak0 {P:Program} {ops:Array Oper} {Q:Exit->Act->World->Prop} :∀(l:List Oper) (i:Nat) (a:Act) (w:World),
 L4 P ops (Q .normal) l i a w->wpList P ops Q l a w:=by
 intro l
 induction l with
 |nil=>intro i a w h;exact h
 |cons o rest ih=>
  intro i a w h
  simp only [L4]at h
  simp only [wpList]
  cases hw:Region.wanted o (yielded ops a.tmps)with
  |true=>
   rw [hw]at h
   simp only [if_true]
   refine .inl (X1 ?_)
   have h1:=Nn (Ey h fun v w' h=>(A2 _ _ _ _).1 h)
   rw [Ta]at h1
   refine Ah2 h1 fun v w' h=>ih _ _ _ h
  |false=>
   rw [hw]at h
   simp only [Bool.false_eq_true,if_false]
   exact ih _ _ _ h
theorem Abd {P:Program} {id:Nat} {ops:Array Oper} {Q:Exit->Act->World->Prop} {a:Act} {w:World}
 (h:L4 P ops (Q .normal) ops.toList 0 a w):(Code.region id ops false).wp P Q a w:=by
 refine wp_region ?_
 have:=Ak0 _ _ _ _ h
 have e:=wpOps_eq_wpList (P:=P) (ops:=ops) (Q:=Q) ops.toList 0 (fun j=>by simp)
 rw [←e]at this
 rw [List.range_eq_range']
 simpa using this
end Go.Vc
