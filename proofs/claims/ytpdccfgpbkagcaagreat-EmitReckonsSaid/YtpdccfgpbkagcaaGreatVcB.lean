/- The conditions of Go code: a library of this claim. -/
import Derived.Test.YtpdccfgpbkagcaaGreatVcA
namespace Go.Vc
theorem C5 {P:Program} {s:Sem Value} {K:Value->World->Prop} {w:World} {next:Value->World->Prop} (h:Bh P s K w) (hk:∀v w,K v w->next v w): C9 P next (Sem.run P (do pure (.value (←s))) w):=by
 obtain⟨v,w',h1,h2⟩:=h;simp only [Sem.run_bind,h1,Result.andThen_ok,Sem.run_pure,C9];exact hk _ _ h2
theorem Qw {P:Program} {s:Sem Unit} {K:Unit->World->Prop} {w:World} {next:Value->World->Prop} (h:Bh P s K w) (hk:∀v w,K v w->next undef w): C9 P next (Sem.run P (do s;pure .skip) w):=by
 obtain⟨v,w',h1,h2⟩:=h;simp only [Sem.run_bind,h1,Result.andThen_ok,Sem.run_pure,C9];exact hk _ _ h2
theorem Jn {P:Program} {s:Sem Next} {next:Value->World->Prop} {w:World} (h:kI P s (N3 next) w):C9 P next (s.run P w):=by
 obtain⟨v,w',h1,h2⟩:=Aul h;rw [h1];cases v<;>simp only [N3]at h2<;>first|exact h2|exact h2.elim
theorem Ha {P:Program} {t:TypeId} {w:World} :∀ {d:TypeDesc},P.underlying t=some d->(isAgg t).run P w= .ok (match d with| .struct _| .array _ _=>true|_=>false) w:=by
 intro d hd;simp only [isAgg,underlying,Sem.run_bind,run_program,Result.andThen_ok,hd,Sem.run_pure];cases d<;>rfl
theorem LX {P:Program} {t:TypeId} {c:cX} (h:Li P t= .one c):∀d,P.underlying t=some d->(match d with| .struct _| .array _ _=>true|_=>false)=false:=by
 intro d hd;unfold Li at h;rw [hd]at h;cases d<;>simp_all
theorem Un {P:Program} {t:TypeId} {cs:List cX} (h:Li P t= .agg cs):∃d,P.underlying t=some d/\(match d with| .struct _| .array _ _=>true|_=>false)=true:=by
 unfold Li at h;split at h
 ·rename_i hd;exact⟨_,hd,rfl⟩
 ·rename_i hd;exact⟨_,hd,rfl⟩
 ·cases h
theorem H6 {P:Program} {t:TypeId} {d:TypeDesc} (h:P.underlying t=some d):∃i,P.info? t=some i:=by
 unfold Program.underlying at h;split at h
 ·rename_i hi;exact⟨_,hi⟩
 ·rename_i hi;exact⟨_,hi⟩
 ·cases h
theorem Yj {P:Program} {t:TypeId} {a:Addr} {w:World} {next:Value->World->Prop}
 (h:match Li P t with
  | .one c=>c.ex fun v=>w.cell? a=some v/\next v w
  | .agg cs=>cond (cs.length==Gm P t) (Jk cs fun l=>Ac w a l/\next (.agg ⟨l⟩) w) False) (hd:P.underlying t≠none):
 ∃v,(loadVar t a).run P w= .ok v w/\next v w:=by
 obtain⟨d,hd⟩:=Option.ne_none_iff_exists'.1 hd;split at h
 ·rename_i c hc;obtain⟨v,h1,h2⟩:=cX.sP h;refine⟨v,?_,h2⟩;simp only [loadVar,Sem.run_bind,Ha hd,LX hc d hd,Result.andThen_ok,Bool.false_eq_true,if_false,run_load,h1]
 ·rename_i cs hc;obtain⟨d',d6,ze⟩:=Un hc;obtain rfl:d=d':=Option.some.inj (hd.symm.trans d6);cases hs:(cs.length==Gm P t)with
  |false=>rw [hs]at h;exact h.elim
  |true=>
   rw [hs]at h;obtain⟨l,hl,h1,h2⟩:=Jl h;obtain⟨i,hi⟩:=H6 hd;have dL:l.length=i.size:=by
    have:=eq_of_beq hs;simp only [Gm,hi]at this;omega
   refine⟨_,?_,h2⟩;simp only [loadVar,Sem.run_bind,Ha hd,ze,Result.andThen_ok,if_true,sizeOf,typeInfo,run_program,hi,Sem.run_pure,loadCells];rw [←dL,Hg l 0 #[] (fun j hj=>by simpa using h1 j hj)];simp
theorem Md (w:World) (a:Addr) (v:Value):Bp w a 0 [v]=w.setCell a v:=by
 simp [Bp,Addr.add]
theorem Kx {P:Program} {g:FuncId} {args:Array Value} {w:World} {next:Value->World->Prop} (hc:Cs P g=true) (h:Calls P g args w (aD next)): C9 P next ((callFunc g args).run P w):=by
 unfold Cs at hc;split at hc
 ·rename_i fn um;simp only [Bool.and_eq_true,Bool.not_eq_true']at hc;have hb:fn.body.isNone=false:=by cases nI:fn.body<;>simp_all
  simp only [callFunc,Sem.run_bind,run_program,Result.andThen_ok,um,hc.2,Bool.false_eq_true,if_false,hb,Sem.run_pure,C9];exact h
 ·cases hc
theorem LY {P:Program} {t:TypeId} {g:FuncId} {args:Array Value} {w:World} {next:Value->World->Prop} (h:Calls P g args w (aD fun v w'=>Dg P t v (next · w'))):Calls P g args w (aD next):=
 h.mono fun e w' h=>by
  cases e with
  |returned v=>have h':Dg P t v (next · w'):=h;exact C4 h'
  |panicked c=>exact h
  |outgrown=>exact h
theorem Ao4 {P:Program} {ρ:Operand->Value} {o:Oper} {next:Value->World->Prop} {w:World} (h:Se P ρ o next w): C9 P next ((execOp ρ o).run P w):=by
 obtain⟨dst,op,type,pos,after,guard⟩:=o;cases op<;>simp only [Se]at h
 case load t x=>
  split at h
  ·rename_i q d ha hd;obtain⟨a,rfl⟩:∃a,q=some a:=by cases q with|none=>exact h.elim|some a=>exact⟨a,rfl⟩
   obtain⟨v,h1,h2⟩:=Yj h (by rw [hd];simp);simp only [execOp,Instr.loadAt,ha,Instr.sureAddr,Sem.run_bind,Sem.run_pure,Result.andThen_ok,h1,C9];exact h2
  ·exact h.elim
 case store t x v=>
  split at h
  ·rename_i q ha;obtain⟨a,rfl⟩:∃a,q=some a:=by cases q with|none=>exact h.elim|some a=>exact⟨a,rfl⟩
   simp only [Ak]at h;split at h
   ·rename_i c hc;cases hs:(1==Gm P t)with
    |false=>rw [hs]at h;exact h.elim
    |true=>
     rw [hs]at h;obtain⟨_,h1,h2,h3⟩:=Sc h;have hv:(ρ v).oneCell'=true:=h1 _ (by simp);have ir:(ρ v).cells= #[ρ v]:=by revert hv;cases ρ v<;>simp [Value.oneCell',Value.cells]
     obtain⟨i,hi⟩:∃i,P.info? t=some i:=by
      have:=eq_of_beq hs;unfold Gm at this;split at this
      ·exact⟨_,by assumption⟩
      ·cases this
     have dL:1=i.size:=by have:=eq_of_beq hs;simpa [Gm,hi] using this
     have dh:=Gn (P:=P) (a:=a) [ρ v] w 0 h1 (fun j hj=>by have:=h2 j (by simpa using hj);simpa using this);simp only [execOp,Instr.storeAt,ha,Instr.sureAddr,storeVar,sizeOf,typeInfo,hi,ir,←dL,dh,Md,Sem.run_bind,Sem.run_pure,Result.andThen_ok,run_program,C9,List.size_toArray,List.length_cons,List.length_nil,Nat.zero_add,ne_eq,not_true_eq_false,if_false];exact h3 _ rfl
   ·rename_i cs hc;split at h
    ·rename_i l hl;cases hs:(cs.length==Gm P t)with
     |false=>rw [hs]at h;exact h.elim
     |true=>
      rw [hs]at h;obtain⟨h0,h1,h2,h3⟩:=Sc h;obtain⟨d',d6,ze⟩:=Un hc;obtain⟨i,hi⟩:=H6 d6;have dL:l.size=i.size:=by have:=eq_of_beq hs;simp only [Gm,hi]at this;simp at h0;omega
      have dh:=Gn (P:=P) (a:=a) l.toList w 0 h1 (fun j hj=>by have:=h2 j (by omega);simpa using this);simp only [execOp,Instr.storeAt,ha,hl,Instr.sureAddr,storeVar,Value.cells,sizeOf,typeInfo,hi,dL,dh,Sem.run_bind,Sem.run_pure,Result.andThen_ok,run_program,C9,ne_eq,not_true_eq_false,if_false];exact h3 _ rfl
    ·exact h.elim
  ·exact h.elim
 case alloc=>exact Jn h
 case box=>exact Jn h
 case buildSlice=>exact Jn h
 case makeMap=>exact Jn h
 case lookup=>exact C5 h fun v w h=>C4 h
 case insert=>exact Qw h fun _ _ h=>h
 case mapUpdate=>exact Qw h fun _ _ h=>h
 case mapEntry=>exact C5 h fun v w h=>C4 h
 case entryStore=>exact Qw h fun _ _ h=>h
 case range=>exact C5 h fun v w ⟨a,h1,h2⟩=>by rw [h1];exact h2
 case next=>exact C5 h fun v w h=>Alh h
 case entry=>exact C5 h fun v w h=>Aho h
 case typeAssert=>exact C5 h fun v w h=>C4 h
 case index=>exact C5 h fun v w h=>C4 h
 case makeSlice=>exact C5 h fun v w h=>C4 h
 case convert=>exact C5 h fun v w h=>C4 h
 case binOp=>exact C5 h fun v w h=>C4 h
 case call c=>
  obtain⟨callee,args,argTypes⟩:=c;cases callee with
  |value f=>
   simp only [Qj]at h;split at h
   ·rename_i g first captured hf
    cases hc:Cs P g with
    |false=>
     rw [hc]at h;obtain⟨v,w',h1,h2⟩:=h;have:C9 P next ((callFunc g (first++args.map ρ++captured)).run P w):=by rw [h1];exact C4 h2
     simpa only [execOp,resolve,hf,Deferred.ofValue,invoke,Sem.run_bind,Sem.run_pure,Result.andThen_ok,Array.append_assoc] using this
    |true=>
     rw [hc]at h;have:=Kx hc (LY h);simpa only [execOp,resolve,hf,Deferred.ofValue,invoke,Sem.run_bind,Sem.run_pure,Result.andThen_ok,Array.append_assoc] using this
   ·exact h.elim
  |builtin b=>
   cases b<;>simp only at h<;>first
    |(exact h.elim)
    |(simp only [execOp,resolve,invoke,builtin]
      simp only [Sem.run_bind,Sem.run_pure,Result.andThen_ok];obtain⟨v,w',h1,h2⟩:=h;simp only [h1,Result.andThen_ok,C9]
      first|exact C4 h2|exact h2)
  |invoke r m=>
   simp only at h;split at h
   ·rename_i t v hr;split at h
    ·rename_i g recv hm;cases hc:Cs P g with
     |false=>rw [hc]at h;exact h.elim
     |true=>
      rw [hc]at h;have:=Kx hc (LY h);have iU:=Yf hm w;have e0:(#[Value.iface t v]++args.map ρ)[0]? =some (Value.iface t v):=by simp [Array.getElem?_append]
      have e1:(#[Value.iface t v]++args.map ρ).extract 1 (#[Value.iface t v]++args.map ρ).size=args.map ρ:=by
       apply Array.ext';simp;rw [List.take_of_length_le (by simp)]
      simp only [execOp,resolve,invoke,hr,callMethod,Sem.run_bind,Sem.run_pure,Result.andThen_ok,e0,e1,run_program,iU];exact this
    ·exact h.elim
   ·exact h.elim
 all_goals exact h.elim
end Go.Vc
