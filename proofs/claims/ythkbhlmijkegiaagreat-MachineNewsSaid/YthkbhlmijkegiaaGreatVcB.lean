/- The conditions of Go code: a library of this claim. -/
import Derived.Test.YthkbhlmijkegiaaGreatVcA
namespace Go.Vc
theorem D3 {P:Program} {s:Sem Value} {K:Value->World->Prop} {w:World} {next:Value->World->Prop} (h:Bd P s K w) (hk:∀v w,K v w->next v w): D6 P next (Sem.run P (do pure (.value (←s))) w):=by
 obtain⟨v,w',h1,h2⟩:=h;simp only [Sem.run_bind,h1,Result.andThen_ok,Sem.run_pure,D6];exact hk _ _ h2
theorem Sn {P:Program} {s:Sem Unit} {K:Unit->World->Prop} {w:World} {next:Value->World->Prop} (h:Bd P s K w) (hk:∀v w,K v w->next undef w): D6 P next (Sem.run P (do s;pure .skip) w):=by
 obtain⟨v,w',h1,h2⟩:=h;simp only [Sem.run_bind,h1,Result.andThen_ok,Sem.run_pure,D6];exact hk _ _ h2
theorem Kf {P:Program} {s:Sem Next} {next:Value->World->Prop} {w:World} (h:jI P s (P1 next) w):D6 P next (s.run P w):=by
 obtain⟨v,w',h1,h2⟩:=VI h;rw [h1];cases v<;>simp only [P1]at h2<;>first|exact h2|exact h2.elim
theorem Hc {P:Program} {t:TypeId} {w:World} :∀ {d:TypeDesc},P.underlying t=some d->(isAgg t).run P w= .ok (match d with| .struct _| .array _ _=>true|_=>false) w:=by
 intro d hd;simp only [isAgg,underlying,Sem.run_bind,run_program,Result.andThen_ok,hd,Sem.run_pure];cases d<;>rfl
theorem HK {P:Program} {t:TypeId} {c:dv} (h:M9 P t= .one c):∀d,P.underlying t=some d->(match d with| .struct _| .array _ _=>true|_=>false)=false:=by
 intro d hd;unfold M9 at h;rw [hd]at h;cases d<;>simp_all
theorem Vw {P:Program} {t:TypeId} {cs:List dv} (h:M9 P t= .agg cs):∃d,P.underlying t=some d/\(match d with| .struct _| .array _ _=>true|_=>false)=true:=by
 unfold M9 at h;split at h
 ·rename_i hd;exact⟨_,hd,rfl⟩
 ·rename_i hd;exact⟨_,hd,rfl⟩
 ·cases h
theorem Jt {P:Program} {t:TypeId} {d:TypeDesc} (h:P.underlying t=some d):∃i,P.info? t=some i:=by
 unfold Program.underlying at h;split at h
 ·rename_i hi;exact⟨_,hi⟩
 ·rename_i hi;exact⟨_,hi⟩
 ·cases h
theorem Z6 {P:Program} {t:TypeId} {a:Addr} {w:World} {next:Value->World->Prop}
 (h:match M9 P t with
  | .one c=>c.ex fun v=>w.cell? a=some v/\next v w
  | .agg cs=>cond (cs.length==Hq P t) (Kb cs fun l=>Ad w a l/\next (.agg ⟨l⟩) w) False) (hd:P.underlying t≠none):
 ∃v,(loadVar t a).run P w= .ok v w/\next v w:=by
 obtain⟨d,hd⟩:=Option.ne_none_iff_exists'.1 hd;split at h
 ·rename_i c hc;obtain⟨v,h1,h2⟩:=dv.qt h;refine⟨v,?_,h2⟩;simp only [loadVar,Sem.run_bind,Hc hd,HK hc d hd,Result.andThen_ok,Bool.false_eq_true,if_false,run_load,h1]
 ·rename_i cs hc;obtain⟨d',dU,wR⟩:=Vw hc;obtain rfl:d=d':=Option.some.inj (hd.symm.trans dU);cases hs:(cs.length==Hq P t)with
  |false=>rw [hs]at h;exact h.elim
  |true=>
   rw [hs]at h;obtain⟨l,hl,h1,h2⟩:=Kc h;obtain⟨i,hi⟩:=Jt hd;have eU:l.length=i.size:=by
    have:=eq_of_beq hs;simp only [Hq,hi]at this;omega
   refine⟨_,?_,h2⟩;simp only [loadVar,Sem.run_bind,Hc hd,wR,Result.andThen_ok,if_true,sizeOf,typeInfo,run_program,hi,Sem.run_pure,loadCells];rw [←eU,H7 l 0 #[] (fun j hj=>by simpa using h1 j hj)];simp
theorem T9 (w:World) (a:Addr) (v:Value):Bi w a 0 [v]=w.setCell a v:=by
 simp [Bi,Addr.add]
theorem L5 {P:Program} {g:FuncId} {args:Array Value} {w:World} {next:Value->World->Prop} (hc:Cd P g=true) (h:Calls P g args w (aG next)): D6 P next ((callFunc g args).run P w):=by
 unfold Cd at hc;split at hc
 ·rename_i fn rV;simp only [Bool.and_eq_true,Bool.not_eq_true']at hc;have hb:fn.body.isNone=false:=by cases tQ:fn.body<;>simp_all
  simp only [callFunc,Sem.run_bind,run_program,Result.andThen_ok,rV,hc.2,Bool.false_eq_true,if_false,hb,Sem.run_pure,D6];exact h
 ·cases hc
theorem HL {P:Program} {t:TypeId} {g:FuncId} {args:Array Value} {w:World} {next:Value->World->Prop} (h:Calls P g args w (aG fun v w'=>Ed P t v (next · w'))):Calls P g args w (aG next):=
 h.mono fun e w' h=>by
  cases e with
  |returned v=>have h':Ed P t v (next · w'):=h;exact D2 h'
  |panicked c=>exact h
  |outgrown=>exact h
theorem VV {P:Program} {ρ:Operand->Value} {o:Oper} {next:Value->World->Prop} {w:World} (h:T8 P ρ o next w): D6 P next ((execOp ρ o).run P w):=by
 obtain⟨dst,op,type,pos,after,guard⟩:=o;cases op<;>simp only [T8]at h
 case load t x=>
  split at h
  ·rename_i q d ha hd;obtain⟨a,rfl⟩:∃a,q=some a:=by cases q with|none=>exact h.elim|some a=>exact⟨a,rfl⟩
   obtain⟨v,h1,h2⟩:=Z6 h (by rw [hd];simp);simp only [execOp,Instr.loadAt,ha,Instr.sureAddr,Sem.run_bind,Sem.run_pure,Result.andThen_ok,h1,D6];exact h2
  ·exact h.elim
 case store t x v=>
  split at h
  ·rename_i q ha;obtain⟨a,rfl⟩:∃a,q=some a:=by cases q with|none=>exact h.elim|some a=>exact⟨a,rfl⟩
   simp only [Ak]at h;split at h
   ·rename_i c hc;cases hs:(1==Hq P t)with
    |false=>rw [hs]at h;exact h.elim
    |true=>
     rw [hs]at h;obtain⟨_,h1,h2,h3⟩:=T6 h;have hv:(ρ v).oneCell'=true:=h1 _ (by simp);have mb:(ρ v).cells= #[ρ v]:=by revert hv;cases ρ v<;>simp [Value.oneCell',Value.cells]
     obtain⟨i,hi⟩:∃i,P.info? t=some i:=by
      have:=eq_of_beq hs;unfold Hq at this;split at this
      ·exact⟨_,by assumption⟩
      ·cases this
     have eU:1=i.size:=by have:=eq_of_beq hs;simpa [Hq,hi] using this
     have eJ:=Hr (P:=P) (a:=a) [ρ v] w 0 h1 (fun j hj=>by have:=h2 j (by simpa using hj);simpa using this);simp only [execOp,Instr.storeAt,ha,Instr.sureAddr,storeVar,sizeOf,typeInfo,hi,mb,←eU,eJ,T9,Sem.run_bind,Sem.run_pure,Result.andThen_ok,run_program,D6,List.size_toArray,List.length_cons,List.length_nil,Nat.zero_add,ne_eq,not_true_eq_false,if_false];exact h3 _ rfl
   ·rename_i cs hc;split at h
    ·rename_i l hl;cases hs:(cs.length==Hq P t)with
     |false=>rw [hs]at h;exact h.elim
     |true=>
      rw [hs]at h;obtain⟨h0,h1,h2,h3⟩:=T6 h;obtain⟨d',dU,wR⟩:=Vw hc;obtain⟨i,hi⟩:=Jt dU;have eU:l.size=i.size:=by have:=eq_of_beq hs;simp only [Hq,hi]at this;simp at h0;omega
      have eJ:=Hr (P:=P) (a:=a) l.toList w 0 h1 (fun j hj=>by have:=h2 j (by omega);simpa using this);simp only [execOp,Instr.storeAt,ha,hl,Instr.sureAddr,storeVar,Value.cells,sizeOf,typeInfo,hi,eU,eJ,Sem.run_bind,Sem.run_pure,Result.andThen_ok,run_program,D6,ne_eq,not_true_eq_false,if_false];exact h3 _ rfl
    ·exact h.elim
  ·exact h.elim
 case alloc=>exact Kf h
 case box=>exact Kf h
 case buildSlice=>exact Kf h
 case makeMap=>exact Kf h
 case lookup=>exact D3 h fun v w h=>D2 h
 case insert=>exact Sn h fun _ _ h=>h
 case mapUpdate=>exact Sn h fun _ _ h=>h
 case mapEntry=>exact D3 h fun v w h=>D2 h
 case entryStore=>exact Sn h fun _ _ h=>h
 case range=>exact D3 h fun v w ⟨a,h1,h2⟩=>by rw [h1];exact h2
 case next=>exact D3 h fun v w h=>VR h
 case entry=>exact D3 h fun v w h=>VT h
 case typeAssert=>exact D3 h fun v w h=>D2 h
 case index=>exact D3 h fun v w h=>D2 h
 case makeSlice=>exact D3 h fun v w h=>D2 h
 case convert=>exact D3 h fun v w h=>D2 h
 case binOp=>exact D3 h fun v w h=>D2 h
 case call c=>
  obtain⟨callee,args,argTypes⟩:=c;cases callee with
  |value f=>
   simp only [Eh]at h;split at h
   ·rename_i g first captured hf
    cases hc:Cd P g with
    |false=>
     rw [hc]at h;obtain⟨v,w',h1,h2⟩:=h;have:D6 P next ((callFunc g (first++args.map ρ++captured)).run P w):=by rw [h1];exact D2 h2
     simpa only [execOp,resolve,hf,Deferred.ofValue,invoke,Sem.run_bind,Sem.run_pure,Result.andThen_ok,Array.append_assoc] using this
    |true=>
     rw [hc]at h;have:=L5 hc (HL h);simpa only [execOp,resolve,hf,Deferred.ofValue,invoke,Sem.run_bind,Sem.run_pure,Result.andThen_ok,Array.append_assoc] using this
   ·exact h.elim
  |builtin b=>
   cases b<;>simp only at h<;>first
    |(exact h.elim)
    |(simp only [execOp,resolve,invoke,builtin]
      simp only [Sem.run_bind,Sem.run_pure,Result.andThen_ok];obtain⟨v,w',h1,h2⟩:=h;simp only [h1,Result.andThen_ok,D6]
      first|exact D2 h2|exact h2)
  |invoke r m=>
   simp only at h;split at h
   ·rename_i t v hr;split at h
    ·rename_i g recv hm;cases hc:Cd P g with
     |false=>rw [hc]at h;exact h.elim
     |true=>
      rw [hc]at h;have:=L5 hc (HL h);have jq:=Z3 hm w;have e0:(#[Value.iface t v]++args.map ρ)[0]? =some (Value.iface t v):=by simp [Array.getElem?_append]
      have e1:(#[Value.iface t v]++args.map ρ).extract 1 (#[Value.iface t v]++args.map ρ).size=args.map ρ:=by
       apply Array.ext';simp;rw [List.take_of_length_le (by simp)]
      simp only [execOp,resolve,invoke,hr,callMethod,Sem.run_bind,Sem.run_pure,Result.andThen_ok,e0,e1,run_program,jq];exact this
    ·exact h.elim
   ·exact h.elim
 all_goals exact h.elim
end Go.Vc
