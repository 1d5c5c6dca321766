/- A part of the proof: conditions of the code, contracts, the plain law. -/
import Derived.Test.YtcakelelfklhdaaGreatDoorM8
import Derived.Test.YtcakelelfklhdaaGreatDoorRows
import Derived.Test.YtcakelelfklhdaaGreatDoorVcF
namespace Go.Proofs.YtcakelelfklhdaaGreatDoor
open Go.Vc Go.Lv Go.Ty Go.Tk Go.Tm
theorem Ara {l:List Nat} {n:Nat} :l.foldr max 0<=n↔∀x∈l,x<=n:=by
 induction l with
 |nil=>simp
 |cons a l ih=>
  rw [List.foldr_cons,Nat.max_le,ih]
  simp
theorem Vt {x:Aj} {ks:List R} (h:18<=x.op) {n:Nat} :(Ar x ks).nd<=n↔∀k∈ks,k.nd<=n:=by
 show ndN x ks<=n↔_
 unfold ndN
 rw [if_neg (by omega),if_neg (by omega),Ara]
 simp
theorem Zq {x:Aj} {ks:List R} (h:x.op≠32) {n:Nat} :(Ar x ks).nb<=n↔∀k∈ks,k.nb<=n:=by
 show nbN x ks<=n↔_
 unfold nbN
 rw [if_neg h,Nat.add_zero,Ara]
 simp
theorem Ahl {x:Aj} {ks:List R} (h:x.op=32) {n:Nat} :(Ar x ks).nb<=n+1↔∀k∈ks,k.nb<=n:=by
 show nbN x ks<=n+1↔_
 unfold nbN
 rw [if_pos h,Nat.add_le_add_iff_right,Ara]
 simp
theorem Ajb (x:Aj) (ks:List R):(Ar x ks).fl.map erG=erG x::(ks.flatMap R.fl).map erG:=rfl
theorem Asm (v:Str) (l:List Ck):kyK (.tk v::l)=kyV v::kyK l:=rfl
theorem D2 (d:Nat) (l:List Ck):kyK (line d l)=kyK l:=by
 unfold line
 rw [Bc,Bc]
 have:kyK (List.replicate d (Ck.sp 9))=[]:=by
  induction d with
  |zero=>rfl
  |succ d ih=>rw [List.replicate_succ];exact ih
 rw [this]
 show kyK l++[]=_
 rw [List.append_nil]
theorem H4 (d:Nat) (f:List Ck) (r:R):kyK (Bd d f r)=kyK f++(kyV sLB::(kyK (r.st (d+1))++[kyV sRB])):=by
 unfold Bd
 rw [Bc,D2,Bc,Bc,D2,List.append_assoc]
 rfl
theorem Mz (d:Nat) (r:R) (l:List R):kyK (Bf d (r::l))=kyK (r.st d)++kyK (Bf d l):=Bc _ _
structure Ro (r:R):Prop where
 nb:r.nb=0
 beg:∃v l,kyK r.tm=kyV v::l/\kdS v=1
 nx:ln r.tm=1\/∃a l,kyK r.tm=a::kyV sLS::l
 par:∀ {toks:List Aq} {p:Nat},Ks toks p (kyK r.tm)->isF toks ((p+ln r.tm:Nat):Int) sLS=false->St (r.nd<=24) (r.fl.map erG) 1 (p+ln r.tm) (So TM toks p)
structure Aop (r:R):Prop where
 nb:r.nb=0
 nd:r.nd=0
 ex:∃s,r.tm=[.tk s]/\Tk.Ba s=true/\r.fl.map erG=[(39,s,0,0)]
structure StP (r:R):Prop where
 beg:∀d,∃v l,kyK (r.st d)=kyV v::l/\v≠sRB/\v≠Dq
 par:∀ {toks:List Aq} {p:Nat} (k d:Nat),Ks toks p (kyK (r.st d))->isF toks ((p+ln (r.st d):Nat):Int) Dq=false->St (r.nd<=24/\r.nb<=k) (r.fl.map erG) 1 (p+ln (r.st d)) (Kh TM toks (Eo TM toks k) p)
def Ph (r:R):Prop:=∀ {toks:List Aq} {p:Nat} (k d:Nat),Ks toks p (kyV sLB::(kyK (r.st d)++[kyV sRB]))->St (r.nd<=24/\r.nb<=k) (r.fl.map erG) 1 (p+(ln (r.st d)+2)) (Eo TM toks k p)
structure ClP (r:R):Prop where
 beg:∀d,∃v l,kyK (r.st d)=kyV v::l/\v≠sRB
 par:∀ {toks:List Aq} {p:Nat} (k d:Nat),Ks toks p (kyK (r.st d))->St (r.nd<=24/\r.nb<=k) (r.fl.map erG) 1 (p+ln (r.st d)) (Dy TM toks (Eo TM toks k) p)
structure Aer (r:R):Prop where
 beg:∃v l,kyK (r.st 0)=kyV v::l/\kdS v=3
 par:∀ {toks:List Aq} {p:Nat},Ks toks p (kyK (r.st 0))->St (r.nd<=24/\r.nb<=24) (r.fl.map erG) 1 (p+ln (r.st 0)) (Ln TM toks p)
structure PQ (c:UInt8) (r:R):Prop where
 tm:c=69->TmP r/\r.nb=0
 ref:c=82->Ro r
 prm:c=80->Aop r
 st:c=83->StP r
 blk:c=66->Ph r
 cl:c=67->ClP r
 dcl:c=68->Aer r
section
variable {toks:List Aq} {ok:Prop} {L:List Er} {j p:Nat} {c:Cur}
theorem Wd {r:R} (k d:Nat) (h:St ok L j p c) (hr:Ph r) (hs:Ks toks p (kyV sLB::(kyK (r.st d)++[kyV sRB]))):St (ok/\(r.nd<=24/\r.nb<=k)) (L++r.fl.map erG) (j+1) (p+(ln (r.st d)+2)) (inC (Eo TM toks k) c):=by
 unfold inC
 refine O0 (k':=1) h fun o=> ?_
 rw [(h.1 o).2.2.2]
 exact hr k d hs
theorem G5 {x:Aj} {ks:List R} {n q:Nat} (hop:18<=x.op/\x.op≠32) (h:St ok ((x.op,x.name,x.n,wr j)::L) 1 p c) (hj:wr j=x.kids) (hL:L=(ks.flatMap R.fl).map erG) (hok:ok↔∀k∈ks,k.nd<=24/\k.nb<=n) (hp:p=q):
 St ((Ar x ks).nd<=24/\(Ar x ks).nb<=n) ((Ar x ks).fl.map erG) 1 q c:=by
 refine(h.eq (by rw [Ajb,hL,hj];rfl) hp).iff ?_
 rw [Vt hop.1,Zq hop.2,hok]
 exact⟨fun h=>⟨fun k hk=>(h k hk).1,fun k hk=>(h k hk).2⟩,fun h k hk=>⟨h.1 k hk,h.2 k hk⟩⟩
theorem Uh {ts:List Tok} {p:Nat} {ks:List Key} (h:Ug ts p ks):ks.length<=ts.length:=by
 obtain⟨r,h⟩:=h
 have:=congrArg List.length h
 simp at this;omega
theorem Aes {α:Type} (N:α->Nat) (f:α->List Key) (hN:∀a,(f a).length=N a):∀l:List α,(l.flatMap f).length=(l.map N).foldr (·+·) 0
 |[]=>rfl
 |a::l=>by rw [List.flatMap_cons,List.length_append,hN,Aes N f hN l];rfl
theorem Ab2 (d:Nat):∀l:List R,kyK (Bf d l)=l.flatMap fun r=>kyK (r.st d)
 |[]=>rfl
 |r::l=>by rw [Mz,Ab2 d l];rfl
theorem Akk (d:Nat) (l:List R):ln (Bf d l)=(l.map fun r=>ln (r.st d)).foldr (·+·) 0:=by
 unfold ln
 rw [Ab2]
 exact Aes (fun r=>(kyK (r.st d)).length) _ (fun _=>rfl) l
theorem M0 {d:Nat} :∀ {l:List R},(∀r∈l,1<=ln (r.st d))->l.length<=ln (Bf d l)
 |[],_=>Nat.zero_le _
 |r::l,h=>by
  have:=h r (by simp)
  have ih:=M0 (d:=d) (l:=l) fun r hr=>h r (by simp [hr])
  unfold ln at*
  rw [Mz,List.length_append,List.length_cons];omega
theorem Ajc {l:List Ck} {v:Str} {m:List Key} (h:kyK l=kyV v::m):1<=ln l:=by unfold ln;rw [h];simp
theorem Arb {ks:List R} (hk:∀r∈ks,StP r) (k d:Nat) (h:St ok L j p c) (hs:Ks toks p (kyK (Bf d ks)++[kyV sRB])):
 Kt toks (p+ln (Bf d ks))=kyV sRB/\St (ok/\∀r∈ks,r.nd<=24/\r.nb<=k) (L++(ks.flatMap R.fl).map erG) (j+ks.length) (p+ln (Bf d ks)) (Ej (fun c=>decide (c.e_=0)&& !isF toks c.at_ sRB) (fun c=>E6 c (Kh TM toks (Eo TM toks k) c.at_)) (fuel toks) c):=by
 have hlen:ks.length<fuel toks:=by
  have h1:=Uh hs
  have h2:=M0 (d:=d) (l:=ks) fun r hr=>by
   obtain⟨v,l,e,_⟩:=(hk r hr).beg d
   exact Ajc e
  unfold ln at h2
  rw [List.length_append,List.length_map]at h1
  unfold fuel;omega
 obtain⟨p',e1,e2,e3⟩:=Q6 (g:=fun c=>decide (c.e_=0)&& !isF toks c.at_ sRB) (b:=fun c=>E6 c (Kh TM toks (Eo TM toks k) c.at_))
  (fun r:R=>r.fl.map erG) (fun r=>ln (r.st d)) (fun r=>r.nd<=24/\r.nb<=k) (fun p l=>(∀r∈l,StP r)/\Ks toks p (kyK (Bf d l)++[kyV sRB]))
  (fun ok L j p c h hs=>by
   by_cases o:ok
   ·obtain⟨h1,_,_,h4⟩:=h.1 o
    have:isF toks (p:Int) sRB=true:=Bh (Al hs.2).1 (.inr (by decide))
    rw [h4,this];simp
   ·rw [h.2 o];simp)
  (fun c hc=>by simp [hc])
  (fun ok L j p c r l h hs=>by
   obtain⟨hq,hs⟩:=hs
   rw [Mz,List.append_assoc]at hs
   obtain⟨v,m,e,hv,_⟩:=(hq r (by simp)).beg d
   obtain⟨s1,s2⟩:=C4 hs
   have hg:isF toks (p:Int) sRB=false:=by
    rw [e]at s1
    exact Jm (Al s1).1 hv
   have hn:isF toks ((p+ln (r.st d):Nat):Int) Dq=false:=by
    cases l with
    |nil=>exact Jm (Al s2).1 (by decide)
    |cons r' l'=>
     obtain⟨v',m',e',_,hv'⟩:=(hq r' (by simp)).beg d
     rw [Mz,e']at s2
     exact Jm (Al s2).1 hv'
   refine⟨fun o=> ?_,?_,fun r hr=>hq r (by simp [hr]),s2⟩
   ·obtain⟨h1,_,_,h4⟩:=h.1 o
    rw [h1,h4,hg];rfl
   ·refine O0 (k':=1) h fun o=> ?_
    rw [(h.1 o).2.2.2]
    exact(hq r (by simp)).par k d s1 hn)
  ks (fuel toks) ok L j p c hlen h ⟨hk,hs⟩
 rw [←Akk]at e1
 subst e1
 refine⟨(Al e2.2).1,e3.eq ?_ rfl⟩
 rw [List.map_flatMap]
theorem Aoq {k:Nat} {a:Int} {ks:List R} (hlen:ks.length=k) (hk:∀r∈ks,StP r):Ph (Ar ⟨32,[],0,wr k,a⟩ ks):=by
 intro toks p n d hs
 obtain⟨t0,hs⟩:=Al hs
 have hs:Ks toks (p+1) (kyK (Bf d ks)++[kyV sRB]):=hs
 cases n with
 |zero=>
  refine⟨fun o=> ?_,fun _=> ?_⟩
  ·have:(Ar ⟨32,[],0,wr k,a⟩ ks).nb=(ks.map R.nb).foldr max 0+1:=rfl
   omega
  ·unfold Eo
   rw [if_pos (Bh t0 (.inr (by decide)))]
 |succ n=>
  unfold Eo Ow
  have h1:=Bm (Cn p) (Bh t0 (.inr (by decide)))
  obtain⟨t1,h2⟩:=Arb hk n d h1 hs
  have h3:=Bm h2 (Bh t1 (.inr (by decide)))
  refine((C6 (o:=32) (s:=[]) (n:=0) h3 fun _=>⟨rfl,rfl,rfl⟩).eq ?_ ?_).iff ?_
  ·rw [Ajb,Nat.zero_add,hlen,List.nil_append];rfl
  ·show p+1+ln (Bf d ks)+1=p+(ln (Bf d ks)+2);omega
  ·rw [Vt (show(18:Int)<=32 by decide),Ahl rfl]
   exact⟨fun h=>⟨fun k hk=>(h.2 k hk).1,fun k hk=>(h.2 k hk).2⟩,fun h=>⟨trivial,fun k hk=>⟨h.1 k hk,h.2 k hk⟩⟩⟩
end
end Go.Proofs.YtcakelelfklhdaaGreatDoor
namespace Go.Proofs.YtcakelelfklhdaaGreatDoor
open Go.Vc Go.Lv Go.Ty Go.Tk Go.Tm
section
variable {toks:List Aq} {ok:Prop} {L:List Er} {j p:Nat} {c:Cur}
theorem Ajd {v s:Str} (h:Kt toks p=kyV v) (hk:kdS v=1):isF toks (p:Int) s=false:=by
 obtain⟨h1,_,_⟩:=Hw h
 unfold isF
 rw [h1,hk];rfl
theorem Du {v:Str} (h:Kt toks p=kyV v) (hn:Tk.Ba v=true):(B6 toks (p:Int)).kind=1:=(Hw h).1.trans (Fb hn).2
theorem Aor:((p:Int)+1)=((p+1:Nat):Int):=by omega
theorem Atz {s:Str} {a:Int} (hn:Tk.Ba s=true):Ro (Ar ⟨33,s,0,0,a⟩ []) where
 nb:=rfl
 beg:=⟨s,[],rfl,(Fb hn).2⟩
 nx:= .inl rfl
 par:=fun {toks p} hs hF=>by
  have hs:Ks toks p [kyV s]:=hs
  have t0:=(Al hs).1
  have h1:=Kb (Cn p) (Du t0 hn)
  unfold So R2
  have h2:=Akj (a:=Az toks sRS (Eg TM toks (Az toks sLS (Dh toks (Aw p))))) h1 hF
  refine((C6 (o:=33) (s:=s) (n:=0) h2 fun _=>⟨rfl,(Hq (Cn p) (Du t0 hn) trivial).trans (Hw t0).2.1,rfl⟩).eq rfl rfl).iff ?_
  exact⟨fun _=>Nat.zero_le _,fun _=>trivial⟩
theorem At0 {s:Str} {a:Int} (hn:Tk.Ba s=true) {k:R} (hk:TmP k) (hb:k.nb=0):Ro (Ar ⟨33,s,0,1,a⟩ [k]) where
 nb:=by
  show max k.nb 0+0=0
  rw [hb];rfl
 beg:=⟨s,_,rfl,(Fb hn).2⟩
 nx:= .inr ⟨_,_,rfl⟩
 par:=fun {toks p} hs _=>by
  have e:kyK (Ar ⟨33,s,0,1,a⟩ [k]).tm=kyV s::kyV sLS::(kyK k.tm++[kyV sRS]):=by
   show kyK (.tk s::.tk sLS::(k.tm++[.tk sRS]))=_
   rw [Asm,Asm,Bc];rfl
  have hl:ln (Ar ⟨33,s,0,1,a⟩ [k]).tm=ln k.tm+3:=by unfold ln;rw [e];simp
  rw [hl]
  rw [e]at hs
  obtain⟨t0,hs⟩:=Al hs
  obtain⟨t1,hs⟩:=Al hs
  obtain⟨hT,hs⟩:=C4 hs
  have t2:Kt toks (p+1+1+ln k.tm)=kyV sRS:=(Al hs).1
  have h1:=Kb (Cn p) (Du t0 hn)
  have h2:=Bm h1 (Bh t1 (.inr (by decide)))
  have h3:=Hu h2 hk hT (Kk t2 (by decide))
  have h4:=Bm h3 (Bh t2 (.inr (by decide)))
  unfold So R2
  have h5:=Aon (b:=Dh toks (Aw p)) h1 (Bh t1 (.inr (by decide))) h4 (fun o=>absurd trivial o) (fun o=>o.1)
  refine((C6 (o:=33) (s:=s) (n:=0) h5 fun _=>⟨rfl,(Hq (Cn p) (Du t0 hn) trivial).trans (Hw t0).2.1,rfl⟩).eq ?_ ?_).iff ?_
  ·rw [Ajb];show _::([]++k.fl.map erG)=_::(k.fl++[]).map erG;rw [List.append_nil];rfl
  ·omega
  ·rw [Vt (show(18:Int)<=33 by decide)];simp
theorem Aos {r:R} (hr:Ro r) {v:Str} (hv:v≠sEq) (hs:Ks toks p (kyK r.tm++[kyV v])):isF toks ((p:Int)+1) sEq=false:=by
 rw [Aor]
 rcases hr.nx with h|⟨a,l,h⟩
 ·obtain⟨_,h2⟩:=C4 hs
  unfold ln at h
  rw [h]at h2
  exact Jm (Al h2).1 hv
 ·rw [h]at hs
  exact Jm (Al (Al hs).2).1 (by decide)
structure Ab3 (ok:Prop) (L:List Er) (j p:Nat) (op:Int) (s:Str) (x:Comm):Prop where
 st:St ok L j p x.c
 op:ok->x.op=op/\x.name=s
theorem Ab4 {r t:R} (a b:Int) (h:St ok L j p c) (hr:Ro r) (ht:TmP t) (hs:Ks toks p (kyK r.tm++(kyV C5::kyK t.tm))) (hm:Cp (toks.map tT) (p+ln r.tm+1+ln t.tm)=0):
 Ab3 ((ok/\r.nd<=24)/\t.nd<=24) (L++r.fl.map erG++t.fl.map erG) (j+1+1) (p+ln r.tm+1+ln t.tm) a [] (Gi TM toks a b c):=by
 obtain⟨hR,hs⟩:=C4 hs
 obtain⟨t1,hT⟩:=Al hs
 have t1:Kt toks (p+ln r.tm)=kyV C5:=t1
 have h1:St (ok/\r.nd<=24) (L++r.fl.map erG) (j+1) (p+ln r.tm) (E6 c (So TM toks c.at_)):=O0 (k':=1) h fun o=>by
  rw [(h.1 o).2.2.2]
  exact hr.par hR (Jm t1 (by decide))
 have h2:=Bm h1 (Bh t1 (.inr (by decide)))
 have h3:=Hu h2 ht hT hm
 unfold Gi
 by_cases o:ok
 ·rw [if_pos (h.1 o).1]
  unfold Ox
  by_cases o2:ok/\r.nd<=24
  ·rw [Hz h1 o2,if_pos (Bh t1 (.inr (by decide)))]
   exact⟨h3,fun _=>⟨rfl,rfl⟩⟩
  ·rw [My h1 o2,if_neg (by simp)]
   exact⟨⟨fun o3=>absurd o3.1 o2,fun _=>Aoo (Aq9 (h1.2 o2))⟩,fun o3=>absurd o3.1 o2⟩
 ·rw [if_neg (by rw [h.2 o];decide)]
  exact⟨⟨fun o3=>absurd o3.1.1 o,fun _=>h.2 o⟩,fun o3=>absurd o3.1.1 o⟩
theorem Ab5 {r:R} {s:Str} (a b:Int) (h:St ok L j p c) (hr:Ro r) (hn:Tk.Ba s=true) (hs:Ks toks p (kyK r.tm++(kyV Gt::[kyV s]))):
 Ab3 (ok/\r.nd<=24) (L++r.fl.map erG) (j+1) (p+ln r.tm+1+1) b s (Gi TM toks a b c):=by
 obtain⟨hR,hs⟩:=C4 hs
 obtain⟨t1,hT⟩:=Al hs
 have t1:Kt toks (p+ln r.tm)=kyV Gt:=t1
 have t2:=(Al hT).1
 have h1:St (ok/\r.nd<=24) (L++r.fl.map erG) (j+1) (p+ln r.tm) (E6 c (So TM toks c.at_)):=O0 (k':=1) h fun o=>by
  rw [(h.1 o).2.2.2]
  exact hr.par hR (Jm t1 (by decide))
 have h2:=Bm h1 (Bh t1 (.inr (by decide)))
 have h3:=Kb h2 (Du t2 hn)
 unfold Gi
 by_cases o:ok
 ·rw [if_pos (h.1 o).1]
  unfold Ox
  have e:Ez toks C5 (E6 c (So TM toks c.at_))=false:=by
   by_cases o2:ok/\r.nd<=24
   ·rw [Hz h1 o2,Jm t1 (by decide)]
   ·exact My h1 o2
  rw [e,if_neg (by simp)]
  exact⟨h3,fun o2=>⟨rfl,(Hq h2 (Du t2 hn) o2).trans (Hw t2).2.1⟩⟩
 ·rw [if_neg (by rw [h.2 o];decide)]
  exact⟨⟨fun o3=>absurd o3.1 o,fun _=>h.2 o⟩,fun o3=>absurd o3.1 o⟩
structure Aet (l:List Ck):Prop where
 ex:∃v m,kyK l=kyV v::m/\(kdS v=1\/kdS v=2\/v=sLP\/v=[45]\/v=[33])
theorem Asn {r:R} (h:Aet r.tm) {s:Str} (hs:Ks toks p (kyK r.tm)) (h1:s≠sLP/\s≠[45]/\s≠[33]):isF toks (p:Int) s=false:=by
 obtain⟨v,m,e,hv⟩:=h.ex
 rw [e]at hs
 have t0:=(Al hs).1
 rcases hv with h|h|rfl|rfl|rfl
 ·exact Ajd t0 h
 ·obtain⟨k1,_,_⟩:=Hw t0
  unfold isF
  rw [k1,h];rfl
 ·exact Jm t0 fun e=>h1.1 e.symm
 ·exact Jm t0 fun e=>h1.2.1 e.symm
 ·exact Jm t0 fun e=>h1.2.2 e.symm
theorem Aot {r:R} (h:Aet r.tm) (n:Nat):Aet (Br r n):=by
 unfold Br
 split
 ·exact⟨sLP,_,rfl,.inr (.inr (.inl rfl))⟩
 ·exact h
theorem Arc {a:List Ck} (b:List Ck) (h:Aet a):Aet (a++b):=by
 obtain⟨v,m,e,hv⟩:=h.ex
 exact⟨v,m++kyK b,by rw [Bc,e];rfl,hv⟩
def At3 (c:UInt8) (r:R):Prop:=c=69->Aet r.tm
theorem Al8 (c:UInt8) (x:Aj) (ds:List UInt8) (ks:List R) (h:OkN c x ds) (hk:F2 At3 ds ks):At3 c (Ar x ks):=by
 intro hc
 cases h with
 |num n a h0 h1=>exact⟨Lg n,[],rfl,.inr (.inl (Vq h0 h1).kd)⟩
 |name s a hn=>exact⟨s,[],rfl,.inl (Fb hn).2⟩
 |un op a ho=>rcases ho with rfl|rfl
              ·exact⟨[45],_,rfl,.inr (.inr (.inr (.inl rfl)))⟩
              ·exact⟨[33],_,rfl,.inr (.inr (.inr (.inr rfl)))⟩
 |bin op a h5 h17=>
  obtain⟨k,k',rfl,hq,hq'⟩:=hk.two
  have htm:(Ar ⟨op,[],0,2,a⟩ [k,k']).tm=Br k (Cc op)++(sps::.tk (sgO op)::sps::Br k' (B4 op+1)):=by
   show tmN ⟨op,[],0,2,a⟩ [k,k']=_
   unfold tmN
   dsimp only
   rw [if_neg (by omega),if_neg (by omega),if_neg (by omega),if_neg (by omega)]
   rfl
  rw [htm]
  exact Arc _ (Aot (hq rfl) _)
 |_=>exact absurd hc (by decide)
theorem Jn {blk:Int->Cur} (h:(B6 toks (p:Int)).kind=3):Kh TM toks blk p=A8 TM toks blk p:=by
 unfold Kh
 rw [if_neg (by rw [h];decide),if_pos h]
theorem M1 {v:Str} (h:Kt toks p=kyV v) (hk:kdS v=3):(B6 toks (p:Int)).kind=3/\(B6 toks (p:Int)).text=v:=⟨(Hw h).1.trans hk,(Hw h).2.1⟩
theorem Ui {s:Str} (hn:Tk.Ba s=true):s≠sRB/\s≠Dq/\s≠sEq:=by
 refine⟨?_,?_,?_⟩<;>(rintro rfl;revert hn;decide)
theorem At4 {s:Str} {a:Int} {t:R} (hn:Tk.Ba s=true) (ht:TmP t) (hb:t.nb=0):StP (Ar ⟨18,s,0,1,a⟩ [t]):=by
 have e:∀d,kyK ((Ar ⟨18,s,0,1,a⟩ [t]).st d)=kyV Pg::kyV s::kyV sEq::(kyK t.tm++[kyV As]):=fun d=>by
  show kyK (line d (.tk Pg::sps::.tk s::sps::.tk sEq::sps::(t.tm++[.tk As])))=_
  rw [D2];show _::_::_::kyK (t.tm++[.tk As])=_;rw [Bc];rfl
 refine⟨fun d=>⟨Pg,_,e d,by decide,by decide⟩,fun {toks p} k d hs _=> ?_⟩
 have hl:ln ((Ar ⟨18,s,0,1,a⟩ [t]).st d)=ln t.tm+4:=by unfold ln;rw [e];simp
 rw [hl];rw [e]at hs
 obtain⟨t0,hs⟩:=Al hs
 obtain⟨t1,hs⟩:=Al hs
 obtain⟨t2,hs⟩:=Al hs
 obtain⟨hT,hs⟩:=C4 hs
 have t3:Kt toks (p+1+1+1+ln t.tm)=kyV As:=(Al hs).1
 obtain⟨w1,w2⟩:=M1 t0 (by decide)
 have ew:A8 TM toks (Eo TM toks k) p=Cq (Az toks As (Eg TM toks (Az toks sEq (Dh toks (Az toks Pg (Aw p)))))) (nd toks 18 (Ba toks (Az toks Pg (Aw p))) 0 p):=by unfold A8;rw [w2];rfl
 rw [Jn w1,ew]
 have h1:=Bm (Cn p) (Bh t0 (.inl (by decide)))
 have h2:=Kb h1 (Du t1 hn)
 have h3:=Bm h2 (Bh t2 (.inr (by decide)))
 have h4:=Hu h3 ht hT (Kk t3 (by decide))
 have h5:=Bm h4 (Bh t3 (.inr (by decide)))
 have h6:=C6 (o:=18) (s:=s) (n:=0) (x:=nd toks 18 (Ba toks (Az toks Pg (Aw p))) 0 p) h5 fun _=>⟨rfl,(Hq h1 (Du t1 hn) trivial).trans (Hw t1).2.1,rfl⟩
 exact G5 (x:=⟨18,s,0,1,a⟩) (ks:=[t]) (show(18:Int)<=18/\(18:Int)≠32 by decide) h6 Aja (by simp) (by simp [hb]) (by omega)
theorem At5 {s:Str} {a:Int} {t:R} (hn:Tk.Ba s=true) (ht:TmP t) (hbg:Aet t.tm) (hb:t.nb=0):StP (Ar ⟨19,s,0,1,a⟩ [t]):=by
 have e:∀d,kyK ((Ar ⟨19,s,0,1,a⟩ [t]).st d)=kyV s::kyV sEq::(kyK t.tm++[kyV As]):=fun d=>by
  show kyK (line d (.tk s::sps::.tk sEq::sps::(t.tm++[.tk As])))=_
  rw [D2];show _::_::kyK (t.tm++[.tk As])=_;rw [Bc];rfl
 refine⟨fun d=>⟨s,_,e d,(Ui hn).1,(Ui hn).2.1⟩,fun {toks p} k d hs _=> ?_⟩
 have hl:ln ((Ar ⟨19,s,0,1,a⟩ [t]).st d)=ln t.tm+3:=by unfold ln;rw [e];simp
 rw [hl];rw [e]at hs
 obtain⟨t0,hs⟩:=Al hs
 obtain⟨t1,hs⟩:=Al hs
 obtain⟨hT,hs⟩:=C4 hs
 have t3:Kt toks (p+1+1+ln t.tm)=kyV As:=(Al hs).1
 unfold Kh
 rw [if_pos (Du t0 hn),Aor,if_pos (Bh t1 (.inr (by decide)))]
 unfold Vi
 have h1:=Kb (Cn p) (Du t0 hn)
 have h2:=Bm h1 (Bh t1 (.inr (by decide)))
 have h3:=Hu h2 ht hT (Kk t3 (by decide))
 have h4:=Bm h3 (Bh t3 (.inr (by decide)))
 have hr:isF toks ((p+1+1:Nat):Int) Gq=false:=by
  exact Asn hbg hT (by decide)
 rw [Hz h2 trivial,hr,if_neg (by simp)]
 have h6:=C6 (o:=19) (s:=s) (n:=0) (x:=nd toks 19 (Ba toks (Aw p)) 0 p) h4 fun _=>⟨rfl,(Hq (Cn p) (Du t0 hn) trivial).trans (Hw t0).2.1,rfl⟩
 exact G5 (x:=⟨19,s,0,1,a⟩) (ks:=[t]) (show(18:Int)<=19/\(19:Int)≠32 by decide) h6 Aja (by simp) (by simp [hb]) (by omega)
theorem Ard {s:Str} {a:Int} {t:R} (hn:Tk.Ba s=true) (ht:TmP t) (hb:t.nb=0):StP (Ar ⟨20,s,0,1,a⟩ [t]):=by
 have e:∀d,kyK ((Ar ⟨20,s,0,1,a⟩ [t]).st d)=kyV s::kyV sEq::kyV Gq::kyV sLP::(kyK t.tm++[kyV sRP,kyV As]):=fun d=>by
  show kyK (line d (.tk s::sps::.tk sEq::sps::.tk Gq::.tk sLP::(t.tm++[.tk sRP,.tk As])))=_
  rw [D2];show _::_::_::_::kyK (t.tm++[.tk sRP,.tk As])=_;rw [Bc];rfl
 refine⟨fun d=>⟨s,_,e d,(Ui hn).1,(Ui hn).2.1⟩,fun {toks p} k d hs _=> ?_⟩
 have hl:ln ((Ar ⟨20,s,0,1,a⟩ [t]).st d)=ln t.tm+6:=by unfold ln;rw [e];simp
 rw [hl];rw [e]at hs
 obtain⟨t0,hs⟩:=Al hs
 obtain⟨t1,hs⟩:=Al hs
 obtain⟨t2,hs⟩:=Al hs
 obtain⟨t3,hs⟩:=Al hs
 obtain⟨hT,hs⟩:=C4 hs
 obtain⟨t4,hs⟩:=Al hs
 obtain⟨t5,_⟩:=Al hs
 have t4:Kt toks (p+1+1+1+1+ln t.tm)=kyV sRP:=t4
 have t5:Kt toks (p+1+1+1+1+ln t.tm+1)=kyV As:=t5
 unfold Kh
 rw [if_pos (Du t0 hn),Aor,if_pos (Bh t1 (.inr (by decide)))]
 unfold Vi
 have h1:=Kb (Cn p) (Du t0 hn)
 have h2:=Bm h1 (Bh t1 (.inr (by decide)))
 have h3:=Bm h2 (Bh t2 (.inl (by decide)))
 have h4:=Bm h3 (Bh t3 (.inr (by decide)))
 have h5:=Hu h4 ht hT (Kk t4 (by decide))
 have h6:=Bm h5 (Bh t4 (.inr (by decide)))
 have h7:=Bm h6 (Bh t5 (.inr (by decide)))
 rw [Hz h2 trivial,Bh t2 (.inl (by decide)),if_pos rfl]
 have h8:=C6 (o:=20) (s:=s) (n:=0) (x:=nd toks 20 (Ba toks (Aw p)) 0 p) h7 fun _=>⟨rfl,(Hq (Cn p) (Du t0 hn) trivial).trans (Hw t0).2.1,rfl⟩
 exact G5 (x:=⟨20,s,0,1,a⟩) (ks:=[t]) (show(18:Int)<=20/\(20:Int)≠32 by decide) h8 Aja (by simp) (by simp [hb]) (by omega)
end
end Go.Proofs.YtcakelelfklhdaaGreatDoor
namespace Go.Proofs.YtcakelelfklhdaaGreatDoor
open Go.Vc Go.Lv Go.Ty Go.Tk Go.Tm
section
variable {toks:List Aq} {ok:Prop} {L:List Er} {j p:Nat} {c:Cur}
theorem Are {a:Int} {r t:R} (hr:Ro r) (ht:TmP t) (hb:t.nb=0):StP (Ar ⟨21,[],0,2,a⟩ [r,t]):=by
 have e:∀d,kyK ((Ar ⟨21,[],0,2,a⟩ [r,t]).st d)=kyK r.tm++(kyV C5::(kyK t.tm++[kyV As])):=fun d=>by
  show kyK (line d (r.tm++(sps::.tk C5::sps::(t.tm++[.tk As]))))=_
  rw [D2,Bc];show _++(_::kyK (t.tm++[.tk As]))=_;rw [Bc];rfl
 obtain⟨v,m,ev,hv⟩:=hr.beg
 refine⟨fun d=>⟨v,m++(kyV C5::(kyK t.tm++[kyV As])),by rw [e,ev];rfl,?_,?_⟩,fun {toks p} k d hs _=> ?_⟩
 ·rintro rfl;exact absurd hv (by decide)
 ·rintro rfl;exact absurd hv (by decide)
 have hl:ln ((Ar ⟨21,[],0,2,a⟩ [r,t]).st d)=ln r.tm+1+ln t.tm+1:=by unfold ln;rw [e];simp;omega
 rw [hl];rw [e]at hs
 have hs0:=hs
 have t0:Kt toks p=kyV v:=by rw [ev]at hs0;exact(Al hs0).1
 have hq:isF toks ((p:Int)+1) sEq=false:=Aos hr (v:=C5) (by decide) (by
  have:=C4 (a:=kyK r.tm++[kyV C5]) (b:=kyK t.tm++[kyV As]) (by rw [List.append_assoc];exact hs)
  exact this.1)
 have hs1:Ks toks p ((kyK r.tm++(kyV C5::kyK t.tm))++[kyV As]):=by rw [List.append_assoc];exact hs
 obtain⟨hs2,hs3⟩:=C4 hs1
 have t3:Kt toks (p+ln r.tm+1+ln t.tm)=kyV As:=by
  have:=(Al hs3).1
  rw [show p+(kyK r.tm++kyV C5::kyK t.tm).length=p+ln r.tm+1+ln t.tm by unfold ln;simp;omega]at this
  exact this
 have hc:=Ab4 (c:=Aw p) 21 22 (Cn p) hr ht hs2 (Kk t3 (by decide))
 unfold Kh
 rw [if_pos ((Hw t0).1.trans hv),if_neg (by rw [hq];simp)]
 have h5:=Bm hc.st (Bh t3 (.inr (by decide)))
 have h6:=C6 (o:=21) (s:=[]) (n:=0) (x:=nd toks (Gi TM toks 21 22 (Aw p)).op (Gi TM toks 21 22 (Aw p)).name 0 p) h5 fun o=>⟨(hc.op o).1,(hc.op o).2,rfl⟩
 exact G5 (x:=⟨21,[],0,2,a⟩) (ks:=[r,t]) (show(18:Int)<=21/\(21:Int)≠32 by decide) h6 (show wr 2=2 by decide) (by simp) (by simp [hb,hr.nb]) (by omega)
theorem Arf {a:Int} {s:Str} {r:R} (hn:Tk.Ba s=true) (hr:Ro r):StP (Ar ⟨22,s,0,1,a⟩ [r]):=by
 have e:∀d,kyK ((Ar ⟨22,s,0,1,a⟩ [r]).st d)=(kyK r.tm++(kyV Gt::[kyV s]))++[kyV As]:=fun d=>by
  show kyK (line d (r.tm++[sps,.tk Gt,sps,.tk s,.tk As]))=_
  rw [D2,Bc,List.append_assoc];rfl
 obtain⟨v,m,ev,hv⟩:=hr.beg
 refine⟨fun d=>⟨v,m++(kyV Gt::[kyV s])++[kyV As],by rw [e,ev];rfl,?_,?_⟩,fun {toks p} k d hs _=> ?_⟩
 ·rintro rfl;exact absurd hv (by decide)
 ·rintro rfl;exact absurd hv (by decide)
 have hl:ln ((Ar ⟨22,s,0,1,a⟩ [r]).st d)=ln r.tm+1+1+1:=by unfold ln;rw [e];simp
 rw [hl];rw [e]at hs
 obtain⟨hs2,hs3⟩:=C4 hs
 have t0:Kt toks p=kyV v:=by rw [ev]at hs2;exact(Al hs2).1
 have hq:isF toks ((p:Int)+1) sEq=false:=Aos hr (v:=Gt) (by decide) (by
  have:=C4 (a:=kyK r.tm++[kyV Gt]) (b:=[kyV s]) (by rw [List.append_assoc];exact hs2)
  exact this.1)
 have t3:Kt toks (p+ln r.tm+1+1)=kyV As:=by
  have:=(Al hs3).1
  rw [show p+(kyK r.tm++kyV Gt::[kyV s]).length=p+ln r.tm+1+1 by unfold ln;simp;omega]at this
  exact this
 have hc:=Ab5 (c:=Aw p) 21 22 (Cn p) hr hn hs2
 unfold Kh
 rw [if_pos ((Hw t0).1.trans hv),if_neg (by rw [hq];simp)]
 have h5:=Bm hc.st (Bh t3 (.inr (by decide)))
 have h6:=C6 (o:=22) (s:=s) (n:=0) (x:=nd toks (Gi TM toks 21 22 (Aw p)).op (Gi TM toks 21 22 (Aw p)).name 0 p) h5 fun o=>⟨(hc.op o).1,(hc.op o).2,rfl⟩
 exact G5 (x:=⟨22,s,0,1,a⟩) (ks:=[r]) (show(18:Int)<=22/\(22:Int)≠32 by decide) h6 (show wr 1=1 by decide) (by simp) (by simp [hr.nb]) (by omega)
theorem At6 {op a:Int} {w:Str} {t:R} (hw:(op=27/\w=Kp)\/(op=28/\w=Kq)\/(op=29/\w=Ht)) (ht:TmP t) (hb:t.nb=0):StP (Ar ⟨op,[],0,1,a⟩ [t]):=by
 have e:∀d,kyK ((Ar ⟨op,[],0,1,a⟩ [t]).st d)=kyV w::(kyK t.tm++[kyV As]):=fun d=>by
  rcases hw with⟨rfl,rfl⟩|⟨rfl,rfl⟩|⟨rfl,rfl⟩
  ·show kyK (line d (.tk Kp::sps::(t.tm++[.tk As])))=_
   rw [D2];show _::kyK (t.tm++[.tk As])=_;rw [Bc];rfl
  ·show kyK (line d (.tk Kq::sps::(t.tm++[.tk As])))=_
   rw [D2];show _::kyK (t.tm++[.tk As])=_;rw [Bc];rfl
  ·show kyK (line d (.tk Ht::sps::(t.tm++[.tk As])))=_
   rw [D2];show _::kyK (t.tm++[.tk As])=_;rw [Bc];rfl
 have hk:kdS w=3/\w≠sRB/\w≠Dq:=by rcases hw with⟨_,rfl⟩|⟨_,rfl⟩|⟨_,rfl⟩<;>decide
 refine⟨fun d=>⟨w,_,e d,hk.2.1,hk.2.2⟩,fun {toks p} k d hs _=> ?_⟩
 have hl:ln ((Ar ⟨op,[],0,1,a⟩ [t]).st d)=ln t.tm+2:=by unfold ln;rw [e];simp
 rw [hl];rw [e]at hs
 obtain⟨t0,hs⟩:=Al hs
 obtain⟨hT,hs⟩:=C4 hs
 have t1:Kt toks (p+1+ln t.tm)=kyV As:=(Al hs).1
 obtain⟨w1,w2⟩:=M1 t0 hk.1
 have ew:A8 TM toks (Eo TM toks k) p=Agw TM toks w op p:=by
  unfold A8;rw [w2]
  rcases hw with⟨rfl,rfl⟩|⟨rfl,rfl⟩|⟨rfl,rfl⟩<;>rfl
 rw [Jn w1,ew]
 unfold Agw
 have h1:=Bm (Cn p) (Bh t0 (.inl hk.1))
 have h4:=Hu h1 ht hT (Kk t1 (by decide))
 have h5:=Bm h4 (Bh t1 (.inr (by decide)))
 have h6:=C6 (o:=op) (s:=[]) (n:=0) (x:=nd toks op [] 0 p) h5 fun _=>⟨rfl,rfl,rfl⟩
 exact G5 (x:=⟨op,[],0,1,a⟩) (ks:=[t]) (by show(18:Int)<=op/\op≠32;omega) h6 Aja (by simp) (by simp [hb]) (by omega)
theorem Arh {op a:Int} {w:Str} (hw:(op=30/\w=N3)\/(op=31/\w=N4)):StP (Ar ⟨op,[],0,0,a⟩ []):=by
 have e:∀d,kyK ((Ar ⟨op,[],0,0,a⟩ []).st d)=[kyV w,kyV As]:=fun d=>by
  rcases hw with⟨rfl,rfl⟩|⟨rfl,rfl⟩
  ·show kyK (line d [.tk N3,.tk As])=_
   rw [D2];rfl
  ·show kyK (line d [.tk N4,.tk As])=_
   rw [D2];rfl
 have hk:kdS w=3/\w≠sRB/\w≠Dq:=by rcases hw with⟨_,rfl⟩|⟨_,rfl⟩<;>decide
 refine⟨fun d=>⟨w,_,e d,hk.2.1,hk.2.2⟩,fun {toks p} k d hs _=> ?_⟩
 have hl:ln ((Ar ⟨op,[],0,0,a⟩ []).st d)=2:=by unfold ln;rw [e];rfl
 rw [hl];rw [e]at hs
 obtain⟨t0,hs⟩:=Al hs
 have t1:=(Al hs).1
 obtain⟨w1,w2⟩:=M1 t0 hk.1
 have ew:A8 TM toks (Eo TM toks k) p=Zf toks w op p:=by
  unfold A8;rw [w2]
  rcases hw with⟨rfl,rfl⟩|⟨rfl,rfl⟩<;>rfl
 rw [Jn w1,ew]
 unfold Zf
 have h1:=Bm (Cn p) (Bh t0 (.inl hk.1))
 have h5:=Bm h1 (Bh t1 (.inr (by decide)))
 have h6:=C6 (o:=op) (s:=[]) (n:=0) (x:=nd toks op [] 0 p) h5 fun _=>⟨rfl,rfl,rfl⟩
 exact G5 (x:=⟨op,[],0,0,a⟩) (ks:=[]) (by show(18:Int)<=op/\op≠32;omega) h6 Aol (by simp) (by simp) (by omega)
theorem Aou {a:Int} {t r:R} (ht:TmP t) (hb:t.nb=0) (hr:Ph r):StP (Ar ⟨24,[],0,2,a⟩ [t,r]):=by
 have e:∀d,kyK ((Ar ⟨24,[],0,2,a⟩ [t,r]).st d)=kyV F9::(kyK t.tm++(kyV sLB::(kyK (r.st (d+1))++[kyV sRB]))):=fun d=>by
  show kyK (Bd d (.tk F9::sps::t.tm) r)=_
  rw [H4];rfl
 refine⟨fun d=>⟨F9,_,e d,by decide,by decide⟩,fun {toks p} k d hs _=> ?_⟩
 have hl:ln ((Ar ⟨24,[],0,2,a⟩ [t,r]).st d)=ln t.tm+(ln (r.st (d+1))+2)+1:=by unfold ln;rw [e];simp
 rw [hl];rw [e]at hs
 obtain⟨t0,hs⟩:=Al hs
 obtain⟨hT,hs⟩:=C4 hs
 have hs:Ks toks (p+1+ln t.tm) (kyV sLB::(kyK (r.st (d+1))++[kyV sRB])):=hs
 have t1:Kt toks (p+1+ln t.tm)=kyV sLB:=(Al hs).1
 obtain⟨w1,w2⟩:=M1 t0 (by decide)
 have ew:A8 TM toks (Eo TM toks k) p=Cq (inC (Eo TM toks k) (Eg TM toks (Az toks F9 (Aw p)))) (nd toks 24 [] 0 p):=by unfold A8;rw [w2];rfl
 rw [Jn w1,ew]
 have h1:=Bm (Cn p) (Bh t0 (.inl (by decide)))
 have h4:=Hu h1 ht hT (Kk t1 (by decide))
 have h5:=Wd k (d+1) h4 hr hs
 have h6:=C6 (o:=24) (s:=[]) (n:=0) (x:=nd toks 24 [] 0 p) h5 fun _=>⟨rfl,rfl,rfl⟩
 exact G5 (x:=⟨24,[],0,2,a⟩) (ks:=[t,r]) (show(18:Int)<=24/\(24:Int)≠32 by decide) h6 (show wr 2=2 by decide) (by simp) (by simp [hb]) (by omega)
theorem At7 {a:Int} {t r:R} (ht:TmP t) (hb:t.nb=0) (hr:Ph r):StP (Ar ⟨23,[],0,2,a⟩ [t,r]):=by
 have e:∀d,kyK ((Ar ⟨23,[],0,2,a⟩ [t,r]).st d)=kyV sIf::(kyK t.tm++(kyV sLB::(kyK (r.st (d+1))++[kyV sRB]))):=fun d=>by
  show kyK (line d (.tk sIf::sps::(t.tm++[sps,.tk sLB]))++(r.st (d+1)++line d [.tk sRB]))=_
  rw [Bc,D2,Bc,D2]
  show(kyV sIf::kyK (t.tm++[sps,.tk sLB]))++_=_
  rw [Bc,List.cons_append,List.append_assoc];rfl
 refine⟨fun d=>⟨sIf,_,e d,by decide,by decide⟩,fun {toks p} k d hs hF=> ?_⟩
 have hl:ln ((Ar ⟨23,[],0,2,a⟩ [t,r]).st d)=ln t.tm+(ln (r.st (d+1))+2)+1:=by unfold ln;rw [e];simp
 rw [hl]at hF⊢;rw [e]at hs
 obtain⟨t0,hs⟩:=Al hs
 obtain⟨hT,hs⟩:=C4 hs
 have hs:Ks toks (p+1+ln t.tm) (kyV sLB::(kyK (r.st (d+1))++[kyV sRB])):=hs
 have t1:Kt toks (p+1+ln t.tm)=kyV sLB:=(Al hs).1
 obtain⟨w1,w2⟩:=M1 t0 (by decide)
 have ew:A8 TM toks (Eo TM toks k) p=Cq (ifC toks (Eo TM toks k) (inC (Eo TM toks k) (Eg TM toks (Az toks sIf (Aw p))))) (nd toks 23 [] 0 p):=by unfold A8;rw [w2];rfl
 rw [Jn w1,ew]
 have h1:=Bm (Cn p) (Bh t0 (.inl (by decide)))
 have h4:=Hu h1 ht hT (Kk t1 (by decide))
 have h5:=Wd k (d+1) h4 hr hs
 unfold ifC
 have h5':=Akj (a:=inC (Eo TM toks k) (Az toks Dq (inC (Eo TM toks k) (Eg TM toks (Az toks sIf (Aw p)))))) h5 (s:=Dq) (by rw [show p+1+ln t.tm+(ln (r.st (d+1))+2)=p+(ln t.tm+(ln (r.st (d+1))+2)+1) by omega];exact hF)
 have h6:=C6 (o:=23) (s:=[]) (n:=0) (x:=nd toks 23 [] 0 p) h5' fun _=>⟨rfl,rfl,rfl⟩
 exact G5 (x:=⟨23,[],0,2,a⟩) (ks:=[t,r]) (show(18:Int)<=23/\(23:Int)≠32 by decide) h6 (show wr 2=2 by decide) (by simp) (by simp [hb]) (by omega)
theorem At8 {a:Int} {t r r':R} (ht:TmP t) (hb:t.nb=0) (hr:Ph r) (hr':Ph r'):StP (Ar ⟨23,[],0,3,a⟩ [t,r,r']):=by
 have e:∀d,kyK ((Ar ⟨23,[],0,3,a⟩ [t,r,r']).st d)=kyV sIf::(kyK t.tm++((kyV sLB::(kyK (r.st (d+1))++[kyV sRB]))++(kyV Dq::(kyV sLB::(kyK (r'.st (d+1))++[kyV sRB]))))):=fun d=>by
  show kyK (line d (.tk sIf::sps::(t.tm++[sps,.tk sLB]))++(r.st (d+1)++(line d [.tk sRB,sps,.tk Dq,sps,.tk sLB]++(r'.st (d+1)++line d [.tk sRB]))))=_
  rw [Bc,D2,Bc,Bc,D2,Bc,D2]
  show(kyV sIf::kyK (t.tm++[sps,.tk sLB]))++_=_
  rw [Bc,List.cons_append,List.append_assoc]
  congr 2
  show _::(_++_)=_
  rw [List.cons_append,List.append_assoc];rfl
 refine⟨fun d=>⟨sIf,_,e d,by decide,by decide⟩,fun {toks p} k d hs hF=> ?_⟩
 have hl:ln ((Ar ⟨23,[],0,3,a⟩ [t,r,r']).st d)=ln t.tm+(ln (r.st (d+1))+2)+1+(ln (r'.st (d+1))+2)+1:=by unfold ln;rw [e];simp;omega
 rw [hl];rw [e]at hs
 obtain⟨t0,hs⟩:=Al hs
 obtain⟨hT,hs⟩:=C4 hs
 obtain⟨hB,hs⟩:=C4 hs
 have hB:Ks toks (p+1+ln t.tm) (kyV sLB::(kyK (r.st (d+1))++[kyV sRB])):=hB
 have t1:Kt toks (p+1+ln t.tm)=kyV sLB:=(Al hB).1
 have hs:Ks toks (p+1+ln t.tm+(ln (r.st (d+1))+2)) (kyV Dq::(kyV sLB::(kyK (r'.st (d+1))++[kyV sRB]))):=by
  rw [show p+1+ln t.tm+(ln (r.st (d+1))+2)=p+1+(kyK t.tm).length+(kyV sLB::(kyK (r.st (d+1))++[kyV sRB])).length by unfold ln;simp]
  exact hs
 obtain⟨t2,hB'⟩:=Al hs
 obtain⟨w1,w2⟩:=M1 t0 (by decide)
 have ew:A8 TM toks (Eo TM toks k) p=Cq (ifC toks (Eo TM toks k) (inC (Eo TM toks k) (Eg TM toks (Az toks sIf (Aw p))))) (nd toks 23 [] 0 p):=by unfold A8;rw [w2];rfl
 rw [Jn w1,ew]
 have h1:=Bm (Cn p) (Bh t0 (.inl (by decide)))
 have h4:=Hu h1 ht hT (Kk t1 (by decide))
 have h5:=Wd k (d+1) h4 hr hB
 have h7:=Bm h5 (Bh t2 (.inl (by decide)))
 have h8:=Wd k (d+1) h7 hr' hB'
 unfold ifC
 have h5':=Aon (b:=inC (Eo TM toks k) (Eg TM toks (Az toks sIf (Aw p)))) h5 (Bh t2 (.inl (by decide))) h8 (fun o=>h5.2 o) (fun o=>o.1)
 have h6:=C6 (o:=23) (s:=[]) (n:=0) (x:=nd toks 23 [] 0 p) h5' fun _=>⟨rfl,rfl,rfl⟩
 exact G5 (x:=⟨23,[],0,3,a⟩) (ks:=[t,r,r']) (show(18:Int)<=23/\(23:Int)≠32 by decide) h6 (show wr 3=3 by decide) (by simp) (by simp [hb,and_assoc]) (by omega)
end
end Go.Proofs.YtcakelelfklhdaaGreatDoor
namespace Go.Proofs.YtcakelelfklhdaaGreatDoor
open Go.Vc Go.Lv Go.Ty Go.Tk Go.Tm
section
variable {toks:List Aq} {ok:Prop} {L:List Er} {j p:Nat} {c:Cur}
def Jr (l:List R):List Key:=l.flatMap fun r=>kyV Bz::kyK r.tm
theorem N9 (a:R):∀l:List R,kyK (Bs ((a::l).map R.tm))=kyK a.tm++Jr l
 |[]=>by show kyK a.tm=kyK a.tm++[];rw [List.append_nil]
 |b::l=>by
  show kyK (a.tm++(.tk Bz::sps::Bs ((b::l).map R.tm)))=_
  rw [Bc]
  show _++(kyV Bz::kyK (Bs ((b::l).map R.tm)))=_
  rw [N9 b l];rfl
theorem Akl (l:List R):l.length<=(Jr l).length:=by
 induction l with
 |nil=>exact Nat.zero_le _
 |cons a l ih=>
  have:Jr (a::l)=(kyV Bz::kyK a.tm)++Jr l:=rfl
  rw [this,List.length_append,List.length_cons,List.length_cons];omega
theorem Akm (l:List R):(Jr l).length=(l.map fun r=>1+ln r.tm).foldr (·+·) 0:=
 Aes (fun r:R=>1+ln r.tm) (fun r:R=>kyV Bz::kyK r.tm) (fun r=>by unfold ln;simp;omega) l
theorem Ari {ks:List R} (hk:∀r∈ks,TmP r) (h:St ok L j p c) (hs:Ks toks p (Jr ks++[kyV sRP])):
 Kt toks (p+(Jr ks).length)=kyV sRP/\St (ok/\∀r∈ks,r.nd<=24) (L++(ks.flatMap R.fl).map erG) (j+ks.length) (p+(Jr ks).length) (Ej (Ez toks Bz) (fun c=>Eg TM toks (Az toks Bz c)) (fuel toks) c):=by
 have hlen:ks.length<fuel toks:=by
  have h1:=Uh hs
  have h2:=Akl ks
  rw [List.length_append,List.length_map]at h1
  unfold fuel;omega
 obtain⟨p',e1,e2,e3⟩:=Q6 (g:=Ez toks Bz) (b:=fun c=>Eg TM toks (Az toks Bz c))
  (fun r:R=>r.fl.map erG) (fun r=>1+ln r.tm) (fun r=>r.nd<=24) (fun p l=>(∀r∈l,TmP r)/\Ks toks p (Jr l++[kyV sRP]))
  (fun ok L j p c h hs=>by
   by_cases o:ok
   ·rw [Hz h o];exact Jm (Al hs.2).1 (by decide)
   ·exact My h o)
  (fun c hc=>by unfold Ez;rw [hc];rfl)
  (fun ok L j p c r l h hs=>by
   obtain⟨hq,hs⟩:=hs
   have hs:Ks toks p (kyV Bz::(kyK r.tm++(Jr l++[kyV sRP]))):=by
    have:Jr (r::l)=kyV Bz::(kyK r.tm++Jr l):=rfl
    rw [this,List.cons_append,List.append_assoc]at hs;exact hs
   obtain⟨t0,hs⟩:=Al hs
   obtain⟨hT,hs⟩:=C4 hs
   have hm:Cp (toks.map tT) (p+1+ln r.tm)=0:=by
    cases l with
    |nil=>exact Kk (Al hs).1 (by decide)
    |cons b l=>exact Kk (v:=Bz) (Al (k:=kyV Bz) (a:=kyK b.tm++Jr l++[kyV sRP]) hs).1 (by decide)
   refine⟨fun o=>by rw [Hz h o];exact Bh t0 (.inr (by decide)),?_,fun r hr=>hq r (by simp [hr]),?_⟩
   ·have:=Hu (Bm h (Bh t0 (.inr (by decide)))) (hq r (by simp)) hT hm
    exact this.eq rfl (by omega)
   ·rw [show p+(1+ln r.tm)=p+1+(kyK r.tm).length by unfold ln;omega];exact hs)
  ks (fuel toks) ok L j p c hlen h ⟨hk,hs⟩
 rw [←Akm]at e1
 subst e1
 refine⟨(Al e2.2).1,e3.eq ?_ rfl⟩
 rw [List.map_flatMap]
theorem Aov {s:Str} {n:Nat} {a:Int} {ks:List R} (hn:Tk.Ba s=true) (hlen:ks.length=n) (hk:∀r∈ks,TmP r/\r.nb=0/\Aet r.tm):StP (Ar ⟨26,s,0,wr n,a⟩ ks):=by
 have e:∀d,kyK ((Ar ⟨26,s,0,wr n,a⟩ ks).st d)=kyV Ff::kyV s::kyV sLP::(kyK (Bs (ks.map R.tm))++[kyV sRP,kyV As]):=fun d=>by
  show kyK (line d (.tk Ff::sps::.tk s::.tk sLP::(Bs (ks.map R.tm)++[.tk sRP,.tk As])))=_
  rw [D2];show _::_::_::kyK (Bs (ks.map R.tm)++[.tk sRP,.tk As])=_;rw [Bc];rfl
 refine⟨fun d=>⟨Ff,_,e d,by decide,by decide⟩,fun {toks p} k d hs _=> ?_⟩
 have hl:ln ((Ar ⟨26,s,0,wr n,a⟩ ks).st d)=ln (Bs (ks.map R.tm))+5:=by unfold ln;rw [e];simp
 rw [hl];rw [e]at hs
 obtain⟨t0,hs⟩:=Al hs
 obtain⟨t1,hs⟩:=Al hs
 obtain⟨t2,hs⟩:=Al hs
 obtain⟨w1,w2⟩:=M1 t0 (by decide)
 have ew:A8 TM toks (Eo TM toks k) p=Cq (Az toks As (O5 TM toks (Dh toks (Az toks Ff (Aw p))))) (nd toks 26 (Ba toks (Az toks Ff (Aw p))) 0 p):=by unfold A8;rw [w2];rfl
 rw [Jn w1,ew]
 have h1:=Bm (Cn p) (Bh t0 (.inl (by decide)))
 have h2:=Kb h1 (Du t1 hn)
 have h3:=Bm h2 (Bh t2 (.inr (by decide)))
 have hA:Kt toks (p+1+1+1+ln (Bs (ks.map R.tm))+1)=kyV As/\St (True/\∀r∈ks,r.nd<=24) ([]++(ks.flatMap R.fl).map erG) ks.length (p+1+1+1+ln (Bs (ks.map R.tm))+1) (O5 TM toks (Dh toks (Az toks Ff (Aw p)))):=by
  obtain⟨q1,q2,q3,q4⟩:=h3.1 trivial
  unfold O5
  rw [q1,q4]
  cases ks with
  |nil=>
   obtain⟨t3,hs⟩:=Al (k:=kyV sRP) (a:=[kyV As]) hs
   rw [Bh t3 (.inr (by decide)),if_neg (by simp)]
   exact⟨(Al hs).1,((Bm h3 (Bh t3 (.inr (by decide)))).eq (by simp) rfl).iff (by simp)⟩
  |cons b l=>
   rw [N9,List.append_assoc]at hs
   obtain⟨hT,hs⟩:=C4 hs
   have hs:Ks toks (p+1+1+1+ln b.tm) ((Jr l++[kyV sRP])++[kyV As]):=by rw [List.append_assoc];exact hs
   obtain⟨hs1,hs2⟩:=C4 hs
   have hm:Cp (toks.map tT) (p+1+1+1+ln b.tm)=0:=by
    cases l with
    |nil=>exact Kk (Al hs1).1 (by decide)
    |cons b' l=>exact Kk (v:=Bz) (Al (k:=kyV Bz) (a:=kyK b'.tm++Jr l++[kyV sRP]) hs1).1 (by decide)
   have hb:=hk b (by simp)
   rw [Asn hb.2.2 hT (by decide),if_pos (by simp)]
   have h4:=Hu h3 hb.1 hT hm
   obtain⟨t4,h5⟩:=Ari (fun r hr=>(hk r (by simp [hr])).1) h4 hs1
   have h6:=Bm h5 (Bh t4 (.inr (by decide)))
   have el:ln (Bs ((b::l).map R.tm))=ln b.tm+(Jr l).length:=by unfold ln;rw [N9,List.length_append]
   rw [show p+1+1+1+ln (Bs ((b::l).map R.tm))+1=p+1+1+1+ln b.tm+(Jr l).length+1 by omega]
   refine⟨?_,?_⟩
   ·have:=(Al hs2).1
    rw [show p+1+1+1+ln b.tm+(Jr l++[kyV sRP]).length=p+1+1+1+ln b.tm+(Jr l).length+1 by simp;omega]at this
    exact this
   ·rw [show(b::l).length=0+1+l.length by simp;omega]
    exact(h6.eq (by simp) rfl).iff (by simp)
 have h5:=Bm hA.2 (Bh hA.1 (.inr (by decide)))
 have h6:=C6 (o:=26) (s:=s) (n:=0) (x:=nd toks 26 (Ba toks (Az toks Ff (Aw p))) 0 p) h5 fun _=>⟨rfl,(Hq h1 (Du t1 hn) trivial).trans (Hw t1).2.1,rfl⟩
 refine G5 (x:=⟨26,s,0,wr n,a⟩) (ks:=ks) (show(18:Int)<=26/\(26:Int)≠32 by decide) h6 (by rw [hlen]) (by simp) ?_ (by omega)
 exact⟨fun h r hr=>⟨h.2 r hr,by rw [(hk r hr).2.1];exact Nat.zero_le _⟩,fun h=>⟨trivial,fun r hr=>(h r hr).1⟩⟩
theorem Aow {t:R} (h:St ok L j p c) (ht:TmP t) (hs:Ks toks p (kyV Ef::(kyK t.tm++[kyV Ee]))) (o:ok):
 St (ok/\t.nd<=24) (L++t.fl.map erG) (j+1) (p+(ln t.tm+2)) (Ha TM toks c)/\Mk toks c=1:=by
 obtain⟨t0,hs⟩:=Al hs
 obtain⟨hT,hs⟩:=C4 hs
 have t1:Kt toks (p+1+ln t.tm)=kyV Ee:=(Al hs).1
 have h1:=Bm h (Bh t0 (.inl (by decide)))
 have h2:=Hu h1 ht hT (Kk t1 (by decide))
 have h3:=Bm h2 (Bh t1 (.inr (by decide)))
 have hs:=(Hz h o).trans (Bh t0 (.inl (by decide)))
 unfold Ha Mk
 rw [hs,if_pos rfl,if_pos rfl]
 exact⟨h3.eq rfl (by omega),rfl⟩
theorem Arj (h:St ok L j p c) (hs:isF toks (p:Int) Ef=false) (o:ok):Ha TM toks c=c/\Mk toks c=0:=by
 have hs:=(Hz h o).trans hs
 unfold Ha Mk
 rw [hs,if_neg (by simp),if_neg (by simp)]
 exact⟨rfl,rfl⟩
theorem Ab6 {t:R} (h:St ok L j p c) (ht:TmP t) (hs:Ks toks p (kyV D7::kyK t.tm)) (hm:Cp (toks.map tT) (p+1+ln t.tm)=0):
 Ab3 (ok/\t.nd<=24) (L++t.fl.map erG) (j+1) (p+(1+ln t.tm)) 36 [] (Dd TM toks c):=by
 obtain⟨t0,hT⟩:=Al hs
 have h1:=Bm h (Bh t0 (.inl (by decide)))
 have h2:=Hu h1 ht hT hm
 unfold Dd
 by_cases o:ok
 ·rw [Hz h o,Bh t0 (.inl (by decide)),if_pos rfl]
  exact⟨h2.eq rfl (by omega),fun _=>⟨rfl,rfl⟩⟩
 ·rw [My h o,if_neg (by simp)]
  refine⟨⟨fun o'=>absurd o'.1 o,fun _=> ?_⟩,fun o'=>absurd o'.1 o⟩
  unfold Gi
  rw [if_neg (by rw [h.2 o];decide)];exact h.2 o
theorem Ahm (h:St ok L j p c) (hs:isF toks (p:Int) D7=false):Dd TM toks c=Gi TM toks 35 34 c:=by
 unfold Dd
 by_cases o:ok
 ·rw [Hz h o,hs,if_neg (by simp)]
 ·rw [My h o,if_neg (by simp)]
theorem Ark {a:Int} {r:R} (hr:Ph r):ClP (Ar ⟨37,[],0,1,a⟩ [r]):=by
 have e:∀d,kyK ((Ar ⟨37,[],0,1,a⟩ [r]).st d)=kyV Dq::(kyV sLB::(kyK (r.st (d+1))++[kyV sRB])):=fun d=>by
  show kyK (Bd d [.tk Dq] r)=_
  rw [H4];rfl
 refine⟨fun d=>⟨Dq,_,e d,by decide⟩,fun {toks p} k d hs=> ?_⟩
 have hl:ln ((Ar ⟨37,[],0,1,a⟩ [r]).st d)=(ln (r.st (d+1))+2)+1:=by unfold ln;rw [e];simp
 rw [hl];rw [e]at hs
 obtain⟨t0,hs⟩:=Al hs
 unfold Dy
 rw [if_pos (Bh t0 (.inl (by decide)))]
 have h1:=Bm (Cn p) (Bh t0 (.inl (by decide)))
 have h2:=Wd k (d+1) h1 hr hs
 have h6:=C6 (o:=37) (s:=[]) (n:=0) (x:=nd toks 37 [] 0 p) h2 fun _=>⟨rfl,rfl,rfl⟩
 exact G5 (x:=⟨37,[],0,1,a⟩) (ks:=[r]) (show(18:Int)<=37/\(37:Int)≠32 by decide) h6 Aja (by simp) (by simp) (by omega)
theorem Q7 {toks:List Aq} {p q' k d j1:Nat} {ok1:Prop} {L1:List Er} {r:R} {op n a:Int} {s:Str} {ks:List R} (hop:op=34\/op=35\/op=36) (hr:Ph r)
 (t0:Kt toks p=kyV Bq) (hn:Mk toks (Az toks Bq (Aw p))=n)
 (hc:Ab3 ok1 L1 j1 q' op s (Dd TM toks (Ha TM toks (Az toks Bq (Aw p)))))
 (hB:Ks toks q' (kyV sLB::(kyK (r.st (d+1))++[kyV sRB])))
 (hL:L1++r.fl.map erG=(ks.flatMap R.fl).map erG) (hok:(ok1/\(r.nd<=24/\r.nb<=k))↔∀x∈ks,x.nd<=24/\x.nb<=k) {e:Nat} (he:q'+(ln (r.st (d+1))+2)=e):
 St ((Ar ⟨op,s,n,wr (j1+1),a⟩ ks).nd<=24/\(Ar ⟨op,s,n,wr (j1+1),a⟩ ks).nb<=k) ((Ar ⟨op,s,n,wr (j1+1),a⟩ ks).fl.map erG) 1 e (Dy TM toks (Eo TM toks k) p):=by
 unfold Dy
 rw [if_neg (by rw [Jm t0 (by decide)];simp)]
 have h1:=Wd k (d+1) hc.st hr hB
 have h2:=C6 (o:=op) (s:=s) (n:=n) (x:=nd toks (Dd TM toks (Ha TM toks (Az toks Bq (Aw p)))).op (Dd TM toks (Ha TM toks (Az toks Bq (Aw p)))).name (Mk toks (Az toks Bq (Aw p))) p) h1 fun o=>⟨(hc.op o.1).1,(hc.op o.1).2,hn⟩
 exact G5 (x:=⟨op,s,n,wr (j1+1),a⟩) (ks:=ks) (by show(18:Int)<=op/\op≠32;omega) h2 rfl hL hok he
end
end Go.Proofs.YtcakelelfklhdaaGreatDoor
namespace Go.Proofs.YtcakelelfklhdaaGreatDoor
open Go.Vc Go.Lv Go.Ty Go.Tk Go.Tm
section
variable {toks:List Aq} {ok:Prop} {L:List Er} {j p q:Nat} {c:Cur}
theorem Aeu {r:R} {s:Str} {l:List Key} (hr:Ro r) (hs:Ks toks p (kyK r.tm++l)):isF toks (p:Int) s=false:=by
 obtain⟨v,m,e,hv⟩:=hr.beg
 rw [e]at hs
 exact Ajd (Al (k:=kyV v) (a:=m++l) hs).1 hv
theorem Zr (t0:Kt toks p=kyV Bq) (h:isF toks ((p+1:Nat):Int) Ef=false):St True [] 0 (p+1) (Ha TM toks (Az toks Bq (Aw p)))/\Mk toks (Az toks Bq (Aw p))=0:=by
 have h1:=Bm (Cn p) (Bh t0 (.inl (by decide)))
 obtain⟨e1,e2⟩:=Arj h1 h trivial
 rw [e1];exact⟨h1,e2⟩
theorem Vu {t:R} (t0:Kt toks p=kyV Bq) (ht:TmP t) (hs:Ks toks (p+1) (kyV Ef::(kyK t.tm++[kyV Ee]))):St (True/\t.nd<=24) ([]++t.fl.map erG) 1 (p+1+(ln t.tm+2)) (Ha TM toks (Az toks Bq (Aw p)))/\Mk toks (Az toks Bq (Aw p))=1:=
 Aow (Bm (Cn p) (Bh t0 (.inl (by decide)))) ht hs trivial
theorem Ab7 {r:R} {s:Str} (h:St ok L j q c) (hr:Ro r) (hn:Tk.Ba s=true) (hs:Ks toks q (kyK r.tm++(kyV Gt::[kyV s]))):Ab3 (ok/\r.nd<=24) (L++r.fl.map erG) (j+1) (q+ln r.tm+1+1) 34 s (Dd TM toks c):=by
 rw [Ahm h (Aeu hr hs)]
 exact Ab5 35 34 h hr hn hs
theorem Ab8 {r t:R} (h:St ok L j q c) (hr:Ro r) (ht:TmP t) (hs:Ks toks q (kyK r.tm++(kyV C5::kyK t.tm))) (hm:Cp (toks.map tT) (q+ln r.tm+1+ln t.tm)=0):Ab3 ((ok/\r.nd<=24)/\t.nd<=24) (L++r.fl.map erG++t.fl.map erG) (j+1+1) (q+ln r.tm+1+ln t.tm) 35 [] (Dd TM toks c):=by
 rw [Ahm h (Aeu hr hs)]
 exact Ab4 35 34 h hr ht hs hm
theorem Mm {a b:List Key} (h:Ks toks p (a++b)) {n:Nat} (hn:n=a.length):Ks toks p a/\Ks toks (p+n) b:=by subst hn;exact C4 h
theorem Aox {s:Str} {a:Int} {r b:R} (hn:Tk.Ba s=true) (hr:Ro r) (hb:Ph b):ClP (Ar ⟨34,s,0,wr 2,a⟩ [r,b]):=by
 have e:∀d,kyK ((Ar ⟨34,s,0,wr 2,a⟩ [r,b]).st d)=kyV Bq::((kyK r.tm++(kyV Gt::[kyV s]))++(kyV sLB::(kyK (b.st (d+1))++[kyV sRB]))):=fun d=>by
  show kyK (Bd d ([.tk Bq,sps]++(r.tm++[sps,.tk Gt,sps,.tk s])) b)=_
  rw [H4,Bc,Bc];rfl
 refine⟨fun d=>⟨Bq,_,e d,by decide⟩,fun {toks p} k d hs=> ?_⟩
 have hl:ln ((Ar ⟨34,s,0,wr 2,a⟩ [r,b]).st d)=ln r.tm+2+(ln (b.st (d+1))+2)+1:=by unfold ln;rw [e];simp;omega
 rw [hl];rw [e]at hs
 obtain⟨t0,hs⟩:=Al hs
 obtain⟨h1,hB⟩:=Mm hs (n:=ln r.tm+2) (by unfold ln;simp)
 obtain⟨hw,hN⟩:=Zr t0 (Aeu hr h1)
 have hc:=Ab7 hw hr hn h1
 exact Q7 (d:=d) (ks:=[r,b]) (.inl rfl) hb t0 hN hc (by rw [show p+1+ln r.tm+1+1=p+1+(ln r.tm+2) by omega];exact hB) (by simp) (by simp [hr.nb]) (by omega)
theorem Aoy {s:Str} {a:Int} {t r b:R} (ht:TmP t) (htb:t.nb=0) (hn:Tk.Ba s=true) (hr:Ro r) (hb:Ph b):ClP (Ar ⟨34,s,1,wr 3,a⟩ [t,r,b]):=by
 have e:∀d,kyK ((Ar ⟨34,s,1,wr 3,a⟩ [t,r,b]).st d)=kyV Bq::((kyV Ef::(kyK t.tm++[kyV Ee]))++((kyK r.tm++(kyV Gt::[kyV s]))++(kyV sLB::(kyK (b.st (d+1))++[kyV sRB])))):=fun d=>by
  show kyK (Bd d ((.tk Bq::sps::.tk Ef::sps::(t.tm++[.tk Ee,sps]))++(r.tm++[sps,.tk Gt,sps,.tk s])) b)=_
  rw [H4,Bc,Bc]
  show((kyV Bq::kyV Ef::kyK (t.tm++[.tk Ee,sps]))++_)++_=_
  rw [Bc];simp [kyK,sps]
 refine⟨fun d=>⟨Bq,_,e d,by decide⟩,fun {toks p} k d hs=> ?_⟩
 have hl:ln ((Ar ⟨34,s,1,wr 3,a⟩ [t,r,b]).st d)=(ln t.tm+2)+(ln r.tm+2+(ln (b.st (d+1))+2))+1:=by unfold ln;rw [e];simp;omega
 rw [hl];rw [e]at hs
 obtain⟨t0,hs⟩:=Al hs
 obtain⟨h0,hs⟩:=Mm hs (n:=ln t.tm+2) (by unfold ln;simp)
 obtain⟨h1,hB⟩:=Mm hs (n:=ln r.tm+2) (by unfold ln;simp)
 obtain⟨hw,hN⟩:=Vu t0 ht h0
 have hc:=Ab7 hw hr hn h1
 exact Q7 (d:=d) (ks:=[t,r,b]) (.inl rfl) hb t0 hN hc (by rw [show p+1+(ln t.tm+2)+ln r.tm+1+1=p+1+(ln t.tm+2)+(ln r.tm+2) by omega];exact hB) (by simp) (by simp [hr.nb,htb,and_assoc]) (by omega)
theorem Aoz {a:Int} {r u b:R} (hr:Ro r) (hu:TmP u) (hub:u.nb=0) (hb:Ph b):ClP (Ar ⟨35,[],0,wr 3,a⟩ [r,u,b]):=by
 have e:∀d,kyK ((Ar ⟨35,[],0,wr 3,a⟩ [r,u,b]).st d)=kyV Bq::((kyK r.tm++(kyV C5::kyK u.tm))++(kyV sLB::(kyK (b.st (d+1))++[kyV sRB]))):=fun d=>by
  show kyK (Bd d ([.tk Bq,sps]++(r.tm++(sps::.tk C5::sps::u.tm))) b)=_
  rw [H4,Bc,Bc];rfl
 refine⟨fun d=>⟨Bq,_,e d,by decide⟩,fun {toks p} k d hs=> ?_⟩
 have hl:ln ((Ar ⟨35,[],0,wr 3,a⟩ [r,u,b]).st d)=ln r.tm+1+ln u.tm+(ln (b.st (d+1))+2)+1:=by unfold ln;rw [e];simp;omega
 rw [hl];rw [e]at hs
 obtain⟨t0,hs⟩:=Al hs
 obtain⟨h1,hB⟩:=Mm hs (n:=ln r.tm+1+ln u.tm) (by unfold ln;simp;omega)
 obtain⟨hw,hN⟩:=Zr t0 (Aeu hr h1)
 have hB:Ks toks (p+1+ln r.tm+1+ln u.tm) (kyV sLB::(kyK (b.st (d+1))++[kyV sRB])):=by rw [show p+1+ln r.tm+1+ln u.tm=p+1+(ln r.tm+1+ln u.tm) by omega];exact hB
 have hc:=Ab8 hw hr hu h1 (Kk (Al hB).1 (by decide))
 exact Q7 (d:=d) (ks:=[r,u,b]) (.inr (.inl rfl)) hb t0 hN hc hB (by simp) (by simp [hr.nb,hub,and_assoc]) (by omega)
theorem Ao0 {a:Int} {t r u b:R} (ht:TmP t) (htb:t.nb=0) (hr:Ro r) (hu:TmP u) (hub:u.nb=0) (hb:Ph b):ClP (Ar ⟨35,[],1,wr 4,a⟩ [t,r,u,b]):=by
 have e:∀d,kyK ((Ar ⟨35,[],1,wr 4,a⟩ [t,r,u,b]).st d)=kyV Bq::((kyV Ef::(kyK t.tm++[kyV Ee]))++((kyK r.tm++(kyV C5::kyK u.tm))++(kyV sLB::(kyK (b.st (d+1))++[kyV sRB])))):=fun d=>by
  show kyK (Bd d ((.tk Bq::sps::.tk Ef::sps::(t.tm++[.tk Ee,sps]))++(r.tm++(sps::.tk C5::sps::u.tm))) b)=_
  rw [H4,Bc,Bc]
  show((kyV Bq::kyV Ef::kyK (t.tm++[.tk Ee,sps]))++_)++_=_
  rw [Bc];simp [kyK,sps]
 refine⟨fun d=>⟨Bq,_,e d,by decide⟩,fun {toks p} k d hs=> ?_⟩
 have hl:ln ((Ar ⟨35,[],1,wr 4,a⟩ [t,r,u,b]).st d)=(ln t.tm+2)+(ln r.tm+1+ln u.tm+(ln (b.st (d+1))+2))+1:=by unfold ln;rw [e];simp;omega
 rw [hl];rw [e]at hs
 obtain⟨t0,hs⟩:=Al hs
 obtain⟨h0,hs⟩:=Mm hs (n:=ln t.tm+2) (by unfold ln;simp)
 obtain⟨h1,hB⟩:=Mm hs (n:=ln r.tm+1+ln u.tm) (by unfold ln;simp;omega)
 obtain⟨hw,hN⟩:=Vu t0 ht h0
 have hB:Ks toks (p+1+(ln t.tm+2)+ln r.tm+1+ln u.tm) (kyV sLB::(kyK (b.st (d+1))++[kyV sRB])):=by rw [show p+1+(ln t.tm+2)+ln r.tm+1+ln u.tm=p+1+(ln t.tm+2)+(ln r.tm+1+ln u.tm) by omega];exact hB
 have hc:=Ab8 hw hr hu h1 (Kk (Al hB).1 (by decide))
 exact Q7 (d:=d) (ks:=[t,r,u,b]) (.inr (.inl rfl)) hb t0 hN hc hB (by simp) (by simp [hr.nb,hub,htb,and_assoc]) (by omega)
theorem Al9 {a:Int} {u b:R} (hu:TmP u) (hub:u.nb=0) (hb:Ph b):ClP (Ar ⟨36,[],0,wr 2,a⟩ [u,b]):=by
 have e:∀d,kyK ((Ar ⟨36,[],0,wr 2,a⟩ [u,b]).st d)=kyV Bq::((kyV D7::kyK u.tm)++(kyV sLB::(kyK (b.st (d+1))++[kyV sRB]))):=fun d=>by
  show kyK (Bd d ([.tk Bq,sps]++(.tk D7::sps::u.tm)) b)=_
  rw [H4,Bc];rfl
 refine⟨fun d=>⟨Bq,_,e d,by decide⟩,fun {toks p} k d hs=> ?_⟩
 have hl:ln ((Ar ⟨36,[],0,wr 2,a⟩ [u,b]).st d)=1+ln u.tm+(ln (b.st (d+1))+2)+1:=by unfold ln;rw [e];simp;omega
 rw [hl];rw [e]at hs
 obtain⟨t0,hs⟩:=Al hs
 obtain⟨h1,hB⟩:=Mm hs (n:=1+ln u.tm) (by unfold ln;simp;omega)
 obtain⟨hw,hN⟩:=Zr t0 (Jm (Al h1).1 (by decide))
 have hB:Ks toks (p+1+(1+ln u.tm)) (kyV sLB::(kyK (b.st (d+1))++[kyV sRB])):=hB
 have hc:=Ab6 hw hu h1 (by rw [show p+1+1+ln u.tm=p+1+(1+ln u.tm) by omega];exact Kk (Al hB).1 (by decide))
 exact Q7 (d:=d) (ks:=[u,b]) (.inr (.inr rfl)) hb t0 hN hc hB (by simp) (by simp [hub]) (by omega)
theorem Ama {a:Int} {t u b:R} (ht:TmP t) (htb:t.nb=0) (hu:TmP u) (hub:u.nb=0) (hb:Ph b):ClP (Ar ⟨36,[],1,wr 3,a⟩ [t,u,b]):=by
 have e:∀d,kyK ((Ar ⟨36,[],1,wr 3,a⟩ [t,u,b]).st d)=kyV Bq::((kyV Ef::(kyK t.tm++[kyV Ee]))++((kyV D7::kyK u.tm)++(kyV sLB::(kyK (b.st (d+1))++[kyV sRB])))):=fun d=>by
  show kyK (Bd d ((.tk Bq::sps::.tk Ef::sps::(t.tm++[.tk Ee,sps]))++(.tk D7::sps::u.tm)) b)=_
  rw [H4,Bc]
  show((kyV Bq::kyV Ef::kyK (t.tm++[.tk Ee,sps]))++_)++_=_
  rw [Bc];simp [kyK,sps]
 refine⟨fun d=>⟨Bq,_,e d,by decide⟩,fun {toks p} k d hs=> ?_⟩
 have hl:ln ((Ar ⟨36,[],1,wr 3,a⟩ [t,u,b]).st d)=(ln t.tm+2)+(1+ln u.tm+(ln (b.st (d+1))+2))+1:=by unfold ln;rw [e];simp;omega
 rw [hl];rw [e]at hs
 obtain⟨t0,hs⟩:=Al hs
 obtain⟨h0,hs⟩:=Mm hs (n:=ln t.tm+2) (by unfold ln;simp)
 obtain⟨h1,hB⟩:=Mm hs (n:=1+ln u.tm) (by unfold ln;simp;omega)
 obtain⟨hw,hN⟩:=Vu t0 ht h0
 have hB:Ks toks (p+1+(ln t.tm+2)+(1+ln u.tm)) (kyV sLB::(kyK (b.st (d+1))++[kyV sRB])):=hB
 have hc:=Ab6 hw hu h1 (by rw [show p+1+(ln t.tm+2)+1+ln u.tm=p+1+(ln t.tm+2)+(1+ln u.tm) by omega];exact Kk (Al hB).1 (by decide))
 exact Q7 (d:=d) (ks:=[t,u,b]) (.inr (.inr rfl)) hb t0 hN hc hB (by simp) (by simp [hub,htb,and_assoc]) (by omega)
theorem At9 {ks:List R} (hk:∀r∈ks,ClP r) (k d:Nat) (h:St ok L j p c) (hs:Ks toks p (kyK (Bf d ks)++[kyV sRB])):
 Kt toks (p+ln (Bf d ks))=kyV sRB/\St (ok/\∀r∈ks,r.nd<=24/\r.nb<=k) (L++(ks.flatMap R.fl).map erG) (j+ks.length) (p+ln (Bf d ks)) (Ej (fun c=>decide (c.e_=0)&& !isF toks c.at_ sRB) (fun c=>E6 c (Dy TM toks (Eo TM toks k) c.at_)) (fuel toks) c):=by
 have hlen:ks.length<fuel toks:=by
  have h1:=Uh hs
  have h2:=M0 (d:=d) (l:=ks) fun r hr=>by
   obtain⟨v,l,e,_⟩:=(hk r hr).beg d
   exact Ajc e
  unfold ln at h2
  rw [List.length_append,List.length_map]at h1
  unfold fuel;omega
 obtain⟨p',e1,e2,e3⟩:=Q6 (g:=fun c=>decide (c.e_=0)&& !isF toks c.at_ sRB) (b:=fun c=>E6 c (Dy TM toks (Eo TM toks k) c.at_))
  (fun r:R=>r.fl.map erG) (fun r=>ln (r.st d)) (fun r=>r.nd<=24/\r.nb<=k) (fun p l=>(∀r∈l,ClP r)/\Ks toks p (kyK (Bf d l)++[kyV sRB]))
  (fun ok L j p c h hs=>by
   by_cases o:ok
   ·obtain⟨h1,_,_,h4⟩:=h.1 o
    have:isF toks (p:Int) sRB=true:=Bh (Al hs.2).1 (.inr (by decide))
    rw [h4,this];simp
   ·rw [h.2 o];simp)
  (fun c hc=>by simp [hc])
  (fun ok L j p c r l h hs=>by
   obtain⟨hq,hs⟩:=hs
   rw [Mz,List.append_assoc]at hs
   obtain⟨v,m,e,hv⟩:=(hq r (by simp)).beg d
   obtain⟨s1,s2⟩:=C4 hs
   have hg:isF toks (p:Int) sRB=false:=by
    rw [e]at s1
    exact Jm (Al s1).1 hv
   refine⟨fun o=> ?_,?_,fun r hr=>hq r (by simp [hr]),s2⟩
   ·obtain⟨h1,_,_,h4⟩:=h.1 o
    rw [h1,h4,hg];rfl
   ·refine O0 (k':=1) h fun o=> ?_
    rw [(h.1 o).2.2.2]
    exact(hq r (by simp)).par k d s1)
  ks (fuel toks) ok L j p c hlen h ⟨hk,hs⟩
 rw [←Akk]at e1
 subst e1
 refine⟨(Al e2.2).1,e3.eq ?_ rfl⟩
 rw [List.map_flatMap]
theorem Amb {n:Nat} {a:Int} {ks:List R} (hlen:ks.length=n) (h1n:1<=n) (hk:∀r∈ks,ClP r):StP (Ar ⟨25,[],0,wr n,a⟩ ks):=by
 have e:∀d,kyK ((Ar ⟨25,[],0,wr n,a⟩ ks).st d)=kyV D1::kyV sLB::(kyK (Bf (d+1) ks)++[kyV sRB]):=fun d=>by
  show kyK (line d [.tk D1,sps,.tk sLB]++(Bf (d+1) ks++line d [.tk sRB]))=_
  rw [Bc,D2,Bc,D2];rfl
 refine⟨fun d=>⟨D1,_,e d,by decide,by decide⟩,fun {toks p} k d hs _=> ?_⟩
 have hl:ln ((Ar ⟨25,[],0,wr n,a⟩ ks).st d)=ln (Bf (d+1) ks)+3:=by unfold ln;rw [e];simp
 rw [hl];rw [e]at hs
 obtain⟨t0,hs⟩:=Al hs
 obtain⟨t1,hs⟩:=Al hs
 obtain⟨w1,w2⟩:=M1 t0 (by decide)
 have ew:A8 TM toks (Eo TM toks k) p=Cq (Az toks sRB (Ai0 TM toks (Eo TM toks k) (Az toks sLB (Az toks D1 (Aw p))))) (nd toks 25 [] 0 p):=by unfold A8;rw [w2];rfl
 rw [Jn w1,ew]
 have h1:=Bm (Cn p) (Bh t0 (.inl (by decide)))
 have h2:=Bm h1 (Bh t1 (.inr (by decide)))
 unfold Ai0
 cases ks with
 |nil=>simp at hlen;omega
 |cons r l=>
  rw [Mz,List.append_assoc]at hs
  obtain⟨s1,s2⟩:=Mm hs (n:=ln (r.st (d+1))) rfl
  have h3:=O0 (k':=1) h2 (ok':=r.nd<=24/\r.nb<=k) (L':=r.fl.map erG) (p':=p+1+1+ln (r.st (d+1))) (d:=Dy TM toks (Eo TM toks k) (Az toks sLB (Az toks D1 (Aw p))).at_) fun o=>by
   rw [(h2.1 o).2.2.2]
   exact(hk r (by simp)).par k (d+1) s1
  obtain⟨t2,h4⟩:=At9 (fun r hr=>hk r (by simp [hr])) k (d+1) h3 s2
  have h5:=Bm h4 (Bh t2 (.inr (by decide)))
  have h6:=C6 (o:=25) (s:=[]) (n:=0) (x:=nd toks 25 [] 0 p) h5 fun _=>⟨rfl,rfl,rfl⟩
  have el:ln (Bf (d+1) (r::l))=ln (r.st (d+1))+ln (Bf (d+1) l):=by unfold ln;rw [Mz,List.length_append]
  refine G5 (x:=⟨25,[],0,wr n,a⟩) (ks:=r::l) (show(18:Int)<=25/\(25:Int)≠32 by decide) h6 ?_ (by simp) (by simp) (by omega)
  rw [show 0+1+l.length=n by rw [←hlen,List.length_cons];omega]
end
end Go.Proofs.YtcakelelfklhdaaGreatDoor
namespace Go.Proofs.YtcakelelfklhdaaGreatDoor
open Go.Vc Go.Lv Go.Ty Go.Tk Go.Tm
section
variable {toks:List Aq} {ok:Prop} {L:List Er} {j p q:Nat} {c:Cur}
theorem Arl {n:Int} (h:St ok L j p c) (t:Kt toks p=kyV (Lg n)) (h1:1<=n) (h2:n<=16):St ok L j (p+1) (Mu toks c)/\(ok->R3 toks c=n):=by
 have hN:=Vq (n:=n) (by omega) (by omega)
 obtain⟨k1,_,k3⟩:=Hw t
 rw [hN.kd]at k1
 rw [hN.nv]at k3
 have e:ok->Mu toks c=⟨c.l,c.n,c.at_+1,0⟩:=fun o=>by
  obtain⟨q1,q2,q3,q4⟩:=h.1 o
  unfold Mu
  rw [if_pos q1,q4,if_pos k1,if_neg (by rw [k3];omega)]
 refine⟨⟨fun o=> ?_,fun o=> ?_⟩,fun o=> ?_⟩
 ·obtain⟨q1,q2,q3,q4⟩:=h.1 o
  rw [e o]
  exact⟨rfl,q2,q3,by dsimp only;omega⟩
 ·have:=h.2 o
  unfold Mu
  rw [if_neg (by rw [this];decide)];exact this
 ·unfold R3
  rw [e o,if_pos rfl,(h.1 o).2.2.2,k3]
theorem Amc {s:Str} {a:Int} (hn:Tk.Ba s=true):Aer (Ar ⟨38,s,0,0,a⟩ []):=by
 have e:kyK ((Ar ⟨38,s,0,0,a⟩ []).st 0)=[kyV Ga,kyV s,kyV As]:=by
  show kyK (line 0 (.tk Ga::sps::.tk s::[.tk As]))=_
  rw [D2];rfl
 refine⟨⟨Ga,_,e,by decide⟩,fun {toks p} hs=> ?_⟩
 have hl:ln ((Ar ⟨38,s,0,0,a⟩ []).st 0)=3:=by unfold ln;rw [e];rfl
 rw [hl];rw [e]at hs
 obtain⟨t0,hs⟩:=Al hs
 obtain⟨t1,hs⟩:=Al hs
 have t2:=(Al hs).1
 have h1:=Bm (Cn p) (Bh t0 (.inl (by decide)))
 have h2:=Kb h1 (Du t1 hn)
 have hb:Ez toks sLS (Dh toks (Az toks Ga (Aw p)))=false:=(Hz h2 trivial).trans (Jm t2 (by decide))
 unfold Ln
 rw [if_pos (Bh t0 (.inl (by decide)))]
 unfold Nb Zg
 rw [hb,if_neg (by simp),if_neg (by simp)]
 have h3:=Bm h2 (Bh t2 (.inr (by decide)))
 have h6:=C6 (o:=38) (s:=s) (n:=0) (x:=nd toks 38 (Ba toks (Az toks Ga (Aw p))) 0 p) h3 fun _=>⟨rfl,(Hq h1 (Du t1 hn) trivial).trans (Hw t1).2.1,rfl⟩
 exact G5 (x:=⟨38,s,0,0,a⟩) (ks:=[]) (show(18:Int)<=38/\(38:Int)≠32 by decide) h6 Aol (by simp) (by simp) (by omega)
theorem Amd {s:Str} {n a:Int} (hn:Tk.Ba s=true) (h1n:1<=n) (h2n:n<=16):Aer (Ar ⟨38,s,n,0,a⟩ []):=by
 have e:kyK ((Ar ⟨38,s,n,0,a⟩ []).st 0)=[kyV Ga,kyV s,kyV sLS,kyV (Lg n),kyV sRS,kyV As]:=by
  show kyK (line 0 (.tk Ga::sps::.tk s::(if 0<n then [.tk sLS,.tk (Lg n),.tk sRS,.tk As]else [.tk As])))=_
  rw [D2,if_pos (by omega)];rfl
 refine⟨⟨Ga,_,e,by decide⟩,fun {toks p} hs=> ?_⟩
 have hl:ln ((Ar ⟨38,s,n,0,a⟩ []).st 0)=6:=by unfold ln;rw [e];rfl
 rw [hl];rw [e]at hs
 obtain⟨t0,hs⟩:=Al hs
 obtain⟨t1,hs⟩:=Al hs
 obtain⟨t2,hs⟩:=Al hs
 obtain⟨t3,hs⟩:=Al hs
 obtain⟨t4,hs⟩:=Al hs
 have t5:=(Al hs).1
 have h1:=Bm (Cn p) (Bh t0 (.inl (by decide)))
 have h2:=Kb h1 (Du t1 hn)
 have hb:Ez toks sLS (Dh toks (Az toks Ga (Aw p)))=true:=(Hz h2 trivial).trans (Bh t2 (.inr (by decide)))
 have h3:=Bm h2 (Bh t2 (.inr (by decide)))
 obtain⟨h4,hz⟩:=Arl h3 t3 h1n h2n
 have h5:=Bm h4 (Bh t4 (.inr (by decide)))
 unfold Ln
 rw [if_pos (Bh t0 (.inl (by decide)))]
 unfold Nb Zg
 rw [hb,if_pos rfl,if_pos rfl]
 have h6:=Bm h5 (Bh t5 (.inr (by decide)))
 have h7:=C6 (o:=38) (s:=s) (n:=n) (x:=nd toks 38 (Ba toks (Az toks Ga (Aw p))) (R3 toks (Az toks sLS (Dh toks (Az toks Ga (Aw p))))) p) h6 fun _=>⟨rfl,(Hq h1 (Du t1 hn) trivial).trans (Hw t1).2.1,hz trivial⟩
 exact G5 (x:=⟨38,s,n,0,a⟩) (ks:=[]) (show(18:Int)<=38/\(38:Int)≠32 by decide) h7 Aol (by simp) (by simp) (by omega)
theorem Ao1 {a:Int} {r:R} (hr:Ph r):Aer (Ar ⟨41,[],0,1,a⟩ [r]):=by
 have e:kyK ((Ar ⟨41,[],0,1,a⟩ [r]).st 0)=kyV N5::(kyV sLB::(kyK (r.st (0+1))++[kyV sRB])):=by
  show kyK (Bd 0 [.tk N5] r)=_
  rw [H4];rfl
 refine⟨⟨N5,_,e,by decide⟩,fun {toks p} hs=> ?_⟩
 have hl:ln ((Ar ⟨41,[],0,1,a⟩ [r]).st 0)=ln (r.st (0+1))+2+1:=by unfold ln;rw [e];simp
 rw [hl];rw [e]at hs
 obtain⟨t0,hs⟩:=Al hs
 have h1:=Bm (Cn p) (Bh t0 (.inl (by decide)))
 have h2:=Wd 24 (0+1) h1 hr hs
 unfold Ln
 rw [if_neg (by rw [Jm t0 (by decide)];simp),if_neg (by rw [Jm t0 (by decide)];simp)]
 have h6:=C6 (o:=41) (s:=[]) (n:=0) (x:=nd toks 41 [] 0 p) h2 fun _=>⟨rfl,rfl,rfl⟩
 exact G5 (x:=⟨41,[],0,1,a⟩) (ks:=[r]) (show(18:Int)<=41/\(41:Int)≠32 by decide) h6 Aja (by simp) (by simp) (by omega)
theorem Ahn {r:R} {s:Str} (h:St ok L j p c) (hn:Tk.Ba s=true) (hf:r.fl.map erG=[(39,s,0,0)]) (t:Kt toks p=kyV s):St ok (L++r.fl.map erG) (j+1) (p+1) (Ji toks c):=by
 unfold Ji
 have:=O0 (k':=1) h (ok':=True) (L':=r.fl.map erG) (p':=p+1) (d:=Cq (Dh toks (Aw c.at_)) (nd toks 39 (Ba toks (Aw c.at_)) 0 c.at_)) fun o=>by
  rw [(h.1 o).2.2.2,hf]
  have h1:=Kb (Cn p) (Du t hn)
  exact C6 (o:=39) (s:=s) (n:=0) h1 fun _=>⟨rfl,(Hq (Cn p) (Du t hn) trivial).trans (Hw t).2.1,rfl⟩
 exact this.iff (by simp)
theorem Ame {ks:List R} (hk:∀r∈ks,Aop r) (h:St ok L j p c) (hs:Ks toks p (Jr ks++[kyV sRP])):
 Kt toks (p+(Jr ks).length)=kyV sRP/\St ok (L++(ks.flatMap R.fl).map erG) (j+ks.length) (p+(Jr ks).length) (Ej (Ez toks Bz) (fun c=>Ji toks (Az toks Bz c)) (fuel toks) c):=by
 have hlen:ks.length<fuel toks:=by
  have h1:=Uh hs
  have h2:=Akl ks
  rw [List.length_append,List.length_map]at h1
  unfold fuel;omega
 have hN:∀r∈ks,ln r.tm=1:=fun r hr=>by
  obtain⟨s,e,_⟩:=(hk r hr).ex
  rw [e];rfl
 obtain⟨p',e1,e2,e3⟩:=Q6 (g:=Ez toks Bz) (b:=fun c=>Ji toks (Az toks Bz c))
  (fun r:R=>r.fl.map erG) (fun r=>1+ln r.tm) (fun _=>True) (fun p l=>(∀r∈l,Aop r)/\Ks toks p (Jr l++[kyV sRP]))
  (fun ok L j p c h hs=>by
   by_cases o:ok
   ·rw [Hz h o];exact Jm (Al hs.2).1 (by decide)
   ·exact My h o)
  (fun c hc=>by unfold Ez;rw [hc];rfl)
  (fun ok L j p c r l h hs=>by
   obtain⟨hq,hs⟩:=hs
   obtain⟨s,es,hn,hf⟩:=(hq r (by simp)).ex
   have hs:Ks toks p (kyV Bz::kyV s::(Jr l++[kyV sRP])):=by
    have:Jr (r::l)=kyV Bz::(kyK r.tm++Jr l):=rfl
    rw [this,es]at hs;exact hs
   obtain⟨t0,hs⟩:=Al hs
   obtain⟨t1,hs⟩:=Al hs
   refine⟨fun o=>by rw [Hz h o];exact Bh t0 (.inr (by decide)),?_,fun r hr=>hq r (by simp [hr]),?_⟩
   ·have:=Ahn (r:=r) (Bm h (Bh t0 (.inr (by decide)))) hn hf t1
    exact(this.eq rfl (by rw [es];rfl)).iff (by simp)
   ·rw [es];exact hs)
  ks (fuel toks) ok L j p c hlen h ⟨hk,hs⟩
 rw [←Akm]at e1
 subst e1
 refine⟨(Al e2.2).1,(e3.eq ?_ rfl).iff (by simp)⟩
 rw [List.map_flatMap]
theorem Ao2 {s:Str} {n:Nat} {a:Int} {ps:List R} {r:R} (hn:Tk.Ba s=true) (hlen:ps.length=n) (hk:∀r∈ps,Aop r) (hr:Ph r):Aer (Ar ⟨40,s,0,wr (n+1),a⟩ (ps++[r])):=by
 have est:(Ar ⟨40,s,0,wr (n+1),a⟩ (ps++[r])).st 0=Bd 0 (.tk Gg::sps::.tk s::.tk sLP::(Bs (ps.map R.tm)++[.tk sRP])) r:=by
  show stN ⟨40,s,0,wr (n+1),a⟩ (ps++[r]) 0=_
  unfold stN
  simp [kd]
 have e:kyK ((Ar ⟨40,s,0,wr (n+1),a⟩ (ps++[r])).st 0)=kyV Gg::kyV s::kyV sLP::((kyK (Bs (ps.map R.tm))++[kyV sRP])++(kyV sLB::(kyK (r.st (0+1))++[kyV sRB]))):=by
  rw [est,H4]
  show(_::_::_::kyK (Bs (ps.map R.tm)++[.tk sRP]))++_=_
  rw [Bc];rfl
 refine⟨⟨Gg,_,e,by decide⟩,fun {toks p} hs=> ?_⟩
 have hl:ln ((Ar ⟨40,s,0,wr (n+1),a⟩ (ps++[r])).st 0)=ln (Bs (ps.map R.tm))+1+(ln (r.st (0+1))+2)+3:=by unfold ln;rw [e];simp;omega
 rw [hl];rw [e]at hs
 obtain⟨t0,hs⟩:=Al hs
 obtain⟨t1,hs⟩:=Al hs
 obtain⟨t2,hs⟩:=Al hs
 obtain⟨hs,hB⟩:=Mm hs (n:=ln (Bs (ps.map R.tm))+1) (by unfold ln;simp)
 have h1:=Bm (Cn p) (Bh t0 (.inl (by decide)))
 have h2:=Kb h1 (Du t1 hn)
 have h3:=Bm h2 (Bh t2 (.inr (by decide)))
 have hA:Kt toks (p+1+1+1+ln (Bs (ps.map R.tm)))=kyV sRP/\St True ([]++(ps.flatMap R.fl).map erG) ps.length (p+1+1+1+ln (Bs (ps.map R.tm))) (Nc toks (Az toks sLP (Dh toks (Az toks Gg (Aw p))))):=by
  obtain⟨q1,q2,q3,q4⟩:=h3.1 trivial
  unfold Nc
  rw [q1,q4]
  cases ps with
  |nil=>
   have t3:=(Al (k:=kyV sRP) (a:=[]) hs).1
   rw [Bh t3 (.inr (by decide)),if_neg (by simp)]
   exact⟨t3,h3⟩
  |cons b l=>
   rw [N9,List.append_assoc]at hs
   obtain⟨sb,eb,hnb,hfb⟩:=(hk b (by simp)).ex
   rw [eb]at hs
   obtain⟨t3,hs⟩:=Al (k:=kyV sb) (a:=Jr l++[kyV sRP]) hs
   rw [Ajd t3 (Fb hnb).2,if_pos (by simp)]
   have h4:=Ahn (r:=b) h3 hnb hfb t3
   obtain⟨t4,h5⟩:=Ame (fun r hr=>hk r (by simp [hr])) h4 hs
   have el:ln (Bs ((b::l).map R.tm))=1+(Jr l).length:=by unfold ln;rw [N9,eb];simp [kyK];omega
   rw [el,show p+1+1+1+(1+(Jr l).length)=p+1+1+1+1+(Jr l).length by omega]
   refine⟨t4,?_⟩
   rw [show(b::l).length=0+1+l.length by simp;omega]
   exact h5.eq (by simp) rfl
 have h5:=Bm hA.2 (Bh hA.1 (.inr (by decide)))
 have h6:=Wd 24 (0+1) h5 hr hB
 unfold Ln
 rw [if_neg (by rw [Jm t0 (by decide)];simp),if_pos (Bh t0 (.inl (by decide)))]
 have h7:=C6 (o:=40) (s:=s) (n:=0) (x:=nd toks 40 (Ba toks (Az toks Gg (Aw p))) 0 p) h6 fun _=>⟨rfl,(Hq h1 (Du t1 hn) trivial).trans (Hw t1).2.1,rfl⟩
 refine G5 (x:=⟨40,s,0,wr (n+1),a⟩) (ks:=ps++[r]) (show(18:Int)<=40/\(40:Int)≠32 by decide) h7 (by rw [hlen]) (by simp) ?_ (by omega)
 refine⟨fun h x hx=> ?_,fun h=>⟨trivial,h r (by simp)⟩⟩
 rcases List.mem_append.1 hx with hx|hx
 ·rw [(hk x hx).nd,(hk x hx).nb];exact⟨Nat.zero_le _,Nat.zero_le _⟩
 ·have:x=r:=by simpa using hx
  rw [this];exact h.2
theorem Akn {r:R} (h:TmP r/\r.nb=0):PQ 69 r:=⟨fun _=>h,fun e=>absurd e (by decide),fun e=>absurd e (by decide),fun e=>absurd e (by decide),fun e=>absurd e (by decide),fun e=>absurd e (by decide),fun e=>absurd e (by decide)⟩
theorem Ao3 {r:R} (h:Ro r):PQ 82 r:=⟨fun e=>absurd e (by decide),fun _=>h,fun e=>absurd e (by decide),fun e=>absurd e (by decide),fun e=>absurd e (by decide),fun e=>absurd e (by decide),fun e=>absurd e (by decide)⟩
theorem Aua {r:R} (h:Aop r):PQ 80 r:=⟨fun e=>absurd e (by decide),fun e=>absurd e (by decide),fun _=>h,fun e=>absurd e (by decide),fun e=>absurd e (by decide),fun e=>absurd e (by decide),fun e=>absurd e (by decide)⟩
theorem O6 {r:R} (h:StP r):PQ 83 r:=⟨fun e=>absurd e (by decide),fun e=>absurd e (by decide),fun e=>absurd e (by decide),fun _=>h,fun e=>absurd e (by decide),fun e=>absurd e (by decide),fun e=>absurd e (by decide)⟩
theorem Aub {r:R} (h:Ph r):PQ 66 r:=⟨fun e=>absurd e (by decide),fun e=>absurd e (by decide),fun e=>absurd e (by decide),fun e=>absurd e (by decide),fun _=>h,fun e=>absurd e (by decide),fun e=>absurd e (by decide)⟩
theorem Zs {r:R} (h:ClP r):PQ 67 r:=⟨fun e=>absurd e (by decide),fun e=>absurd e (by decide),fun e=>absurd e (by decide),fun e=>absurd e (by decide),fun e=>absurd e (by decide),fun _=>h,fun e=>absurd e (by decide)⟩
theorem Aev {r:R} (h:Aer r):PQ 68 r:=⟨fun e=>absurd e (by decide),fun e=>absurd e (by decide),fun e=>absurd e (by decide),fun e=>absurd e (by decide),fun e=>absurd e (by decide),fun e=>absurd e (by decide),fun _=>h⟩
structure PB (c:UInt8) (r:R):Prop where
 q:PQ c r
 b:c=69->Aet r.tm
theorem Zt {x:Aj} {ks:List R} (h:x.op≠32) (hk:∀k∈ks,k.nb=0):(Ar x ks).nb=0:=by
 have:=(Zq (x:=x) (ks:=ks) h (n:=0)).2 fun k hk'=>Nat.le_of_eq (hk k hk')
 omega
theorem Arm (c:UInt8) (x:Aj) (ds:List UInt8) (ks:List R) (h:OkN c x ds) (hk:F2 PB ds ks):PB c (Ar x ks):=by
 have hb:F2 At3 ds ks:=by
  clear h
  induction ds generalizing ks with
  |nil=>cases ks with
   |nil=>trivial
   |cons=>exact hk
  |cons d ds ih=>cases ks with
   |nil=>exact hk
   |cons k ks=>exact⟨hk.1.b,ih ks hk.2⟩
 refine⟨?_,Al8 c x ds ks h hb⟩
 cases h with
 |num n a h0 h1=>exact Akn ⟨Atx h0 h1 ks hk.nil,Zt (show(1:Int)≠32 by decide) (by rw [hk.nil];simp)⟩
 |name s a hn=>exact Akn ⟨Aq8 hn ks hk.nil,Zt (show(2:Int)≠32 by decide) (by rw [hk.nil];simp)⟩
 |un op a ho=>
  obtain⟨k,rfl,hq⟩:=hk.one
  exact Akn ⟨Au9 ho (hq.q.tm rfl).1,Zt (show op≠32 by omega) (by simp [(hq.q.tm rfl).2])⟩
 |bin op a h5 h17=>
  obtain⟨k,k',rfl,hq,hq'⟩:=hk.two
  exact Akn ⟨Aty h5 h17 (hq.q.tm rfl).1 (hq'.q.tm rfl).1,Zt (show op≠32 by omega) (by simp [(hq.q.tm rfl).2,(hq'.q.tm rfl).2])⟩
 |set op s a ho hn=>
  obtain⟨k,rfl,hq⟩:=hk.one
  obtain⟨ht,hb'⟩:=hq.q.tm rfl
  rcases ho with rfl|rfl|rfl
  ·exact O6 (At4 hn ht hb')
  ·exact O6 (At5 hn ht (hq.b rfl) hb')
  ·exact O6 (Ard hn ht hb')
 |send a=>
  obtain⟨k,k',rfl,hq,hq'⟩:=hk.two
  exact O6 (Are (hq.q.ref rfl) (hq'.q.tm rfl).1 (hq'.q.tm rfl).2)
 |recv s a hn=>
  obtain⟨k,rfl,hq⟩:=hk.one
  exact O6 (Arf hn (hq.q.ref rfl))
 |if2 a=>
  obtain⟨k,k',rfl,hq,hq'⟩:=hk.two
  exact O6 (At7 (hq.q.tm rfl).1 (hq.q.tm rfl).2 (hq'.q.blk rfl))
 |if3 a=>
  obtain⟨k,k',k'',rfl,hq,hq',Ax4⟩:=hk.three
  exact O6 (At8 (hq.q.tm rfl).1 (hq.q.tm rfl).2 (hq'.q.blk rfl) (Ax4.q.blk rfl))
 |Bfc a=>
  obtain⟨k,k',rfl,hq,hq'⟩:=hk.two
  exact O6 (Aou (hq.q.tm rfl).1 (hq.q.tm rfl).2 (hq'.q.blk rfl))
 |sel k a h1=>exact O6 (Amb hk.rep.1 h1 fun r hr=>(hk.rep.2 r hr).q.cl rfl)
 |start s k a hn=>exact O6 (Aov hn hk.rep.1 fun r hr=>⟨((hk.rep.2 r hr).q.tm rfl).1,((hk.rep.2 r hr).q.tm rfl).2,(hk.rep.2 r hr).b rfl⟩)
 |one op a ho=>
  obtain⟨k,rfl,hq⟩:=hk.one
  refine O6 (At6 (w:=if op=27 then Kp else if op=28 then Kq else Ht) ?_ (hq.q.tm rfl).1 (hq.q.tm rfl).2)
  rcases ho with rfl|rfl|rfl<;>simp
 |none op a ho=>
  have:=hk.nil
  subst this
  refine O6 (Arh (w:=if op=30 then N3 else N4) ?_)
  rcases ho with rfl|rfl<;>simp
 |els a=>
  obtain⟨k,rfl,hq⟩:=hk.one
  exact Zs (Ark (hq.q.blk rfl))
 |clause op s a w ds' ho=>
  cases w with
  |false=>
   rcases ho with⟨rfl,hn,rfl⟩|⟨rfl,rfl,rfl⟩|⟨rfl,rfl,rfl⟩
   ·obtain⟨k,k',rfl,hq,hq'⟩:=F2.two (a:=82) (a':=66) hk
    exact Zs (Aox hn (hq.q.ref rfl) (hq'.q.blk rfl))
   ·obtain⟨k,k',k'',rfl,hq,hq',Ax4⟩:=F2.three (a:=82) (a':=69) (a'':=66) hk
    exact Zs (Aoz (hq.q.ref rfl) (hq'.q.tm rfl).1 (hq'.q.tm rfl).2 (Ax4.q.blk rfl))
   ·obtain⟨k,k',rfl,hq,hq'⟩:=F2.two (a:=69) (a':=66) hk
    exact Zs (Al9 (hq.q.tm rfl).1 (hq.q.tm rfl).2 (hq'.q.blk rfl))
  |true=>
   rcases ho with⟨rfl,hn,rfl⟩|⟨rfl,rfl,rfl⟩|⟨rfl,rfl,rfl⟩
   ·obtain⟨k0,k,k',rfl,hq0,hq,hq'⟩:=F2.three (a:=69) (a':=82) (a'':=66) hk
    exact Zs (Aoy (hq0.q.tm rfl).1 (hq0.q.tm rfl).2 hn (hq.q.ref rfl) (hq'.q.blk rfl))
   ·obtain⟨l1,l2,rfl,h1,h2⟩:=F2.split (l:=[69]) (l':=[82,69,66]) hk
    obtain⟨k0,rfl,hq0⟩:=h1.one
    obtain⟨k,k',k'',rfl,hq,hq',Ax4⟩:=h2.three
    exact Zs (Ao0 (hq0.q.tm rfl).1 (hq0.q.tm rfl).2 (hq.q.ref rfl) (hq'.q.tm rfl).1 (hq'.q.tm rfl).2 (Ax4.q.blk rfl))
   ·obtain⟨k0,k,k',rfl,hq0,hq,hq'⟩:=F2.three (a:=69) (a':=69) (a'':=66) hk
    exact Zs (Ama (hq0.q.tm rfl).1 (hq0.q.tm rfl).2 (hq.q.tm rfl).1 (hq.q.tm rfl).2 (hq'.q.blk rfl))
 |Bbh s a hn=>
  cases hk.nil
  exact Ao3 (Atz hn)
 |Bbi s a hn=>
  obtain⟨k,rfl,hq⟩:=hk.one
  exact Ao3 (At0 hn (hq.q.tm rfl).1 (hq.q.tm rfl).2)
 |block k a=>exact Aub (Aoq hk.rep.1 fun r hr=>(hk.rep.2 r hr).q.st rfl)
 |param s a hn=>
  cases hk.nil
  exact Aua ⟨rfl,rfl,s,rfl,hn,rfl⟩
 |unit k a=>exact⟨fun e=>absurd e (by decide),fun e=>absurd e (by decide),fun e=>absurd e (by decide),fun e=>absurd e (by decide),fun e=>absurd e (by decide),fun e=>absurd e (by decide),fun e=>absurd e (by decide)⟩
 |chan s n a hn h0 h1=>
  cases hk.nil
  by_cases h:n=0
  ·subst h;exact Aev (Amc hn)
  ·exact Aev (Amd hn (by omega) h1)
 |main a=>
  obtain⟨k,rfl,hq⟩:=hk.one
  exact Aev (Ao1 (hq.q.blk rfl))
 |proc s k a hn=>
  obtain⟨ps,bs,rfl,h1,h2⟩:=hk.split
  obtain⟨b,rfl,hq⟩:=h2.one
  exact Aev (Ao2 hn h1.rep.1 (fun r hr=>(h1.rep.2 r hr).q.prm rfl) (hq.q.blk rfl))
theorem Aje {ks:List R} (hk:∀r∈ks,Aer r) (hs:Ks toks 0 (kyK (Bf 0 ks)++[((0:Int),([]:Str),(0:Int))])):
 ((∀r∈ks,r.nd<=24/\r.nb<=24)->(Fy TM toks).e_=0/\(Fy TM toks).l.map erG=(42,[],0,wr ks.length)::(ks.flatMap R.fl).map erG)/\(¬(∀r∈ks,r.nd<=24/\r.nb<=24)->(Fy TM toks).e_=5):=by
 have hlen:ks.length<fuel toks:=by
  have h1:=Uh hs
  have h2:=M0 (d:=0) (l:=ks) fun r hr=>by
   obtain⟨v,l,e,_⟩:=(hk r hr).beg
   exact Ajc e
  unfold ln at h2
  rw [List.length_append,List.length_map]at h1
  unfold fuel;omega
 obtain⟨p',e1,e2,e3⟩:=Q6 (g:=fun c=>decide (c.e_=0)&& !decide ((B6 toks c.at_).kind=0)) (b:=fun c=>E6 c (Ln TM toks c.at_))
  (fun r:R=>r.fl.map erG) (fun r=>ln (r.st 0)) (fun r=>r.nd<=24/\r.nb<=24) (fun p l=>(∀r∈l,Aer r)/\Ks toks p (kyK (Bf 0 l)++[((0:Int),([]:Str),(0:Int))]))
  (fun ok L j p c h hs=>by
   by_cases o:ok
   ·obtain⟨h1,_,_,h4⟩:=h.1 o
    have h5:kyT (T (toks.map tT) p)=((0:Int),([]:Str),(0:Int)):=(Al hs.2).1
    have:(B6 toks (p:Int)).kind=0:=by rw [Aom];exact congrArg (·.1) h5
    rw [h4,this];simp
   ·rw [h.2 o];simp)
  (fun c hc=>by simp [hc])
  (fun ok L j p c r l h hs=>by
   obtain⟨hq,hs⟩:=hs
   rw [Mz,List.append_assoc]at hs
   obtain⟨v,m,e,hv⟩:=(hq r (by simp)).beg
   obtain⟨s1,s2⟩:=C4 hs
   have hg:(B6 toks (p:Int)).kind=3:=by
    rw [e]at s1
    exact(Hw (Al s1).1).1.trans hv
   refine⟨fun o=> ?_,?_,fun r hr=>hq r (by simp [hr]),s2⟩
   ·obtain⟨h1,_,_,h4⟩:=h.1 o
    rw [h1,h4,hg];rfl
   ·refine O0 (k':=1) h fun o=> ?_
    rw [(h.1 o).2.2.2]
    exact(hq r (by simp)).par s1)
  ks (fuel toks) True [] 0 0 (Aw 0) hlen (Cn 0) ⟨hk,hs⟩
 have e3:St (True/\∀r∈ks,r.nd<=24/\r.nb<=24) ([]++(ks.flatMap R.fl).map erG) (0+ks.length) p' (Mv TM toks):=e3.eq (by rw [List.map_flatMap]) rfl
 refine⟨fun o=> ?_,fun o=> ?_⟩
 ·obtain⟨h1,h2,h3,h4⟩:=e3.1 ⟨trivial,o⟩
  unfold Fy
  rw [if_neg (by rw [h1];simp)]
  refine⟨rfl,?_⟩
  show erG ⟨42,[],0,(Mv TM toks).n,0⟩::(Mv TM toks).l.map erG=_
  rw [h2,h3,Nat.zero_add];rfl
 ·have h:=e3.2 fun h=>o h.2
  unfold Fy
  rw [if_pos (by rw [h];decide)];exact h
end
end Go.Proofs.YtcakelelfklhdaaGreatDoor
namespace Go.Proofs.YtcakelelfklhdaaGreatDoor
open Go.Vc Go.Lv Go.Ty Go.Tk Go.Tm
def Aa8 (f:Fo):R:=(Fz f).getD 0 R0
def Jo (f:Fo):Str:=tx ((Aa8 f).st 0)
def okF (f:Fo):Prop:=(Aa8 f).nd<=24/\(Aa8 f).nb<=24
theorem Aew:∀(cs:List Ck) (a:Nat),(Ue cs a).map kyT=kyK cs
 |[],_=>rfl
 | .sp _::cs,a=>Aew cs (a+1)
 | .tk v::cs,a=>by
  show kyT ⟨kdS v,v,nvS v,a⟩::(Ue cs (a+v.length)).map kyT=_
  rw [Aew];rfl
theorem Zu {f:Fo} (h:WfF [85] f):∃(k:Nat) (a:Int) (ks:List R),Fz f=[Ar ⟨42,[],0,wr k,a⟩ ks]/\ks.length=k/\(∀r∈ks,Aer r)/\(∀r∈ks,Vr 68 r):=by
 cases h with
 |@cons c x ds cs a b ho ha hb=>
  have hb':b= .nil:=by cases hb;rfl
  subst hb'
  have h1:=Vk PB Arm ha
  have h2:=Aq7 ha
  cases ho with
  |unit k a'=>
   exact⟨k,a',Fz a,rfl,h1.rep.1,fun r hr=>(h1.rep.2 r hr).q.dcl rfl,h2.rep.2⟩
theorem Aho {f:Fo} (h:WfF [85] f):f.flat=(Aa8 f).fl:=by
 obtain⟨k,a,ks,e,_⟩:=Zu h
 rw [Ub]
 unfold Aa8
 rw [e]
 show(Ar _ ks).fl++[]=_
 rw [List.append_nil];rfl
theorem Ajf {f:Fo} (h:WfF [85] f) (hl:(Jo f).length<=65536):(okF f->(J9 (Jo f)).e_=0/\(J9 (Jo f)).l.map erG=f.flat.map erG)/\(¬okF f->(J9 (Jo f)).e_=5):=by
 obtain⟨k,a,ks,e,hk,hd,hs⟩:=Zu h
 have et:Aa8 f=Ar ⟨42,[],0,wr k,a⟩ ks:=by unfold Aa8;rw [e];rfl
 have es:Jo f=tx (Bf 0 ks):=by unfold Jo;rw [et];rfl
 rw [Aho h,et]
 have hok:okF f↔∀r∈ks,r.nd<=24/\r.nb<=24:=by
  unfold okF
  rw [et,Vt (show(18:Int)<=42 by decide),Zq (show(42:Int)≠32 by decide)]
  exact⟨fun h r hr=>⟨h.1 r hr,h.2 r hr⟩,fun h=>⟨fun r hr=>(h r hr).1,fun r hr=>(h r hr).2⟩⟩
 rw [hok]
 rw [es]at hl⊢
 have Bz1:=Aqw (Bf 0 ks) (Qr (fun r hr=>Lb (by decide) (hs r hr))) hl
 have hk0:(Gu (tx (Bf 0 ks))).map tT=Ue (Bf 0 ks) 0++[⟨0,[],0,(tx (Bf 0 ks)).length⟩]:=by
  unfold Gu
  rw [Bz1,List.map_map]
  exact List.map_id' _
 have hks:Ks (Gu (tx (Bf 0 ks))) 0 (kyK (Bf 0 ks)++[((0:Int),([]:Str),(0:Int))]):=by
  refine⟨[],?_⟩
  rw [List.append_nil,List.drop_zero,hk0,List.map_append,Aew];rfl
 obtain⟨h1,h2⟩:=Aje hd hks
 have he:(Ly (tx (Bf 0 ks))).2.2=0:=by rw [Bz1]
 refine⟨fun o=> ?_,fun o=> ?_⟩
 ·obtain⟨e1,e2⟩:=h1 o
  unfold J9
  rw [if_neg (fun c=>c he),if_neg (fun c=>c e1)]
  refine⟨rfl,?_⟩
  rw [e2,hk];rfl
 ·have e1:=h2 o
  unfold J9
  rw [if_neg (fun c=>c he),if_pos (by rw [e1];decide)]
  exact e1
end Go.Proofs.YtcakelelfklhdaaGreatDoor
namespace Go.Proofs.YtcakelelfklhdaaGreatDoor
open Go.Vc Go.Lv Go.Ty Go.Tk Go.Tm
def tl (l:List Ck):Nat:=(tx l).length
theorem Ce:tl []=0:=rfl
theorem Ch (l:List Ck):tl (sps::l)=tl l+1:=by unfold tl;rw [Cj,List.length_append];show 1+_=_;omega
theorem A6 (v:Str) (l:List Ck):tl (.tk v::l)=v.length+tl l:=by unfold tl;rw [Cj,List.length_append];rfl
theorem B3 (a b:List Ck):tl (a++b)=tl a+tl b:=by unfold tl;rw [Cr,List.length_append]
theorem Ea (d:Nat) (l:List Ck):tl (line d l)=d+tl l+1:=by
 unfold line
 rw [B3,B3]
 have h1:tl (List.replicate d (Ck.sp 9))=d:=by
  induction d with
  |zero=>rfl
  |succ d ih=>rw [List.replicate_succ];unfold tl at*;rw [Cj,List.length_append,ih];show 1+d=d+1;omega
 have h2:tl [Ck.sp 10]=1:=rfl
 rw [h1,h2];omega
def H5 (D:Nat) (x:Aj):Nat:=
 if x.op<18\/x.op=33\/x.op=39 then 24 else if x.op=32 then 2*D+6 else if x.op=25 then 2*D+14
 else if x.op<=22\/(26<=x.op/\x.op<=31)\/x.op=38 then D+34 else 50
def Bx (D:Nat) (l:List Aj):Nat:=(l.map (H5 D)).foldr (·+·) 0
theorem Kx (D:Nat) (x:Aj) (l:List Aj):Bx D (x::l)=H5 D x+Bx D l:=rfl
theorem C7 (D:Nat):∀(a b:List Aj),Bx D (a++b)=Bx D a+Bx D b
 |[],b=>by show Bx D b=0+_;omega
 |x::a,b=>by rw [List.cons_append,Kx,Kx,C7 D a b];omega
theorem Lc (D:Nat) (x:Aj) (ks:List R):Bx D (Ar x ks).fl=H5 D x+Bx D (ks.flatMap R.fl):=rfl
theorem Ako {n:Int} (h0:0<=n) (h1:n<=999999999999999999):(Lg n).length<=18:=by
 have e:Lg n=Xi 18 n.toNat []:=Uf 20 18 _ _ (by omega) (by omega) (by omega) (by omega)
 obtain⟨c,v,e2,ha,hl,hz,hv⟩:=Aeq 18 n.toNat [] (by omega) (by omega)
 rw [e,e2,List.append_nil,List.length_cons];omega
structure LnQ (D:Nat) (c:UInt8) (r:R):Prop where
 tm:c=69\/c=82\/c=80->tl r.tm+4<=Bx D r.fl
 st:c=83\/c=68->∀d,d+2*r.nb<=D->tl (r.st d)<=Bx D r.fl
 cl:c=67->1<=r.nb/\∀d,d+2*r.nb<=D+1->tl (r.st d)<=Bx D r.fl
 bl:c=66->1<=r.nb/\∀d,d+2*r.nb<=D+2->tl (r.st d)+(2*D+6)<=Bx D r.fl
section
variable {D:Nat}
theorem Zv {c:UInt8} {r:R} (hc:c=69\/c=82\/c=80) (h:tl r.tm+4<=Bx D r.fl):LnQ D c r:=by
 refine⟨fun _=>h,fun e=> ?_,fun e=> ?_,fun e=> ?_⟩
 ·rcases hc with rfl|rfl|rfl<;>exact absurd e (by decide)
 ·rcases hc with rfl|rfl|rfl<;>exact absurd e (by decide)
 ·rcases hc with rfl|rfl|rfl<;>exact absurd e (by decide)
theorem Oa {c:UInt8} {r:R} (hc:c=83\/c=68) (h:∀d,d+2*r.nb<=D->tl (r.st d)<=Bx D r.fl):LnQ D c r:=by
 refine⟨fun e=> ?_,fun _=>h,fun e=> ?_,fun e=> ?_⟩
 ·rcases hc with rfl|rfl<;>exact absurd e (by decide)
 ·rcases hc with rfl|rfl<;>exact absurd e (by decide)
 ·rcases hc with rfl|rfl<;>exact absurd e (by decide)
theorem Aso {r:R} (h:1<=r.nb/\∀d,d+2*r.nb<=D+1->tl (r.st d)<=Bx D r.fl):LnQ D 67 r:=
 ⟨fun e=>absurd e (by decide),fun e=>absurd e (by decide),fun _=>h,fun e=>absurd e (by decide)⟩
theorem Aex (r:R) (n:Nat):tl (Br r n)<=tl r.tm+2:=by
 unfold Br
 split
 ·rw [A6,B3,A6,Ce];show 1+(_+(1+0))<=_;omega
 ·omega
theorem Ao4 (d:Nat) (f:List Ck) (r:R):tl (Bd d f r)=2*d+tl f+5+tl (r.st (d+1)):=by
 unfold Bd
 rw [B3,Ea,B3,Ch,A6,Ce,B3,Ea,A6,Ce]
 show d+(tl f+(1+0+1))+1+(tl (r.st (d+1))+(d+(1+0)+1))=_
 omega
theorem R5 {d:Nat} {f:List Ck} {r:R} (h:LnQ D 66 r) (hd:d+2*r.nb<=D+1):tl (Bd d f r)+1<=tl f+Bx D r.fl:=by
 obtain⟨h1,h2⟩:=h.bl rfl
 have:=h2 (d+1) (by omega)
 rw [Ao4];omega
theorem Ab9:∀(l:List (List Ck)),tl (Bs l)<=(l.map fun a=>tl a+2).foldr (·+·) 0
 |[]=>Nat.le_refl _
 |[a]=>by show tl a<=tl a+2+0;omega
 |a::b::l=>by
  have ih:=Ab9 (b::l)
  show tl (a++(.tk Bz::sps::Bs (b::l)))<=tl a+2+((b::l).map fun a=>tl a+2).foldr (·+·) 0
  rw [B3,A6,Ch]
  show tl a+(1+(tl (Bs (b::l))+1))<=_
  omega
theorem Akp {c:UInt8} (hc:c=69\/c=80):∀ {ks:List R},(∀r∈ks,LnQ D c r)->tl (Bs (ks.map R.tm))<=Bx D (ks.flatMap R.fl):=by
 intro ks h
 refine Nat.le_trans (Ab9 _) ?_
 induction ks with
 |nil=>exact Nat.le_refl _
 |cons k ks ih=>
  have h1:=(h k (by simp)).tm (by rcases hc with rfl|rfl<;>simp)
  have h2:=ih fun r hr=>h r (by simp [hr])
  rw [List.flatMap_cons,C7]
  show tl k.tm+2+((ks.map R.tm).map fun a=>tl a+2).foldr (·+·) 0<=_
  omega
theorem Xu {d:Nat} :∀ {ks:List R},(∀r∈ks,tl (r.st d)<=Bx D r.fl)->tl (Bf d ks)<=Bx D (ks.flatMap R.fl)
 |[],_=>Nat.le_refl _
 |k::ks,h=>by
  have h1:=h k (by simp)
  have h2:=Xu (d:=d) (ks:=ks) fun r hr=>h r (by simp [hr])
  rw [List.flatMap_cons,C7]
  show tl (k.st d++Bf d ks)<=_
  rw [B3];omega
theorem Nh {x:Aj} {ks:List R} {k:R} (hx:x.op≠32) (hk:k∈ks):k.nb<=(Ar x ks).nb:=(Zq hx).1 (Nat.le_refl _) k hk
theorem Arn (c:UInt8) (x:Aj) (ds:List UInt8) (ks:List R) (h:OkN c x ds) (hk:F2 (LnQ D) ds ks):LnQ D c (Ar x ks):=by
 cases h with
 |num n a h0 h1=>
  have:=hk.nil
  subst this
  refine Zv (.inl rfl) ?_
  show tl [.tk (Lg n)]+4<=24+0
  have:=Ako h0 h1
  rw [A6,Ce];omega
 |name s a hn=>
  have:=hk.nil
  subst this
  refine Zv (.inl rfl) ?_
  show tl [.tk s]+4<=24+0
  have:=Gb hn
  rw [A6,Ce];omega
 |un op a ho=>
  obtain⟨k,rfl,hq⟩:=hk.one
  refine Zv (.inl rfl) ?_
  have h1:=hq.tm (.inl rfl)
  have h2:=Aex k 6
  rcases ho with rfl|rfl
  ·show tl (.tk [45]::Br k 6)+4<=24+Bx D (k.fl++[])
   rw [A6,List.append_nil];show 1+_+4<=_;omega
  ·show tl (.tk [33]::Br k 6)+4<=24+Bx D (k.fl++[])
   rw [A6,List.append_nil];show 1+_+4<=_;omega
 |bin op a h5 h17=>
  obtain⟨k,k',rfl,hq,hq'⟩:=hk.two
  refine Zv (.inl rfl) ?_
  have h1:=hq.tm (.inl rfl)
  have h2:=Aex k (Cc op)
  have h1':=hq'.tm (.inl rfl)
  have h2':=Aex k' (B4 op+1)
  have htm:(Ar ⟨op,[],0,2,a⟩ [k,k']).tm=Br k (Cc op)++(sps::.tk (sgO op)::sps::Br k' (B4 op+1)):=by
   show tmN ⟨op,[],0,2,a⟩ [k,k']=_
   unfold tmN
   dsimp only
   rw [if_neg (by omega),if_neg (by omega),if_neg (by omega),if_neg (by omega)]
   rfl
  have hsg:(sgO op).length<=2:=by
   rcases ops (op:=op) (by omega)with rfl|rfl|rfl|rfl|rfl|rfl|rfl|rfl|rfl|rfl|rfl|rfl|rfl|rfl|rfl<;>decide
  have hc:H5 D ⟨op,[],0,2,a⟩=24:=by unfold H5;rw [if_pos (.inl (show op<18 by omega))]
  rw [htm,Lc,hc,B3,Ch,A6,Ch]
  show _<=24+Bx D (k.fl++(k'.fl++[]))
  rw [C7,List.append_nil];omega
 |set op s a ho hn=>
  obtain⟨k,rfl,hq⟩:=hk.one
  have h1:=hq.tm (.inl rfl)
  have h3:=Gb hn
  refine Oa (.inl rfl) fun d hd=> ?_
  rcases ho with rfl|rfl|rfl
  ·show tl (line d (.tk Pg::sps::.tk s::sps::.tk sEq::sps::(k.tm++[.tk As])))<=(D+34)+Bx D (k.fl++[])
   rw [Ea,A6,Ch,A6,Ch,A6,Ch,B3,A6,Ce,List.append_nil]
   show d+(3+(s.length+(1+(tl k.tm+(1+0)+1)+1)+1))+1<=_
   omega
  ·show tl (line d (.tk s::sps::.tk sEq::sps::(k.tm++[.tk As])))<=(D+34)+Bx D (k.fl++[])
   rw [Ea,A6,Ch,A6,Ch,B3,A6,Ce,List.append_nil]
   show d+(s.length+(1+(tl k.tm+(1+0)+1)+1))+1<=_
   omega
  ·show tl (line d (.tk s::sps::.tk sEq::sps::.tk Gq::.tk sLP::(k.tm++[.tk sRP,.tk As])))<=(D+34)+Bx D (k.fl++[])
   rw [Ea,A6,Ch,A6,Ch,A6,A6,B3,A6,A6,Ce,List.append_nil]
   show d+(s.length+(1+(6+(1+(tl k.tm+(1+(1+0))))+1)+1))+1<=_
   omega
 |send a=>
  obtain⟨k,k',rfl,hq,hq'⟩:=hk.two
  have h1:=hq.tm (.inr (.inl rfl))
  have h2:=hq'.tm (.inl rfl)
  refine Oa (.inl rfl) fun d hd=> ?_
  show tl (line d (k.tm++(sps::.tk C5::sps::(k'.tm++[.tk As]))))<=(D+34)+Bx D (k.fl++(k'.fl++[]))
  rw [Ea,B3,Ch,A6,Ch,B3,A6,Ce,List.append_nil,C7]
  show d+(tl k.tm+(1+(tl k'.tm+(1+0)+1)+1))+1<=_
  omega
 |recv s a hn=>
  obtain⟨k,rfl,hq⟩:=hk.one
  have h1:=hq.tm (.inr (.inl rfl))
  have h3:=Gb hn
  refine Oa (.inl rfl) fun d hd=> ?_
  show tl (line d (k.tm++[sps,.tk Gt,sps,.tk s,.tk As]))<=(D+34)+Bx D (k.fl++[])
  rw [Ea,B3,Ch,A6,Ch,A6,A6,Ce,List.append_nil]
  show d+(tl k.tm+(1+(s.length+(1+0)+1)+1))+1<=_
  omega
 |if2 a=>
  obtain⟨k,k',rfl,hq,hq'⟩:=hk.two
  have h1:=hq.tm (.inl rfl)
  obtain⟨h2,h3⟩:=hq'.bl rfl
  refine Oa (.inl rfl) fun d hd=> ?_
  have hn:=Nh (x:=⟨23,[],0,2,a⟩) (ks:=[k,k']) (k:=k') (show(23:Int)≠32 by decide) (by simp)
  have:=h3 (d+1) (by omega)
  show tl (line d (.tk sIf::sps::(k.tm++[sps,.tk sLB]))++(k'.st (d+1)++line d [.tk sRB]))<=50+Bx D (k.fl++(k'.fl++[]))
  rw [B3,Ea,A6,Ch,B3,Ch,A6,Ce,B3,Ea,A6,Ce,List.append_nil,C7]
  show d+(2+(tl k.tm+(1+0+1)+1))+1+(tl (k'.st (d+1))+(d+(1+0)+1))<=_
  omega
 |if3 a=>
  obtain⟨k,k',k'',rfl,hq,hq',Ax4⟩:=hk.three
  have h1:=hq.tm (.inl rfl)
  obtain⟨h2,h3⟩:=hq'.bl rfl
  obtain⟨h4,h5⟩:=Ax4.bl rfl
  refine Oa (.inl rfl) fun d hd=> ?_
  have hn:=Nh (x:=⟨23,[],0,3,a⟩) (ks:=[k,k',k'']) (k:=k') (show(23:Int)≠32 by decide) (by simp)
  have hn':=Nh (x:=⟨23,[],0,3,a⟩) (ks:=[k,k',k'']) (k:=k'') (show(23:Int)≠32 by decide) (by simp)
  have:=h3 (d+1) (by omega)
  have:=h5 (d+1) (by omega)
  show tl (line d (.tk sIf::sps::(k.tm++[sps,.tk sLB]))++(k'.st (d+1)++(line d [.tk sRB,sps,.tk Dq,sps,.tk sLB]++(k''.st (d+1)++line d [.tk sRB]))))<=50+Bx D (k.fl++(k'.fl++(k''.fl++[])))
  rw [B3,Ea,A6,Ch,B3,Ch,A6,Ce,B3,B3,Ea,A6,Ch,A6,Ch,A6,Ce,B3,Ea,A6,Ce,List.append_nil,C7,C7]
  show d+(2+(tl k.tm+(1+0+1)+1))+1+(tl (k'.st (d+1))+(d+(1+(4+(1+0+1)+1))+1+(tl (k''.st (d+1))+(d+(1+0)+1))))<=_
  omega
 |Bfc a=>
  obtain⟨k,k',rfl,hq,hq'⟩:=hk.two
  have h1:=hq.tm (.inl rfl)
  refine Oa (.inl rfl) fun d hd=> ?_
  have hn:=Nh (x:=⟨24,[],0,2,a⟩) (ks:=[k,k']) (k:=k') (show(24:Int)≠32 by decide) (by simp)
  show tl (Bd d (.tk F9::sps::k.tm) k')<=50+Bx D (k.fl++(k'.fl++[]))
  have:=R5 (d:=d) (f:= .tk F9::sps::k.tm) hq' (by omega)
  rw [A6,Ch]at this
  have h5:F9.length=5:=rfl
  rw [List.append_nil,C7];omega
 |sel k a h1=>
  refine Oa (.inl rfl) fun d hd=> ?_
  have hb:tl (Bf (d+1) ks)<=Bx D (ks.flatMap R.fl):=Xu fun r hr=>((hk.rep.2 r hr).cl rfl).2 (d+1) (by
   have:=Nh (x:=⟨25,[],0,wr k,a⟩) (ks:=ks) (k:=r) (show(25:Int)≠32 by decide) hr
   omega)
  show tl (line d [.tk D1,sps,.tk sLB]++(Bf (d+1) ks++line d [.tk sRB]))<=(2*D+14)+Bx D (ks.flatMap R.fl)
  rw [B3,Ea,A6,Ch,A6,Ce,B3,Ea,A6,Ce]
  show d+(6+(1+0+1))+1+(tl (Bf (d+1) ks)+(d+(1+0)+1))<=_
  omega
 |start s k a hn=>
  refine Oa (.inl rfl) fun d hd=> ?_
  have h1:=Akp (D:=D) (.inl rfl) hk.rep.2
  have h3:=Gb hn
  show tl (line d (.tk Ff::sps::.tk s::.tk sLP::(Bs (ks.map R.tm)++[.tk sRP,.tk As])))<=(D+34)+Bx D (ks.flatMap R.fl)
  rw [Ea,A6,Ch,A6,A6,B3,A6,A6,Ce]
  show d+(5+(s.length+(1+(tl (Bs (ks.map R.tm))+(1+(1+0))))+1))+1<=_
  omega
 |one op a ho=>
  obtain⟨k,rfl,hq⟩:=hk.one
  have h1:=hq.tm (.inl rfl)
  refine Oa (.inl rfl) fun d hd=> ?_
  rcases ho with rfl|rfl|rfl
  ·show tl (line d (.tk Kp::sps::(k.tm++[.tk As])))<=(D+34)+Bx D (k.fl++[])
   rw [Ea,A6,Ch,B3,A6,Ce,List.append_nil]
   show d+(5+(tl k.tm+(1+0)+1))+1<=_
   omega
  ·show tl (line d (.tk Kq::sps::(k.tm++[.tk As])))<=(D+34)+Bx D (k.fl++[])
   rw [Ea,A6,Ch,B3,A6,Ce,List.append_nil]
   show d+(5+(tl k.tm+(1+0)+1))+1<=_
   omega
  ·show tl (line d (.tk Ht::sps::(k.tm++[.tk As])))<=(D+34)+Bx D (k.fl++[])
   rw [Ea,A6,Ch,B3,A6,Ce,List.append_nil]
   show d+(6+(tl k.tm+(1+0)+1))+1<=_
   omega
 |none op a ho=>
  have:=hk.nil
  subst this
  refine Oa (.inl rfl) fun d hd=> ?_
  rcases ho with rfl|rfl
  ·show tl (line d [.tk N3,.tk As])<=(D+34)+0
   rw [Ea,A6,A6,Ce]
   show d+(4+(1+0))+1<=_
   omega
  ·show tl (line d [.tk N4,.tk As])<=(D+34)+0
   rw [Ea,A6,A6,Ce]
   show d+(4+(1+0))+1<=_
   omega
 |els a=>
  obtain⟨k,rfl,hq⟩:=hk.one
  have hn:=Nh (x:=⟨37,[],0,1,a⟩) (ks:=[k]) (k:=k) (show(37:Int)≠32 by decide) (by simp)
  refine Aso ⟨Nat.le_trans (hq.bl rfl).1 hn,fun d hd=> ?_⟩
  show tl (Bd d [.tk Dq] k)<=50+Bx D (k.fl++[])
  have:=R5 (d:=d) (f:=[.tk Dq]) hq (by omega)
  rw [A6,Ce]at this
  have h5:Dq.length=4:=rfl
  rw [List.append_nil];omega
 |clause op s a w ds' ho=>
  have e34:∀(n:Int) (kids:Int) (ks:List R) (d:Nat),(Ar ⟨34,s,n,kids,a⟩ ks).st d=Bd d (D8 ⟨34,s,n,kids,a⟩ ks++((kd ks n.toNat).tm++[sps,.tk Gt,sps,.tk s])) (kd ks (n.toNat+1)):=fun _ _ _ _=>rfl
  have e35:∀(n:Int) (kids:Int) (ks:List R) (d:Nat),(Ar ⟨35,s,n,kids,a⟩ ks).st d=Bd d (D8 ⟨35,s,n,kids,a⟩ ks++((kd ks n.toNat).tm++(sps::.tk C5::sps::(kd ks (n.toNat+1)).tm))) (kd ks (n.toNat+2)):=fun _ _ _ _=>rfl
  have e36:∀(n:Int) (kids:Int) (ks:List R) (d:Nat),(Ar ⟨36,s,n,kids,a⟩ ks).st d=Bd d (D8 ⟨36,s,n,kids,a⟩ ks++(.tk D7::sps::(kd ks n.toNat).tm)) (kd ks (n.toNat+1)):=fun _ _ _ _=>rfl
  have Bay:H5 D ⟨op,s,if w then 1 else 0,wr ((if w then [69]else [])++ds').length,a⟩=50:=by
   unfold H5
   dsimp only
   rw [if_neg (by omega),if_neg (by omega),if_neg (by omega),if_neg (by omega)]
  have hne:op≠32:=by omega
  have hB:∀(b:R),b∈ks->LnQ D 66 b->(∀d,d+2*b.nb<=D+1->tl ((Ar ⟨op,s,if w then 1 else 0,wr ((if w then [69]else [])++ds').length,a⟩ ks).st d)<=Bx D (Ar ⟨op,s,if w then 1 else 0,wr ((if w then [69]else [])++ds').length,a⟩ ks).fl)->LnQ D 67 (Ar ⟨op,s,if w then 1 else 0,wr ((if w then [69]else [])++ds').length,a⟩ ks):=by
   intro b hb hq h
   have hn:=Nh (x:=⟨op,s,if w then 1 else 0,wr ((if w then [69]else [])++ds').length,a⟩) (ks:=ks) (k:=b) hne hb
   exact Aso ⟨Nat.le_trans (hq.bl rfl).1 hn,fun d hd=>h d (by omega)⟩
  cases w with
  |false=>
   rcases ho with⟨rfl,hn,rfl⟩|⟨rfl,rfl,rfl⟩|⟨rfl,rfl,rfl⟩
   ·obtain⟨k,k',rfl,hq,hq'⟩:=F2.two (a:=82) (a':=66) hk
    refine hB k' (by simp) hq' fun d hd=> ?_
    have h1:=hq.tm (.inr (.inl rfl))
    have h3:=Gb hn
    have hb:=R5 (d:=d) (f:=[.tk Bq,sps]++(k.tm++[sps,.tk Gt,sps,.tk s])) hq' hd
    rw [Lc,Bay]
    show tl (Bd d ([.tk Bq,sps]++(k.tm++[sps,.tk Gt,sps,.tk s])) k')<=50+Bx D (k.fl++(k'.fl++[]))
    rw [B3,A6,Ch,Ce,B3,Ch,A6,Ch,A6,Ce]at hb
    have h5:Bq.length=4:=rfl
    have h6:Gt.length=1:=rfl
    rw [List.append_nil,C7];omega
   ·obtain⟨k,k',k'',rfl,hq,hq',Ax4⟩:=F2.three (a:=82) (a':=69) (a'':=66) hk
    refine hB k'' (by simp) Ax4 fun d hd=> ?_
    have h1:=hq.tm (.inr (.inl rfl))
    have h2:=hq'.tm (.inl rfl)
    have hb:=R5 (d:=d) (f:=[.tk Bq,sps]++(k.tm++(sps::.tk C5::sps::k'.tm))) Ax4 hd
    rw [Lc,Bay]
    show tl (Bd d ([.tk Bq,sps]++(k.tm++(sps::.tk C5::sps::k'.tm))) k'')<=50+Bx D (k.fl++(k'.fl++(k''.fl++[])))
    rw [B3,A6,Ch,Ce,B3,Ch,A6,Ch]at hb
    have h5:Bq.length=4:=rfl
    have h6:C5.length=1:=rfl
    rw [List.append_nil,C7,C7];omega
   ·obtain⟨k,k',rfl,hq,hq'⟩:=F2.two (a:=69) (a':=66) hk
    refine hB k' (by simp) hq' fun d hd=> ?_
    have h1:=hq.tm (.inl rfl)
    have hb:=R5 (d:=d) (f:=[.tk Bq,sps]++(.tk D7::sps::k.tm)) hq' hd
    rw [Lc,Bay]
    show tl (Bd d ([.tk Bq,sps]++(.tk D7::sps::k.tm)) k')<=50+Bx D (k.fl++(k'.fl++[]))
    rw [B3,A6,Ch,Ce,A6,Ch]at hb
    have h5:Bq.length=4:=rfl
    have h6:D7.length=5:=rfl
    rw [List.append_nil,C7];omega
  |true=>
   rcases ho with⟨rfl,hn,rfl⟩|⟨rfl,rfl,rfl⟩|⟨rfl,rfl,rfl⟩
   ·obtain⟨k0,k,k',rfl,hq0,hq,hq'⟩:=F2.three (a:=69) (a':=82) (a'':=66) hk
    refine hB k' (by simp) hq' fun d hd=> ?_
    have h0:=hq0.tm (.inl rfl)
    have h1:=hq.tm (.inr (.inl rfl))
    have h3:=Gb hn
    have hb:=R5 (d:=d) (f:=(.tk Bq::sps::.tk Ef::sps::(k0.tm++[.tk Ee,sps]))++(k.tm++[sps,.tk Gt,sps,.tk s])) hq' hd
    rw [Lc,Bay]
    show tl (Bd d ((.tk Bq::sps::.tk Ef::sps::(k0.tm++[.tk Ee,sps]))++(k.tm++[sps,.tk Gt,sps,.tk s])) k')<=50+Bx D (k0.fl++(k.fl++(k'.fl++[])))
    rw [B3,A6,Ch,A6,Ch,B3,A6,Ch,Ce,B3,Ch,A6,Ch,A6,Ce]at hb
    have h5:Bq.length=4:=rfl
    have h6:Gt.length=1:=rfl
    have h7:Ef.length=4:=rfl
    have h8:Ee.length=1:=rfl
    rw [List.append_nil,C7,C7];omega
   ·obtain⟨l1,l2,rfl,h1',h2'⟩:=F2.split (l:=[69]) (l':=[82,69,66]) hk
    obtain⟨k0,rfl,hq0⟩:=h1'.one
    obtain⟨k,k',k'',rfl,hq,hq',Ax4⟩:=h2'.three
    refine hB k'' (by simp) Ax4 fun d hd=> ?_
    have h0:=hq0.tm (.inl rfl)
    have h1:=hq.tm (.inr (.inl rfl))
    have h2:=hq'.tm (.inl rfl)
    have hb:=R5 (d:=d) (f:=(.tk Bq::sps::.tk Ef::sps::(k0.tm++[.tk Ee,sps]))++(k.tm++(sps::.tk C5::sps::k'.tm))) Ax4 hd
    rw [Lc,Bay]
    show tl (Bd d ((.tk Bq::sps::.tk Ef::sps::(k0.tm++[.tk Ee,sps]))++(k.tm++(sps::.tk C5::sps::k'.tm))) k'')<=50+Bx D (k0.fl++(k.fl++(k'.fl++(k''.fl++[]))))
    rw [B3,A6,Ch,A6,Ch,B3,A6,Ch,Ce,B3,Ch,A6,Ch]at hb
    have h5:Bq.length=4:=rfl
    have h6:C5.length=1:=rfl
    have h7:Ef.length=4:=rfl
    have h8:Ee.length=1:=rfl
    rw [List.append_nil,C7,C7,C7];omega
   ·obtain⟨k0,k,k',rfl,hq0,hq,hq'⟩:=F2.three (a:=69) (a':=69) (a'':=66) hk
    refine hB k' (by simp) hq' fun d hd=> ?_
    have h0:=hq0.tm (.inl rfl)
    have h1:=hq.tm (.inl rfl)
    have hb:=R5 (d:=d) (f:=(.tk Bq::sps::.tk Ef::sps::(k0.tm++[.tk Ee,sps]))++(.tk D7::sps::k.tm)) hq' hd
    rw [Lc,Bay]
    show tl (Bd d ((.tk Bq::sps::.tk Ef::sps::(k0.tm++[.tk Ee,sps]))++(.tk D7::sps::k.tm)) k')<=50+Bx D (k0.fl++(k.fl++(k'.fl++[])))
    rw [B3,A6,Ch,A6,Ch,B3,A6,Ch,Ce,A6,Ch]at hb
    have h5:Bq.length=4:=rfl
    have h6:D7.length=5:=rfl
    have h7:Ef.length=4:=rfl
    have h8:Ee.length=1:=rfl
    rw [List.append_nil,C7,C7];omega
 |Bbh s a hn=>
  cases hk.nil
  refine Zv (.inr (.inl rfl)) ?_
  show tl [.tk s]+4<=24+0
  have:=Gb hn
  rw [A6,Ce];omega
 |Bbi s a hn=>
  obtain⟨k,rfl,hq⟩:=hk.one
  have h1:=hq.tm (.inl rfl)
  refine Zv (.inr (.inl rfl)) ?_
  show tl (.tk s::.tk sLS::(k.tm++[.tk sRS]))+4<=24+Bx D (k.fl++[])
  have:=Gb hn
  rw [A6,A6,B3,A6,Ce,List.append_nil]
  show s.length+(1+(tl k.tm+(1+0)))+4<=_
  omega
 |block k a=>
  refine⟨fun e=>absurd e (by decide),fun e=>absurd e (by decide),fun e=>absurd e (by decide),fun _=>⟨?_,fun d hd=> ?_⟩⟩
  ·show 1<=(ks.map R.nb).foldr max 0+1;omega
  ·have hb:tl (Bf d ks)<=Bx D (ks.flatMap R.fl):=Xu fun r hr=>(hk.rep.2 r hr).st (.inl rfl) d (by
    have hne:(Ar ⟨32,[],0,wr k,a⟩ ks).nb=(ks.map R.nb).foldr max 0+1:=rfl
    have:=Ara.1 (Nat.le_refl ((ks.map R.nb).foldr max 0)) r.nb (List.mem_map.2 ⟨r,hr,rfl⟩)
    omega)
   show tl (Bf d ks)+(2*D+6)<=(2*D+6)+Bx D (ks.flatMap R.fl)
   omega
 |param s a hn=>
  cases hk.nil
  refine Zv (.inr (.inr rfl)) ?_
  show tl [.tk s]+4<=24+0
  have:=Gb hn
  rw [A6,Ce];omega
 |unit k a=>exact⟨fun e=>absurd e (by decide),fun e=>absurd e (by decide),fun e=>absurd e (by decide),fun e=>absurd e (by decide)⟩
 |chan s n a hn h0 h1=>
  cases hk.nil
  refine Oa (.inr rfl) fun d hd=> ?_
  have h3:=Gb hn
  have h4:=Ako h0 (by omega:n<=999999999999999999)
  have h2:(Lg n).length<=2:=by
   have e:Lg n=Xi 2 n.toNat []:=Uf 20 2 _ _ (by omega) (by omega) (by omega) (by omega)
   obtain⟨c,v,e2,ha,hl,hz,hv⟩:=Aeq 2 n.toNat [] (by omega) (by omega)
   rw [e,e2,List.append_nil,List.length_cons];omega
  show tl (line d (.tk Ga::sps::.tk s::(if 0<n then [.tk sLS,.tk (Lg n),.tk sRS,.tk As]else [.tk As])))<=(D+34)+0
  rw [Ea,A6,Ch,A6]
  split
  ·rw [A6,A6,A6,A6,Ce]
   show d+(4+(s.length+(1+((Lg n).length+(1+(1+0))))+1))+1<=_
   omega
  ·rw [A6,Ce]
   show d+(4+(s.length+(1+0)+1))+1<=_
   omega
 |main a=>
  obtain⟨k,rfl,hq⟩:=hk.one
  have hn:=Nh (x:=⟨41,[],0,1,a⟩) (ks:=[k]) (k:=k) (show(41:Int)≠32 by decide) (by simp)
  refine Oa (.inr rfl) fun d hd=> ?_
  show tl (Bd d [.tk N5] k)<=50+Bx D (k.fl++[])
  have:=R5 (d:=d) (f:=[.tk N5]) hq (by omega)
  rw [A6,Ce]at this
  have h5:N5.length=4:=rfl
  rw [List.append_nil];omega
 |proc s k a hn=>
  obtain⟨ps,bs,rfl,h1,h2⟩:=hk.split
  obtain⟨b,rfl,hq⟩:=h2.one
  have hnb:=Nh (x:=⟨40,s,0,wr (k+1),a⟩) (ks:=ps++[b]) (k:=b) (show(40:Int)≠32 by decide) (by simp)
  have h3:=Gb hn
  refine Oa (.inr rfl) fun d hd=> ?_
  have e:(Ar ⟨40,s,0,wr (k+1),a⟩ (ps++[b])).st d=Bd d (.tk Gg::sps::.tk s::.tk sLP::(Bs (ps.map R.tm)++[.tk sRP])) b:=by
   show stN ⟨40,s,0,wr (k+1),a⟩ (ps++[b]) d=_
   unfold stN
   simp [kd]
  have hA:=Akp (D:=D) (.inr rfl) h1.rep.2
  have:=R5 (d:=d) (f:= .tk Gg::sps::.tk s::.tk sLP::(Bs (ps.map R.tm)++[.tk sRP])) hq (by omega)
  rw [A6,Ch,A6,A6,B3,A6,Ce]at this
  have h5:Gg.length=4:=rfl
  have h6:sLP.length=1:=rfl
  have h7:sRP.length=1:=rfl
  rw [e,Lc,List.flatMap_append,C7]
  show _<=50+(Bx D (ps.flatMap R.fl)+Bx D (b.fl++[]))
  rw [List.append_nil];omega
end
theorem Ao5 {f:Fo} (h:WfF [85] f) {D:Nat} (hD:2*(Aa8 f).nb<=D):(Jo f).length<=Bx D f.flat:=by
 rw [Aho h]
 cases h with
 |@cons c x ds cs a b ho ha hb=>
  cases ho with
  |unit k a'=>
   have h1:=(Vk (LnQ D) Arn ha).rep
   show tl (Bf 0 (Fz a))<=50+Bx D ((Fz a).flatMap R.fl)
   have:tl (Bf 0 (Fz a))<=Bx D ((Fz a).flatMap R.fl):=Xu fun r hr=>(h1.2 r hr).st (.inr rfl) 0 (by
    have:=Nh (x:=⟨42,[],0,wr k,a'⟩) (ks:=Fz a) (k:=r) (show(42:Int)≠32 by decide) hr
    have h3:2*(Ar ⟨42,[],0,wr k,a'⟩ (Fz a)).nb<=D:=hD
    omega)
   omega
end Go.Proofs.YtcakelelfklhdaaGreatDoor
namespace Go.Proofs.YtcakelelfklhdaaGreatDoor
open Go.Vc Go.Lv Go.Ty Go.Tk Go.Tm
theorem Avz {toks:List Aq} {c:Cur} {t:Str} (he:c.e_≠0):Az toks t c=c:=by unfold Az;rw [if_neg he]
theorem Ava {c:Cur} {g:Cur->Bool} {b:Cur->Cur} (hg:g c=false):∀f,Ej g b f c=c
 |0=>rfl
 |f+1=>by unfold Ej;rw [if_neg (by rw [hg];simp)]
def M3 (t:Tok):Prop:=(t.kind=1->Tk.Ba t.text=true)/\(t.kind=2->0<=t.n/\t.n<=999999999999999999)
theorem Ni {p:UInt8->Bool} :∀(l:List UInt8),∀c∈l.takeWhile p,p c=true
 |[],c,h=>by simp at h
 |a::l,c,h=>by
  rw [List.takeWhile_cons]at h
  split at h
  ·rename_i ha
   rcases List.mem_cons.1 h with rfl|h
   ·exact ha
   ·exact Ni l c h
  ·simp at h
theorem Ao6 (l:List UInt8) (p:Nat):M3 (Lm l p).1:=by
 have hz:M3 Tok.zero:=⟨fun h=>(by cases h),fun h=>(by cases h)⟩
 cases l with
 |nil=>exact⟨fun h=>(by cases h),fun h=>(by cases h)⟩
 |cons c l=>
  rw [Gn]
  split
  ·rename_i hl
   split
   ·exact hz
   ·rename_i h16
    refine⟨fun hk=> ?_,fun hk=> ?_⟩
    ·have hw:decide ((c::l).takeWhile Tk.A8∈words)=false:=by
      cases h:decide ((c::l).takeWhile Tk.A8∈words)with
      |false=>rfl
      |true=>dsimp only at hk;rw [h]at hk;cases hk
     dsimp only
     have hcw:Tk.A8 c=true:=by
      have h2:Hc c=true:=hl
      unfold Tk.A8 N2
      unfold Hc at h2
      rw [h2];rfl
     have Awn:=Ni (p:=Tk.A8) (c::l)
     rw [List.takeWhile_cons,if_pos hcw]at h16 hw Awn⊢
     rw [Mg,decide_eq_true (by omega),show Hc c=true from hl,hw]
     simpa using hcw
    ·exfalso
     dsimp only at hk
     split at hk<;>cases hk
  ·split
   ·split
    ·rename_i h0
     refine⟨fun hk=>(by cases hk),fun _=> ?_⟩
     dsimp only
     unfold E4 at h0⊢
     split at h0
     ·cases h0
     ·rename_i hc1
      rw [if_neg hc1]
      split at h0
      ·cases h0
      ·rename_i hc2
       rw [if_neg hc2]
       split at h0
       ·cases h0
       ·rename_i hc3
        rw [if_neg hc3]
        have:=Abu _ (Ni (p:=Cz) (c::l))
        have h18:10^((c::l).takeWhile Cz).length<=10^18:=Nat.pow_le_pow_right (by decide) (by omega)
        dsimp only
        omega
    ·exact hz
   ·split
    ·exact hz
    ·exact⟨fun h=>(by cases h),fun h=>(by cases h)⟩
theorem Ao7 (s:List UInt8) (a:Int):M3 (Ct s a).1:=by
 unfold Ct
 split
 ·exact⟨fun h=>(by cases h),fun h=>(by cases h)⟩
 ·exact Ao6 _ _
theorem Qs (s:List UInt8):∀(f k:Nat) (acc:List Tok),(∀t∈acc,M3 t)->∀t∈(Fa s f k acc).1,M3 t
 |0,_,_,h=>h
 |f+1,k,acc,h=>by
  have ha:∀t∈acc++[(Ct s k).1],M3 t:=fun t ht=>by
   rcases List.mem_append.1 ht with ht|ht
   ·exact h t ht
   ·rw [List.mem_singleton.1 ht];exact Ao7 s k
  unfold Fa
  split
  ·intro t ht;simp at ht
  split
  ·exact ha
  ·exact Qs s f _ _ ha
theorem Ahp (s:List UInt8):∀t∈(Ly s).1,M3 t:=by
 unfold Ly
 split
 ·intro t ht;simp at ht
 ·exact Qs s _ _ _ (fun t ht=>by simp at ht)
def Ahq (toks:List Aq):Prop:=∀t∈toks,M3 (tT t)
theorem Ahr (s:List UInt8):Ahq (Gu s):=by
 intro t ht
 unfold Gu at ht
 obtain⟨u,hu,rfl⟩:=List.mem_map.1 ht
 exact Ahp s u hu
theorem Aro {toks:List Aq} (h:Ahq toks) (p:Int):M3 (tT (B6 toks p)):=by
 have hz:M3 (tT ⟨0,[],0,0⟩):=⟨fun h=>(by cases h),fun h=>(by cases h)⟩
 unfold B6
 split
 ·cases hq:toks[p.toNat]? with
  |none=>exact hz
  |some t=>exact h t (List.mem_of_getElem? hq)
 ·exact hz
theorem Av0 {ts:List Tok} (h:∀t∈ts,M3 t) (p:Nat):M3 (T ts p):=by
 unfold T
 rw [List.getD_eq_getElem?_getD]
 cases hq:ts[p]? with
 |none=>exact⟨fun h=>(by cases h),fun h=>(by cases h)⟩
 |some t=>exact h t (List.mem_of_getElem? hq)
def WfT (K:Nat) (cs:List UInt8) (l:List Aj):Prop:=∃f:Fo,f.flat=l/\WfF cs f/\∀r∈Fz f,r.nd<=24/\r.nb<=K
def Fo.app:Fo->Fo->Fo
 | .nil,g=>g
 | .cons x ks rs,g=> .cons x ks (rs.app g)
theorem M4:∀(f g:Fo),(f.app g).flat=f.flat++g.flat
 | .nil,_=>rfl
 | .cons x ks rs,g=>by
  show x::(ks.flat++(rs.app g).flat)=x::(ks.flat++rs.flat)++g.flat
  rw [M4 rs g,List.cons_append,List.append_assoc]
theorem Su:∀(f g:Fo),Fz (f.app g)=Fz f++Fz g
 | .nil,_=>rfl
 | .cons x ks rs,g=>by
  show Ar x (Fz ks)::Fz (rs.app g)=_
  rw [Su rs g];rfl
theorem Vv {cs ds:List UInt8} {f g:Fo} (h:WfF cs f) (k:WfF ds g):WfF (cs++ds) (f.app g):=by
 induction h with
 |nil=>exact k
 |cons ho h1 _ _ ih2=>exact .cons ho h1 ih2
theorem WfT.nil {K:Nat} :WfT K [] []:=⟨.nil,rfl,.nil,by intro r h;cases h⟩
theorem WfT.app {K:Nat} {cs ds:List UInt8} {a b:List Aj} (h:WfT K cs a) (k:WfT K ds b):WfT K (cs++ds) (a++b):=by
 obtain⟨f,rfl,h1,h2⟩:=h
 obtain⟨g,rfl,k1,k2⟩:=k
 refine⟨f.app g,M4 f g,Vv h1 k1,fun r hr=> ?_⟩
 rw [Su]at hr
 rcases List.mem_append.1 hr with hr|hr
 ·exact h2 r hr
 ·exact k2 r hr
theorem WfT.one {K:Nat} {c:UInt8} {x:Aj} {ds:List UInt8} {a:List Aj} (hx:18<=x.op/\x.op≠32) (h:OkN c x ds) (k:WfT K ds a):WfT K [c] (x::a):=by
 obtain⟨f,rfl,h1,h2⟩:=k
 refine⟨.cons x f .nil,?_,.cons h h1 .nil,fun r hr=> ?_⟩
 ·show x::(f.flat++[])=_;rw [List.append_nil]
 ·have:r=Ar x (Fz f):=by simpa [Fz] using hr
  rw [this,Vt hx.1,Zq hx.2]
  exact⟨fun k hk=>(h2 k hk).1,fun k hk=>(h2 k hk).2⟩
theorem WfT.blk {K:Nat} {c:UInt8} {x:Aj} {ds:List UInt8} {a:List Aj} (hx:x.op=32) (h:OkN c x ds) (k:WfT K ds a):WfT (K+1) [c] (x::a):=by
 obtain⟨f,rfl,h1,h2⟩:=k
 refine⟨.cons x f .nil,?_,.cons h h1 .nil,fun r hr=> ?_⟩
 ·show x::(f.flat++[])=_;rw [List.append_nil]
 ·have:r=Ar x (Fz f):=by simpa [Fz] using hr
  rw [this,Vt (by omega),Ahl hx]
  exact⟨fun k hk=>(h2 k hk).1,fun k hk=>(h2 k hk).2⟩
def TmB (d l:Nat) (r:Res):Prop:=r.e=0->∃f x,f.flat=r.l.map gN/\WfF [69] f/\Fz f=[x]/\1<=lv x/\x.nb=0/\d+Di x l<=24
theorem Aca (x:R) {l m:Nat} (h:l<=m):Di x l<=Di x m:=by
 unfold Di;split<;>split<;>omega
theorem Xv {x:R} {l:Nat} (h:l<=lv x):Di x l=x.nd:=by
 unfold Di;unfold lv at h;rw [if_neg (by omega)]
theorem Aey (x:R) (l:Nat):x.nd<=Di x l/\Di x l<=x.nd+1:=by
 unfold Di;split<;>omega
theorem Ao8 {x:Aj} {d l:Nat} {a:Nat} {r:Nd} (hg:gN r=x) (h:OkN 69 x []) (ho:x.op=1\/x.op=2) (hd:d<=24) (hl:l<=6):TmB d l ⟨[r],a,0⟩:=by
 intro _
 have hlv:lv (Ar x [])=7:=by show B4 x.op=7;rcases ho with e|e<;>rw [e]<;>rfl
 have hnd:(Ar x []).nd=0:=by
  show ndN x []=0
  unfold ndN;rw [if_neg (by omega),if_neg (by omega)];rfl
 refine⟨.cons x .nil .nil,Ar x [],by rw [←hg];rfl,.cons h .nil .nil,rfl,by omega,Zt (by omega) (by simp),?_⟩
 rw [Xv (by omega),hnd];omega
theorem Avb {ts:List Tok} (hT:∀t∈ts,M3 t) {r1 rl:Nat->Nat->Option Res} (h1:∀p d r,d<=24->r1 p d=some r->TmB d 6 r) (hl:∀p d r,d<=24->rl p d=some r->TmB d 1 r) {p d:Nat} {r:Res}
 (hd:d<=24) (h:B9 ts r1 rl p d=some r):TmB d 6 r:=by
 have ht:=Av0 hT p
 unfold B9 at h
 split at h
 ·rename_i c
  cases h
  exact Ao8 rfl (.num _ _ (ht.2 c).1 (ht.2 c).2) (.inl rfl) hd (Nat.le_refl _)
 split at h
 ·rename_i c
  cases h
  exact Ao8 rfl (.name _ _ (ht.1 c)) (.inr rfl) hd (Nat.le_refl _)
 split at h
 ·split at h
  ·cases h;intro h;cases h
  ·rename_i Ch3
   obtain⟨x,hx,rfl⟩:=Option.map_eq_some_iff.1 h
   have hk:=h1 _ _ _ (by omega) hx
   split
   ·rename_i he
    intro _
    obtain⟨f,y,e1,e2,e3,e4,e5,e6⟩:=hk he
    have hop:(if(T ts p).text=[33]then(4:Int)else 3)=3\/(if(T ts p).text=[33]then(4:Int)else 3)=4:=by split<;>simp
    generalize (if(T ts p).text=[33]then(4:Int)else 3)=op at hop
    refine⟨.cons ⟨op,[],0,1,(T ts p).at_⟩ f .nil,Ar ⟨op,[],0,1,(T ts p).at_⟩ [y],?_,.cons (.un _ _ hop) e2 .nil,?_,?_,?_,?_⟩
    ·show _::(f.flat++[])=_
     rw [List.append_nil,e1];rfl
    ·show [Ar _ (Fz f)]=_;rw [e3]
    ·rcases hop with rfl|rfl
     ·exact(by decide:1<=B4 3)
     ·exact(by decide:1<=B4 4)
    ·exact Zt (show op≠32 by omega) (by simp [e5])
    ·have hlv:lv (Ar ⟨op,[],0,1,(T ts p).at_⟩ [y])=6:=by rcases hop with rfl|rfl<;>rfl
     have hnd:(Ar ⟨op,[],0,1,(T ts p).at_⟩ [y]).nd=Di y 6+1:=by rcases hop with rfl|rfl<;>rfl
     rw [Xv (by omega),hnd];omega
   ·rename_i he
    exact fun h=>absurd h he
 split at h
 ·split at h
  ·cases h;intro h;cases h
  ·rename_i Ch3
   obtain⟨x,hx,rfl⟩:=Option.map_eq_some_iff.1 h
   have hk:=hl _ _ _ (by omega) hx
   split
   ·rename_i he
    exact fun h=>absurd h he
   ·rename_i he
    split
    ·intro _
     obtain⟨f,y,e1,e2,e3,e4,e5,e6⟩:=hk (Classical.not_not.1 he)
     refine⟨f,y,e1,e2,e3,e4,e5,?_⟩
     have h1:=(Aey y 6).2
     have h2:=(Aey y 1).1
     omega
    ·intro h;cases h
 ·cases h;intro h;cases h
def LoB (n m d:Nat) (x:Res):Prop:=x.e=0->∃f y,f.flat=x.l.map gN/\WfF [69] f/\Fz f=[y]/\1<=lv y/\y.nb=0/\
 ((m=6/\d+Di y 6<=24)\/(d+y.nd<=24/\n<=lv y/\lv y<=5/\m=if lv y=3 then 2 else lv y))
theorem P_B {ts:List Tok} (hT:∀t∈ts,M3 t):∀(f:Nat),(∀p d r,d<=24->P ts f (.one p d)=some r->TmB d 6 r)/\(∀n p d r,1<=n->n<=6->d<=24->P ts f (.lev n p d)=some r->TmB d n r)/\
 (∀n m d x r,1<=n->n<=6->d<=24->P ts f (.loop n m d x)=some r->LoB n m d x->TmB d n r):=by
 intro f
 induction f with
 |zero=>exact⟨fun _ _ _ _ h=>by simp [P]at h,fun _ _ _ _ _ _ _ h=>by simp [P]at h,fun _ _ _ _ _ _ _ _ h=>by simp [P]at h⟩
 |succ f ih=>
  obtain⟨ih1,ih2,ih3⟩:=ih
  refine⟨fun p d r hd h=> ?_,fun n p d r h1 h6 hd h=> ?_,fun n m d x r h1 h6 hd h hx=> ?_⟩
  ·simp only [P]at h
   exact Avb hT (fun p d r hd h=>ih1 p d r hd h) (fun p d r hd h=>ih2 1 p d r (Nat.le_refl _) (by decide) hd h) hd h
  ·rw [P]at h
   obtain⟨x,hx,hr⟩:=Option.bind_eq_some_iff.1 h
   refine ih3 _ _ _ _ _ h1 h6 hd hr fun he=> ?_
   obtain⟨g,y,e1,e2,e3,e4,e5,e6⟩:=ih1 _ _ _ hd hx he
   exact⟨g,y,e1,e2,e3,e4,e5,.inl ⟨rfl,e6⟩⟩
  ·have Bfb:TmB d n x:=fun he=>by
    obtain⟨g,y,e1,e2,e3,e4,e5,e6⟩:=hx he
    refine⟨g,y,e1,e2,e3,e4,e5,?_⟩
    rcases e6 with⟨_,h⟩|⟨h,hn,_⟩
    ·exact Nat.le_trans (Nat.add_le_add_left (Aca y h6) d) h
    ·rw [Xv hn];exact h
   rw [P]at h
   split at h
   ·cases h;exact Bfb
   rename_i he
   split at h
   ·cases h;exact Bfb
   ·rename_i c
    obtain⟨y,hy,hr⟩:=Option.bind_eq_some_iff.1 h
    have hml:=Aj0 ts x.at_
    have hyk:=ih2 _ _ _ _ (by omega) (by omega) hd hy
    split at hr
    ·rename_i hye
     cases hr;exact fun h=>absurd h hye
    ·rename_i hye
     refine ih3 _ _ _ _ _ h1 h6 hd hr fun _=> ?_
     have hm:Cp ts x.at_≠0:=fun e=>c (.inl e)
     have hkd:(T ts x.at_).kind=4:=by
      unfold Cp at hm
      split at hm
      ·assumption
      ·exact absurd rfl hm
     have hmo:Cp ts x.at_=B4 (Jg (T ts x.at_).text):=by unfold Cp;rw [if_pos hkd]
     have hop:5<=Jg (T ts x.at_).text/\Jg (T ts x.at_).text<=17:=by
      rcases Ajz (T ts x.at_).text with h|h
      ·exfalso;apply hm;rw [hmo,h];rfl
      ·exact h
     obtain⟨g,u,e1,e2,e3,e4,e5,e6⟩:=hx (Classical.not_not.1 he)
     obtain⟨g',u',e1',e2',e3',e4',e5',e6'⟩:=hyk (Classical.not_not.1 hye)
     rw [hmo]at c hml e6'⊢
     show∃(f:Fo) (y':R),f.flat=List.map gN (⟨Jg (T ts x.at_).text,[],0,2,(T ts x.at_).at_⟩::x.l++y.l)/\_
     generalize Jg (T ts x.at_).text=op at*
     obtain⟨_,_,hl1,hl5⟩:=Aoj hop.1 hop.2
     have hlv:lv (Ar ⟨op,[],0,2,(T ts x.at_).at_⟩ [u,u'])=B4 op:=rfl
     have hnd:(Ar ⟨op,[],0,2,(T ts x.at_).at_⟩ [u,u']).nd=max (Di u (Cc op)) (Di u' (B4 op+1)):=by
      show ndN ⟨op,[],0,2,(T ts x.at_).at_⟩ [u,u']=_
      unfold ndN
      dsimp only
      rw [if_neg (by omega),if_pos hop]
      rfl
     have Bz2:d+Di u (Cc op)<=24:=by
      rcases e6 with⟨_,h⟩|⟨h,hn,h5,hm'⟩
      ·refine Nat.le_trans (Nat.add_le_add_left (Aca u ?_) d) h
       unfold Cc;split<;>omega
      ·rw [Xv]
       ·exact h
       ·unfold Cc
        split at hm'<;>split<;>omega
     refine⟨.cons ⟨op,[],0,2,(T ts x.at_).at_⟩ (g.app g') .nil,Ar ⟨op,[],0,2,(T ts x.at_).at_⟩ [u,u'],?_,.cons (.bin _ _ hop.1 hop.2) (Vv e2 e2') .nil,?_,?_,?_,.inr ⟨?_,?_,?_,?_⟩⟩
     ·show _::((g.app g').flat++[])=List.map gN (_::x.l++y.l)
      rw [List.append_nil,M4,e1,e1',List.cons_append,List.map_cons,List.map_append];rfl
     ·show [Ar _ (Fz (g.app g'))]=_;rw [Su,e3,e3'];rfl
     ·rw [hlv];exact hl1
     ·exact Zt (show op≠32 by omega) (by simp [e5,e5'])
     ·rw [hnd]
      rcases Nat.le_total (Di u (Cc op)) (Di u' (B4 op+1))with h|h
      ·rw [Nat.max_eq_right h];exact e6'
      ·rw [Nat.max_eq_left h];exact Bz2
     ·rw [hlv];omega
     ·rw [hlv];exact hl5
     ·rw [hlv]
theorem Asp {toks:List Aq} (hT:Ahq toks) (K:Nat) (a:Int) (h:(TM.T toks a).2.2=0):WfT K [69] (TM.T toks a).1:=by
 have h:(Dx (toks.map tT) a).e=0:=h
 show WfT K [69] ((Dx (toks.map tT) a).l.map gN)
 by_cases h0:a<0
 ·unfold Dx at h;rw [if_pos h0]at h;cases h
 ·obtain⟨f,x,e1,e2,e3,e4,e5,e6⟩:=(P_B (fun t ht=>by obtain⟨u,hu,rfl⟩:=List.mem_map.1 ht;exact hT u hu) _).2.1 _ _ _ _ (Nat.le_refl _) (by decide) (Nat.zero_le _) (Gf (toks.map tT) a h0) h
  refine⟨f,e1,e2,fun r hr=> ?_⟩
  rw [e3]at hr
  have:r=x:=by simpa using hr
  rw [this,e5]
  have:=(Aey x 1).1
  exact⟨by omega,Nat.zero_le _⟩
def Wk (K:Nat) (φ:Prop) (Q:List UInt8->Prop) (c:Cur):Prop:=c.e_=0->φ/\∃cs,Q cs/\WfT K cs c.l/\c.n=wr cs.length
def W1 (K:Nat) (k:UInt8) (c:Cur):Prop:=c.e_=0->WfT K [k] c.l
theorem Arp (k:Nat):IntKind.i64.wrap (wr k+1)=wr (k+1):=Ahk k
section
variable {K:Nat} {toks:List Aq} (hT:Ahq toks) {φ ψ:Prop} {Q Q':List UInt8->Prop} {c d:Cur} {blk:Int->Cur}
theorem Ev (a:Int):Wk K True (·=[]) (Aw a):=fun _=>⟨trivial,[],rfl,.nil,rfl⟩
theorem Wk.imp (h:Wk K φ Q c) (hQ:φ->∀cs,Q cs->Q' cs):Wk K φ Q' c:=fun e=>let ⟨h1,cs,h2,h3⟩:=h e;⟨h1,cs,hQ h1 cs h2,h3⟩
theorem B0 (t:Str) (h:Wk K φ Q c):Wk K φ Q (Az toks t c):=by
 unfold Az
 split
 ·rename_i he
  split
  ·exact fun _=>h he
  ·intro e;cases e
 ·exact h
include hT in
theorem L0 (h:Wk K φ Q c):Wk K (φ/\Tk.Ba (Ba toks c)=true) Q (Dh toks c):=by
 intro e
 by_cases he:c.e_=0
 ·by_cases hk:(B6 toks c.at_).kind=1
  ·have h1:Dh toks c=⟨c.l,c.n,c.at_+1,0⟩:=by unfold Dh;rw [if_pos he,if_pos hk]
   have h2:Ba toks c=(B6 toks c.at_).text:=by unfold Ba;rw [if_pos he,if_pos hk]
   obtain⟨p,q⟩:=h he
   rw [h1,h2]
   exact⟨⟨p,(Aro hT c.at_).1 hk⟩,q⟩
  ·unfold Dh at e;rw [if_pos he,if_neg hk]at e;cases e
 ·unfold Dh at e;rw [if_neg he]at e;exact absurd e he
theorem Arq (h:Wk K φ Q c):Wk K (φ/\0<=R3 toks c/\R3 toks c<=16) Q (Mu toks c):=by
 intro e
 have hn:R3 toks c=(B6 toks c.at_).n:=by unfold R3;rw [if_pos e]
 rw [hn]
 unfold Mu at e⊢
 split at e
 ·rename_i he
  rw [if_pos he]
  split at e
  ·rename_i hk
   rw [if_pos hk]
   split at e
   ·cases e
   ·rename_i hr
    rw [if_neg hr]
    obtain⟨p,q⟩:=h he
    exact⟨⟨p,by omega,by omega⟩,q⟩
  ·cases e
 ·rename_i he;exact absurd e he
theorem O1 {k:UInt8} (h:Wk K φ Q c) (hd:W1 K k d) (hQ:φ->∀cs,Q cs->Q' (cs++[k])):Wk K φ Q' (E6 c d):=by
 unfold E6
 split
 ·rename_i he
  intro e
  obtain⟨p,cs,q,w,n⟩:=h he
  refine⟨p,_,hQ p cs q,w.app (hd e),?_⟩
  dsimp only
  rw [n,Arp,List.length_append];rfl
 ·rename_i he
  exact fun e=>absurd e he
include hT in
theorem Jb (h:Wk K φ Q c) (hQ:φ->∀cs,Q cs->Q' (cs++[69])):Wk K φ Q' (Eg TM toks c):=
 O1 h (d:=⟨_,_,_,_⟩) (fun e=>Asp hT K _ e) hQ
theorem Ds {k:UInt8} {x:Aj} (h:Wk K φ Q c) (ho:φ->∀cs,Q cs->OkN k ⟨x.op,x.name,x.n,wr cs.length,x.at_⟩ cs) (hx:φ->18<=x.op/\x.op≠32:=by intro _;unfold nd;dsimp only;omega):W1 K k (Cq c x):=by
 intro e
 obtain⟨p,cs,q,w,n⟩:=h e
 show WfT K [k] (⟨x.op,x.name,x.n,c.n,x.at_⟩::c.l)
 rw [n]
 exact .one (hx p) (ho p cs q) w
theorem Vw {P:Cur->Prop} {g:Cur->Bool} {b:Cur->Cur} (hb:∀c,P c->P (b c)):∀(f:Nat) (c:Cur),P c->P (Ej g b f c)
 |0,_,h=>h
 |f+1,c,h=>by
  unfold Ej
  split
  ·exact Vw hb f _ (hb c h)
  ·exact h
theorem Qt (k:Nat) (x:UInt8):List.replicate k x++[x]=List.replicate (k+1) x:=(List.replicate_succ' (n:=k) (a:=x)).symm
include hT in
theorem Auc (a:Int):W1 K 82 (So TM toks a):=by
 unfold So R2
 split
 ·exact Ds (B0 _ (Jb hT (Q':=(·=[69])) (B0 _ (L0 hT (Ev a))) (fun _ cs h=>by rw [h];rfl))) (fun p cs h=>by subst h;exact .Bbi _ _ p.2)
 ·exact Ds (L0 hT (Ev a)) (fun p cs h=>by subst h;exact .Bbh _ _ p.2)
theorem Amf {k:UInt8} {x:Aj} (h:Wk K φ Q c) (ho:φ->∀cs,Q cs->OkN k ⟨x.op,x.name,x.n,wr cs.length,x.at_⟩ cs) (hx:x.op=32):W1 (K+1) k (Cq c x):=by
 intro e
 obtain⟨p,cs,q,w,n⟩:=h e
 show WfT (K+1) [k] (⟨x.op,x.name,x.n,c.n,x.at_⟩::c.l)
 rw [n]
 exact .blk hx (ho p cs q) w
theorem Ao9 {stmt:Int->Cur} (hs:∀a,W1 K 83 (stmt a)) (a:Int):W1 (K+1) 66 (Ow toks stmt a):=by
 have h0:Wk K True (fun cs=>∃k,cs=List.replicate k 83) (Az toks sLB (Aw a)):=B0 _ ((Ev a).imp (fun _ cs h=>⟨0,h⟩))
 refine Amf (B0 _ (Vw (P:=Wk K True (fun cs=>∃k,cs=List.replicate k 83)) (fun c h=>O1 h (hs c.at_) ?_) _ _ h0)) ?_ rfl
 ·rintro _ _ ⟨k,rfl⟩;exact⟨k+1,Qt k 83⟩
 ·rintro _ _ ⟨k,rfl⟩
  rw [List.length_replicate]
  exact .block k _
theorem Zw (hb:∀a,W1 K 66 (blk a)) (h:Wk K φ Q c) (hQ:φ->∀cs,Q cs->Q' (cs++[66])):Wk K φ Q' (inC blk c):=O1 h (hb c.at_) hQ
structure Avc (K:Nat) (φ:Prop) (cs:List UInt8) (s r:Int) (x:Comm):Prop where
 w:x.c.e_=0->φ/\∃ds,((x.op=s/\x.name=[]/\ds=cs++[82,69])\/(x.op=r/\Tk.Ba x.name=true/\ds=cs++[82]))/\WfT K ds x.c.l/\x.c.n=wr ds.length
include hT in
theorem Apa (s r:Int) {cs:List UInt8} (h:Wk K φ (·=cs) c):Avc K φ cs s r (Gi TM toks s r c):=by
 constructor
 intro e
 unfold Gi at e⊢
 split at e
 ·rename_i he
  rw [if_pos he]
  have h1:Wk K φ (·=cs++[82]) (E6 c (So TM toks c.at_)):=O1 h (Auc hT c.at_) (fun _ _ h=>by rw [h])
  unfold Ox at e⊢
  split at e
  ·rename_i hb
   rw [if_pos hb]
   obtain⟨p,ds,q,w⟩:=Jb hT (Q':=(·=cs++[82,69])) (B0 (toks:=toks) C5 h1) (fun _ _ h=>by rw [h];simp) e
   exact⟨p,ds,.inl ⟨rfl,rfl,q⟩,w⟩
  ·rename_i hb
   rw [if_neg hb]
   obtain⟨p,ds,q,w⟩:=L0 hT (B0 (toks:=toks) Gt h1) e
   exact⟨p.1,ds,.inr ⟨rfl,p.2,q⟩,w⟩
 ·rename_i he;exact absurd e he
theorem Aud {t:Str} (e:(Az toks t c).e_=0):c.e_=0/\(Az toks t c).l=c.l/\(Az toks t c).n=c.n:=by
 unfold Az at e⊢
 split at e
 ·rename_i he
  rw [if_pos he]
  split at e
  ·rename_i hi;rw [if_pos hi];exact⟨he,rfl,rfl⟩
  ·cases e
 ·rename_i he;exact absurd e he
include hT in
theorem Acb (hb:∀a,W1 K 66 (blk a)) (a:Int):W1 K 67 (Dy TM toks blk a):=by
 unfold Dy
 split
 ·exact Ds (Zw hb (Q':=(·=[66])) (B0 _ (Ev a)) (fun _ _ h=>by rw [h];rfl)) (fun _ _ h=>by subst h;exact .els _)
 ·
  have h0:Wk K True (·=[]) (Az toks Bq (Aw a)):=B0 _ (Ev a)
  generalize Az toks Bq (Aw a)=c0 at h0
  have hw:∃w:Bool,Mk toks c0=(if w then 1 else 0)/\Wk K True (·=if w then [69]else []) (Ha TM toks c0):=by
   unfold Mk Ha
   split
   ·exact⟨true,rfl,B0 _ (Jb hT (B0 _ h0) (fun _ _ h=>by rw [h];rfl))⟩
   ·exact⟨false,rfl,h0⟩
  obtain⟨w,hn,h1⟩:=hw
  generalize Ha TM toks c0=c1 at h1
  rw [hn]
  intro e
  have ha:(Dd TM toks c1).c.e_=0->∃ds:List UInt8,(((Dd TM toks c1).op=34/\Tk.Ba (Dd TM toks c1).name=true/\ds=[82])\/((Dd TM toks c1).op=35/\(Dd TM toks c1).name=[]/\ds=[82,69])\/((Dd TM toks c1).op=36/\(Dd TM toks c1).name=[]/\ds=[69]))/\
   WfT K ((if w then [69]else([]:List UInt8))++ds) (Dd TM toks c1).c.l/\(Dd TM toks c1).c.n=wr ((if w then [69]else([]:List UInt8))++ds).length:=by
   unfold Dd
   split
   ·intro e
    obtain⟨_,ds,q,wf⟩:=Jb hT (Q':=(·=(if w then [69]else [])++[69])) (B0 (toks:=toks) D7 h1) (fun _ _ h=>by rw [h]) e
    subst q
    exact⟨_,.inr (.inr ⟨rfl,rfl,rfl⟩),wf⟩
   ·intro e
    obtain⟨_,ds,q,wf⟩:=(Apa hT 35 34 h1).w e
    rcases q with⟨q1,q2,rfl⟩|⟨q1,q2,rfl⟩
    ·exact⟨_,.inr (.inl ⟨q1,q2,rfl⟩),wf⟩
    ·exact⟨_,.inl ⟨q1,q2,rfl⟩,wf⟩
  generalize Dd TM toks c1=x at ha e⊢
  obtain⟨xc,op,nm⟩:=x
  dsimp only at ha e⊢
  have hx:Wk K (∃ds:List UInt8,((op=34/\Tk.Ba nm=true/\ds=[82])\/(op=35/\nm=[]/\ds=[82,69])\/(op=36/\nm=[]/\ds=[69]))) (fun cs=>∃ds,((op=34/\Tk.Ba nm=true/\ds=[82])\/(op=35/\nm=[]/\ds=[82,69])\/(op=36/\nm=[]/\ds=[69]))/\cs=(if w then [69]else [])++ds) xc:=by
   intro e
   obtain⟨ds,q,wf⟩:=ha e
   exact⟨⟨ds,q⟩,_,⟨ds,q,rfl⟩,wf⟩
  refine Ds (Zw hb (Q':=fun cs=>∃ds,((op=34/\Tk.Ba nm=true/\ds=[82,66])\/(op=35/\nm=[]/\ds=[82,69,66])\/(op=36/\nm=[]/\ds=[69,66]))/\cs=(if w then [69]else [])++ds) hx ?_) ?_ ?_ e
  ·rintro _ _ ⟨ds,q,rfl⟩
   refine⟨ds++[66],?_,by rw [List.append_assoc]⟩
   rcases q with⟨q1,q2,rfl⟩|⟨q1,q2,rfl⟩|⟨q1,q2,rfl⟩
   ·exact .inl ⟨q1,q2,rfl⟩
   ·exact .inr (.inl ⟨q1,q2,rfl⟩)
   ·exact .inr (.inr ⟨q1,q2,rfl⟩)
  ·rintro _ _ ⟨ds,q,rfl⟩
   exact .clause op nm _ w ds q
  ·rintro⟨ds,q⟩
   show 18<=op/\op≠32
   omega
include hT in
theorem Arr (h:Wk K φ (·=[]) c):Wk K φ (fun cs=>∃k,cs=List.replicate k 69) (O5 TM toks c):=by
 unfold O5
 refine B0 _ ?_
 have h1:Wk K φ (·=[]) (Az toks sLP c):=B0 _ h
 split
 ·refine Vw (P:=Wk K φ (fun cs=>∃k,cs=List.replicate k 69)) (fun c h=>Jb hT (B0 _ h) ?_) _ _ (Jb hT h1 (fun _ _ h=>⟨1,by rw [h];rfl⟩))
  rintro _ _ ⟨k,rfl⟩;exact⟨k+1,Qt k 69⟩
 ·exact h1.imp (fun _ _ h=>⟨0,h⟩)
include hT in
theorem Aue (a:Int):W1 K 83 (Vi TM toks a):=by
 have h0:=L0 (K:=K) hT (Ev a)
 unfold Vi
 split
 ·exact Ds (B0 _ (B0 _ (Jb hT (Q':=(·=[69])) (B0 _ (B0 _ (B0 _ h0))) (fun _ _ h=>by rw [h];rfl)))) (fun p _ h=>by subst h;exact .set _ _ _ (.inr (.inr rfl)) p.2)
 ·exact Ds (B0 _ (Jb hT (Q':=(·=[69])) (B0 _ h0) (fun _ _ h=>by rw [h];rfl))) (fun p _ h=>by subst h;exact .set _ _ _ (.inr (.inl rfl)) p.2)
include hT in
theorem Ajg (s:Str) (op:Int) (ho:op=27\/op=28\/op=29) (a:Int):W1 K 83 (Agw TM toks s op a):=
 Ds (B0 _ (Jb hT (Q':=(·=[69])) (B0 _ (Ev a)) (fun _ _ h=>by rw [h];rfl))) (fun _ _ h=>by subst h;exact .one _ _ ho)
theorem Akq (s:Str) (op:Int) (ho:op=30\/op=31) (a:Int):W1 K 83 (Zf toks s op a):=
 Ds (B0 _ (B0 _ (Ev a))) (fun _ _ h=>by subst h;exact .none _ _ ho)
include hT in
theorem Ars (hb:∀a,W1 K 66 (blk a)) (a:Int):W1 K 83 (A8 TM toks blk a):=by
 unfold A8
 dsimp only
 split
 ·exact Ds (B0 _ (Jb hT (Q':=(·=[69])) (B0 _ (L0 hT (B0 _ (Ev a)))) (fun _ _ h=>by rw [h];rfl))) (fun p _ h=>by subst h;exact .set _ _ _ (.inl rfl) p.2)
 split
 ·refine Ds (B0 _ (Arr hT (L0 hT (B0 _ (Ev a))))) ?_
  rintro p _ ⟨k,rfl⟩
  rw [List.length_replicate]
  exact .start _ k _ p.2
 split
 ·exact Ajg hT _ _ (.inl rfl) a
 split
 ·exact Ajg hT _ _ (.inr (.inl rfl)) a
 split
 ·exact Ajg hT _ _ (.inr (.inr rfl)) a
 split
 ·exact Akq _ _ (.inl rfl) a
 split
 ·exact Akq _ _ (.inr rfl) a
 split
 ·exact Ds (Zw hb (Q':=(·=[69,66])) (Jb hT (Q':=(·=[69])) (B0 _ (Ev a)) (fun _ _ h=>by rw [h];rfl)) (fun _ _ h=>by rw [h];rfl)) (fun _ _ h=>by subst h;exact .Bfc _)
 split
 ·have h1:Wk K True (·=[69,66]) (inC blk (Eg TM toks (Az toks sIf (Aw a)))):=Zw hb (Jb hT (Q':=(·=[69])) (B0 _ (Ev a)) (fun _ _ h=>by rw [h];rfl)) (fun _ _ h=>by rw [h];rfl)
  unfold ifC
  split
  ·exact Ds (Zw hb (Q':=(·=[69,66,66])) (B0 _ h1) (fun _ _ h=>by rw [h];rfl)) (fun _ _ h=>by subst h;exact .if3 _)
  ·exact Ds h1 (fun _ _ h=>by subst h;exact .if2 _)
 split
 ·have h1:Wk K True (fun cs=>∃k,1<=k/\cs=List.replicate k 67) (E6 (Az toks sLB (Az toks D1 (Aw a))) (Dy TM toks blk (Az toks sLB (Az toks D1 (Aw a))).at_)):=
   O1 (B0 _ (B0 _ (Ev a))) (Acb hT hb _) (fun _ _ h=>⟨1,Nat.le_refl _,by rw [h];rfl⟩)
  unfold Ai0
  refine Ds (B0 _ (Vw (P:=Wk K True (fun cs=>∃k,1<=k/\cs=List.replicate k 67)) (fun c h=>O1 h (Acb hT hb c.at_) ?_) _ _ h1)) ?_
  ·rintro _ _ ⟨k,hk,rfl⟩;exact⟨k+1,by omega,Qt k 67⟩
  ·rintro _ _ ⟨k,hk,rfl⟩
   rw [List.length_replicate]
   exact .sel k _ hk
 ·intro e;cases e
include hT in
theorem Art (hb:∀a,W1 K 66 (blk a)) (a:Int):W1 K 83 (Kh TM toks blk a):=by
 unfold Kh
 split
 ·split
  ·exact Aue hT a
  ·intro e
   have hc:=(Apa (K:=K) hT 21 22 (Ev a)).w
   generalize Gi TM toks 21 22 (Aw a)=x at hc e⊢
   obtain⟨h1,h2,h3⟩:=Aud e
   obtain⟨_,ds,q,w,n⟩:=hc h1
   show WfT K [83] (⟨x.op,x.name,0,(Az toks As x.c).n,_⟩::(Az toks As x.c).l)
   rw [h2,h3,n]
   rcases q with⟨q1,q2,rfl⟩|⟨q1,q2,rfl⟩
   ·rw [q1,q2];exact .one ⟨(by decide:(18:Int)<=21),(by decide:(21:Int)≠32)⟩ (.send _) w
   ·rw [q1];exact .one ⟨(by decide:(18:Int)<=22),(by decide:(22:Int)≠32)⟩ (.recv _ _ q2) w
 ·split
  ·exact Ars hT hb a
  ·intro e;cases e
include hT in
theorem Apb:∀k a,W1 k 66 (Eo TM toks k a)
 |0,a=>by
  unfold Eo
  split
  ·intro e;cases e
  ·rename_i hi
   intro e
   exfalso
   unfold Ow at e
   have he:Az toks sLB (Aw a)=⟨[],0,a,11⟩:=by
    unfold Az Aw
    dsimp only
    rw [if_pos rfl,if_neg hi]
   rw [he,Ava rfl,Avz (show(11:Int)≠0 by decide)]at e
   cases e
 |k+1,a=>Ao9 (Art hT (Apb k)) a
include hT in
theorem Ahs (a:Int):W1 K 80 (Cq (Dh toks (Aw a)) (nd toks 39 (Ba toks (Aw a)) 0 a)):=
 Ds (L0 hT (Ev a)) (fun p _ h=>by subst h;exact .param _ _ p.2)
include hT in
theorem Aru (a:Int):W1 24 68 (Ln TM toks a):=by
 have hb:=Apb hT 24
 unfold Ln
 split
 ·have h0:=L0 (K:=24) hT (B0 (toks:=toks) Ga (Ev a))
  unfold Nb Zg
  split
  ·exact Ds (B0 _ (B0 _ (Arq (B0 _ h0)))) (fun p _ h=>by subst h;exact .chan _ _ _ p.1.2 p.2.1 p.2.2)
  ·exact Ds (B0 _ h0) (fun p _ h=>by subst h;exact .chan _ _ _ p.2 (Int.le_refl 0) (show(0:Int)<=16 by decide))
 split
 ·have h0:=B0 (K:=24) (toks:=toks) sLP (L0 hT (B0 (toks:=toks) Gg (Ev a)))
  refine Ds (Zw hb (Q:=fun cs=>∃k,cs=List.replicate k 80) (Q':=fun cs=>∃k,cs=List.replicate k 80++[66]) (B0 _ ?_) (fun _ _ ⟨k,h⟩=>⟨k,by rw [h]⟩)) (fun p _ ⟨k,h⟩=> ?_) (φ:=True/\Tk.Ba (Ba toks (Az toks Gg (Aw a)))=true)
  ·unfold Nc
   split
   ·refine Vw (P:=Wk 24 _ (fun cs=>∃k,cs=List.replicate k 80)) (fun c h=>O1 (B0 _ h) (Ahs hT _) ?_) _ _ (O1 h0 (Ahs hT _) (fun _ _ h=>⟨1,by rw [h];rfl⟩))
    rintro _ _ ⟨k,rfl⟩;exact⟨k+1,Qt k 80⟩
   ·exact h0.imp (fun _ _ h=>⟨0,h⟩)
  ·subst h
   rw [List.length_append,List.length_replicate]
   exact .proc _ k _ p.2
 ·exact Ds (Zw hb (Q':=(·=[66])) (B0 _ (Ev a)) (fun _ _ h=>by rw [h];rfl)) (fun _ _ h=>by subst h;exact .main _)
include hT in
theorem Arv (h:(Fy TM toks).e_=0):WfT 24 [85] (Fy TM toks).l:=by
 have hu:Wk 24 True (fun cs=>∃k,cs=List.replicate k 68) (Mv TM toks):=by
  refine Vw (P:=Wk 24 True (fun cs=>∃k,cs=List.replicate k 68)) (fun c h=>O1 h (Aru hT c.at_) ?_) _ _ ((Ev 0).imp (fun _ _ h=>⟨0,h⟩))
  rintro _ _ ⟨k,rfl⟩;exact⟨k+1,Qt k 68⟩
 unfold Fy at h⊢
 split at h
 ·rename_i c;exact absurd h c
 ·rename_i c
  rw [if_neg c]
  refine Ds hu ?_ (fun _=>(by decide:(18:Int)<=42/\(42:Int)≠32)) (Classical.not_not.1 c)
  rintro _ _ ⟨k,rfl⟩
  rw [List.length_replicate]
  exact .unit k _
end
theorem Aht (s:List UInt8) (h:(J9 s).e_=0):∃f,f.flat=(J9 s).l/\WfF [85] f/\okF f:=by
 have:WfT 24 [85] (J9 s).l:=by
  unfold J9 at h⊢
  split at h
  ·rename_i c;exact absurd h c
  ·rename_i c
   rw [if_neg c]
   split at h
   ·rename_i c2;exact absurd h c2
   ·rename_i c2
    rw [if_neg c2]
    exact Arv (Ahr s) (Classical.not_not.1 c2)
 obtain⟨f,h1,h2,h3⟩:=this
 refine⟨f,h1,h2,?_⟩
 obtain⟨k,a,ks,e,_⟩:=Zu h2
 unfold okF Aa8
 rw [e]at h3⊢
 exact h3 _ (by simp)
end Go.Proofs.YtcakelelfklhdaaGreatDoor
namespace Go.Proofs.YtcakelelfklhdaaGreatDoor
open Go.Vc Go.Lv Go.Ty Go.Tk Go.Tm
structure Cs (at0:Int) (s:Nat) (c:Cur):Prop where
 lo:at0<=c.at_
 w:c.e_=0->(Bx 48 c.l:Int)+s<=60*(c.at_-at0)
theorem Uj (x:Aj):H5 48 x<=110:=by unfold H5;split<;>(try split)<;>(try split)<;>(try split)<;>omega
theorem Apc {cs:List UInt8} {f:Fo} (h:WfF cs f) (hc:∀c∈cs,c=69):∀x∈f.flat,x.op<18:=by
 induction h with
 |nil=>intro x hx;cases hx
 |@cons c x ds cs a b ho _ _ ih1 ih2=>
  have h69:c=69:=hc c (by simp)
  subst h69
  have hd:(∀d∈ds,d=69)/\x.op<18:=by
   cases ho with
   |num n a h0 h1=>exact⟨by simp,(by decide:(1:Int)<18)⟩
   |name s a hn=>exact⟨by simp,(by decide:(2:Int)<18)⟩
   |un op a ho=>exact⟨by simp,(by omega:op<18)⟩
   |bin op a h5 h17=>exact⟨by simp,(by omega:op<18)⟩
  intro y hy
  rcases List.mem_cons.1 hy with rfl|hy
  ·exact hd.2
  ·rcases List.mem_append.1 hy with hy|hy
   ·exact ih1 hd.1 y hy
   ·exact ih2 (fun c h=>hc c (by simp [h])) y hy
theorem Ahu {D:Nat} :∀ {l:List Aj},(∀x∈l,x.op<18)->Bx D l=24*l.length
 |[],_=>rfl
 |x::l,h=>by
  rw [Kx,Ahu fun y hy=>h y (by simp [hy]),List.length_cons]
  have:H5 D x=24:=by unfold H5;rw [if_pos (.inl (h x (by simp)))]
  omega
theorem Acd {ts:List Tok} {p:Nat} (h:ts.length<=p):Dx ts p=⟨[],p,11⟩:=by
 have hp:=Gf ts p (by omega)
 rw [Int.toNat_natCast]at hp
 refine Aoh ts hp (f:=3*(ts.length-p)+2) (g:=2) ?_
 have h1:P ts 1 (.one p 0)=some ⟨[],p,11⟩:=by
  simp only [P]
  unfold B9
  rw [Asi h]
  rfl
 rw [P,h1]
 rfl
theorem Avd (toks:List Aq) (a:Int) (h:0<=a):a<=(TM.T toks a).2.1:=by
 by_cases hl:a<=(toks.length:Int)
 ·exact TM.lo toks a h hl
 ·obtain⟨p,rfl⟩:∃p:Nat,a=p:=⟨a.toNat,by omega⟩
  show(p:Int)<=((Dx (toks.map tT) (p:Int)).at_:Int)
  rw [Acd (by rw [List.length_map];omega)]
  exact Int.le_refl _
theorem Auf (toks:List Aq) (a:Int) (h:0<=a) (e:(TM.T toks a).2.2=0):((TM.T toks a).1.length:Int)<=(TM.T toks a).2.1-a:=by
 by_cases hl:a<=(toks.length:Int)
 ·exact TM.len toks a h hl
 ·obtain⟨p,rfl⟩:∃p:Nat,a=p:=⟨a.toNat,by omega⟩
  have e:(Dx (toks.map tT) (p:Int)).e=0:=e
  rw [Acd (by rw [List.length_map];omega)]at e
  cases e
section
variable {toks:List Aq} (hT:Ahq toks) {at0:Int} {s q:Nat} {c d:Cur}
theorem Cs.mono {s':Nat} (h:Cs at0 s c) (hs:s'<=s):Cs at0 s' c:=⟨h.lo,fun e=>by have:=h.w e;omega⟩
theorem Gr (a:Int):Cs a 0 (Aw a):=⟨Int.le_refl _,fun _=>by show((0:Nat):Int)+((0:Nat):Int)<=60*(a-a);omega⟩
theorem Ajh {a e:Int} (he:e≠0) (s:Nat):Cs a s ⟨[],0,a,e⟩:=⟨Int.le_refl _,fun h=>absurd h he⟩
theorem Bt (t:Str) (h:Cs at0 s c):Cs at0 (s+60) (Az toks t c):=by
 obtain⟨lo,w⟩:=h
 unfold Az
 split
 ·rename_i he
  have:=w he
  split
  ·exact⟨by dsimp only;omega,fun _=>by dsimp only;omega⟩
  ·exact⟨lo,fun h=>by simp at h⟩
 ·rename_i he
  exact⟨lo,fun h=>absurd h he⟩
theorem Kc (h:Cs at0 s c):Cs at0 (s+60) (Dh toks c):=by
 obtain⟨lo,w⟩:=h
 unfold Dh
 split
 ·rename_i he
  have:=w he
  split
  ·exact⟨by dsimp only;omega,fun _=>by dsimp only;omega⟩
  ·exact⟨lo,fun h=>by simp at h⟩
 ·rename_i he
  exact⟨lo,fun h=>absurd h he⟩
theorem Arw (h:Cs at0 s c):Cs at0 (s+60) (Mu toks c):=by
 obtain⟨lo,w⟩:=h
 unfold Mu
 split
 ·rename_i he
  have:=w he
  split
  ·split
   ·exact⟨lo,fun h=>by simp at h⟩
   ·exact⟨by dsimp only;omega,fun _=>by dsimp only;omega⟩
  ·exact⟨lo,fun h=>by simp at h⟩
 ·rename_i he
  exact⟨lo,fun h=>absurd h he⟩
theorem Qu {s':Nat} (h:Cs at0 s c) (hd:Cs c.at_ s' d):Cs at0 (s+s') (E6 c d):=by
 obtain⟨lo,w⟩:=h
 unfold E6
 split
 ·rename_i he
  obtain⟨lo',w'⟩:=hd
  have:=w he
  refine⟨by dsimp only;omega,fun e=> ?_⟩
  have:=w' e
  show((Bx 48 (c.l++d.l):Nat):Int)+((s+s':Nat):Int)<=60*(d.at_-at0)
  rw [C7];omega
 ·rename_i he
  exact⟨lo,fun h=>absurd h he⟩
include hT in
theorem Jc (h:Cs at0 s c):Cs at0 s (Eg TM toks c):=by
 refine Qu (s':=0) h ⟨?_,fun e=> ?_⟩
 ·by_cases h0:c.at_<0
  ·show c.at_<=((Dx (toks.map tT) c.at_).at_:Int)
   unfold Dx;rw [if_pos h0];dsimp only;omega
  ·exact Avd _ _ (by omega)
 ·obtain⟨f,e1,e2,_⟩:=Asp hT 0 c.at_ e
  have h1:=Ahu (D:=48) (Apc e2 (by simp))
  rw [e1]at h1
  show((Bx 48 (TM.T toks c.at_).1:Nat):Int)+((0:Nat):Int)<=60*((TM.T toks c.at_).2.1-c.at_)
  rw [h1]
  have:=Auf toks c.at_ (by
   by_cases h0:c.at_<0
   ·have e:(Dx (toks.map tT) c.at_).e=0:=e
    unfold Dx at e;rw [if_pos h0]at e;cases e
   ·omega) e
  omega
theorem Dz {x:Aj} {k:Nat} (h:Cs at0 k c) (hk:s+H5 48 x<=k):Cs at0 s (Cq c x):=by
 obtain⟨lo,w⟩:=h
 refine⟨lo,fun e=> ?_⟩
 have:=w e
 have hc:H5 48 ⟨x.op,x.name,x.n,c.n,x.at_⟩=H5 48 x:=rfl
 show((Bx 48 (_::c.l):Nat):Int)+(s:Int)<=60*(c.at_-at0)
 rw [Kx,hc]
 omega
theorem Gs (op:Int) (name:Str) (n a:Int):H5 48 (nd toks op name n a)=H5 48 ⟨op,[],0,0,0⟩:=rfl
theorem Q8 {g:Cur->Bool} {b:Cur->Cur} (hb:∀c,Cs at0 s c->Cs at0 s (b c)):∀(f:Nat) (c:Cur),Cs at0 s c->Cs at0 s (Ej g b f c)
 |0,c,h=>h
 |f+1,c,h=>by
  unfold Ej
  cases hg:g c with
  |true=>rw [if_pos rfl];exact Q8 hb f _ (hb c h)
  |false=>rw [if_neg (by simp)];exact h
include hT in
theorem Aug (a:Int):Cs a 36 (So TM toks a):=by
 unfold So R2
 split
 ·exact Dz (Bt _ (Jc hT (Bt _ (Kc (Gr a))))) (by rw [Gs];decide)
 ·exact Dz (Kc (Gr a)) (by rw [Gs];decide)
include hT in
theorem Akr (x y:Int) (h:Cs at0 s c):Cs at0 (s+96) (Gi TM toks x y c).c:=by
 unfold Gi
 split
 ·unfold Ox
  have h1:=Qu (s':=36) h (Aug hT c.at_)
  split
  ·exact(Jc hT (Bt C5 h1)).mono (by omega)
  ·exact(Kc (Bt Gt h1)).mono (by omega)
 ·rename_i he
  exact⟨h.lo,fun h=>absurd h he⟩
def Cb (toks:List Aq) (blk:Int->Cur):Prop:=∀a,Cs a 18 (blk a)
theorem Ahv {stmt:Int->Cur} (hs:∀a,Cs a 0 (stmt a)) (a:Int):Cs a 18 (Ow toks stmt a):=
 Dz (Bt _ (Q8 (s:=60) (fun _ h=>Qu h (hs _)) _ _ (Bt _ (Gr a)))) (by rw [Gs];decide)
theorem Zx {blk:Int->Cur} (hb:Cb toks blk) (h:Cs at0 s c):Cs at0 (s+18) (inC blk c):=Qu h (hb _)
include hT in
theorem Ace {blk:Int->Cur} (hb:Cb toks blk) (a:Int):Cs a 0 (Dy TM toks blk a):=by
 unfold Dy
 split
 ·exact Dz (Zx hb (Bt _ (Gr a))) (by rw [Gs];decide)
 ·have h0:=Bt (toks:=toks) Bq (Gr a)
  have h1:Cs a 60 (Ha TM toks (Az toks Bq (Aw a))):=by
   unfold Ha
   split
   ·exact(Bt _ (Jc hT (Bt _ h0))).mono (by omega)
   ·exact h0
  have h2:Cs a 120 (Dd TM toks (Ha TM toks (Az toks Bq (Aw a)))).c:=by
   unfold Dd
   split
   ·exact Jc hT (Bt _ h1)
   ·exact(Akr hT _ _ h1).mono (by omega)
  exact Dz (Zx hb h2) (Nat.le_trans (Nat.add_le_add_left (Uj _) 0) (by omega))
include hT in
theorem Arx (h:Cs at0 s c):Cs at0 s (O5 TM toks c):=by
 unfold O5
 refine(Bt (s:=s) _ ?_).mono (by omega)
 split
 ·exact Q8 (fun _ h=>(Jc hT (Bt _ h)).mono (by omega)) _ _ ((Jc hT (Bt _ h)).mono (by omega))
 ·exact(Bt _ h).mono (by omega)
include hT in
theorem Auh (a:Int):Cs a 0 (Vi TM toks a):=by
 unfold Vi
 split
 ·exact Dz (Bt _ (Bt _ (Jc hT (Bt _ (Bt _ (Bt _ (Kc (Gr a)))))))) (by rw [Gs];decide)
 ·exact Dz (Bt _ (Jc hT (Bt _ (Kc (Gr a))))) (by rw [Gs];decide)
include hT in
theorem Aji (w:Str) (op:Int) (a:Int):Cs a 0 (Agw TM toks w op a):=
 Dz (Bt _ (Jc hT (Bt _ (Gr a)))) (Nat.le_trans (Nat.add_le_add_left (Uj _) 0) (by omega))
theorem Aks (w:Str) (op:Int) (a:Int):Cs a 0 (Zf toks w op a):=
 Dz (Bt _ (Bt _ (Gr a))) (Nat.le_trans (Nat.add_le_add_left (Uj _) 0) (by omega))
include hT in
theorem Ary {blk:Int->Cur} (hb:Cb toks blk) (a:Int):Cs a 0 (A8 TM toks blk a):=by
 have hf:=Gr a
 unfold A8
 dsimp only
 split
 ·exact Dz (Bt _ (Jc hT (Bt _ (Kc (Bt _ hf))))) (by rw [Gs];decide)
 split
 ·exact Dz (Bt _ (Arx hT (Kc (Bt _ hf)))) (by rw [Gs];decide)
 split
 ·exact Aji hT _ _ a
 split
 ·exact Aji hT _ _ a
 split
 ·exact Aji hT _ _ a
 split
 ·exact Aks _ _ a
 split
 ·exact Aks _ _ a
 split
 ·exact Dz (Zx hb (Jc hT (Bt _ hf))) (by rw [Gs];decide)
 split
 ·have hi:=Zx hb (Jc hT (Bt (toks:=toks) sIf hf))
  refine Dz (k:=60) ?_ (by rw [Gs];decide)
  unfold ifC
  split
  ·exact(Zx hb (Bt _ hi)).mono (by omega)
  ·exact hi.mono (by omega)
 split
 ·refine Dz (Bt (s:=120) _ ?_) (by rw [Gs];decide)
  unfold Ai0
  have hf':=Bt (toks:=toks) sLB (Bt (toks:=toks) D1 hf)
  exact Q8 (fun _ h=>Qu h (Ace hT hb _)) _ _ (Qu hf' (Ace hT hb _))
 ·exact Ajh (by decide) _
include hT in
theorem Arz {blk:Int->Cur} (hb:Cb toks blk) (a:Int):Cs a 0 (Kh TM toks blk a):=by
 unfold Kh
 split
 ·split
  ·exact Auh hT a
  ·exact Dz (Bt _ (Akr hT _ _ (Gr a))) (Nat.le_trans (Nat.add_le_add_left (Uj _) 0) (by omega))
 ·split
  ·exact Ary hT hb a
  ·exact Ajh (by decide) _
include hT in
theorem Ajj:∀k,Cb toks (Eo TM toks k)
 |0,a=>by
  unfold Eo
  split
  ·exact Ajh (by decide) _
  ·exact Ahv (fun a=>Gr a) a
 |k+1,a=>Ahv (Arz hT (Ajj k)) a
include hT in
theorem Ar0 (a:Int):Cs a 0 (Ln TM toks a):=by
 have hf:=Gr a
 unfold Ln
 split
 ·refine Dz (k:=180) ?_ (by rw [Gs];decide)
  unfold Nb
  split
  ·exact(Bt _ (Bt _ (Arw (Bt _ (Kc (Bt _ hf)))))).mono (by omega)
  ·exact Bt _ (Kc (Bt _ hf))
 split
 ·refine Dz (Zx (Ajj hT 24) (Bt (s:=120) _ ?_)) (by rw [Gs];decide)
  have h1:Cs a 120 (Az toks sLP (Dh toks (Az toks Gg (Aw a)))):=(Bt _ (Kc (Bt _ hf))).mono (by omega)
  unfold Nc
  have hp:∀ {c:Cur},Cs a 120 c->Cs a 120 (Ji toks c):=fun h=>(Qu (s':=0) h (Dz (Kc (Gr _)) (by rw [Gs];decide))).mono (by omega)
  split
  ·exact Q8 (fun _ h=>hp ((Bt _ h).mono (by omega))) _ _ (hp h1)
  ·exact h1
 ·exact Dz (Zx (Ajj hT 24) (Bt _ hf)) (by rw [Gs];decide)
include hT in
theorem Ar1:Cs 0 0 (Mv TM toks):=Q8 (fun _ h=>Qu h (Ar0 hT _)) _ _ (Gr 0)
end
theorem Apd (s:Str) (h:(Ly s).2.2=0):(Ly s).1.length<=s.length+1:=by
 unfold Ly at h⊢
 split at h
 ·cases h
 ·rename_i hl
  rw [if_neg hl]
  have:=(Sq s (s.length+1) 0 [] (Nat.zero_le _) (by omega) h).2
  simpa using this
theorem Zy {s:Str} (h:(J9 s).e_=0) (hs:s.length<=600):Bx 48 (J9 s).l<=65536:=by
 unfold J9 at h⊢
 split at h
 ·rename_i c;exact absurd h c
 ·rename_i c
  rw [if_neg c]
  split at h
  ·rename_i c2;exact absurd h c2
  ·rename_i c2
   rw [if_neg c2]
   have hu:=Ar1 (Ahr s)
   have hc:=Aka (toks:=Gu s) TM
   unfold Fy at c2⊢
   split
   ·exact Nat.zero_le _
   ·rename_i c3
    rw [if_neg c3]at c2
    have h2:=hu.w (Classical.not_not.1 c3)
    have h3:=hc.hi
    have h4:=Apd s (Classical.not_not.1 c)
    show Bx 48 (_::(Mv TM (Gu s)).l)<=65536
    rw [Kx]
    have h5:=Uj ⟨42,[],0,(Mv TM (Gu s)).n,0⟩
    have h6:(Gu s).length<=s.length+1:=by unfold Gu;rw [List.length_map];exact h4
    show H5 48 ⟨42,[],0,(Mv TM (Gu s)).n,0⟩+_<=65536
    omega
theorem Amg {s:Str} (h:(J9 s).e_=0) (hs:s.length<=600) {f:Fo} (hf:f.flat=(J9 s).l) (hw:WfF [85] f) (hk:okF f):(Jo f).length<=65536:=by
 have h1:=Ao5 hw (D:=48) (by have:=hk.2;omega)
 rw [hf]at h1
 exact Nat.le_trans h1 (Zy h hs)
end Go.Proofs.YtcakelelfklhdaaGreatDoor
namespace Go.Proofs.YtcakelelfklhdaaGreatDoor
open Go.Vc Go.Lv Go.Ty Go.Tr Go.Tk Go.Tm
theorem Ajk {Q Q':UInt8->R->Prop} :∀ {cs:List UInt8} {ks:List R},F2 Q cs ks->(∀c r,r∈ks->Q c r->Q' c r)->F2 Q' cs ks
 |[],ks,h,_=>by cases F2.nil h;trivial
 |_::_,[],h,_=>h.elim
 |_::_,_::_,h,hq=>⟨hq _ _ (by simp) h.1,Ajk h.2 fun c r hr=>hq c r (by simp [hr])⟩
theorem Aez (c:UInt8) (x:Aj) (ds:List UInt8) (rs:List R) (ho:OkN c x ds) (hk:F2 (fun c r=>r.fl.length<2^39->W2 c r) ds rs):(Ar x rs).fl.length<2^39->W2 c (Ar x rs):=by
 intro hN
 have hf:F2 W2 ds rs:=Ajk hk fun c r hr h=>h (by have:=Qm (x:=x) hr;omega)
 have hw:=Kj hf
 have hea:=Et hw
 have hl:=Ql hea
 rw [Xq]at hN
 have hd:ds.length<2^39:=by rw [F2.len hf];omega
 have hkk:x.kids=(rs.length:Int):=by rw [←F2.len hf];exact Q5 ho hd
 have wt:WT c (Ar x rs):=⟨Alo hkk hea,⟨x,rs,rfl⟩,fun hc=>by subst hc;exact Alu ho hw⟩
 cases ho with
 |num n a h1 h2=>exact⟨wt,nofun,nofun,nofun,nofun,nofun,nofun⟩
 |name s a h=>exact⟨wt,nofun,nofun,nofun,nofun,nofun,nofun⟩
 |un op a h=>exact⟨wt,nofun,nofun,nofun,nofun,nofun,nofun⟩
 |bin op a h1 h2=>exact⟨wt,nofun,nofun,nofun,nofun,nofun,nofun⟩
 |set op s a h hn=>exact⟨wt,nofun,fun _=>Anu h hf,nofun,nofun,nofun,nofun⟩
 |send a=>exact⟨wt,nofun,fun _=>Aly hf,nofun,nofun,nofun,nofun⟩
 |recv s a h=>exact⟨wt,nofun,fun _=>Alx hf,nofun,nofun,nofun,nofun⟩
 |if2 a=>exact⟨wt,nofun,fun _=>Anx hf,nofun,nofun,nofun,nofun⟩
 |if3 a=>exact⟨wt,nofun,fun _=>Anz hf,nofun,nofun,nofun,nofun⟩
 |Bfc a=>exact⟨wt,nofun,fun _=>Alz hf,nofun,nofun,nofun,nofun⟩
 |sel k a h=>exact⟨wt,nofun,fun _=>An0 (by rw [List.length_replicate]at hd;exact hd) hf,nofun,nofun,nofun,nofun⟩
 |start s k a h=>exact⟨wt,nofun,fun _=>Ai5 (by rw [List.length_replicate]at hd;exact hd) hf,nofun,nofun,nofun,nofun⟩
 |one op a h=>exact⟨wt,nofun,fun _=>Anv h hf,nofun,nofun,nofun,nofun⟩
 |none op a h=>exact⟨wt,nofun,fun _=>Alw h hf,nofun,nofun,nofun,nofun⟩
 |els a=>exact⟨wt,nofun,nofun,fun _=>An2 hf,nofun,nofun,nofun⟩
 |clause op s a w ds h=>exact⟨wt,nofun,nofun,fun _=>Ahd (w0:=w) h hf,nofun,nofun,nofun⟩
 |Bbh s a h=>exact⟨wt,fun _=>Ahb (.Bbh s a h) hw,nofun,nofun,nofun,nofun,nofun⟩
 |Bbi s a h=>exact⟨wt,fun _=>Ahb (.Bbi s a h) hw,nofun,nofun,nofun,nofun,nofun⟩
 |block k a=>exact⟨wt,nofun,nofun,nofun,nofun,fun _=>⟨_,_,rfl,rfl,hkk,hea,fun r hr=>((Zn hf).2 r hr).st rfl⟩,nofun⟩
 |param s a h=>exact⟨wt,nofun,nofun,nofun,nofun,nofun,fun _=>⟨_,_,rfl,rfl⟩⟩
 |unit k a=>exact⟨wt,nofun,nofun,nofun,nofun,nofun,nofun⟩
 |chan s n a h h1 h2=>exact⟨wt,nofun,nofun,nofun,fun _=>Al4 h1 h2 hf,nofun,nofun⟩
 |main a=>exact⟨wt,nofun,nofun,nofun,fun _=>Al3 hf,nofun,nofun⟩
 |proc s k a h=>exact⟨wt,nofun,nofun,nofun,fun _=>Al5 (by rw [List.length_append,List.length_replicate,List.length_singleton]at hd;exact hd) hf,nofun,nofun⟩
theorem Ar2 (k a:Int) (rs:List R) (d:Nat):(Ar ⟨42,[],0,k,a⟩ rs).st d=Bf d rs:=by
 rw [Kv]
 unfold stN
 dsimp only
 simp only [Int.reduceEq,if_false,if_true]
theorem Ae0 {f:Fo} (hf:WfF [85] f) (hl:f.flat.length<=100000) (hs:(Jo f).length<2^30) (K:List UInt8->Int->Prop) (h:K (Jo f) 0) (hc:∀K:Int->Int->Prop,K 0 0->Ju f.flat K):K4 f.flat K:=by
 have h2:=Vk _ Aez hf
 have hfo:=hf
 cases hf with
 |@cons c x ds cs a b ho ha hb=>
 cases hb
 have e1:Fz (.cons x a .nil)=[Ar x (Fz a)]:=rfl
 have Bk7:(Fo.cons x a .nil).flat=(Ar x (Fz a)).fl:=by rw [Ub,e1];simp
 have hk:=Vk _ Aez ha
 have hk2:F2 W2 ds (Fz a):=Ajk hk fun c r hr h=>h (by have:=Qm (x:=x) hr;rw [←Bk7]at this;omega)
 have hea:=Et (Kj hk2)
 have Bz3:Jo (.cons x a .nil)=tx ((Ar x (Fz a)).st 0):=rfl
 rw [Bz3]at h hs
 rw [Bk7]at hl hc⊢
 generalize Fz a=rs at*
 cases ho with
 |unit k at_=>
 rw [Ar2]at h hs
 obtain⟨hlen,Awn⟩:=Zn hk2
 have hfl:=Ql hea
 have hfn:=Xq ⟨42,[],0,wr k,at_⟩ rs
 have hkk:(⟨42,[],0,wr k,at_⟩:Aj).kids=(rs.length:Int):=by show wr k=_;rw [hlen];exact Qk (by omega)
 refine Yw _ _ (hc _ (A7 rfl (Ek _ _ (by exact hl) _ ?_)))
 have hd0:(Ar ⟨42,[],0,wr k,at_⟩ rs).fl.drop 0=(Ar ⟨42,[],0,wr k,at_⟩ rs).fl++[]:=by simp
 have hkp:=Dr hkk hea hd0
 have hkp:R1 (Ar ⟨42,[],0,wr k,at_⟩ rs).fl 0=plc 1 rs:=hkp
 dsimp only
 rw [hkp]
 have hdr:(Ar ⟨42,[],0,wr k,at_⟩ rs).fl.drop 1=rs.flatMap R.fl++[]:=by rw [List.append_nil];rfl
 generalize hL:(Ar ⟨42,[],0,wr k,at_⟩ rs).fl=L at*
 refine⟨fun x ad bf dp n=>∃j:Nat,x=j/\j<=rs.length/\dp=0/\bf=B7 (tx (Bf 0 (rs.take j)))/\n=rs.length-j,⟨_,0,rfl,by omega,rfl,by simp [Bf,tx,B7],rfl⟩,?_⟩
 rintro x ad bf dp n ⟨j,rfl,hj,rfl,rfl,rfl⟩
 rw [Bg]
 refine Ag (fun e=> ?_) fun e=> ?_
 ·have e:j<rs.length:=by simpa using e
  refine⟨⟨by omega,by omega⟩,fun x1 h1=> ?_⟩
  have hr:rs[j]? =some rs[j]:=List.getElem?_eq_getElem e
  obtain⟨q,hq,hat⟩:=C8 L rs 1 [] hdr j _ hr
  rw [Int.toNat_natCast,hq]at h1
  cases h1
  have hbt:=Vm 0 hr
  have hle:=Aeo (rs:=rs) (j+1) 0
  rw [hbt,List.length_append]at hle
  have hml:=Aen (List.getElem_mem e)
  refine(Awn _ (List.getElem_mem e)).dc rfl ⟨L,⟨ad,_⟩,((0:Nat):Int)⟩ q 0 hl hat rfl (by omega) (by rw [Ec];omega) _ fun ad'=> ?_
  refine⟨rs.length-(j+1),by omega,j+1,by rw [A1 (by omega) (by omega)];omega,by omega,rfl,?_,rfl⟩
  rw [hbt,Gd]
 ·have e:¬j<rs.length:=by simpa using e
  have ht:rs.take j=rs:=List.take_of_length_le (by omega)
  rw [ht]
  exact Au0 _ _ rfl _ h
end Go.Proofs.YtcakelelfklhdaaGreatDoor
namespace Go.Proofs.YtcakelelfklhdaaGreatDoor
open Go.Vc
def Li (xA:Option Addr) (xN:Nat) (xC:Nat) (count:Int) (K:Value->World->Prop) (w:World):Prop:=
 ∃(J:World->Prop),
 (cond (decide (count<0))
 (False)
 (J w))/\
 ∀(_g:Nat->Value) (w2:World),J w2->
 Calls Tryz.prog 84 #[.int .u64 (IntKind.u64.wrap (xN:Int)),.int .u64 (IntKind.u64.wrap count)] w2 (Ret fun v1 w3=>
 ∃(x0:Int) (x1:Int),v1= .tuple #[.int .u64 x0,.int .u64 x1]/\
 ∃(J1:World->Prop),
 (∀(_g1:Nat->Value),
 cond (((decide (x0>0))||(decide (x1>9223372036854775807))))
 (False)
 (J1 w3))/\
 ∀(_g2:Nat->Value) (w5:World),J1 w5->
 Bl Tryz.prog (Instr.makeSlice 42 (.int .i64 (IntKind.i64.wrap x1)) (.int .i64 (IntKind.i64.wrap x1))) (fun v3 w6=>
 ∃(Ax0:Option Addr) (Axk:Nat) (Aw4:Nat),v3= .slice Ax0 Axk Aw4/\
 Bl Tryz.prog (Builtin.copy_ #[42,42] 3 #[.slice Ax0 Axk Aw4,.slice xA xN xC]) (fun v4 w7=>
 ∃(n:Int),v4= .int .i64 n/\
 ∃(I:Int->World->Prop) (m:Int->World->Nat),I n w7/\
 ∀(_g3:Nat->Value) (n1:Int) (w8:World),I n1 w8->
 cond (decide (n1<(Axk:Int)))
 (∀w9:World,w9=w8.drew->
 ((0:Int)<=n1/\n1<=(Axk:Int))/\
 ((0:Int)<=n1/\n1<=(Aw4:Int))/\
 Bl Tryz.prog (Builtin.copy_ #[42,42] 3 #[.slice (Hr Ax0 n1.toNat Aw4 1) (Axk-n1.toNat) (Aw4-n1.toNat),.slice (Hr Ax0 0 Aw4 1) n1.toNat Aw4]) (fun v5 w10=>
 ∃(x:Int),v5= .int .i64 x/\
 I (IntKind.i64.wrap (n1+x)) w10/\m (IntKind.i64.wrap (n1+x)) w10<m n1 w8) w9)
 (K (.slice Ax0 Axk Aw4) w8)) w6) w5)
theorem Lj (xA:Option Addr) (xN:Nat) (xC:Nat) (count:Int) (K:Value->World->Prop) (w:World) (h:Li xA xN xC count K w):Calls Tryz.prog 78 #[.slice xA xN xC,.int .i64 count] w (Ret K):=
 Ao { loops:=[(508,[(8,.int .i64)])],Aww:=[(3,[]),(15,[])],Aw1:=[(60,[26])] } Tryz.func78 (by kernel_rfl) h
def Vx (x:Int) (y:Int) (K:Value->World->Prop) (w:World):Prop:=
 Calls Tryz.prog 98 #[.int .u64 x,.int .u64 y] w (Ret fun v w1=>
 ∃(x0:Int) (x1:Int),v= .tuple #[.int .u64 x0,.int .u64 x1]/\
 K (.tuple #[.int .u64 x0,.int .u64 x1]) w1)
theorem Vy (x:Int) (y:Int) (K:Value->World->Prop) (w:World) (h:Vx x y K w):Calls Tryz.prog 84 #[.int .u64 x,.int .u64 y] w (Ret K):=
 Ao {} Tryz.func84 (by kernel_rfl) h
def Sv (x:Int) (y:Int) (K:Value->World->Prop) (w:World):Prop:=
 (0:Int)<=32/\
 (0:Int)<=32/\
 (0:Int)<=32/\
 (0:Int)<=32/\
 (0:Int)<=32/\
 K (.tuple #[.int .u64 (IntKind.u64.wrap ((IntKind.u64.wrap ((IntKind.u64.wrap ((x.fdiv (2^(min 32 IntKind.u64.bits)))*(y.fdiv (2^(min 32 IntKind.u64.bits)))))+((IntKind.u64.wrap ((IntKind.u64.wrap ((x.fdiv (2^(min 32 IntKind.u64.bits)))*(H7 .u64 y 4294967295)))+((IntKind.u64.wrap ((H7 .u64 x 4294967295)*(H7 .u64 y 4294967295))).fdiv (2^(min 32 IntKind.u64.bits))))).fdiv (2^(min 32 IntKind.u64.bits)))))+((IntKind.u64.wrap ((H7 .u64 (IntKind.u64.wrap ((IntKind.u64.wrap ((x.fdiv (2^(min 32 IntKind.u64.bits)))*(H7 .u64 y 4294967295)))+((IntKind.u64.wrap ((H7 .u64 x 4294967295)*(H7 .u64 y 4294967295))).fdiv (2^(min 32 IntKind.u64.bits))))) 4294967295)+(IntKind.u64.wrap ((H7 .u64 x 4294967295)*(y.fdiv (2^(min 32 IntKind.u64.bits))))))).fdiv (2^(min 32 IntKind.u64.bits))))),.int .u64 (IntKind.u64.wrap (x*y))]) w
theorem Sw (x:Int) (y:Int) (K:Value->World->Prop) (w:World) (h:Sv x y K w):Calls Tryz.prog 98 #[.int .u64 x,.int .u64 y] w (Ret K):=
 Ao {} Tryz.func98 (by kernel_rfl) h
end Go.Proofs.YtcakelelfklhdaaGreatDoor
