/- A part of the proof: conditions of the code, contracts, the plain law. -/
import Derived.Test.YtcakelelfklhdaaGreatDoorM8
import Derived.Test.YtcakelelfklhdaaGreatDoorM6
import Derived.Test.YtcakelelfklhdaaGreatDoorRows
import Derived.Test.YtcakelelfklhdaaGreatDoorVcF
import Derived.Laws.CopyRow
import Derived.Laws.IdiomCopy
namespace Go.Proofs.YtcakelelfklhdaaGreatDoor
open Go.Vc Go.Lv Go.Ty Go.Tk Go.Tm
abbrev Key:=Int×Str×Int
def kyT (t:Tok):Key:=(t.kind,t.text,t.n)
def kyV (v:Str):Key:=(kdS v,v,nvS v)
def kyK:List Ck->List Key
 |[]=>[]
 | .sp _::l=>kyK l
 | .tk v::l=>kyV v::kyK l
theorem Bf:∀(a b:List Ck),kyK (a++b)=kyK a++kyK b
 |[],_=>rfl
 | .sp _::a,b=>Bf a b
 | .tk v::a,b=>by show kyV v::kyK (a++b)=_;rw [Bf a b];rfl
def Us (ts:List Tok) (p:Nat) (ks:List Key):Prop:=∃r,(ts.drop p).map kyT=ks++r
theorem C2 {ts:List Tok} {p:Nat} {a b:List Key} (h:Us ts p (a++b)):Us ts p a/\Us ts (p+a.length) b:=by
 obtain⟨r,h⟩:=h
 rw [List.append_assoc]at h
 refine⟨⟨_,h⟩,r,?_⟩
 rw [←List.drop_drop,List.map_drop,h]
 exact List.drop_left
theorem Al {ts:List Tok} {p:Nat} {k:Key} {a:List Key} (h:Us ts p (k::a)):kyT (T ts p)=k/\Us ts (p+1) a:=by
 refine⟨?_,(C2 (a:=[k]) h).2⟩
 obtain⟨r,h⟩:=h
 cases hd:ts.drop p with
 |nil=>rw [hd]at h;cases h
 |cons t l=>
  rw [hd]at h
  have:T ts p=t:=by
   unfold T
   have h1:=congrArg (fun l=>l[0]?) hd
   simp only [List.getElem?_drop,Nat.add_zero,List.getElem?_cons_zero]at h1
   simp [List.getD,h1]
  rw [this]
  simpa using(List.cons.inj h).1
theorem Aux (toks:List Tok):∀(f:Nat) (j:Job) (r:Res),P toks f j=some r->P toks (f+1) j=some r:=by
 intro f
 induction f with
 |zero=>intro j r h;simp [P]at h
 |succ f ih=>
  intro j r h
  cases j with
  |one p d=>
   simp only [P]at h
   show Co toks (fun p d=>P toks (f+1) (.one p d)) (fun p d=>P toks (f+1) (.lev 1 p d)) p d=some r
   exact T3 (fun p d r h=>ih _ _ h) (fun p d r h=>ih _ _ h) h
  |lev n p d=>
   rw [P]at h⊢
   obtain⟨x,hx,hr⟩:=Option.bind_eq_some_iff.1 h
   exact Option.bind_eq_some_iff.2 ⟨x,ih _ _ hx,ih _ _ hr⟩
  |loop n m d x=>
   rw [P]at h⊢
   split at h
   ·rename_i he;rw [if_pos he];exact h
   ·rename_i he
    rw [if_neg he]
    split at h
    ·rename_i hm;rw [if_pos hm];exact h
    ·rename_i hm
     rw [if_neg hm]
     obtain⟨y,hy,hr⟩:=Option.bind_eq_some_iff.1 h
     refine Option.bind_eq_some_iff.2 ⟨y,ih _ _ hy,?_⟩
     split at hr
     ·rename_i hye;rw [if_pos hye];exact hr
     ·rename_i hye
      rw [if_neg hye]
      exact ih _ _ hr
theorem S0 (toks:List Tok) {f g:Nat} (hfg:f<=g) {j:Job} {r:Res} (h:P toks f j=some r):P toks g j=some r:=by
 induction g with
 |zero=>have:f=0:=by omega
        subst this;exact h
 |succ g ih=>
  rcases Nat.lt_or_ge g f with h1|h1
  ·have:f=g+1:=by omega
   subst this;exact h
  ·exact Aux _ _ _ _ (ih h1)
theorem Atm (toks:List Tok) {f g:Nat} {j:Job} {r z:Res} (h:P toks f j=some r) (k:P toks g j=some z):r=z:=by
 have h1:=S0 toks (Nat.le_max_left f g) h
 rw [S0 toks (Nat.le_max_right f g) k]at h1
 exact(Option.some.inj h1).symm
def erD (x:Nd):Int×Str×Int×Int:=(x.op,x.name,x.n,x.kids)
def erG (x:Ai):Int×Str×Int×Int:=(x.op,x.name,x.n,x.kids)
def lv (r:R):Nat:=B6 r.x.op
def mst (r:R):Nat:=if 6<=lv r then 6 else if lv r=3 then 2 else lv r
def ln (l:List Ck):Nat:=(kyK l).length
def Auy (l:List Ck) (fl:List Ai) (nd low top:Nat):Prop:=∀(ts:List Tok) (p d n:Nat),1<=n->n<=top->d<=24->Us ts p (kyK l)->Cz ts (p+ln l)<=top->
 (d+nd<=24->∃L:List Nd,L.map erD=fl.map erG/\∀f z,P ts f (.loop n low d ⟨L,p+ln l,0⟩)=some z->∃f',P ts f' (.lev n p d)=some z)/\
 (24<d+nd->∃f' z,P ts f' (.lev n p d)=some z/\z.e=5)
def Akr (l:List Ck) (fl:List Ai) (nd:Nat):Prop:=∀(ts:List Tok) (p d:Nat),d<=24->Us ts p (kyK l)->
 (d+nd<=24->∃(L:List Nd) (f:Nat),L.map erD=fl.map erG/\P ts f (.one p d)=some ⟨L,p+ln l,0⟩)/\
 (24<d+nd->∃f z,P ts f (.one p d)=some z/\z.e=5)
structure TmP (r:R):Prop where
 lev:1<=lv r/\lv r<=7
 big:Auy r.tm r.fl r.nd (mst r) (lv r)
 one:6<=lv r->Akr r.tm r.fl r.nd
theorem O1 {l:List Ck} {fl:List Ai} {nd top:Nat} (h:Akr l fl nd):Auy l fl nd 6 top:=by
 intro ts p d n _ _ hd hs _
 obtain⟨h1,h2⟩:=h ts p d hd hs
 refine⟨fun hn=> ?_,fun hn=> ?_⟩
 ·obtain⟨L,f,he,hf⟩:=h1 hn
  refine⟨L,he,fun g z hz=>⟨max f g+1,?_⟩⟩
  rw [P]
  exact Option.bind_eq_some_iff.2 ⟨_,S0 ts (Nat.le_max_left _ _) hf,S0 ts (Nat.le_max_right _ _) hz⟩
 ·obtain⟨f,z,hf,he⟩:=h2 hn
  refine⟨f+2,z,?_,he⟩
  rw [P]
  refine Option.bind_eq_some_iff.2 ⟨z,S0 ts (Nat.le_succ _) hf,?_⟩
  rw [P,if_pos (by rw [he];decide)]
theorem V3 {ts:List Tok} {n m d:Nat} {x:Res} (h:Cz ts x.at_=0\/Cz ts x.at_<n):P ts 1 (.loop n m d x)=some x:=by
 rw [P]
 by_cases he:x.e≠0
 ·rw [if_pos he]
 ·rw [if_neg he,if_pos (by omega)]
theorem Alx {ts:List Tok} {p:Nat} {k n:Int} {v:Str} (h:kyT (T ts p)=(k,v,n)):Cz ts p=if k=4 then B6 (K3 v)else 0:=by
 unfold kyT at h
 simp only [Prod.mk.injEq]at h
 unfold Cz
 rw [h.1,h.2.1]
theorem paren {r:R} (h:TmP r):Akr (.tk sLP::(r.tm++[.tk sRP])) r.fl (r.nd+1):=by
 intro ts p d hd hs
 have hk:kyK (.tk sLP::(r.tm++[.tk sRP]))=kyV sLP::(kyK r.tm++[kyV sRP]):=by show kyV sLP::kyK _=_;rw [Bf];rfl
 rw [hk]at hs
 obtain⟨h0,hs⟩:=Al hs
 obtain⟨h1,hs⟩:=C2 hs
 have h2:=(Al hs).1
 have hl:ln (.tk sLP::(r.tm++[.tk sRP]))=ln r.tm+2:=by unfold ln;rw [hk];simp
 have e0:(T ts p).kind=4/\(T ts p).text=[40]:=by
  have:kyT (T ts p)=(4,[40],0):=h0
  unfold kyT at this
  simp only [Prod.mk.injEq]at this
  exact⟨this.1,this.2.1⟩
 have e2:(T ts (p+1+ln r.tm)).kind=4/\(T ts (p+1+ln r.tm)).text=[41]:=by
  have:kyT (T ts (p+1+ln r.tm))=(4,[41],0):=h2
  unfold kyT at this
  simp only [Prod.mk.injEq]at this
  exact⟨this.1,this.2.1⟩
 have hm:Cz ts (p+1+ln r.tm)=0:=by
  unfold Cz;rw [if_pos e2.1,e2.2];decide
 have step:∀f z,P ts f (.lev 1 (p+1) (d+1))=some z->d≠24->P ts (f+1) (.one p d)=some (if z.e≠0 then z else if(T ts z.at_).kind=4/\(T ts z.at_).text=[41]then⟨z.l,z.at_+1,0⟩else⟨[],z.at_,11⟩):=by
  intro f z hz hd'
  simp only [P]
  unfold Co
  rw [if_neg (by rw [e0.1];decide),if_neg (by rw [e0.1];decide),if_neg (fun h=>by rw [e0.2]at h;exact absurd h.2 (by decide)),if_pos e0,if_neg hd']
  show Option.map _ (P ts f (.lev 1 (p+1) (d+1)))=_
  rw [hz]
  rfl
 refine⟨fun hn=> ?_,fun hn=> ?_⟩
 ·obtain⟨L,he,hL⟩:=(h.big ts (p+1) (d+1) 1 (Nat.le_refl _) h.lev.1 (by omega) h1 (by rw [hm];omega)).1 (by omega)
  obtain⟨f',hf'⟩:=hL 1 _ (V3 (.inl hm))
  refine⟨L,f'+1,he,?_⟩
  rw [step _ _ hf' (by omega)]
  rw [if_neg (by simp),if_pos e2,hl]
  simp only [Option.some.injEq,Res.mk.injEq,true_and,and_true]
  omega
 ·by_cases hd':d=24
  ·refine⟨1,⟨[],p,5⟩,?_,rfl⟩
   simp only [P]
   unfold Co
   rw [if_neg (by rw [e0.1];decide),if_neg (by rw [e0.1];decide),if_neg (fun h=>by rw [e0.2]at h;exact absurd h.2 (by decide)),if_pos e0,if_pos hd']
  ·obtain⟨f',z,hf',he⟩:=(h.big ts (p+1) (d+1) 1 (Nat.le_refl _) h.lev.1 (by omega) h1 (by rw [hm];omega)).2 (by omega)
   exact⟨f'+1,z,by rw [step _ _ hf' hd',if_pos (by rw [he];decide)],he⟩
def Ap0 (r:R) (l:Nat):Nat:=if lv r<l then 6 else mst r
def Ano (r:R) (l:Nat):Nat:=if lv r<l then 7 else lv r
theorem Aiy {r:R} (h:TmP r) (l:Nat):Auy (Bw r l) r.fl (E3 r l) (Ap0 r l) (Ano r l):=by
 unfold Bw E3 Ap0 Ano
 by_cases hb:lv r<l
 ·have hb':B6 r.x.op<l:=hb
  simp only [if_pos hb,if_pos hb']
  exact O1 (paren h)
 ·have hb':¬B6 r.x.op<l:=hb
  simp only [if_neg hb,if_neg hb']
  exact h.big
theorem Aiz {r:R} (h:TmP r):Akr (Bw r 6) r.fl (E3 r 6):=by
 unfold Bw E3
 by_cases hb:B6 r.x.op<6
 ·rw [if_pos hb,if_pos hb];exact paren h
 ·rw [if_neg hb,if_neg hb];exact h.one (Nat.le_of_not_lt hb)
theorem Auz {n a:Int} (h0:0<=n) (h1:n<=999999999999999999) (ks:List R) (hk:ks=[]):TmP (Ar ⟨1,[],n,0,a⟩ ks):=by
 subst hk
 have hN:=V1 h0 h1
 have ho:Akr (Ar ⟨1,[],n,0,a⟩ []).tm (Ar ⟨1,[],n,0,a⟩ []).fl (Ar ⟨1,[],n,0,a⟩ []).nd:=by
  intro ts p d hd hs
  have hs:Us ts p [kyV (Lf n)]:=hs
  have h:=(Al hs).1
  unfold kyT kyV at h
  simp only [Prod.mk.injEq]at h
  refine⟨fun _=>⟨[⟨1,[],(T ts p).n,0,(T ts p).at_⟩],1,?_,?_⟩,fun hn=> ?_⟩
  ·show [_]=[_]
   simp only [erD,erG,h.2.2,hN.nv]
  ·simp only [P]
   unfold Co
   rw [if_pos (by rw [h.1];exact hN.kd)]
   rfl
  ·exact absurd hn (show¬24<d+0 by omega)
 exact⟨(show 1<=B6 1/\B6 1<=7 by decide),O1 ho,fun _=>ho⟩
theorem Aso {s:Str} {a:Int} (hn:Tk.Be s=true) (ks:List R) (hk:ks=[]):TmP (Ar ⟨2,s,0,0,a⟩ ks):=by
 subst hk
 have ho:Akr (Ar ⟨2,s,0,0,a⟩ []).tm (Ar ⟨2,s,0,0,a⟩ []).fl (Ar ⟨2,s,0,0,a⟩ []).nd:=by
  intro ts p d hd hs
  have hs:Us ts p [kyV s]:=hs
  have h:=(Al hs).1
  unfold kyT kyV at h
  simp only [Prod.mk.injEq]at h
  have hkd:=(E8 hn).2
  refine⟨fun _=>⟨[⟨2,(T ts p).text,0,0,(T ts p).at_⟩],1,?_,?_⟩,fun hn=> ?_⟩
  ·show [_]=[_]
   simp only [erD,erG,h.2.1]
  ·simp only [P]
   unfold Co
   rw [if_neg (by rw [h.1,hkd];decide),if_pos (by rw [h.1,hkd])]
   rfl
  ·exact absurd hn (show¬24<d+0 by omega)
 exact⟨(show 1<=B6 2/\B6 2<=7 by decide),O1 ho,fun _=>ho⟩
theorem Awb {op a:Int} (hop:op=3\/op=4) {k:R} (hk:TmP k):TmP (Ar ⟨op,[],0,1,a⟩ [k]):=by
 have htm:(Ar ⟨op,[],0,1,a⟩ [k]).tm= .tk (sgO op)::Bw k 6:=by rcases hop with rfl|rfl<;>rfl
 have hnd:(Ar ⟨op,[],0,1,a⟩ [k]).nd=E3 k 6+1:=by rcases hop with rfl|rfl<;>rfl
 have hlv:lv (Ar ⟨op,[],0,1,a⟩ [k])=6:=by rcases hop with rfl|rfl<;>rfl
 have hms:mst (Ar ⟨op,[],0,1,a⟩ [k])=6:=by unfold mst;rw [hlv];rfl
 have hfl:(Ar ⟨op,[],0,1,a⟩ [k]).fl=⟨op,[],0,1,a⟩::k.fl:=by show _::(k.fl++[])=_;rw [List.append_nil]
 have ho:Akr (Ar ⟨op,[],0,1,a⟩ [k]).tm (Ar ⟨op,[],0,1,a⟩ [k]).fl (Ar ⟨op,[],0,1,a⟩ [k]).nd:=by
  rw [htm,hnd,hfl]
  intro ts p d hd hs
  have hs:Us ts p (kyV (sgO op)::kyK (Bw k 6)):=hs
  obtain⟨h,hs⟩:=Al hs
  have hky:kyV (sgO op)=(4,sgO op,0):=by rcases hop with rfl|rfl<;>rfl
  rw [hky]at h
  unfold kyT at h
  simp only [Prod.mk.injEq]at h
  have hln:ln (.tk (sgO op)::Bw k 6)=ln (Bw k 6)+1:=rfl
  have c:(T ts p).kind=4/\((T ts p).text=[45]\/(T ts p).text=[33]):=⟨h.1,by rcases hop with rfl|rfl<;>simp [h.2.1,sgO]⟩
  refine⟨fun hn=> ?_,fun hn=> ?_⟩
  ·obtain⟨L,f,he,hf⟩:=(Aiz hk ts (p+1) (d+1) (by omega) hs).1 (by omega)
   refine⟨⟨op,[],0,1,(T ts p).at_⟩::L,f+1,?_,?_⟩
   ·rw [List.map_cons,he];rfl
   ·simp only [P]
    unfold Co
    rw [if_neg (by rw [h.1];decide),if_neg (by rw [h.1];decide),if_pos c,if_neg (by omega)]
    show Option.map _ (P ts f (.one (p+1) (d+1)))=_
    rw [hf,hln]
    have:(if(T ts p).text=[33]then(4:Int)else 3)=op:=by rcases hop with rfl|rfl<;>simp [h.2.1,sgO]
    simp only [Option.map_some,if_true,this]
    congr 2;omega
  ·by_cases hd':d=24
   ·refine⟨1,⟨[],p,5⟩,?_,rfl⟩
    simp only [P]
    unfold Co
    rw [if_neg (by rw [h.1];decide),if_neg (by rw [h.1];decide),if_pos c,if_pos hd']
   ·obtain⟨f,z,hf,he⟩:=(Aiz hk ts (p+1) (d+1) (by omega) hs).2 (by omega)
    refine⟨f+1,z,?_,he⟩
    simp only [P]
    unfold Co
    rw [if_neg (by rw [h.1];decide),if_neg (by rw [h.1];decide),if_pos c,if_neg hd']
    show Option.map _ (P ts f (.one (p+1) (d+1)))=_
    rw [hf,Option.map_some,if_neg (by rw [he];decide)]
 exact⟨by rw [hlv];decide,by rw [hms];exact O1 ho,fun _=>ho⟩
theorem Ap1 {op:Int} (h5:5<=op) (h17:op<=17):kyV (sgO op)=(4,sgO op,0)/\K3 (sgO op)=op/\1<=B6 op/\B6 op<=5:=by
 rcases ops (op:=op) (by omega)with rfl|rfl|rfl|rfl|rfl|rfl|rfl|rfl|rfl|rfl|rfl|rfl|rfl|rfl|rfl
 ·omega
 ·omega
 all_goals exact⟨rfl,rfl,by decide,by decide⟩
theorem Au0 {op a:Int} (h5:5<=op) (h17:op<=17) {k k':R} (hk:TmP k) (hk':TmP k'):TmP (Ar ⟨op,[],0,2,a⟩ [k,k']):=by
 obtain⟨hky,hop,hl1,hl5⟩:=Ap1 h5 h17
 have htm:(Ar ⟨op,[],0,2,a⟩ [k,k']).tm=Bw k (Cf op)++(sps::.tk (sgO op)::sps::Bw k' (B6 op+1)):=by
  show tmN ⟨op,[],0,2,a⟩ [k,k']=_
  unfold tmN
  dsimp only
  rw [if_neg (by omega),if_neg (by omega),if_neg (by omega),if_neg (by omega)]
  rfl
 have hnd:(Ar ⟨op,[],0,2,a⟩ [k,k']).nd=max (E3 k (Cf op)) (E3 k' (B6 op+1)):=by
  show ndN ⟨op,[],0,2,a⟩ [k,k']=_
  unfold ndN
  dsimp only
  rw [if_neg (by omega),if_pos ⟨h5,h17⟩]
  rfl
 have hlv:lv (Ar ⟨op,[],0,2,a⟩ [k,k'])=B6 op:=rfl
 have hms:mst (Ar ⟨op,[],0,2,a⟩ [k,k'])=if B6 op=3 then 2 else B6 op:=by unfold mst;rw [hlv,if_neg (by omega)]
 have hfl:(Ar ⟨op,[],0,2,a⟩ [k,k']).fl=⟨op,[],0,2,a⟩::(k.fl++k'.fl):=by show _::(k.fl++(k'.fl++[]))=_;rw [List.append_nil]
 refine⟨by rw [hlv];omega,?_,fun h=>by rw [hlv]at h;omega⟩
 rw [htm,hnd,hms,hfl,hlv]
 have hM1:=Nat.le_max_left (E3 k (Cf op)) (E3 k' (B6 op+1))
 have hM2:=Nat.le_max_right (E3 k (Cf op)) (E3 k' (B6 op+1))
 have hM3:max (E3 k (Cf op)) (E3 k' (B6 op+1))=E3 k (Cf op)\/max (E3 k (Cf op)) (E3 k' (B6 op+1))=E3 k' (B6 op+1):=by
  rcases Nat.le_total (E3 k (Cf op)) (E3 k' (B6 op+1))with h|h
  ·exact .inr (Nat.max_eq_right h)
  ·exact .inl (Nat.max_eq_left h)
 clear hnd
 generalize max (E3 k (Cf op)) (E3 k' (B6 op+1))=M at hM1 hM2 hM3⊢
 intro ts p d n hn1 hn hd hs hF
 have hkk:kyK (Bw k (Cf op)++(sps::.tk (sgO op)::sps::Bw k' (B6 op+1)))=kyK (Bw k (Cf op))++(kyV (sgO op)::kyK (Bw k' (B6 op+1))):=Bf _ _
 have hlen:ln (Bw k (Cf op)++(sps::.tk (sgO op)::sps::Bw k' (B6 op+1)))=ln (Bw k (Cf op))+(ln (Bw k' (B6 op+1))+1):=by unfold ln;rw [hkk];simp
 rw [hlen]at hF
 rw [hkk]at hs
 obtain⟨s1,hs⟩:=C2 hs
 obtain⟨s2,s3⟩:=Al hs
 rw [hky]at s2
 have hm:=Alx s2
 rw [if_pos rfl,hop]at hm
 have hm:Cz ts (p+ln (Bw k (Cf op)))=B6 op:=hm
 have s3:Us ts (p+ln (Bw k (Cf op))+1) (kyK (Bw k' (B6 op+1))):=s3
 have htx:(T ts (p+ln (Bw k (Cf op)))).text=sgO op:=by
  have:kyT (T ts (p+ln (Bw k (Cf op))))=(4,sgO op,0):=s2
  unfold kyT at this;simp only [Prod.mk.injEq]at this;exact this.2.1
 have hk1:=hk.lev;have hk2:=hk'.lev
 have Ca4:B6 op<=Ano k (Cf op):=by
  unfold Ano Cf
  by_cases h3:B6 op=3
  ·simp only [if_pos h3];split<;>omega
  ·simp only [if_neg h3];split<;>omega
 have hL:=Aiy hk (Cf op) ts p d n hn1 (Nat.le_trans hn Ca4) hd s1 (by rw [hm];exact Ca4)
 have hR:=Aiy hk' (B6 op+1) ts (p+ln (Bw k (Cf op))+1) d (B6 op+1) (by omega) (by unfold Ano;split<;>omega) hd s3 (by
  rw [show p+ln (Bw k (Cf op))+1+ln (Bw k' (B6 op+1))=p+(ln (Bw k (Cf op))+(ln (Bw k' (B6 op+1))+1)) by omega]
  unfold Ano;split<;>omega)
 have Ckx:B6 op<=Ap0 k (Cf op):=by
  unfold Ap0 mst Cf
  by_cases h3:B6 op=3
  ·simp only [if_pos h3];split<;>(try split)<;>(try split)<;>omega
  ·simp only [if_neg h3];split<;>(try split)<;>(try split)<;>omega
 have Be2:∀(L:List Nd) f y,P ts f (.lev (B6 op+1) (p+ln (Bw k (Cf op))+1) d)=some y->P ts (f+1) (.loop n (Ap0 k (Cf op)) d ⟨L,p+ln (Bw k (Cf op)),0⟩)=if y.e≠0 then some y else P ts f (.loop n (if B6 op=3 then 2 else B6 op) d (join ts ⟨L,p+ln (Bw k (Cf op)),0⟩ y)):=by
  intro L f y hy
  rw [P,if_neg (by simp)]
  dsimp only
  rw [hm,if_neg (by omega),hy]
  rfl
 refine⟨fun hdn=> ?_,fun hdn=> ?_⟩
 ·obtain⟨L,he,hLL⟩:=hL.1 (by omega)
  obtain⟨L',he',Ci3⟩:=hR.1 (by omega)
  obtain⟨f',hf'⟩:=Ci3 1 _ (V3 (by dsimp only;rw [show p+ln (Bw k (Cf op))+1+ln (Bw k' (B6 op+1))=p+(ln (Bw k (Cf op))+(ln (Bw k' (B6 op+1))+1)) by omega];omega))
  refine⟨⟨op,[],0,2,(T ts (p+ln (Bw k (Cf op)))).at_⟩::L++L',?_,fun f z hz=> ?_⟩
  ·rw [List.cons_append,List.map_cons,List.map_append,he,he',List.map_cons,List.map_append];rfl
  ·have h1:=Be2 L (max f f') _ (S0 ts (Nat.le_max_right _ _) hf')
   rw [if_neg (by simp)]at h1
   have e:join ts ⟨L,p+ln (Bw k (Cf op)),0⟩ ⟨L',p+ln (Bw k (Cf op))+1+ln (Bw k' (B6 op+1)),0⟩=⟨⟨op,[],0,2,(T ts (p+ln (Bw k (Cf op)))).at_⟩::L++L',p+ln (Bw k (Cf op)++(sps::.tk (sgO op)::sps::Bw k' (B6 op+1))),0⟩:=by
    unfold join
    dsimp only
    rw [htx,hop,hlen]
    congr 1;omega
   rw [e,S0 ts (Nat.le_max_left _ _) hz]at h1
   exact hLL _ _ h1
 ·by_cases hd1:24<d+E3 k (Cf op)
  ·exact hL.2 hd1
  ·have hd2:24<d+E3 k' (B6 op+1):=by clear hL hR;omega
   obtain⟨L,he,hLL⟩:=hL.1 (by omega)
   obtain⟨f',y,hf',hy⟩:=hR.2 hd2
   have h1:=Be2 L f' y hf'
   rw [if_pos (by rw [hy];decide)]at h1
   obtain⟨g,hg⟩:=hLL _ _ h1
   exact⟨g,y,hg,hy⟩
theorem Ap2 {r:R} (h:TmP r) {ts:List Tok} {p:Nat} (hs:Us ts p (kyK r.tm)) (hm:Cz ts (p+ln r.tm)=0):
 (r.nd<=24->∃L:List Nd,L.map erD=r.fl.map erG/\Hq ts p=⟨L,p+ln r.tm,0⟩)/\(24<r.nd->(Hq ts p).e=5):=by
 have hp:=Jg ts p (by omega)
 rw [Int.toNat_natCast]at hp
 obtain⟨h1,h2⟩:=h.big ts p 0 1 (Nat.le_refl _) h.lev.1 (by omega) hs (by rw [hm];omega)
 refine⟨fun hn=> ?_,fun hn=> ?_⟩
 ·obtain⟨L,he,hL⟩:=h1 (by omega)
  obtain⟨f,hf⟩:=hL 1 _ (V3 (.inl hm))
  exact⟨L,he,Atm ts hp hf⟩
 ·obtain⟨f,z,hf,he⟩:=h2 (by omega)
  rw [Atm ts hp hf];exact he
end Go.Proofs.YtcakelelfklhdaaGreatDoor
namespace Go.Proofs.YtcakelelfklhdaaGreatDoor
open Go.Vc Go.Lv Go.Ty Go.Tk Go.Tm
theorem Ap3 (k:Nat):IntKind.i64.wrap (wr k+1)=wr (k+1):=by
 unfold wr IntKind.wrap
 simp only [IntKind.bits,IntKind.signed]
 simp
 omega
theorem Aks:wr 1=1:=by decide
theorem Ap4:wr 0=0:=by decide
section
variable {toks:List Au}
abbrev Ks (toks:List Au) (p:Nat) (ks:List Key):Prop:=Us (toks.map tT) p ks
abbrev Kt (toks:List Au) (p:Nat):Key:=kyT (T (toks.map tT) p)
theorem Ap5 (p:Nat):Cc toks (p:Int)=gT (T (toks.map tT) p):=by
 have:=Atk (toks.map tT) p
 rwa [Ao5]at this
theorem Hv {p:Nat} {v:Str} (h:Kt toks p=kyV v):(Cc toks (p:Int)).kind=kdS v/\(Cc toks (p:Int)).text=v/\(Cc toks (p:Int)).n=nvS v:=by
 rw [Ap5]
 unfold Kt kyT kyV at h
 simp only [Prod.mk.injEq]at h
 exact h
theorem Bn {p:Nat} {v:Str} (h:Kt toks p=kyV v) (hk:kdS v=3\/kdS v=4):isF toks (p:Int) v=true:=by
 obtain⟨h1,h2,_⟩:=Hv h
 unfold isF
 rw [h1,h2]
 rcases hk with e|e<;>rw [e]<;>simp
theorem Jj {p:Nat} {v s:Str} (h:Kt toks p=kyV v) (hs:v≠s):isF toks (p:Int) s=false:=by
 obtain⟨h1,h2,_⟩:=Hv h
 unfold isF
 rw [h2]
 simp [hs]
theorem Kh {p:Nat} {v:Str} (h:Kt toks p=kyV v) (hv:K3 v=0):Cz (toks.map tT) p=0:=by
 rw [Alx (k:=kdS v) (n:=nvS v) (v:=v) h,hv]
 split<;>rfl
abbrev Er:=Int×Str×Int×Int
def St (ok:Prop) (L:List Er) (k p:Nat) (c:Cur):Prop:=(ok->c.e_=0/\c.l.map erG=L/\c.n=wr k/\c.at_=(p:Int))/\(¬ok->c.e_=5)
variable {ok ok':Prop} {L L':List Er} {k k' p p':Nat} {c d:Cur} {s:Str}
theorem St.iff (h:St ok L k p c) (e:ok↔ok'):St ok' L k p c:=by rwa [←propext e]
theorem St.eq (h:St ok L k p c) (e:L=L') (e':p=p'):St ok L' k p' c:=e▸e'▸h
theorem Cp (p:Nat):St True [] 0 p (A7 (p:Int)):=⟨fun _=>⟨rfl,rfl,Ap4.symm,rfl⟩,fun h=>absurd trivial h⟩
theorem Bs (h:St ok L k p c) (hs:isF toks (p:Int) s=true):St ok L k (p+1) (Bb toks s c):=by
 refine⟨fun o=> ?_,fun o=> ?_⟩
 ·obtain⟨h1,h2,h3,h4⟩:=h.1 o
  unfold Bb
  rw [if_pos h1,h4,if_pos hs]
  exact⟨rfl,h2,h3,by dsimp only;omega⟩
 ·have:=h.2 o
  unfold Bb
  rw [if_neg (by rw [this];decide)];exact this
theorem J8 (h:St ok L k p c) (hs:(Cc toks (p:Int)).kind=1):St ok L k (p+1) (Eg toks c):=by
 refine⟨fun o=> ?_,fun o=> ?_⟩
 ·obtain⟨h1,h2,h3,h4⟩:=h.1 o
  unfold Eg
  rw [if_pos h1,h4,if_pos hs]
  exact⟨rfl,h2,h3,by dsimp only;omega⟩
 ·have:=h.2 o
  unfold Eg
  rw [if_neg (by rw [this];decide)];exact this
theorem Ho (h:St ok L k p c) (hs:(Cc toks (p:Int)).kind=1) (o:ok):Be toks c=(Cc toks (p:Int)).text:=by
 obtain⟨h1,h2,h3,h4⟩:=h.1 o
 unfold Be
 rw [if_pos h1,h4,if_pos hs]
theorem O2 (h:St ok L k p c) (hd:ok->St ok' L' k' p' d):St (ok/\ok') (L++L') (k+1) p' (Ga c d):=by
 refine⟨fun o=> ?_,fun o=> ?_⟩
 ·obtain⟨h1,h2,h3,h4⟩:=h.1 o.1
  obtain⟨d1,d2,d3,d4⟩:=(hd o.1).1 o.2
  unfold Ga
  rw [if_pos h1]
  refine⟨d1,?_,?_,d4⟩
  ·dsimp only;rw [List.map_append,h2,d2]
  ·dsimp only;rw [h3,Ap3]
 ·by_cases o1:ok
  ·obtain⟨h1,h2,h3,h4⟩:=h.1 o1
   unfold Ga
   rw [if_pos h1]
   exact(hd o1).2 fun o2=>o ⟨o1,o2⟩
  ·have:=h.2 o1
   unfold Ga
   rw [if_neg (by rw [this];decide)];exact this
theorem Ht {r:R} (h:St ok L k p c) (hr:TmP r) (hs:Ks toks p (kyK r.tm)) (hm:Cz (toks.map tT) (p+ln r.tm)=0):St (ok/\r.nd<=24) (L++r.fl.map erG) (k+1) (p+ln r.tm) (Es TM toks c):=by
 unfold Es
 have hz:=Ap2 hr hs hm
 refine O2 (k':=0) h fun o=> ?_
 obtain⟨_,_,_,h4⟩:=h.1 o
 rw [h4]
 refine⟨fun o'=> ?_,fun o'=> ?_⟩
 ·obtain⟨Ld,e1,e2⟩:=hz.1 o'
  show(Hq (toks.map tT) (p:Int)).e=0/\((Hq (toks.map tT) (p:Int)).l.map gN).map erG=_/\(0:Int)=wr 0/\((Hq (toks.map tT) (p:Int)).at_:Int)=_
  rw [e2]
  refine⟨rfl,?_,Ap4.symm,rfl⟩
  rw [List.map_map,←e1];rfl
 ·exact hz.2 (by omega)
theorem C5 {x:Ai} {o:Int} {n:Int} (h:St ok L k p c) (hx:ok->x.op=o/\x.name=s/\x.n=n):St ok ((o,s,n,wr k)::L) 1 p (Dc c x):=by
 refine⟨fun oo=> ?_,fun oo=>h.2 oo⟩
 obtain⟨h1,h2,h3,h4⟩:=h.1 oo
 obtain⟨x1,x2,x3⟩:=hx oo
 refine⟨h1,?_,Aks.symm,h4⟩
 show erG ⟨x.op,x.name,x.n,c.n,x.at_⟩::c.l.map erG=_
 rw [h2]
 simp only [erG,x1,x2,x3,h3]
theorem Hz (h:St ok L k p c) (o:ok):Ew toks s c=isF toks (p:Int) s:=by
 obtain⟨h1,h2,h3,h4⟩:=h.1 o
 unfold Ew
 rw [h1,h4];simp
theorem Mu (h:St ok L k p c) (o:¬ok):Ew toks s c=false:=by
 have:=h.2 o
 unfold Ew
 rw [this];rfl
theorem Ap6 {a b:Cur} {k':Nat} (h:St ok L k p c) (hs:isF toks (p:Int) s=true) (ha:St ok' L' k' p' a) (hb:¬ok->b.e_=5) (hok:ok'->ok):St ok' L' k' p' (if Ew toks s c then a else b):=by
 by_cases o:ok
 ·rw [Hz h o,if_pos hs];exact ha
 ·rw [Mu h o,if_neg (by simp)]
  exact⟨fun o'=>absurd (hok o') o,fun _=>hb o⟩
theorem Aly {a:Cur} (h:St ok L k p c) (hs:isF toks (p:Int) s=false):St ok L k p (if Ew toks s c then a else c):=by
 by_cases o:ok
 ·rw [Hz h o,if_neg (by rw [hs];simp)];exact h
 ·rw [Mu h o,if_neg (by simp)];exact h
theorem Asp (h:c.e_=5):(Bb toks s c).e_=5:=by unfold Bb;rw [if_neg (by rw [h];decide)];exact h
theorem Ap7 (h:c.e_=5):(Eg toks c).e_=5:=by unfold Eg;rw [if_neg (by rw [h];decide)];exact h
theorem Ra {α:Type} {g:Cur->Bool} {b:Cur->Cur} (E:α->List Er) (N:α->Nat) (O:α->Prop) (Hs:Nat->List α->Prop)
 (hg0:∀ok L k p c,St ok L k p c->Hs p []->g c=false) (hgb:∀c:Cur,c.e_=5->g c=false)
 (Bbd:∀ok L k p c a l,St ok L k p c->Hs p (a::l)->(ok->g c=true)/\St (ok/\O a) (L++E a) (k+1) (p+N a) (b c)/\Hs (p+N a) l):
 ∀(l:List α) (f:Nat) (ok:Prop) (L:List Er) (k p:Nat) (c:Cur),l.length<f->St ok L k p c->Hs p l->
  ∃p',p'=p+(l.map N).foldr (·+·) 0/\Hs p' []/\St (ok/\∀a∈l,O a) (L++l.flatMap E) (k+l.length) p' (Fw g b f c)
 |[],f,ok,L,k,p,c,hf,h,hs=>by
  refine⟨p,rfl,hs,?_⟩
  have e:Fw g b f c=c:=by
   cases f with
   |zero=>omega
   |succ f=>unfold Fw;rw [hg0 ok L k p c h hs,if_neg (by simp)]
  rw [e]
  exact(h.eq (by simp) rfl).iff (by simp)
 |a::l,0,ok,L,k,p,c,hf,h,hs=>by omega
 |a::l,f+1,ok,L,k,p,c,hf,h,hs=>by
  obtain⟨h1,h2,h3⟩:=Bbd ok L k p c a l h hs
  obtain⟨p',e1,e2,e3⟩:=Ra E N O Hs hg0 hgb Bbd l f _ _ _ _ _ (by simp at hf;omega) h2 h3
  refine⟨p',by rw [e1];simp only [List.map_cons,List.foldr_cons];omega,e2,?_⟩
  by_cases o:ok
  ·have:Fw g b (f+1) c=Fw g b f (b c):=by
    show(if g c then Fw g b f (b c)else c)=_
    rw [h1 o,if_pos rfl]
   rw [this]
   rw [show k+(a::l).length=k+1+l.length by simp;omega]
   have e3:=e3.eq (L':=L++(a::l).flatMap E) (by simp) rfl
   exact e3.iff (by simp only [List.mem_cons,forall_eq_or_imp];exact and_assoc)
  ·have hb:=h.2 o
   have:Fw g b (f+1) c=c:=by
    show(if g c then Fw g b f (b c)else c)=_
    rw [hgb c hb,if_neg (by simp)]
   rw [this]
   exact⟨fun o'=>absurd o'.1 o,fun _=>hb⟩
end
end Go.Proofs.YtcakelelfklhdaaGreatDoor
namespace Go.Proofs.YtcakelelfklhdaaGreatDoor
open Go.Vc Go.Lv Go.Ty Go.Tk Go.Tm
theorem Ap8 {l:List Nat} {n:Nat} :l.foldr max 0<=n↔∀x∈l,x<=n:=by
 induction l with
 |nil=>simp
 |cons a l ih=>
  rw [List.foldr_cons,Nat.max_le,ih]
  simp
theorem V4 {x:Ai} {ks:List R} (h:18<=x.op) {n:Nat} :(Ar x ks).nd<=n↔∀k∈ks,k.nd<=n:=by
 show ndN x ks<=n↔_
 unfold ndN
 rw [if_neg (by omega),if_neg (by omega),Ap8]
 simp
theorem Ta {x:Ai} {ks:List R} (h:x.op≠32) {n:Nat} :(Ar x ks).nb<=n↔∀k∈ks,k.nb<=n:=by
 show nbN x ks<=n↔_
 unfold nbN
 rw [if_neg h,Nat.add_zero,Ap8]
 simp
theorem Ai0 {x:Ai} {ks:List R} (h:x.op=32) {n:Nat} :(Ar x ks).nb<=n+1↔∀k∈ks,k.nb<=n:=by
 show nbN x ks<=n+1↔_
 unfold nbN
 rw [if_pos h,Nat.add_le_add_iff_right,Ap8]
 simp
theorem Akt (x:Ai) (ks:List R):(Ar x ks).fl.map erG=erG x::(ks.flatMap R.fl).map erG:=rfl
theorem Atn (v:Str) (l:List Ck):kyK (.tk v::l)=kyV v::kyK l:=rfl
theorem Dw (d:Nat) (l:List Ck):kyK (line d l)=kyK l:=by
 unfold line
 rw [Bf,Bf]
 have:kyK (List.replicate d (Ck.sp 9))=[]:=by
  induction d with
  |zero=>rfl
  |succ d ih=>rw [List.replicate_succ];exact ih
 rw [this]
 show kyK l++[]=_
 rw [List.append_nil]
theorem H6 (d:Nat) (f:List Ck) (r:R):kyK (Bi d f r)=kyK f++(kyV sLB::(kyK (r.st (d+1))++[kyV sRB])):=by
 unfold Bi
 rw [Bf,Dw,Bf,Bf,Dw,List.append_assoc]
 rfl
theorem Mv (d:Nat) (r:R) (l:List R):kyK (Br d (r::l))=kyK (r.st d)++kyK (Br d l):=Bf _ _
structure Rt (r:R):Prop where
 nb:r.nb=0
 beg:∃v l,kyK r.tm=kyV v::l/\kdS v=1
 nx:ln r.tm=1\/∃a l,kyK r.tm=a::kyV sLS::l
 par:∀ {toks:List Au} {p:Nat},Ks toks p (kyK r.tm)->isF toks ((p+ln r.tm:Nat):Int) sLS=false->St (r.nd<=24) (r.fl.map erG) 1 (p+ln r.tm) (Abu TM toks p)
structure Ap9 (r:R):Prop where
 nb:r.nb=0
 nd:r.nd=0
 ex:∃s,r.tm=[.tk s]/\Tk.Be s=true/\r.fl.map erG=[(39,s,0,0)]
structure StP (r:R):Prop where
 beg:∀d,∃v l,kyK (r.st d)=kyV v::l/\v≠sRB/\v≠Dp
 par:∀ {toks:List Au} {p:Nat} (k d:Nat),Ks toks p (kyK (r.st d))->isF toks ((p+ln (r.st d):Nat):Int) Dp=false->St (r.nd<=24/\r.nb<=k) (r.fl.map erG) 1 (p+ln (r.st d)) (Mr TM toks (E0 TM toks k) p)
def Pm (r:R):Prop:=∀ {toks:List Au} {p:Nat} (k d:Nat),Ks toks p (kyV sLB::(kyK (r.st d)++[kyV sRB]))->St (r.nd<=24/\r.nb<=k) (r.fl.map erG) 1 (p+(ln (r.st d)+2)) (E0 TM toks k p)
structure ClP (r:R):Prop where
 beg:∀d,∃v l,kyK (r.st d)=kyV v::l/\v≠sRB
 par:∀ {toks:List Au} {p:Nat} (k d:Nat),Ks toks p (kyK (r.st d))->St (r.nd<=24/\r.nb<=k) (r.fl.map erG) 1 (p+ln (r.st d)) (E7 TM toks (E0 TM toks k) p)
structure Afq (r:R):Prop where
 beg:∃v l,kyK (r.st 0)=kyV v::l/\kdS v=3
 par:∀ {toks:List Au} {p:Nat},Ks toks p (kyK (r.st 0))->St (r.nd<=24/\r.nb<=24) (r.fl.map erG) 1 (p+ln (r.st 0)) (O8 TM toks p)
structure PQ (c:UInt8) (r:R):Prop where
 tm:c=69->TmP r/\r.nb=0
 ref:c=82->Rt r
 prm:c=80->Ap9 r
 st:c=83->StP r
 blk:c=66->Pm r
 cl:c=67->ClP r
 dcl:c=68->Afq r
section
variable {toks:List Au} {ok:Prop} {L:List Er} {j p:Nat} {c:Cur}
theorem Ws {r:R} (k d:Nat) (h:St ok L j p c) (hr:Pm r) (hs:Ks toks p (kyV sLB::(kyK (r.st d)++[kyV sRB]))):St (ok/\(r.nd<=24/\r.nb<=k)) (L++r.fl.map erG) (j+1) (p+(ln (r.st d)+2)) (inC (E0 TM toks k) c):=by
 unfold inC
 refine O2 (k':=1) h fun o=> ?_
 rw [(h.1 o).2.2.2]
 exact hr k d hs
theorem Gz {x:Ai} {ks:List R} {n q:Nat} (hop:18<=x.op/\x.op≠32) (h:St ok ((x.op,x.name,x.n,wr j)::L) 1 p c) (hj:wr j=x.kids) (hL:L=(ks.flatMap R.fl).map erG) (hok:ok↔∀k∈ks,k.nd<=24/\k.nb<=n) (hp:p=q):
 St ((Ar x ks).nd<=24/\(Ar x ks).nb<=n) ((Ar x ks).fl.map erG) 1 q c:=by
 refine(h.eq (by rw [Akt,hL,hj];rfl) hp).iff ?_
 rw [V4 hop.1,Ta hop.2,hok]
 exact⟨fun h=>⟨fun k hk=>(h k hk).1,fun k hk=>(h k hk).2⟩,fun h k hk=>⟨h.1 k hk,h.2 k hk⟩⟩
theorem Ut {ts:List Tok} {p:Nat} {ks:List Key} (h:Us ts p ks):ks.length<=ts.length:=by
 obtain⟨r,h⟩:=h
 have:=congrArg List.length h
 simp at this;omega
theorem Afr {α:Type} (N:α->Nat) (f:α->List Key) (hN:∀a,(f a).length=N a):∀l:List α,(l.flatMap f).length=(l.map N).foldr (·+·) 0
 |[]=>rfl
 |a::l=>by rw [List.flatMap_cons,List.length_append,hN,Afr N f hN l];rfl
theorem Acu (d:Nat):∀l:List R,kyK (Br d l)=l.flatMap fun r=>kyK (r.st d)
 |[]=>rfl
 |r::l=>by rw [Mv,Acu d l];rfl
theorem Alz (d:Nat) (l:List R):ln (Br d l)=(l.map fun r=>ln (r.st d)).foldr (·+·) 0:=by
 unfold ln
 rw [Acu]
 exact Afr (fun r=>(kyK (r.st d)).length) _ (fun _=>rfl) l
theorem Mw {d:Nat} :∀ {l:List R},(∀r∈l,1<=ln (r.st d))->l.length<=ln (Br d l)
 |[],_=>Nat.zero_le _
 |r::l,h=>by
  have:=h r (by simp)
  have ih:=Mw (d:=d) (l:=l) fun r hr=>h r (by simp [hr])
  unfold ln at*
  rw [Mv,List.length_append,List.length_cons];omega
theorem Aku {l:List Ck} {v:Str} {m:List Key} (h:kyK l=kyV v::m):1<=ln l:=by unfold ln;rw [h];simp
theorem Asq {ks:List R} (hk:∀r∈ks,StP r) (k d:Nat) (h:St ok L j p c) (hs:Ks toks p (kyK (Br d ks)++[kyV sRB])):
 Kt toks (p+ln (Br d ks))=kyV sRB/\St (ok/\∀r∈ks,r.nd<=24/\r.nb<=k) (L++(ks.flatMap R.fl).map erG) (j+ks.length) (p+ln (Br d ks)) (Fw (fun c=>decide (c.e_=0)&& !isF toks c.at_ sRB) (fun c=>Ga c (Mr TM toks (E0 TM toks k) c.at_)) (fuel toks) c):=by
 have hlen:ks.length<fuel toks:=by
  have h1:=Ut hs
  have h2:=Mw (d:=d) (l:=ks) fun r hr=>by
   obtain⟨v,l,e,_⟩:=(hk r hr).beg d
   exact Aku e
  unfold ln at h2
  rw [List.length_append,List.length_map]at h1
  unfold fuel;omega
 obtain⟨p',e1,e2,e3⟩:=Ra (g:=fun c=>decide (c.e_=0)&& !isF toks c.at_ sRB) (b:=fun c=>Ga c (Mr TM toks (E0 TM toks k) c.at_))
  (fun r:R=>r.fl.map erG) (fun r=>ln (r.st d)) (fun r=>r.nd<=24/\r.nb<=k) (fun p l=>(∀r∈l,StP r)/\Ks toks p (kyK (Br d l)++[kyV sRB]))
  (fun ok L j p c h hs=>by
   by_cases o:ok
   ·obtain⟨h1,_,_,h4⟩:=h.1 o
    have:isF toks (p:Int) sRB=true:=Bn (Al hs.2).1 (.inr (by decide))
    rw [h4,this];simp
   ·rw [h.2 o];simp)
  (fun c hc=>by simp [hc])
  (fun ok L j p c r l h hs=>by
   obtain⟨hq,hs⟩:=hs
   rw [Mv,List.append_assoc]at hs
   obtain⟨v,m,e,hv,_⟩:=(hq r (by simp)).beg d
   obtain⟨s1,s2⟩:=C2 hs
   have hg:isF toks (p:Int) sRB=false:=by
    rw [e]at s1
    exact Jj (Al s1).1 hv
   have hn:isF toks ((p+ln (r.st d):Nat):Int) Dp=false:=by
    cases l with
    |nil=>exact Jj (Al s2).1 (by decide)
    |cons r' l'=>
     obtain⟨v',m',e',_,hv'⟩:=(hq r' (by simp)).beg d
     rw [Mv,e']at s2
     exact Jj (Al s2).1 hv'
   refine⟨fun o=> ?_,?_,fun r hr=>hq r (by simp [hr]),s2⟩
   ·obtain⟨h1,_,_,h4⟩:=h.1 o
    rw [h1,h4,hg];rfl
   ·refine O2 (k':=1) h fun o=> ?_
    rw [(h.1 o).2.2.2]
    exact(hq r (by simp)).par k d s1 hn)
  ks (fuel toks) ok L j p c hlen h ⟨hk,hs⟩
 rw [←Alz]at e1
 subst e1
 refine⟨(Al e2.2).1,e3.eq ?_ rfl⟩
 rw [List.map_flatMap]
theorem Aqa {k:Nat} {a:Int} {ks:List R} (hlen:ks.length=k) (hk:∀r∈ks,StP r):Pm (Ar ⟨32,[],0,wr k,a⟩ ks):=by
 intro toks p n d hs
 obtain⟨t0,hs⟩:=Al hs
 have hs:Ks toks (p+1) (kyK (Br d ks)++[kyV sRB]):=hs
 cases n with
 |zero=>
  refine⟨fun o=> ?_,fun _=> ?_⟩
  ·have:(Ar ⟨32,[],0,wr k,a⟩ ks).nb=(ks.map R.nb).foldr max 0+1:=rfl
   omega
  ·unfold E0
   rw [if_pos (Bn t0 (.inr (by decide)))]
 |succ n=>
  unfold E0 Vv
  have h1:=Bs (Cp p) (Bn t0 (.inr (by decide)))
  obtain⟨t1,h2⟩:=Asq hk n d h1 hs
  have h3:=Bs h2 (Bn t1 (.inr (by decide)))
  refine((C5 (o:=32) (s:=[]) (n:=0) h3 fun _=>⟨rfl,rfl,rfl⟩).eq ?_ ?_).iff ?_
  ·rw [Akt,Nat.zero_add,hlen,List.nil_append];rfl
  ·show p+1+ln (Br d ks)+1=p+(ln (Br d ks)+2);omega
  ·rw [V4 (show(18:Int)<=32 by decide),Ai0 rfl]
   exact⟨fun h=>⟨fun k hk=>(h.2 k hk).1,fun k hk=>(h.2 k hk).2⟩,fun h=>⟨trivial,fun k hk=>⟨h.1 k hk,h.2 k hk⟩⟩⟩
end
end Go.Proofs.YtcakelelfklhdaaGreatDoor
namespace Go.Proofs.YtcakelelfklhdaaGreatDoor
open Go.Vc Go.Lv Go.Ty Go.Tk Go.Tm
section
variable {toks:List Au} {ok:Prop} {L:List Er} {j p:Nat} {c:Cur}
theorem Akv {v s:Str} (h:Kt toks p=kyV v) (hk:kdS v=1):isF toks (p:Int) s=false:=by
 obtain⟨h1,_,_⟩:=Hv h
 unfold isF
 rw [h1,hk];rfl
theorem Dr {v:Str} (h:Kt toks p=kyV v) (hn:Tk.Be v=true):(Cc toks (p:Int)).kind=1:=(Hv h).1.trans (E8 hn).2
theorem Aqb:((p:Int)+1)=((p+1:Nat):Int):=by omega
theorem Au1 {s:Str} {a:Int} (hn:Tk.Be s=true):Rt (Ar ⟨33,s,0,0,a⟩ []) where
 nb:=rfl
 beg:=⟨s,[],rfl,(E8 hn).2⟩
 nx:= .inl rfl
 par:=fun {toks p} hs hF=>by
  have hs:Ks toks p [kyV s]:=hs
  have t0:=(Al hs).1
  have h1:=J8 (Cp p) (Dr t0 hn)
  unfold Abu Wm
  have h2:=Aly (a:=Bb toks sRS (Es TM toks (Bb toks sLS (Eg toks (A7 p))))) h1 hF
  refine((C5 (o:=33) (s:=s) (n:=0) h2 fun _=>⟨rfl,(Ho (Cp p) (Dr t0 hn) trivial).trans (Hv t0).2.1,rfl⟩).eq rfl rfl).iff ?_
  exact⟨fun _=>Nat.zero_le _,fun _=>trivial⟩
theorem Au2 {s:Str} {a:Int} (hn:Tk.Be s=true) {k:R} (hk:TmP k) (hb:k.nb=0):Rt (Ar ⟨33,s,0,1,a⟩ [k]) where
 nb:=by
  show max k.nb 0+0=0
  rw [hb];rfl
 beg:=⟨s,_,rfl,(E8 hn).2⟩
 nx:= .inr ⟨_,_,rfl⟩
 par:=fun {toks p} hs _=>by
  have e:kyK (Ar ⟨33,s,0,1,a⟩ [k]).tm=kyV s::kyV sLS::(kyK k.tm++[kyV sRS]):=by
   show kyK (.tk s::.tk sLS::(k.tm++[.tk sRS]))=_
   rw [Atn,Atn,Bf];rfl
  have hl:ln (Ar ⟨33,s,0,1,a⟩ [k]).tm=ln k.tm+3:=by unfold ln;rw [e];simp
  rw [hl]
  rw [e]at hs
  obtain⟨t0,hs⟩:=Al hs
  obtain⟨t1,hs⟩:=Al hs
  obtain⟨hT,hs⟩:=C2 hs
  have t2:Kt toks (p+1+1+ln k.tm)=kyV sRS:=(Al hs).1
  have h1:=J8 (Cp p) (Dr t0 hn)
  have h2:=Bs h1 (Bn t1 (.inr (by decide)))
  have h3:=Ht h2 hk hT (Kh t2 (by decide))
  have h4:=Bs h3 (Bn t2 (.inr (by decide)))
  unfold Abu Wm
  have h5:=Ap6 (b:=Eg toks (A7 p)) h1 (Bn t1 (.inr (by decide))) h4 (fun o=>absurd trivial o) (fun o=>o.1)
  refine((C5 (o:=33) (s:=s) (n:=0) h5 fun _=>⟨rfl,(Ho (Cp p) (Dr t0 hn) trivial).trans (Hv t0).2.1,rfl⟩).eq ?_ ?_).iff ?_
  ·rw [Akt];show _::([]++k.fl.map erG)=_::(k.fl++[]).map erG;rw [List.append_nil];rfl
  ·omega
  ·rw [V4 (show(18:Int)<=33 by decide)];simp
theorem Aqc {r:R} (hr:Rt r) {v:Str} (hv:v≠sEq) (hs:Ks toks p (kyK r.tm++[kyV v])):isF toks ((p:Int)+1) sEq=false:=by
 rw [Aqb]
 rcases hr.nx with h|⟨a,l,h⟩
 ·obtain⟨_,h2⟩:=C2 hs
  unfold ln at h
  rw [h]at h2
  exact Jj (Al h2).1 hv
 ·rw [h]at hs
  exact Jj (Al (Al hs).2).1 (by decide)
structure Acv (ok:Prop) (L:List Er) (j p:Nat) (op:Int) (s:Str) (x:Comm):Prop where
 st:St ok L j p x.c
 op:ok->x.op=op/\x.name=s
theorem Acw {r t:R} (a b:Int) (h:St ok L j p c) (hr:Rt r) (ht:TmP t) (hs:Ks toks p (kyK r.tm++(kyV Db::kyK t.tm))) (hm:Cz (toks.map tT) (p+ln r.tm+1+ln t.tm)=0):
 Acv ((ok/\r.nd<=24)/\t.nd<=24) (L++r.fl.map erG++t.fl.map erG) (j+1+1) (p+ln r.tm+1+ln t.tm) a [] (H5 TM toks a b c):=by
 obtain⟨hR,hs⟩:=C2 hs
 obtain⟨t1,hT⟩:=Al hs
 have t1:Kt toks (p+ln r.tm)=kyV Db:=t1
 have h1:St (ok/\r.nd<=24) (L++r.fl.map erG) (j+1) (p+ln r.tm) (Ga c (Abu TM toks c.at_)):=O2 (k':=1) h fun o=>by
  rw [(h.1 o).2.2.2]
  exact hr.par hR (Jj t1 (by decide))
 have h2:=Bs h1 (Bn t1 (.inr (by decide)))
 have h3:=Ht h2 ht hT hm
 unfold H5
 by_cases o:ok
 ·rw [if_pos (h.1 o).1]
  unfold Sw
  by_cases o2:ok/\r.nd<=24
  ·rw [Hz h1 o2,if_pos (Bn t1 (.inr (by decide)))]
   exact⟨h3,fun _=>⟨rfl,rfl⟩⟩
  ·rw [Mu h1 o2,if_neg (by simp)]
   exact⟨⟨fun o3=>absurd o3.1 o2,fun _=>Ap7 (Asp (h1.2 o2))⟩,fun o3=>absurd o3.1 o2⟩
 ·rw [if_neg (by rw [h.2 o];decide)]
  exact⟨⟨fun o3=>absurd o3.1.1 o,fun _=>h.2 o⟩,fun o3=>absurd o3.1.1 o⟩
theorem Acx {r:R} {s:Str} (a b:Int) (h:St ok L j p c) (hr:Rt r) (hn:Tk.Be s=true) (hs:Ks toks p (kyK r.tm++(kyV G8::[kyV s]))):
 Acv (ok/\r.nd<=24) (L++r.fl.map erG) (j+1) (p+ln r.tm+1+1) b s (H5 TM toks a b c):=by
 obtain⟨hR,hs⟩:=C2 hs
 obtain⟨t1,hT⟩:=Al hs
 have t1:Kt toks (p+ln r.tm)=kyV G8:=t1
 have t2:=(Al hT).1
 have h1:St (ok/\r.nd<=24) (L++r.fl.map erG) (j+1) (p+ln r.tm) (Ga c (Abu TM toks c.at_)):=O2 (k':=1) h fun o=>by
  rw [(h.1 o).2.2.2]
  exact hr.par hR (Jj t1 (by decide))
 have h2:=Bs h1 (Bn t1 (.inr (by decide)))
 have h3:=J8 h2 (Dr t2 hn)
 unfold H5
 by_cases o:ok
 ·rw [if_pos (h.1 o).1]
  unfold Sw
  have e:Ew toks Db (Ga c (Abu TM toks c.at_))=false:=by
   by_cases o2:ok/\r.nd<=24
   ·rw [Hz h1 o2,Jj t1 (by decide)]
   ·exact Mu h1 o2
  rw [e,if_neg (by simp)]
  exact⟨h3,fun o2=>⟨rfl,(Ho h2 (Dr t2 hn) o2).trans (Hv t2).2.1⟩⟩
 ·rw [if_neg (by rw [h.2 o];decide)]
  exact⟨⟨fun o3=>absurd o3.1 o,fun _=>h.2 o⟩,fun o3=>absurd o3.1 o⟩
structure Afs (l:List Ck):Prop where
 ex:∃v m,kyK l=kyV v::m/\(kdS v=1\/kdS v=2\/v=sLP\/v=[45]\/v=[33])
theorem Ato {r:R} (h:Afs r.tm) {s:Str} (hs:Ks toks p (kyK r.tm)) (h1:s≠sLP/\s≠[45]/\s≠[33]):isF toks (p:Int) s=false:=by
 obtain⟨v,m,e,hv⟩:=h.ex
 rw [e]at hs
 have t0:=(Al hs).1
 rcases hv with h|h|rfl|rfl|rfl
 ·exact Akv t0 h
 ·obtain⟨k1,_,_⟩:=Hv t0
  unfold isF
  rw [k1,h];rfl
 ·exact Jj t0 fun e=>h1.1 e.symm
 ·exact Jj t0 fun e=>h1.2.1 e.symm
 ·exact Jj t0 fun e=>h1.2.2 e.symm
theorem Aqd {r:R} (h:Afs r.tm) (n:Nat):Afs (Bw r n):=by
 unfold Bw
 split
 ·exact⟨sLP,_,rfl,.inr (.inr (.inl rfl))⟩
 ·exact h
theorem Asr {a:List Ck} (b:List Ck) (h:Afs a):Afs (a++b):=by
 obtain⟨v,m,e,hv⟩:=h.ex
 exact⟨v,m++kyK b,by rw [Bf,e];rfl,hv⟩
def Au3 (c:UInt8) (r:R):Prop:=c=69->Afs r.tm
theorem Anp (c:UInt8) (x:Ai) (ds:List UInt8) (ks:List R) (h:OkN c x ds) (hk:F2 Au3 ds ks):Au3 c (Ar x ks):=by
 intro hc
 cases h with
 |num n a h0 h1=>exact⟨Lf n,[],rfl,.inr (.inl (V1 h0 h1).kd)⟩
 |name s a hn=>exact⟨s,[],rfl,.inl (E8 hn).2⟩
 |un op a ho=>rcases ho with rfl|rfl
              ·exact⟨[45],_,rfl,.inr (.inr (.inr (.inl rfl)))⟩
              ·exact⟨[33],_,rfl,.inr (.inr (.inr (.inr rfl)))⟩
 |bin op a h5 h17=>
  obtain⟨k,k',rfl,hq,hq'⟩:=hk.two
  have htm:(Ar ⟨op,[],0,2,a⟩ [k,k']).tm=Bw k (Cf op)++(sps::.tk (sgO op)::sps::Bw k' (B6 op+1)):=by
   show tmN ⟨op,[],0,2,a⟩ [k,k']=_
   unfold tmN
   dsimp only
   rw [if_neg (by omega),if_neg (by omega),if_neg (by omega),if_neg (by omega)]
   rfl
  rw [htm]
  exact Asr _ (Aqd (hq rfl) _)
 |_=>exact absurd hc (by decide)
theorem Jk {blk:Int->Cur} (h:(Cc toks (p:Int)).kind=3):Mr TM toks blk p=Bj TM toks blk p:=by
 unfold Mr
 rw [if_neg (by rw [h];decide),if_pos h]
theorem Mx {v:Str} (h:Kt toks p=kyV v) (hk:kdS v=3):(Cc toks (p:Int)).kind=3/\(Cc toks (p:Int)).text=v:=⟨(Hv h).1.trans hk,(Hv h).2.1⟩
theorem Uu {s:Str} (hn:Tk.Be s=true):s≠sRB/\s≠Dp/\s≠sEq:=by
 refine⟨?_,?_,?_⟩<;>(rintro rfl;revert hn;decide)
theorem Au4 {s:Str} {a:Int} {t:R} (hn:Tk.Be s=true) (ht:TmP t) (hb:t.nb=0):StP (Ar ⟨18,s,0,1,a⟩ [t]):=by
 have e:∀d,kyK ((Ar ⟨18,s,0,1,a⟩ [t]).st d)=kyV Pl::kyV s::kyV sEq::(kyK t.tm++[kyV Av]):=fun d=>by
  show kyK (line d (.tk Pl::sps::.tk s::sps::.tk sEq::sps::(t.tm++[.tk Av])))=_
  rw [Dw];show _::_::_::kyK (t.tm++[.tk Av])=_;rw [Bf];rfl
 refine⟨fun d=>⟨Pl,_,e d,by decide,by decide⟩,fun {toks p} k d hs _=> ?_⟩
 have hl:ln ((Ar ⟨18,s,0,1,a⟩ [t]).st d)=ln t.tm+4:=by unfold ln;rw [e];simp
 rw [hl];rw [e]at hs
 obtain⟨t0,hs⟩:=Al hs
 obtain⟨t1,hs⟩:=Al hs
 obtain⟨t2,hs⟩:=Al hs
 obtain⟨hT,hs⟩:=C2 hs
 have t3:Kt toks (p+1+1+1+ln t.tm)=kyV Av:=(Al hs).1
 obtain⟨w1,w2⟩:=Mx t0 (by decide)
 have ew:Bj TM toks (E0 TM toks k) p=Dc (Bb toks Av (Es TM toks (Bb toks sEq (Eg toks (Bb toks Pl (A7 p)))))) (nd toks 18 (Be toks (Bb toks Pl (A7 p))) 0 p):=by unfold Bj;rw [w2];rfl
 rw [Jk w1,ew]
 have h1:=Bs (Cp p) (Bn t0 (.inl (by decide)))
 have h2:=J8 h1 (Dr t1 hn)
 have h3:=Bs h2 (Bn t2 (.inr (by decide)))
 have h4:=Ht h3 ht hT (Kh t3 (by decide))
 have h5:=Bs h4 (Bn t3 (.inr (by decide)))
 have h6:=C5 (o:=18) (s:=s) (n:=0) (x:=nd toks 18 (Be toks (Bb toks Pl (A7 p))) 0 p) h5 fun _=>⟨rfl,(Ho h1 (Dr t1 hn) trivial).trans (Hv t1).2.1,rfl⟩
 exact Gz (x:=⟨18,s,0,1,a⟩) (ks:=[t]) (show(18:Int)<=18/\(18:Int)≠32 by decide) h6 Aks (by simp) (by simp [hb]) (by omega)
theorem Au5 {s:Str} {a:Int} {t:R} (hn:Tk.Be s=true) (ht:TmP t) (hbg:Afs t.tm) (hb:t.nb=0):StP (Ar ⟨19,s,0,1,a⟩ [t]):=by
 have e:∀d,kyK ((Ar ⟨19,s,0,1,a⟩ [t]).st d)=kyV s::kyV sEq::(kyK t.tm++[kyV Av]):=fun d=>by
  show kyK (line d (.tk s::sps::.tk sEq::sps::(t.tm++[.tk Av])))=_
  rw [Dw];show _::_::kyK (t.tm++[.tk Av])=_;rw [Bf];rfl
 refine⟨fun d=>⟨s,_,e d,(Uu hn).1,(Uu hn).2.1⟩,fun {toks p} k d hs _=> ?_⟩
 have hl:ln ((Ar ⟨19,s,0,1,a⟩ [t]).st d)=ln t.tm+3:=by unfold ln;rw [e];simp
 rw [hl];rw [e]at hs
 obtain⟨t0,hs⟩:=Al hs
 obtain⟨t1,hs⟩:=Al hs
 obtain⟨hT,hs⟩:=C2 hs
 have t3:Kt toks (p+1+1+ln t.tm)=kyV Av:=(Al hs).1
 unfold Mr
 rw [if_pos (Dr t0 hn),Aqb,if_pos (Bn t1 (.inr (by decide)))]
 unfold Afb
 have h1:=J8 (Cp p) (Dr t0 hn)
 have h2:=Bs h1 (Bn t1 (.inr (by decide)))
 have h3:=Ht h2 ht hT (Kh t3 (by decide))
 have h4:=Bs h3 (Bn t3 (.inr (by decide)))
 have hr:isF toks ((p+1+1:Nat):Int) Gm=false:=by
  exact Ato hbg hT (by decide)
 rw [Hz h2 trivial,hr,if_neg (by simp)]
 have h6:=C5 (o:=19) (s:=s) (n:=0) (x:=nd toks 19 (Be toks (A7 p)) 0 p) h4 fun _=>⟨rfl,(Ho (Cp p) (Dr t0 hn) trivial).trans (Hv t0).2.1,rfl⟩
 exact Gz (x:=⟨19,s,0,1,a⟩) (ks:=[t]) (show(18:Int)<=19/\(19:Int)≠32 by decide) h6 Aks (by simp) (by simp [hb]) (by omega)
theorem Ass {s:Str} {a:Int} {t:R} (hn:Tk.Be s=true) (ht:TmP t) (hb:t.nb=0):StP (Ar ⟨20,s,0,1,a⟩ [t]):=by
 have e:∀d,kyK ((Ar ⟨20,s,0,1,a⟩ [t]).st d)=kyV s::kyV sEq::kyV Gm::kyV sLP::(kyK t.tm++[kyV sRP,kyV Av]):=fun d=>by
  show kyK (line d (.tk s::sps::.tk sEq::sps::.tk Gm::.tk sLP::(t.tm++[.tk sRP,.tk Av])))=_
  rw [Dw];show _::_::_::_::kyK (t.tm++[.tk sRP,.tk Av])=_;rw [Bf];rfl
 refine⟨fun d=>⟨s,_,e d,(Uu hn).1,(Uu hn).2.1⟩,fun {toks p} k d hs _=> ?_⟩
 have hl:ln ((Ar ⟨20,s,0,1,a⟩ [t]).st d)=ln t.tm+6:=by unfold ln;rw [e];simp
 rw [hl];rw [e]at hs
 obtain⟨t0,hs⟩:=Al hs
 obtain⟨t1,hs⟩:=Al hs
 obtain⟨t2,hs⟩:=Al hs
 obtain⟨t3,hs⟩:=Al hs
 obtain⟨hT,hs⟩:=C2 hs
 obtain⟨t4,hs⟩:=Al hs
 obtain⟨t5,_⟩:=Al hs
 have t4:Kt toks (p+1+1+1+1+ln t.tm)=kyV sRP:=t4
 have t5:Kt toks (p+1+1+1+1+ln t.tm+1)=kyV Av:=t5
 unfold Mr
 rw [if_pos (Dr t0 hn),Aqb,if_pos (Bn t1 (.inr (by decide)))]
 unfold Afb
 have h1:=J8 (Cp p) (Dr t0 hn)
 have h2:=Bs h1 (Bn t1 (.inr (by decide)))
 have h3:=Bs h2 (Bn t2 (.inl (by decide)))
 have h4:=Bs h3 (Bn t3 (.inr (by decide)))
 have h5:=Ht h4 ht hT (Kh t4 (by decide))
 have h6:=Bs h5 (Bn t4 (.inr (by decide)))
 have h7:=Bs h6 (Bn t5 (.inr (by decide)))
 rw [Hz h2 trivial,Bn t2 (.inl (by decide)),if_pos rfl]
 have h8:=C5 (o:=20) (s:=s) (n:=0) (x:=nd toks 20 (Be toks (A7 p)) 0 p) h7 fun _=>⟨rfl,(Ho (Cp p) (Dr t0 hn) trivial).trans (Hv t0).2.1,rfl⟩
 exact Gz (x:=⟨20,s,0,1,a⟩) (ks:=[t]) (show(18:Int)<=20/\(20:Int)≠32 by decide) h8 Aks (by simp) (by simp [hb]) (by omega)
end
end Go.Proofs.YtcakelelfklhdaaGreatDoor
namespace Go.Proofs.YtcakelelfklhdaaGreatDoor
open Go.Vc Go.Lv Go.Ty Go.Tk Go.Tm
section
variable {toks:List Au} {ok:Prop} {L:List Er} {j p:Nat} {c:Cur}
theorem Ast {a:Int} {r t:R} (hr:Rt r) (ht:TmP t) (hb:t.nb=0):StP (Ar ⟨21,[],0,2,a⟩ [r,t]):=by
 have e:∀d,kyK ((Ar ⟨21,[],0,2,a⟩ [r,t]).st d)=kyK r.tm++(kyV Db::(kyK t.tm++[kyV Av])):=fun d=>by
  show kyK (line d (r.tm++(sps::.tk Db::sps::(t.tm++[.tk Av]))))=_
  rw [Dw,Bf];show _++(_::kyK (t.tm++[.tk Av]))=_;rw [Bf];rfl
 obtain⟨v,m,ev,hv⟩:=hr.beg
 refine⟨fun d=>⟨v,m++(kyV Db::(kyK t.tm++[kyV Av])),by rw [e,ev];rfl,?_,?_⟩,fun {toks p} k d hs _=> ?_⟩
 ·rintro rfl;exact absurd hv (by decide)
 ·rintro rfl;exact absurd hv (by decide)
 have hl:ln ((Ar ⟨21,[],0,2,a⟩ [r,t]).st d)=ln r.tm+1+ln t.tm+1:=by unfold ln;rw [e];simp;omega
 rw [hl];rw [e]at hs
 have hs0:=hs
 have t0:Kt toks p=kyV v:=by rw [ev]at hs0;exact(Al hs0).1
 have hq:isF toks ((p:Int)+1) sEq=false:=Aqc hr (v:=Db) (by decide) (by
  have:=C2 (a:=kyK r.tm++[kyV Db]) (b:=kyK t.tm++[kyV Av]) (by rw [List.append_assoc];exact hs)
  exact this.1)
 have hs1:Ks toks p ((kyK r.tm++(kyV Db::kyK t.tm))++[kyV Av]):=by rw [List.append_assoc];exact hs
 obtain⟨hs2,hs3⟩:=C2 hs1
 have t3:Kt toks (p+ln r.tm+1+ln t.tm)=kyV Av:=by
  have:=(Al hs3).1
  rw [show p+(kyK r.tm++kyV Db::kyK t.tm).length=p+ln r.tm+1+ln t.tm by unfold ln;simp;omega]at this
  exact this
 have hc:=Acw (c:=A7 p) 21 22 (Cp p) hr ht hs2 (Kh t3 (by decide))
 unfold Mr
 rw [if_pos ((Hv t0).1.trans hv),if_neg (by rw [hq];simp)]
 have h5:=Bs hc.st (Bn t3 (.inr (by decide)))
 have h6:=C5 (o:=21) (s:=[]) (n:=0) (x:=nd toks (H5 TM toks 21 22 (A7 p)).op (H5 TM toks 21 22 (A7 p)).name 0 p) h5 fun o=>⟨(hc.op o).1,(hc.op o).2,rfl⟩
 exact Gz (x:=⟨21,[],0,2,a⟩) (ks:=[r,t]) (show(18:Int)<=21/\(21:Int)≠32 by decide) h6 (show wr 2=2 by decide) (by simp) (by simp [hb,hr.nb]) (by omega)
theorem Asu {a:Int} {s:Str} {r:R} (hn:Tk.Be s=true) (hr:Rt r):StP (Ar ⟨22,s,0,1,a⟩ [r]):=by
 have e:∀d,kyK ((Ar ⟨22,s,0,1,a⟩ [r]).st d)=(kyK r.tm++(kyV G8::[kyV s]))++[kyV Av]:=fun d=>by
  show kyK (line d (r.tm++[sps,.tk G8,sps,.tk s,.tk Av]))=_
  rw [Dw,Bf,List.append_assoc];rfl
 obtain⟨v,m,ev,hv⟩:=hr.beg
 refine⟨fun d=>⟨v,m++(kyV G8::[kyV s])++[kyV Av],by rw [e,ev];rfl,?_,?_⟩,fun {toks p} k d hs _=> ?_⟩
 ·rintro rfl;exact absurd hv (by decide)
 ·rintro rfl;exact absurd hv (by decide)
 have hl:ln ((Ar ⟨22,s,0,1,a⟩ [r]).st d)=ln r.tm+1+1+1:=by unfold ln;rw [e];simp
 rw [hl];rw [e]at hs
 obtain⟨hs2,hs3⟩:=C2 hs
 have t0:Kt toks p=kyV v:=by rw [ev]at hs2;exact(Al hs2).1
 have hq:isF toks ((p:Int)+1) sEq=false:=Aqc hr (v:=G8) (by decide) (by
  have:=C2 (a:=kyK r.tm++[kyV G8]) (b:=[kyV s]) (by rw [List.append_assoc];exact hs2)
  exact this.1)
 have t3:Kt toks (p+ln r.tm+1+1)=kyV Av:=by
  have:=(Al hs3).1
  rw [show p+(kyK r.tm++kyV G8::[kyV s]).length=p+ln r.tm+1+1 by unfold ln;simp;omega]at this
  exact this
 have hc:=Acx (c:=A7 p) 21 22 (Cp p) hr hn hs2
 unfold Mr
 rw [if_pos ((Hv t0).1.trans hv),if_neg (by rw [hq];simp)]
 have h5:=Bs hc.st (Bn t3 (.inr (by decide)))
 have h6:=C5 (o:=22) (s:=s) (n:=0) (x:=nd toks (H5 TM toks 21 22 (A7 p)).op (H5 TM toks 21 22 (A7 p)).name 0 p) h5 fun o=>⟨(hc.op o).1,(hc.op o).2,rfl⟩
 exact Gz (x:=⟨22,s,0,1,a⟩) (ks:=[r]) (show(18:Int)<=22/\(22:Int)≠32 by decide) h6 (show wr 1=1 by decide) (by simp) (by simp [hr.nb]) (by omega)
theorem Au6 {op a:Int} {w:Str} {t:R} (hw:(op=27/\w=Km)\/(op=28/\w=Kn)\/(op=29/\w=Hr)) (ht:TmP t) (hb:t.nb=0):StP (Ar ⟨op,[],0,1,a⟩ [t]):=by
 have e:∀d,kyK ((Ar ⟨op,[],0,1,a⟩ [t]).st d)=kyV w::(kyK t.tm++[kyV Av]):=fun d=>by
  rcases hw with⟨rfl,rfl⟩|⟨rfl,rfl⟩|⟨rfl,rfl⟩
  ·show kyK (line d (.tk Km::sps::(t.tm++[.tk Av])))=_
   rw [Dw];show _::kyK (t.tm++[.tk Av])=_;rw [Bf];rfl
  ·show kyK (line d (.tk Kn::sps::(t.tm++[.tk Av])))=_
   rw [Dw];show _::kyK (t.tm++[.tk Av])=_;rw [Bf];rfl
  ·show kyK (line d (.tk Hr::sps::(t.tm++[.tk Av])))=_
   rw [Dw];show _::kyK (t.tm++[.tk Av])=_;rw [Bf];rfl
 have hk:kdS w=3/\w≠sRB/\w≠Dp:=by rcases hw with⟨_,rfl⟩|⟨_,rfl⟩|⟨_,rfl⟩<;>decide
 refine⟨fun d=>⟨w,_,e d,hk.2.1,hk.2.2⟩,fun {toks p} k d hs _=> ?_⟩
 have hl:ln ((Ar ⟨op,[],0,1,a⟩ [t]).st d)=ln t.tm+2:=by unfold ln;rw [e];simp
 rw [hl];rw [e]at hs
 obtain⟨t0,hs⟩:=Al hs
 obtain⟨hT,hs⟩:=C2 hs
 have t1:Kt toks (p+1+ln t.tm)=kyV Av:=(Al hs).1
 obtain⟨w1,w2⟩:=Mx t0 hk.1
 have ew:Bj TM toks (E0 TM toks k) p=Am3 TM toks w op p:=by
  unfold Bj;rw [w2]
  rcases hw with⟨rfl,rfl⟩|⟨rfl,rfl⟩|⟨rfl,rfl⟩<;>rfl
 rw [Jk w1,ew]
 unfold Am3
 have h1:=Bs (Cp p) (Bn t0 (.inl hk.1))
 have h4:=Ht h1 ht hT (Kh t1 (by decide))
 have h5:=Bs h4 (Bn t1 (.inr (by decide)))
 have h6:=C5 (o:=op) (s:=[]) (n:=0) (x:=nd toks op [] 0 p) h5 fun _=>⟨rfl,rfl,rfl⟩
 exact Gz (x:=⟨op,[],0,1,a⟩) (ks:=[t]) (by show(18:Int)<=op/\op≠32;omega) h6 Aks (by simp) (by simp [hb]) (by omega)
theorem Asv {op a:Int} {w:Str} (hw:(op=30/\w=Nw)\/(op=31/\w=Nx)):StP (Ar ⟨op,[],0,0,a⟩ []):=by
 have e:∀d,kyK ((Ar ⟨op,[],0,0,a⟩ []).st d)=[kyV w,kyV Av]:=fun d=>by
  rcases hw with⟨rfl,rfl⟩|⟨rfl,rfl⟩
  ·show kyK (line d [.tk Nw,.tk Av])=_
   rw [Dw];rfl
  ·show kyK (line d [.tk Nx,.tk Av])=_
   rw [Dw];rfl
 have hk:kdS w=3/\w≠sRB/\w≠Dp:=by rcases hw with⟨_,rfl⟩|⟨_,rfl⟩<;>decide
 refine⟨fun d=>⟨w,_,e d,hk.2.1,hk.2.2⟩,fun {toks p} k d hs _=> ?_⟩
 have hl:ln ((Ar ⟨op,[],0,0,a⟩ []).st d)=2:=by unfold ln;rw [e];rfl
 rw [hl];rw [e]at hs
 obtain⟨t0,hs⟩:=Al hs
 have t1:=(Al hs).1
 obtain⟨w1,w2⟩:=Mx t0 hk.1
 have ew:Bj TM toks (E0 TM toks k) p=Aic toks w op p:=by
  unfold Bj;rw [w2]
  rcases hw with⟨rfl,rfl⟩|⟨rfl,rfl⟩<;>rfl
 rw [Jk w1,ew]
 unfold Aic
 have h1:=Bs (Cp p) (Bn t0 (.inl hk.1))
 have h5:=Bs h1 (Bn t1 (.inr (by decide)))
 have h6:=C5 (o:=op) (s:=[]) (n:=0) (x:=nd toks op [] 0 p) h5 fun _=>⟨rfl,rfl,rfl⟩
 exact Gz (x:=⟨op,[],0,0,a⟩) (ks:=[]) (by show(18:Int)<=op/\op≠32;omega) h6 Ap4 (by simp) (by simp) (by omega)
theorem Aqe {a:Int} {t r:R} (ht:TmP t) (hb:t.nb=0) (hr:Pm r):StP (Ar ⟨24,[],0,2,a⟩ [t,r]):=by
 have e:∀d,kyK ((Ar ⟨24,[],0,2,a⟩ [t,r]).st d)=kyV F9::(kyK t.tm++(kyV sLB::(kyK (r.st (d+1))++[kyV sRB]))):=fun d=>by
  show kyK (Bi d (.tk F9::sps::t.tm) r)=_
  rw [H6];rfl
 refine⟨fun d=>⟨F9,_,e d,by decide,by decide⟩,fun {toks p} k d hs _=> ?_⟩
 have hl:ln ((Ar ⟨24,[],0,2,a⟩ [t,r]).st d)=ln t.tm+(ln (r.st (d+1))+2)+1:=by unfold ln;rw [e];simp
 rw [hl];rw [e]at hs
 obtain⟨t0,hs⟩:=Al hs
 obtain⟨hT,hs⟩:=C2 hs
 have hs:Ks toks (p+1+ln t.tm) (kyV sLB::(kyK (r.st (d+1))++[kyV sRB])):=hs
 have t1:Kt toks (p+1+ln t.tm)=kyV sLB:=(Al hs).1
 obtain⟨w1,w2⟩:=Mx t0 (by decide)
 have ew:Bj TM toks (E0 TM toks k) p=Dc (inC (E0 TM toks k) (Es TM toks (Bb toks F9 (A7 p)))) (nd toks 24 [] 0 p):=by unfold Bj;rw [w2];rfl
 rw [Jk w1,ew]
 have h1:=Bs (Cp p) (Bn t0 (.inl (by decide)))
 have h4:=Ht h1 ht hT (Kh t1 (by decide))
 have h5:=Ws k (d+1) h4 hr hs
 have h6:=C5 (o:=24) (s:=[]) (n:=0) (x:=nd toks 24 [] 0 p) h5 fun _=>⟨rfl,rfl,rfl⟩
 exact Gz (x:=⟨24,[],0,2,a⟩) (ks:=[t,r]) (show(18:Int)<=24/\(24:Int)≠32 by decide) h6 (show wr 2=2 by decide) (by simp) (by simp [hb]) (by omega)
theorem Au7 {a:Int} {t r:R} (ht:TmP t) (hb:t.nb=0) (hr:Pm r):StP (Ar ⟨23,[],0,2,a⟩ [t,r]):=by
 have e:∀d,kyK ((Ar ⟨23,[],0,2,a⟩ [t,r]).st d)=kyV sIf::(kyK t.tm++(kyV sLB::(kyK (r.st (d+1))++[kyV sRB]))):=fun d=>by
  show kyK (line d (.tk sIf::sps::(t.tm++[sps,.tk sLB]))++(r.st (d+1)++line d [.tk sRB]))=_
  rw [Bf,Dw,Bf,Dw]
  show(kyV sIf::kyK (t.tm++[sps,.tk sLB]))++_=_
  rw [Bf,List.cons_append,List.append_assoc];rfl
 refine⟨fun d=>⟨sIf,_,e d,by decide,by decide⟩,fun {toks p} k d hs hF=> ?_⟩
 have hl:ln ((Ar ⟨23,[],0,2,a⟩ [t,r]).st d)=ln t.tm+(ln (r.st (d+1))+2)+1:=by unfold ln;rw [e];simp
 rw [hl]at hF⊢;rw [e]at hs
 obtain⟨t0,hs⟩:=Al hs
 obtain⟨hT,hs⟩:=C2 hs
 have hs:Ks toks (p+1+ln t.tm) (kyV sLB::(kyK (r.st (d+1))++[kyV sRB])):=hs
 have t1:Kt toks (p+1+ln t.tm)=kyV sLB:=(Al hs).1
 obtain⟨w1,w2⟩:=Mx t0 (by decide)
 have ew:Bj TM toks (E0 TM toks k) p=Dc (ifC toks (E0 TM toks k) (inC (E0 TM toks k) (Es TM toks (Bb toks sIf (A7 p))))) (nd toks 23 [] 0 p):=by unfold Bj;rw [w2];rfl
 rw [Jk w1,ew]
 have h1:=Bs (Cp p) (Bn t0 (.inl (by decide)))
 have h4:=Ht h1 ht hT (Kh t1 (by decide))
 have h5:=Ws k (d+1) h4 hr hs
 unfold ifC
 have h5':=Aly (a:=inC (E0 TM toks k) (Bb toks Dp (inC (E0 TM toks k) (Es TM toks (Bb toks sIf (A7 p)))))) h5 (s:=Dp) (by rw [show p+1+ln t.tm+(ln (r.st (d+1))+2)=p+(ln t.tm+(ln (r.st (d+1))+2)+1) by omega];exact hF)
 have h6:=C5 (o:=23) (s:=[]) (n:=0) (x:=nd toks 23 [] 0 p) h5' fun _=>⟨rfl,rfl,rfl⟩
 exact Gz (x:=⟨23,[],0,2,a⟩) (ks:=[t,r]) (show(18:Int)<=23/\(23:Int)≠32 by decide) h6 (show wr 2=2 by decide) (by simp) (by simp [hb]) (by omega)
theorem Au8 {a:Int} {t r r':R} (ht:TmP t) (hb:t.nb=0) (hr:Pm r) (hr':Pm r'):StP (Ar ⟨23,[],0,3,a⟩ [t,r,r']):=by
 have e:∀d,kyK ((Ar ⟨23,[],0,3,a⟩ [t,r,r']).st d)=kyV sIf::(kyK t.tm++((kyV sLB::(kyK (r.st (d+1))++[kyV sRB]))++(kyV Dp::(kyV sLB::(kyK (r'.st (d+1))++[kyV sRB]))))):=fun d=>by
  show kyK (line d (.tk sIf::sps::(t.tm++[sps,.tk sLB]))++(r.st (d+1)++(line d [.tk sRB,sps,.tk Dp,sps,.tk sLB]++(r'.st (d+1)++line d [.tk sRB]))))=_
  rw [Bf,Dw,Bf,Bf,Dw,Bf,Dw]
  show(kyV sIf::kyK (t.tm++[sps,.tk sLB]))++_=_
  rw [Bf,List.cons_append,List.append_assoc]
  congr 2
  show _::(_++_)=_
  rw [List.cons_append,List.append_assoc];rfl
 refine⟨fun d=>⟨sIf,_,e d,by decide,by decide⟩,fun {toks p} k d hs hF=> ?_⟩
 have hl:ln ((Ar ⟨23,[],0,3,a⟩ [t,r,r']).st d)=ln t.tm+(ln (r.st (d+1))+2)+1+(ln (r'.st (d+1))+2)+1:=by unfold ln;rw [e];simp;omega
 rw [hl];rw [e]at hs
 obtain⟨t0,hs⟩:=Al hs
 obtain⟨hT,hs⟩:=C2 hs
 obtain⟨hB,hs⟩:=C2 hs
 have hB:Ks toks (p+1+ln t.tm) (kyV sLB::(kyK (r.st (d+1))++[kyV sRB])):=hB
 have t1:Kt toks (p+1+ln t.tm)=kyV sLB:=(Al hB).1
 have hs:Ks toks (p+1+ln t.tm+(ln (r.st (d+1))+2)) (kyV Dp::(kyV sLB::(kyK (r'.st (d+1))++[kyV sRB]))):=by
  rw [show p+1+ln t.tm+(ln (r.st (d+1))+2)=p+1+(kyK t.tm).length+(kyV sLB::(kyK (r.st (d+1))++[kyV sRB])).length by unfold ln;simp]
  exact hs
 obtain⟨t2,hB'⟩:=Al hs
 obtain⟨w1,w2⟩:=Mx t0 (by decide)
 have ew:Bj TM toks (E0 TM toks k) p=Dc (ifC toks (E0 TM toks k) (inC (E0 TM toks k) (Es TM toks (Bb toks sIf (A7 p))))) (nd toks 23 [] 0 p):=by unfold Bj;rw [w2];rfl
 rw [Jk w1,ew]
 have h1:=Bs (Cp p) (Bn t0 (.inl (by decide)))
 have h4:=Ht h1 ht hT (Kh t1 (by decide))
 have h5:=Ws k (d+1) h4 hr hB
 have h7:=Bs h5 (Bn t2 (.inl (by decide)))
 have h8:=Ws k (d+1) h7 hr' hB'
 unfold ifC
 have h5':=Ap6 (b:=inC (E0 TM toks k) (Es TM toks (Bb toks sIf (A7 p)))) h5 (Bn t2 (.inl (by decide))) h8 (fun o=>h5.2 o) (fun o=>o.1)
 have h6:=C5 (o:=23) (s:=[]) (n:=0) (x:=nd toks 23 [] 0 p) h5' fun _=>⟨rfl,rfl,rfl⟩
 exact Gz (x:=⟨23,[],0,3,a⟩) (ks:=[t,r,r']) (show(18:Int)<=23/\(23:Int)≠32 by decide) h6 (show wr 3=3 by decide) (by simp) (by simp [hb,and_assoc]) (by omega)
end
end Go.Proofs.YtcakelelfklhdaaGreatDoor
namespace Go.Proofs.YtcakelelfklhdaaGreatDoor
open Go.Vc Go.Lv Go.Ty Go.Tk Go.Tm
section
variable {toks:List Au} {ok:Prop} {L:List Er} {j p:Nat} {c:Cur}
def Jn (l:List R):List Key:=l.flatMap fun r=>kyV B2::kyK r.tm
theorem N4 (a:R):∀l:List R,kyK (Bx ((a::l).map R.tm))=kyK a.tm++Jn l
 |[]=>by show kyK a.tm=kyK a.tm++[];rw [List.append_nil]
 |b::l=>by
  show kyK (a.tm++(.tk B2::sps::Bx ((b::l).map R.tm)))=_
  rw [Bf]
  show _++(kyV B2::kyK (Bx ((b::l).map R.tm)))=_
  rw [N4 b l];rfl
theorem Al0 (l:List R):l.length<=(Jn l).length:=by
 induction l with
 |nil=>exact Nat.zero_le _
 |cons a l ih=>
  have:Jn (a::l)=(kyV B2::kyK a.tm)++Jn l:=rfl
  rw [this,List.length_append,List.length_cons,List.length_cons];omega
theorem Al1 (l:List R):(Jn l).length=(l.map fun r=>1+ln r.tm).foldr (·+·) 0:=
 Afr (fun r:R=>1+ln r.tm) (fun r:R=>kyV B2::kyK r.tm) (fun r=>by unfold ln;simp;omega) l
theorem Asw {ks:List R} (hk:∀r∈ks,TmP r) (h:St ok L j p c) (hs:Ks toks p (Jn ks++[kyV sRP])):
 Kt toks (p+(Jn ks).length)=kyV sRP/\St (ok/\∀r∈ks,r.nd<=24) (L++(ks.flatMap R.fl).map erG) (j+ks.length) (p+(Jn ks).length) (Fw (Ew toks B2) (fun c=>Es TM toks (Bb toks B2 c)) (fuel toks) c):=by
 have hlen:ks.length<fuel toks:=by
  have h1:=Ut hs
  have h2:=Al0 ks
  rw [List.length_append,List.length_map]at h1
  unfold fuel;omega
 obtain⟨p',e1,e2,e3⟩:=Ra (g:=Ew toks B2) (b:=fun c=>Es TM toks (Bb toks B2 c))
  (fun r:R=>r.fl.map erG) (fun r=>1+ln r.tm) (fun r=>r.nd<=24) (fun p l=>(∀r∈l,TmP r)/\Ks toks p (Jn l++[kyV sRP]))
  (fun ok L j p c h hs=>by
   by_cases o:ok
   ·rw [Hz h o];exact Jj (Al hs.2).1 (by decide)
   ·exact Mu h o)
  (fun c hc=>by unfold Ew;rw [hc];rfl)
  (fun ok L j p c r l h hs=>by
   obtain⟨hq,hs⟩:=hs
   have hs:Ks toks p (kyV B2::(kyK r.tm++(Jn l++[kyV sRP]))):=by
    have:Jn (r::l)=kyV B2::(kyK r.tm++Jn l):=rfl
    rw [this,List.cons_append,List.append_assoc]at hs;exact hs
   obtain⟨t0,hs⟩:=Al hs
   obtain⟨hT,hs⟩:=C2 hs
   have hm:Cz (toks.map tT) (p+1+ln r.tm)=0:=by
    cases l with
    |nil=>exact Kh (Al hs).1 (by decide)
    |cons b l=>exact Kh (v:=B2) (Al (k:=kyV B2) (a:=kyK b.tm++Jn l++[kyV sRP]) hs).1 (by decide)
   refine⟨fun o=>by rw [Hz h o];exact Bn t0 (.inr (by decide)),?_,fun r hr=>hq r (by simp [hr]),?_⟩
   ·have:=Ht (Bs h (Bn t0 (.inr (by decide)))) (hq r (by simp)) hT hm
    exact this.eq rfl (by omega)
   ·rw [show p+(1+ln r.tm)=p+1+(kyK r.tm).length by unfold ln;omega];exact hs)
  ks (fuel toks) ok L j p c hlen h ⟨hk,hs⟩
 rw [←Al1]at e1
 subst e1
 refine⟨(Al e2.2).1,e3.eq ?_ rfl⟩
 rw [List.map_flatMap]
theorem Aqf {s:Str} {n:Nat} {a:Int} {ks:List R} (hn:Tk.Be s=true) (hlen:ks.length=n) (hk:∀r∈ks,TmP r/\r.nb=0/\Afs r.tm):StP (Ar ⟨26,s,0,wr n,a⟩ ks):=by
 have e:∀d,kyK ((Ar ⟨26,s,0,wr n,a⟩ ks).st d)=kyV Fc::kyV s::kyV sLP::(kyK (Bx (ks.map R.tm))++[kyV sRP,kyV Av]):=fun d=>by
  show kyK (line d (.tk Fc::sps::.tk s::.tk sLP::(Bx (ks.map R.tm)++[.tk sRP,.tk Av])))=_
  rw [Dw];show _::_::_::kyK (Bx (ks.map R.tm)++[.tk sRP,.tk Av])=_;rw [Bf];rfl
 refine⟨fun d=>⟨Fc,_,e d,by decide,by decide⟩,fun {toks p} k d hs _=> ?_⟩
 have hl:ln ((Ar ⟨26,s,0,wr n,a⟩ ks).st d)=ln (Bx (ks.map R.tm))+5:=by unfold ln;rw [e];simp
 rw [hl];rw [e]at hs
 obtain⟨t0,hs⟩:=Al hs
 obtain⟨t1,hs⟩:=Al hs
 obtain⟨t2,hs⟩:=Al hs
 obtain⟨w1,w2⟩:=Mx t0 (by decide)
 have ew:Bj TM toks (E0 TM toks k) p=Dc (Bb toks Av (Wo TM toks (Eg toks (Bb toks Fc (A7 p))))) (nd toks 26 (Be toks (Bb toks Fc (A7 p))) 0 p):=by unfold Bj;rw [w2];rfl
 rw [Jk w1,ew]
 have h1:=Bs (Cp p) (Bn t0 (.inl (by decide)))
 have h2:=J8 h1 (Dr t1 hn)
 have h3:=Bs h2 (Bn t2 (.inr (by decide)))
 have hA:Kt toks (p+1+1+1+ln (Bx (ks.map R.tm))+1)=kyV Av/\St (True/\∀r∈ks,r.nd<=24) ([]++(ks.flatMap R.fl).map erG) ks.length (p+1+1+1+ln (Bx (ks.map R.tm))+1) (Wo TM toks (Eg toks (Bb toks Fc (A7 p)))):=by
  obtain⟨q1,q2,q3,q4⟩:=h3.1 trivial
  unfold Wo
  rw [q1,q4]
  cases ks with
  |nil=>
   obtain⟨t3,hs⟩:=Al (k:=kyV sRP) (a:=[kyV Av]) hs
   rw [Bn t3 (.inr (by decide)),if_neg (by simp)]
   exact⟨(Al hs).1,((Bs h3 (Bn t3 (.inr (by decide)))).eq (by simp) rfl).iff (by simp)⟩
  |cons b l=>
   rw [N4,List.append_assoc]at hs
   obtain⟨hT,hs⟩:=C2 hs
   have hs:Ks toks (p+1+1+1+ln b.tm) ((Jn l++[kyV sRP])++[kyV Av]):=by rw [List.append_assoc];exact hs
   obtain⟨hs1,hs2⟩:=C2 hs
   have hm:Cz (toks.map tT) (p+1+1+1+ln b.tm)=0:=by
    cases l with
    |nil=>exact Kh (Al hs1).1 (by decide)
    |cons b' l=>exact Kh (v:=B2) (Al (k:=kyV B2) (a:=kyK b'.tm++Jn l++[kyV sRP]) hs1).1 (by decide)
   have hb:=hk b (by simp)
   rw [Ato hb.2.2 hT (by decide),if_pos (by simp)]
   have h4:=Ht h3 hb.1 hT hm
   obtain⟨t4,h5⟩:=Asw (fun r hr=>(hk r (by simp [hr])).1) h4 hs1
   have h6:=Bs h5 (Bn t4 (.inr (by decide)))
   have el:ln (Bx ((b::l).map R.tm))=ln b.tm+(Jn l).length:=by unfold ln;rw [N4,List.length_append]
   rw [show p+1+1+1+ln (Bx ((b::l).map R.tm))+1=p+1+1+1+ln b.tm+(Jn l).length+1 by omega]
   refine⟨?_,?_⟩
   ·have:=(Al hs2).1
    rw [show p+1+1+1+ln b.tm+(Jn l++[kyV sRP]).length=p+1+1+1+ln b.tm+(Jn l).length+1 by simp;omega]at this
    exact this
   ·rw [show(b::l).length=0+1+l.length by simp;omega]
    exact(h6.eq (by simp) rfl).iff (by simp)
 have h5:=Bs hA.2 (Bn hA.1 (.inr (by decide)))
 have h6:=C5 (o:=26) (s:=s) (n:=0) (x:=nd toks 26 (Be toks (Bb toks Fc (A7 p))) 0 p) h5 fun _=>⟨rfl,(Ho h1 (Dr t1 hn) trivial).trans (Hv t1).2.1,rfl⟩
 refine Gz (x:=⟨26,s,0,wr n,a⟩) (ks:=ks) (show(18:Int)<=26/\(26:Int)≠32 by decide) h6 (by rw [hlen]) (by simp) ?_ (by omega)
 exact⟨fun h r hr=>⟨h.2 r hr,by rw [(hk r hr).2.1];exact Nat.zero_le _⟩,fun h=>⟨trivial,fun r hr=>(h r hr).1⟩⟩
theorem Aqg {t:R} (h:St ok L j p c) (ht:TmP t) (hs:Ks toks p (kyV D9::(kyK t.tm++[kyV D8]))) (o:ok):
 St (ok/\t.nd<=24) (L++t.fl.map erG) (j+1) (p+(ln t.tm+2)) (Kf TM toks c)/\Nz toks c=1:=by
 obtain⟨t0,hs⟩:=Al hs
 obtain⟨hT,hs⟩:=C2 hs
 have t1:Kt toks (p+1+ln t.tm)=kyV D8:=(Al hs).1
 have h1:=Bs h (Bn t0 (.inl (by decide)))
 have h2:=Ht h1 ht hT (Kh t1 (by decide))
 have h3:=Bs h2 (Bn t1 (.inr (by decide)))
 have hs:=(Hz h o).trans (Bn t0 (.inl (by decide)))
 unfold Kf Nz
 rw [hs,if_pos rfl,if_pos rfl]
 exact⟨h3.eq rfl (by omega),rfl⟩
theorem Asx (h:St ok L j p c) (hs:isF toks (p:Int) D9=false) (o:ok):Kf TM toks c=c/\Nz toks c=0:=by
 have hs:=(Hz h o).trans hs
 unfold Kf Nz
 rw [hs,if_neg (by simp),if_neg (by simp)]
 exact⟨rfl,rfl⟩
theorem Acy {t:R} (h:St ok L j p c) (ht:TmP t) (hs:Ks toks p (kyV Ea::kyK t.tm)) (hm:Cz (toks.map tT) (p+1+ln t.tm)=0):
 Acv (ok/\t.nd<=24) (L++t.fl.map erG) (j+1) (p+(1+ln t.tm)) 36 [] (Gn TM toks c):=by
 obtain⟨t0,hT⟩:=Al hs
 have h1:=Bs h (Bn t0 (.inl (by decide)))
 have h2:=Ht h1 ht hT hm
 unfold Gn
 by_cases o:ok
 ·rw [Hz h o,Bn t0 (.inl (by decide)),if_pos rfl]
  exact⟨h2.eq rfl (by omega),fun _=>⟨rfl,rfl⟩⟩
 ·rw [Mu h o,if_neg (by simp)]
  refine⟨⟨fun o'=>absurd o'.1 o,fun _=> ?_⟩,fun o'=>absurd o'.1 o⟩
  unfold H5
  rw [if_neg (by rw [h.2 o];decide)];exact h.2 o
theorem Ai1 (h:St ok L j p c) (hs:isF toks (p:Int) Ea=false):Gn TM toks c=H5 TM toks 35 34 c:=by
 unfold Gn
 by_cases o:ok
 ·rw [Hz h o,hs,if_neg (by simp)]
 ·rw [Mu h o,if_neg (by simp)]
theorem Asy {a:Int} {r:R} (hr:Pm r):ClP (Ar ⟨37,[],0,1,a⟩ [r]):=by
 have e:∀d,kyK ((Ar ⟨37,[],0,1,a⟩ [r]).st d)=kyV Dp::(kyV sLB::(kyK (r.st (d+1))++[kyV sRB])):=fun d=>by
  show kyK (Bi d [.tk Dp] r)=_
  rw [H6];rfl
 refine⟨fun d=>⟨Dp,_,e d,by decide⟩,fun {toks p} k d hs=> ?_⟩
 have hl:ln ((Ar ⟨37,[],0,1,a⟩ [r]).st d)=(ln (r.st (d+1))+2)+1:=by unfold ln;rw [e];simp
 rw [hl];rw [e]at hs
 obtain⟨t0,hs⟩:=Al hs
 unfold E7
 rw [if_pos (Bn t0 (.inl (by decide)))]
 have h1:=Bs (Cp p) (Bn t0 (.inl (by decide)))
 have h2:=Ws k (d+1) h1 hr hs
 have h6:=C5 (o:=37) (s:=[]) (n:=0) (x:=nd toks 37 [] 0 p) h2 fun _=>⟨rfl,rfl,rfl⟩
 exact Gz (x:=⟨37,[],0,1,a⟩) (ks:=[r]) (show(18:Int)<=37/\(37:Int)≠32 by decide) h6 Aks (by simp) (by simp) (by omega)
theorem Rb {toks:List Au} {p q' k d j1:Nat} {ok1:Prop} {L1:List Er} {r:R} {op n a:Int} {s:Str} {ks:List R} (hop:op=34\/op=35\/op=36) (hr:Pm r)
 (t0:Kt toks p=kyV B1) (hn:Nz toks (Bb toks B1 (A7 p))=n)
 (hc:Acv ok1 L1 j1 q' op s (Gn TM toks (Kf TM toks (Bb toks B1 (A7 p)))))
 (hB:Ks toks q' (kyV sLB::(kyK (r.st (d+1))++[kyV sRB])))
 (hL:L1++r.fl.map erG=(ks.flatMap R.fl).map erG) (hok:(ok1/\(r.nd<=24/\r.nb<=k))↔∀x∈ks,x.nd<=24/\x.nb<=k) {e:Nat} (he:q'+(ln (r.st (d+1))+2)=e):
 St ((Ar ⟨op,s,n,wr (j1+1),a⟩ ks).nd<=24/\(Ar ⟨op,s,n,wr (j1+1),a⟩ ks).nb<=k) ((Ar ⟨op,s,n,wr (j1+1),a⟩ ks).fl.map erG) 1 e (E7 TM toks (E0 TM toks k) p):=by
 unfold E7
 rw [if_neg (by rw [Jj t0 (by decide)];simp)]
 have h1:=Ws k (d+1) hc.st hr hB
 have h2:=C5 (o:=op) (s:=s) (n:=n) (x:=nd toks (Gn TM toks (Kf TM toks (Bb toks B1 (A7 p)))).op (Gn TM toks (Kf TM toks (Bb toks B1 (A7 p)))).name (Nz toks (Bb toks B1 (A7 p))) p) h1 fun o=>⟨(hc.op o.1).1,(hc.op o.1).2,hn⟩
 exact Gz (x:=⟨op,s,n,wr (j1+1),a⟩) (ks:=ks) (by show(18:Int)<=op/\op≠32;omega) h2 rfl hL hok he
end
end Go.Proofs.YtcakelelfklhdaaGreatDoor
namespace Go.Proofs.YtcakelelfklhdaaGreatDoor
open Go.Vc Go.Lv Go.Ty Go.Tk Go.Tm
section
variable {toks:List Au} {ok:Prop} {L:List Er} {j p q:Nat} {c:Cur}
theorem Aft {r:R} {s:Str} {l:List Key} (hr:Rt r) (hs:Ks toks p (kyK r.tm++l)):isF toks (p:Int) s=false:=by
 obtain⟨v,m,e,hv⟩:=hr.beg
 rw [e]at hs
 exact Akv (Al (k:=kyV v) (a:=m++l) hs).1 hv
theorem Z7 (t0:Kt toks p=kyV B1) (h:isF toks ((p+1:Nat):Int) D9=false):St True [] 0 (p+1) (Kf TM toks (Bb toks B1 (A7 p)))/\Nz toks (Bb toks B1 (A7 p))=0:=by
 have h1:=Bs (Cp p) (Bn t0 (.inl (by decide)))
 obtain⟨e1,e2⟩:=Asx h1 h trivial
 rw [e1];exact⟨h1,e2⟩
theorem V5 {t:R} (t0:Kt toks p=kyV B1) (ht:TmP t) (hs:Ks toks (p+1) (kyV D9::(kyK t.tm++[kyV D8]))):St (True/\t.nd<=24) ([]++t.fl.map erG) 1 (p+1+(ln t.tm+2)) (Kf TM toks (Bb toks B1 (A7 p)))/\Nz toks (Bb toks B1 (A7 p))=1:=
 Aqg (Bs (Cp p) (Bn t0 (.inl (by decide)))) ht hs trivial
theorem Acz {r:R} {s:Str} (h:St ok L j q c) (hr:Rt r) (hn:Tk.Be s=true) (hs:Ks toks q (kyK r.tm++(kyV G8::[kyV s]))):Acv (ok/\r.nd<=24) (L++r.fl.map erG) (j+1) (q+ln r.tm+1+1) 34 s (Gn TM toks c):=by
 rw [Ai1 h (Aft hr hs)]
 exact Acx 35 34 h hr hn hs
theorem Ac0 {r t:R} (h:St ok L j q c) (hr:Rt r) (ht:TmP t) (hs:Ks toks q (kyK r.tm++(kyV Db::kyK t.tm))) (hm:Cz (toks.map tT) (q+ln r.tm+1+ln t.tm)=0):Acv ((ok/\r.nd<=24)/\t.nd<=24) (L++r.fl.map erG++t.fl.map erG) (j+1+1) (q+ln r.tm+1+ln t.tm) 35 [] (Gn TM toks c):=by
 rw [Ai1 h (Aft hr hs)]
 exact Acw 35 34 h hr ht hs hm
theorem Mi {a b:List Key} (h:Ks toks p (a++b)) {n:Nat} (hn:n=a.length):Ks toks p a/\Ks toks (p+n) b:=by subst hn;exact C2 h
theorem Aqh {s:Str} {a:Int} {r b:R} (hn:Tk.Be s=true) (hr:Rt r) (hb:Pm b):ClP (Ar ⟨34,s,0,wr 2,a⟩ [r,b]):=by
 have e:∀d,kyK ((Ar ⟨34,s,0,wr 2,a⟩ [r,b]).st d)=kyV B1::((kyK r.tm++(kyV G8::[kyV s]))++(kyV sLB::(kyK (b.st (d+1))++[kyV sRB]))):=fun d=>by
  show kyK (Bi d ([.tk B1,sps]++(r.tm++[sps,.tk G8,sps,.tk s])) b)=_
  rw [H6,Bf,Bf];rfl
 refine⟨fun d=>⟨B1,_,e d,by decide⟩,fun {toks p} k d hs=> ?_⟩
 have hl:ln ((Ar ⟨34,s,0,wr 2,a⟩ [r,b]).st d)=ln r.tm+2+(ln (b.st (d+1))+2)+1:=by unfold ln;rw [e];simp;omega
 rw [hl];rw [e]at hs
 obtain⟨t0,hs⟩:=Al hs
 obtain⟨h1,hB⟩:=Mi hs (n:=ln r.tm+2) (by unfold ln;simp)
 obtain⟨hw,hN⟩:=Z7 t0 (Aft hr h1)
 have hc:=Acz hw hr hn h1
 exact Rb (d:=d) (ks:=[r,b]) (.inl rfl) hb t0 hN hc (by rw [show p+1+ln r.tm+1+1=p+1+(ln r.tm+2) by omega];exact hB) (by simp) (by simp [hr.nb]) (by omega)
theorem Aqi {s:Str} {a:Int} {t r b:R} (ht:TmP t) (htb:t.nb=0) (hn:Tk.Be s=true) (hr:Rt r) (hb:Pm b):ClP (Ar ⟨34,s,1,wr 3,a⟩ [t,r,b]):=by
 have e:∀d,kyK ((Ar ⟨34,s,1,wr 3,a⟩ [t,r,b]).st d)=kyV B1::((kyV D9::(kyK t.tm++[kyV D8]))++((kyK r.tm++(kyV G8::[kyV s]))++(kyV sLB::(kyK (b.st (d+1))++[kyV sRB])))):=fun d=>by
  show kyK (Bi d ((.tk B1::sps::.tk D9::sps::(t.tm++[.tk D8,sps]))++(r.tm++[sps,.tk G8,sps,.tk s])) b)=_
  rw [H6,Bf,Bf]
  show((kyV B1::kyV D9::kyK (t.tm++[.tk D8,sps]))++_)++_=_
  rw [Bf];simp [kyK,sps]
 refine⟨fun d=>⟨B1,_,e d,by decide⟩,fun {toks p} k d hs=> ?_⟩
 have hl:ln ((Ar ⟨34,s,1,wr 3,a⟩ [t,r,b]).st d)=(ln t.tm+2)+(ln r.tm+2+(ln (b.st (d+1))+2))+1:=by unfold ln;rw [e];simp;omega
 rw [hl];rw [e]at hs
 obtain⟨t0,hs⟩:=Al hs
 obtain⟨h0,hs⟩:=Mi hs (n:=ln t.tm+2) (by unfold ln;simp)
 obtain⟨h1,hB⟩:=Mi hs (n:=ln r.tm+2) (by unfold ln;simp)
 obtain⟨hw,hN⟩:=V5 t0 ht h0
 have hc:=Acz hw hr hn h1
 exact Rb (d:=d) (ks:=[t,r,b]) (.inl rfl) hb t0 hN hc (by rw [show p+1+(ln t.tm+2)+ln r.tm+1+1=p+1+(ln t.tm+2)+(ln r.tm+2) by omega];exact hB) (by simp) (by simp [hr.nb,htb,and_assoc]) (by omega)
theorem Aqj {a:Int} {r u b:R} (hr:Rt r) (hu:TmP u) (hub:u.nb=0) (hb:Pm b):ClP (Ar ⟨35,[],0,wr 3,a⟩ [r,u,b]):=by
 have e:∀d,kyK ((Ar ⟨35,[],0,wr 3,a⟩ [r,u,b]).st d)=kyV B1::((kyK r.tm++(kyV Db::kyK u.tm))++(kyV sLB::(kyK (b.st (d+1))++[kyV sRB]))):=fun d=>by
  show kyK (Bi d ([.tk B1,sps]++(r.tm++(sps::.tk Db::sps::u.tm))) b)=_
  rw [H6,Bf,Bf];rfl
 refine⟨fun d=>⟨B1,_,e d,by decide⟩,fun {toks p} k d hs=> ?_⟩
 have hl:ln ((Ar ⟨35,[],0,wr 3,a⟩ [r,u,b]).st d)=ln r.tm+1+ln u.tm+(ln (b.st (d+1))+2)+1:=by unfold ln;rw [e];simp;omega
 rw [hl];rw [e]at hs
 obtain⟨t0,hs⟩:=Al hs
 obtain⟨h1,hB⟩:=Mi hs (n:=ln r.tm+1+ln u.tm) (by unfold ln;simp;omega)
 obtain⟨hw,hN⟩:=Z7 t0 (Aft hr h1)
 have hB:Ks toks (p+1+ln r.tm+1+ln u.tm) (kyV sLB::(kyK (b.st (d+1))++[kyV sRB])):=by rw [show p+1+ln r.tm+1+ln u.tm=p+1+(ln r.tm+1+ln u.tm) by omega];exact hB
 have hc:=Ac0 hw hr hu h1 (Kh (Al hB).1 (by decide))
 exact Rb (d:=d) (ks:=[r,u,b]) (.inr (.inl rfl)) hb t0 hN hc hB (by simp) (by simp [hr.nb,hub,and_assoc]) (by omega)
theorem Aqk {a:Int} {t r u b:R} (ht:TmP t) (htb:t.nb=0) (hr:Rt r) (hu:TmP u) (hub:u.nb=0) (hb:Pm b):ClP (Ar ⟨35,[],1,wr 4,a⟩ [t,r,u,b]):=by
 have e:∀d,kyK ((Ar ⟨35,[],1,wr 4,a⟩ [t,r,u,b]).st d)=kyV B1::((kyV D9::(kyK t.tm++[kyV D8]))++((kyK r.tm++(kyV Db::kyK u.tm))++(kyV sLB::(kyK (b.st (d+1))++[kyV sRB])))):=fun d=>by
  show kyK (Bi d ((.tk B1::sps::.tk D9::sps::(t.tm++[.tk D8,sps]))++(r.tm++(sps::.tk Db::sps::u.tm))) b)=_
  rw [H6,Bf,Bf]
  show((kyV B1::kyV D9::kyK (t.tm++[.tk D8,sps]))++_)++_=_
  rw [Bf];simp [kyK,sps]
 refine⟨fun d=>⟨B1,_,e d,by decide⟩,fun {toks p} k d hs=> ?_⟩
 have hl:ln ((Ar ⟨35,[],1,wr 4,a⟩ [t,r,u,b]).st d)=(ln t.tm+2)+(ln r.tm+1+ln u.tm+(ln (b.st (d+1))+2))+1:=by unfold ln;rw [e];simp;omega
 rw [hl];rw [e]at hs
 obtain⟨t0,hs⟩:=Al hs
 obtain⟨h0,hs⟩:=Mi hs (n:=ln t.tm+2) (by unfold ln;simp)
 obtain⟨h1,hB⟩:=Mi hs (n:=ln r.tm+1+ln u.tm) (by unfold ln;simp;omega)
 obtain⟨hw,hN⟩:=V5 t0 ht h0
 have hB:Ks toks (p+1+(ln t.tm+2)+ln r.tm+1+ln u.tm) (kyV sLB::(kyK (b.st (d+1))++[kyV sRB])):=by rw [show p+1+(ln t.tm+2)+ln r.tm+1+ln u.tm=p+1+(ln t.tm+2)+(ln r.tm+1+ln u.tm) by omega];exact hB
 have hc:=Ac0 hw hr hu h1 (Kh (Al hB).1 (by decide))
 exact Rb (d:=d) (ks:=[t,r,u,b]) (.inr (.inl rfl)) hb t0 hN hc hB (by simp) (by simp [hr.nb,hub,htb,and_assoc]) (by omega)
theorem Anq {a:Int} {u b:R} (hu:TmP u) (hub:u.nb=0) (hb:Pm b):ClP (Ar ⟨36,[],0,wr 2,a⟩ [u,b]):=by
 have e:∀d,kyK ((Ar ⟨36,[],0,wr 2,a⟩ [u,b]).st d)=kyV B1::((kyV Ea::kyK u.tm)++(kyV sLB::(kyK (b.st (d+1))++[kyV sRB]))):=fun d=>by
  show kyK (Bi d ([.tk B1,sps]++(.tk Ea::sps::u.tm)) b)=_
  rw [H6,Bf];rfl
 refine⟨fun d=>⟨B1,_,e d,by decide⟩,fun {toks p} k d hs=> ?_⟩
 have hl:ln ((Ar ⟨36,[],0,wr 2,a⟩ [u,b]).st d)=1+ln u.tm+(ln (b.st (d+1))+2)+1:=by unfold ln;rw [e];simp;omega
 rw [hl];rw [e]at hs
 obtain⟨t0,hs⟩:=Al hs
 obtain⟨h1,hB⟩:=Mi hs (n:=1+ln u.tm) (by unfold ln;simp;omega)
 obtain⟨hw,hN⟩:=Z7 t0 (Jj (Al h1).1 (by decide))
 have hB:Ks toks (p+1+(1+ln u.tm)) (kyV sLB::(kyK (b.st (d+1))++[kyV sRB])):=hB
 have hc:=Acy hw hu h1 (by rw [show p+1+1+ln u.tm=p+1+(1+ln u.tm) by omega];exact Kh (Al hB).1 (by decide))
 exact Rb (d:=d) (ks:=[u,b]) (.inr (.inr rfl)) hb t0 hN hc hB (by simp) (by simp [hub]) (by omega)
theorem Anr {a:Int} {t u b:R} (ht:TmP t) (htb:t.nb=0) (hu:TmP u) (hub:u.nb=0) (hb:Pm b):ClP (Ar ⟨36,[],1,wr 3,a⟩ [t,u,b]):=by
 have e:∀d,kyK ((Ar ⟨36,[],1,wr 3,a⟩ [t,u,b]).st d)=kyV B1::((kyV D9::(kyK t.tm++[kyV D8]))++((kyV Ea::kyK u.tm)++(kyV sLB::(kyK (b.st (d+1))++[kyV sRB])))):=fun d=>by
  show kyK (Bi d ((.tk B1::sps::.tk D9::sps::(t.tm++[.tk D8,sps]))++(.tk Ea::sps::u.tm)) b)=_
  rw [H6,Bf]
  show((kyV B1::kyV D9::kyK (t.tm++[.tk D8,sps]))++_)++_=_
  rw [Bf];simp [kyK,sps]
 refine⟨fun d=>⟨B1,_,e d,by decide⟩,fun {toks p} k d hs=> ?_⟩
 have hl:ln ((Ar ⟨36,[],1,wr 3,a⟩ [t,u,b]).st d)=(ln t.tm+2)+(1+ln u.tm+(ln (b.st (d+1))+2))+1:=by unfold ln;rw [e];simp;omega
 rw [hl];rw [e]at hs
 obtain⟨t0,hs⟩:=Al hs
 obtain⟨h0,hs⟩:=Mi hs (n:=ln t.tm+2) (by unfold ln;simp)
 obtain⟨h1,hB⟩:=Mi hs (n:=1+ln u.tm) (by unfold ln;simp;omega)
 obtain⟨hw,hN⟩:=V5 t0 ht h0
 have hB:Ks toks (p+1+(ln t.tm+2)+(1+ln u.tm)) (kyV sLB::(kyK (b.st (d+1))++[kyV sRB])):=hB
 have hc:=Acy hw hu h1 (by rw [show p+1+(ln t.tm+2)+1+ln u.tm=p+1+(ln t.tm+2)+(1+ln u.tm) by omega];exact Kh (Al hB).1 (by decide))
 exact Rb (d:=d) (ks:=[t,u,b]) (.inr (.inr rfl)) hb t0 hN hc hB (by simp) (by simp [hub,htb,and_assoc]) (by omega)
theorem Au9 {ks:List R} (hk:∀r∈ks,ClP r) (k d:Nat) (h:St ok L j p c) (hs:Ks toks p (kyK (Br d ks)++[kyV sRB])):
 Kt toks (p+ln (Br d ks))=kyV sRB/\St (ok/\∀r∈ks,r.nd<=24/\r.nb<=k) (L++(ks.flatMap R.fl).map erG) (j+ks.length) (p+ln (Br d ks)) (Fw (fun c=>decide (c.e_=0)&& !isF toks c.at_ sRB) (fun c=>Ga c (E7 TM toks (E0 TM toks k) c.at_)) (fuel toks) c):=by
 have hlen:ks.length<fuel toks:=by
  have h1:=Ut hs
  have h2:=Mw (d:=d) (l:=ks) fun r hr=>by
   obtain⟨v,l,e,_⟩:=(hk r hr).beg d
   exact Aku e
  unfold ln at h2
  rw [List.length_append,List.length_map]at h1
  unfold fuel;omega
 obtain⟨p',e1,e2,e3⟩:=Ra (g:=fun c=>decide (c.e_=0)&& !isF toks c.at_ sRB) (b:=fun c=>Ga c (E7 TM toks (E0 TM toks k) c.at_))
  (fun r:R=>r.fl.map erG) (fun r=>ln (r.st d)) (fun r=>r.nd<=24/\r.nb<=k) (fun p l=>(∀r∈l,ClP r)/\Ks toks p (kyK (Br d l)++[kyV sRB]))
  (fun ok L j p c h hs=>by
   by_cases o:ok
   ·obtain⟨h1,_,_,h4⟩:=h.1 o
    have:isF toks (p:Int) sRB=true:=Bn (Al hs.2).1 (.inr (by decide))
    rw [h4,this];simp
   ·rw [h.2 o];simp)
  (fun c hc=>by simp [hc])
  (fun ok L j p c r l h hs=>by
   obtain⟨hq,hs⟩:=hs
   rw [Mv,List.append_assoc]at hs
   obtain⟨v,m,e,hv⟩:=(hq r (by simp)).beg d
   obtain⟨s1,s2⟩:=C2 hs
   have hg:isF toks (p:Int) sRB=false:=by
    rw [e]at s1
    exact Jj (Al s1).1 hv
   refine⟨fun o=> ?_,?_,fun r hr=>hq r (by simp [hr]),s2⟩
   ·obtain⟨h1,_,_,h4⟩:=h.1 o
    rw [h1,h4,hg];rfl
   ·refine O2 (k':=1) h fun o=> ?_
    rw [(h.1 o).2.2.2]
    exact(hq r (by simp)).par k d s1)
  ks (fuel toks) ok L j p c hlen h ⟨hk,hs⟩
 rw [←Alz]at e1
 subst e1
 refine⟨(Al e2.2).1,e3.eq ?_ rfl⟩
 rw [List.map_flatMap]
theorem Ans {n:Nat} {a:Int} {ks:List R} (hlen:ks.length=n) (h1n:1<=n) (hk:∀r∈ks,ClP r):StP (Ar ⟨25,[],0,wr n,a⟩ ks):=by
 have e:∀d,kyK ((Ar ⟨25,[],0,wr n,a⟩ ks).st d)=kyV Ej::kyV sLB::(kyK (Br (d+1) ks)++[kyV sRB]):=fun d=>by
  show kyK (line d [.tk Ej,sps,.tk sLB]++(Br (d+1) ks++line d [.tk sRB]))=_
  rw [Bf,Dw,Bf,Dw];rfl
 refine⟨fun d=>⟨Ej,_,e d,by decide,by decide⟩,fun {toks p} k d hs _=> ?_⟩
 have hl:ln ((Ar ⟨25,[],0,wr n,a⟩ ks).st d)=ln (Br (d+1) ks)+3:=by unfold ln;rw [e];simp
 rw [hl];rw [e]at hs
 obtain⟨t0,hs⟩:=Al hs
 obtain⟨t1,hs⟩:=Al hs
 obtain⟨w1,w2⟩:=Mx t0 (by decide)
 have ew:Bj TM toks (E0 TM toks k) p=Dc (Bb toks sRB (Aoy TM toks (E0 TM toks k) (Bb toks sLB (Bb toks Ej (A7 p))))) (nd toks 25 [] 0 p):=by unfold Bj;rw [w2];rfl
 rw [Jk w1,ew]
 have h1:=Bs (Cp p) (Bn t0 (.inl (by decide)))
 have h2:=Bs h1 (Bn t1 (.inr (by decide)))
 unfold Aoy
 cases ks with
 |nil=>simp at hlen;omega
 |cons r l=>
  rw [Mv,List.append_assoc]at hs
  obtain⟨s1,s2⟩:=Mi hs (n:=ln (r.st (d+1))) rfl
  have h3:=O2 (k':=1) h2 (ok':=r.nd<=24/\r.nb<=k) (L':=r.fl.map erG) (p':=p+1+1+ln (r.st (d+1))) (d:=E7 TM toks (E0 TM toks k) (Bb toks sLB (Bb toks Ej (A7 p))).at_) fun o=>by
   rw [(h2.1 o).2.2.2]
   exact(hk r (by simp)).par k (d+1) s1
  obtain⟨t2,h4⟩:=Au9 (fun r hr=>hk r (by simp [hr])) k (d+1) h3 s2
  have h5:=Bs h4 (Bn t2 (.inr (by decide)))
  have h6:=C5 (o:=25) (s:=[]) (n:=0) (x:=nd toks 25 [] 0 p) h5 fun _=>⟨rfl,rfl,rfl⟩
  have el:ln (Br (d+1) (r::l))=ln (r.st (d+1))+ln (Br (d+1) l):=by unfold ln;rw [Mv,List.length_append]
  refine Gz (x:=⟨25,[],0,wr n,a⟩) (ks:=r::l) (show(18:Int)<=25/\(25:Int)≠32 by decide) h6 ?_ (by simp) (by simp) (by omega)
  rw [show 0+1+l.length=n by rw [←hlen,List.length_cons];omega]
end
end Go.Proofs.YtcakelelfklhdaaGreatDoor
namespace Go.Proofs.YtcakelelfklhdaaGreatDoor
open Go.Vc Go.Lv Go.Ty Go.Tk Go.Tm
section
variable {toks:List Au} {ok:Prop} {L:List Er} {j p q:Nat} {c:Cur}
theorem Asz {n:Int} (h:St ok L j p c) (t:Kt toks p=kyV (Lf n)) (h1:1<=n) (h2:n<=16):St ok L j (p+1) (R6 toks c)/\(ok->Acn toks c=n):=by
 have hN:=V1 (n:=n) (by omega) (by omega)
 obtain⟨k1,_,k3⟩:=Hv t
 rw [hN.kd]at k1
 rw [hN.nv]at k3
 have e:ok->R6 toks c=⟨c.l,c.n,c.at_+1,0⟩:=fun o=>by
  obtain⟨q1,q2,q3,q4⟩:=h.1 o
  unfold R6
  rw [if_pos q1,q4,if_pos k1,if_neg (by rw [k3];omega)]
 refine⟨⟨fun o=> ?_,fun o=> ?_⟩,fun o=> ?_⟩
 ·obtain⟨q1,q2,q3,q4⟩:=h.1 o
  rw [e o]
  exact⟨rfl,q2,q3,by dsimp only;omega⟩
 ·have:=h.2 o
  unfold R6
  rw [if_neg (by rw [this];decide)];exact this
 ·unfold Acn
  rw [e o,if_pos rfl,(h.1 o).2.2.2,k3]
theorem Ant {s:Str} {a:Int} (hn:Tk.Be s=true):Afq (Ar ⟨38,s,0,0,a⟩ []):=by
 have e:kyK ((Ar ⟨38,s,0,0,a⟩ []).st 0)=[kyV Gf,kyV s,kyV Av]:=by
  show kyK (line 0 (.tk Gf::sps::.tk s::[.tk Av]))=_
  rw [Dw];rfl
 refine⟨⟨Gf,_,e,by decide⟩,fun {toks p} hs=> ?_⟩
 have hl:ln ((Ar ⟨38,s,0,0,a⟩ []).st 0)=3:=by unfold ln;rw [e];rfl
 rw [hl];rw [e]at hs
 obtain⟨t0,hs⟩:=Al hs
 obtain⟨t1,hs⟩:=Al hs
 have t2:=(Al hs).1
 have h1:=Bs (Cp p) (Bn t0 (.inl (by decide)))
 have h2:=J8 h1 (Dr t1 hn)
 have hb:Ew toks sLS (Eg toks (Bb toks Gf (A7 p)))=false:=(Hz h2 trivial).trans (Jj t2 (by decide))
 unfold O8
 rw [if_pos (Bn t0 (.inl (by decide)))]
 unfold Qo Aco
 rw [hb,if_neg (by simp),if_neg (by simp)]
 have h3:=Bs h2 (Bn t2 (.inr (by decide)))
 have h6:=C5 (o:=38) (s:=s) (n:=0) (x:=nd toks 38 (Be toks (Bb toks Gf (A7 p))) 0 p) h3 fun _=>⟨rfl,(Ho h1 (Dr t1 hn) trivial).trans (Hv t1).2.1,rfl⟩
 exact Gz (x:=⟨38,s,0,0,a⟩) (ks:=[]) (show(18:Int)<=38/\(38:Int)≠32 by decide) h6 Ap4 (by simp) (by simp) (by omega)
theorem Anu {s:Str} {n a:Int} (hn:Tk.Be s=true) (h1n:1<=n) (h2n:n<=16):Afq (Ar ⟨38,s,n,0,a⟩ []):=by
 have e:kyK ((Ar ⟨38,s,n,0,a⟩ []).st 0)=[kyV Gf,kyV s,kyV sLS,kyV (Lf n),kyV sRS,kyV Av]:=by
  show kyK (line 0 (.tk Gf::sps::.tk s::(if 0<n then [.tk sLS,.tk (Lf n),.tk sRS,.tk Av]else [.tk Av])))=_
  rw [Dw,if_pos (by omega)];rfl
 refine⟨⟨Gf,_,e,by decide⟩,fun {toks p} hs=> ?_⟩
 have hl:ln ((Ar ⟨38,s,n,0,a⟩ []).st 0)=6:=by unfold ln;rw [e];rfl
 rw [hl];rw [e]at hs
 obtain⟨t0,hs⟩:=Al hs
 obtain⟨t1,hs⟩:=Al hs
 obtain⟨t2,hs⟩:=Al hs
 obtain⟨t3,hs⟩:=Al hs
 obtain⟨t4,hs⟩:=Al hs
 have t5:=(Al hs).1
 have h1:=Bs (Cp p) (Bn t0 (.inl (by decide)))
 have h2:=J8 h1 (Dr t1 hn)
 have hb:Ew toks sLS (Eg toks (Bb toks Gf (A7 p)))=true:=(Hz h2 trivial).trans (Bn t2 (.inr (by decide)))
 have h3:=Bs h2 (Bn t2 (.inr (by decide)))
 obtain⟨h4,hz⟩:=Asz h3 t3 h1n h2n
 have h5:=Bs h4 (Bn t4 (.inr (by decide)))
 unfold O8
 rw [if_pos (Bn t0 (.inl (by decide)))]
 unfold Qo Aco
 rw [hb,if_pos rfl,if_pos rfl]
 have h6:=Bs h5 (Bn t5 (.inr (by decide)))
 have h7:=C5 (o:=38) (s:=s) (n:=n) (x:=nd toks 38 (Be toks (Bb toks Gf (A7 p))) (Acn toks (Bb toks sLS (Eg toks (Bb toks Gf (A7 p))))) p) h6 fun _=>⟨rfl,(Ho h1 (Dr t1 hn) trivial).trans (Hv t1).2.1,hz trivial⟩
 exact Gz (x:=⟨38,s,n,0,a⟩) (ks:=[]) (show(18:Int)<=38/\(38:Int)≠32 by decide) h7 Ap4 (by simp) (by simp) (by omega)
theorem Aql {a:Int} {r:R} (hr:Pm r):Afq (Ar ⟨41,[],0,1,a⟩ [r]):=by
 have e:kyK ((Ar ⟨41,[],0,1,a⟩ [r]).st 0)=kyV Ny::(kyV sLB::(kyK (r.st (0+1))++[kyV sRB])):=by
  show kyK (Bi 0 [.tk Ny] r)=_
  rw [H6];rfl
 refine⟨⟨Ny,_,e,by decide⟩,fun {toks p} hs=> ?_⟩
 have hl:ln ((Ar ⟨41,[],0,1,a⟩ [r]).st 0)=ln (r.st (0+1))+2+1:=by unfold ln;rw [e];simp
 rw [hl];rw [e]at hs
 obtain⟨t0,hs⟩:=Al hs
 have h1:=Bs (Cp p) (Bn t0 (.inl (by decide)))
 have h2:=Ws 24 (0+1) h1 hr hs
 unfold O8
 rw [if_neg (by rw [Jj t0 (by decide)];simp),if_neg (by rw [Jj t0 (by decide)];simp)]
 have h6:=C5 (o:=41) (s:=[]) (n:=0) (x:=nd toks 41 [] 0 p) h2 fun _=>⟨rfl,rfl,rfl⟩
 exact Gz (x:=⟨41,[],0,1,a⟩) (ks:=[r]) (show(18:Int)<=41/\(41:Int)≠32 by decide) h6 Aks (by simp) (by simp) (by omega)
theorem Ai2 {r:R} {s:Str} (h:St ok L j p c) (hn:Tk.Be s=true) (hf:r.fl.map erG=[(39,s,0,0)]) (t:Kt toks p=kyV s):St ok (L++r.fl.map erG) (j+1) (p+1) (Jz toks c):=by
 unfold Jz
 have:=O2 (k':=1) h (ok':=True) (L':=r.fl.map erG) (p':=p+1) (d:=Dc (Eg toks (A7 c.at_)) (nd toks 39 (Be toks (A7 c.at_)) 0 c.at_)) fun o=>by
  rw [(h.1 o).2.2.2,hf]
  have h1:=J8 (Cp p) (Dr t hn)
  exact C5 (o:=39) (s:=s) (n:=0) h1 fun _=>⟨rfl,(Ho (Cp p) (Dr t hn) trivial).trans (Hv t).2.1,rfl⟩
 exact this.iff (by simp)
theorem Anv {ks:List R} (hk:∀r∈ks,Ap9 r) (h:St ok L j p c) (hs:Ks toks p (Jn ks++[kyV sRP])):
 Kt toks (p+(Jn ks).length)=kyV sRP/\St ok (L++(ks.flatMap R.fl).map erG) (j+ks.length) (p+(Jn ks).length) (Fw (Ew toks B2) (fun c=>Jz toks (Bb toks B2 c)) (fuel toks) c):=by
 have hlen:ks.length<fuel toks:=by
  have h1:=Ut hs
  have h2:=Al0 ks
  rw [List.length_append,List.length_map]at h1
  unfold fuel;omega
 have hN:∀r∈ks,ln r.tm=1:=fun r hr=>by
  obtain⟨s,e,_⟩:=(hk r hr).ex
  rw [e];rfl
 obtain⟨p',e1,e2,e3⟩:=Ra (g:=Ew toks B2) (b:=fun c=>Jz toks (Bb toks B2 c))
  (fun r:R=>r.fl.map erG) (fun r=>1+ln r.tm) (fun _=>True) (fun p l=>(∀r∈l,Ap9 r)/\Ks toks p (Jn l++[kyV sRP]))
  (fun ok L j p c h hs=>by
   by_cases o:ok
   ·rw [Hz h o];exact Jj (Al hs.2).1 (by decide)
   ·exact Mu h o)
  (fun c hc=>by unfold Ew;rw [hc];rfl)
  (fun ok L j p c r l h hs=>by
   obtain⟨hq,hs⟩:=hs
   obtain⟨s,es,hn,hf⟩:=(hq r (by simp)).ex
   have hs:Ks toks p (kyV B2::kyV s::(Jn l++[kyV sRP])):=by
    have:Jn (r::l)=kyV B2::(kyK r.tm++Jn l):=rfl
    rw [this,es]at hs;exact hs
   obtain⟨t0,hs⟩:=Al hs
   obtain⟨t1,hs⟩:=Al hs
   refine⟨fun o=>by rw [Hz h o];exact Bn t0 (.inr (by decide)),?_,fun r hr=>hq r (by simp [hr]),?_⟩
   ·have:=Ai2 (r:=r) (Bs h (Bn t0 (.inr (by decide)))) hn hf t1
    exact(this.eq rfl (by rw [es];rfl)).iff (by simp)
   ·rw [es];exact hs)
  ks (fuel toks) ok L j p c hlen h ⟨hk,hs⟩
 rw [←Al1]at e1
 subst e1
 refine⟨(Al e2.2).1,(e3.eq ?_ rfl).iff (by simp)⟩
 rw [List.map_flatMap]
theorem Aqm {s:Str} {n:Nat} {a:Int} {ps:List R} {r:R} (hn:Tk.Be s=true) (hlen:ps.length=n) (hk:∀r∈ps,Ap9 r) (hr:Pm r):Afq (Ar ⟨40,s,0,wr (n+1),a⟩ (ps++[r])):=by
 have est:(Ar ⟨40,s,0,wr (n+1),a⟩ (ps++[r])).st 0=Bi 0 (.tk Hk::sps::.tk s::.tk sLP::(Bx (ps.map R.tm)++[.tk sRP])) r:=by
  show stN ⟨40,s,0,wr (n+1),a⟩ (ps++[r]) 0=_
  unfold stN
  simp [kd]
 have e:kyK ((Ar ⟨40,s,0,wr (n+1),a⟩ (ps++[r])).st 0)=kyV Hk::kyV s::kyV sLP::((kyK (Bx (ps.map R.tm))++[kyV sRP])++(kyV sLB::(kyK (r.st (0+1))++[kyV sRB]))):=by
  rw [est,H6]
  show(_::_::_::kyK (Bx (ps.map R.tm)++[.tk sRP]))++_=_
  rw [Bf];rfl
 refine⟨⟨Hk,_,e,by decide⟩,fun {toks p} hs=> ?_⟩
 have hl:ln ((Ar ⟨40,s,0,wr (n+1),a⟩ (ps++[r])).st 0)=ln (Bx (ps.map R.tm))+1+(ln (r.st (0+1))+2)+3:=by unfold ln;rw [e];simp;omega
 rw [hl];rw [e]at hs
 obtain⟨t0,hs⟩:=Al hs
 obtain⟨t1,hs⟩:=Al hs
 obtain⟨t2,hs⟩:=Al hs
 obtain⟨hs,hB⟩:=Mi hs (n:=ln (Bx (ps.map R.tm))+1) (by unfold ln;simp)
 have h1:=Bs (Cp p) (Bn t0 (.inl (by decide)))
 have h2:=J8 h1 (Dr t1 hn)
 have h3:=Bs h2 (Bn t2 (.inr (by decide)))
 have hA:Kt toks (p+1+1+1+ln (Bx (ps.map R.tm)))=kyV sRP/\St True ([]++(ps.flatMap R.fl).map erG) ps.length (p+1+1+1+ln (Bx (ps.map R.tm))) (Qp toks (Bb toks sLP (Eg toks (Bb toks Hk (A7 p))))):=by
  obtain⟨q1,q2,q3,q4⟩:=h3.1 trivial
  unfold Qp
  rw [q1,q4]
  cases ps with
  |nil=>
   have t3:=(Al (k:=kyV sRP) (a:=[]) hs).1
   rw [Bn t3 (.inr (by decide)),if_neg (by simp)]
   exact⟨t3,h3⟩
  |cons b l=>
   rw [N4,List.append_assoc]at hs
   obtain⟨sb,eb,hnb,hfb⟩:=(hk b (by simp)).ex
   rw [eb]at hs
   obtain⟨t3,hs⟩:=Al (k:=kyV sb) (a:=Jn l++[kyV sRP]) hs
   rw [Akv t3 (E8 hnb).2,if_pos (by simp)]
   have h4:=Ai2 (r:=b) h3 hnb hfb t3
   obtain⟨t4,h5⟩:=Anv (fun r hr=>hk r (by simp [hr])) h4 hs
   have el:ln (Bx ((b::l).map R.tm))=1+(Jn l).length:=by unfold ln;rw [N4,eb];simp [kyK];omega
   rw [el,show p+1+1+1+(1+(Jn l).length)=p+1+1+1+1+(Jn l).length by omega]
   refine⟨t4,?_⟩
   rw [show(b::l).length=0+1+l.length by simp;omega]
   exact h5.eq (by simp) rfl
 have h5:=Bs hA.2 (Bn hA.1 (.inr (by decide)))
 have h6:=Ws 24 (0+1) h5 hr hB
 unfold O8
 rw [if_neg (by rw [Jj t0 (by decide)];simp),if_pos (Bn t0 (.inl (by decide)))]
 have h7:=C5 (o:=40) (s:=s) (n:=0) (x:=nd toks 40 (Be toks (Bb toks Hk (A7 p))) 0 p) h6 fun _=>⟨rfl,(Ho h1 (Dr t1 hn) trivial).trans (Hv t1).2.1,rfl⟩
 refine Gz (x:=⟨40,s,0,wr (n+1),a⟩) (ks:=ps++[r]) (show(18:Int)<=40/\(40:Int)≠32 by decide) h7 (by rw [hlen]) (by simp) ?_ (by omega)
 refine⟨fun h x hx=> ?_,fun h=>⟨trivial,h r (by simp)⟩⟩
 rcases List.mem_append.1 hx with hx|hx
 ·rw [(hk x hx).nd,(hk x hx).nb];exact⟨Nat.zero_le _,Nat.zero_le _⟩
 ·have:x=r:=by simpa using hx
  rw [this];exact h.2
theorem Al2 {r:R} (h:TmP r/\r.nb=0):PQ 69 r:=⟨fun _=>h,fun e=>absurd e (by decide),fun e=>absurd e (by decide),fun e=>absurd e (by decide),fun e=>absurd e (by decide),fun e=>absurd e (by decide),fun e=>absurd e (by decide)⟩
theorem Aqn {r:R} (h:Rt r):PQ 82 r:=⟨fun e=>absurd e (by decide),fun _=>h,fun e=>absurd e (by decide),fun e=>absurd e (by decide),fun e=>absurd e (by decide),fun e=>absurd e (by decide),fun e=>absurd e (by decide)⟩
theorem Ava {r:R} (h:Ap9 r):PQ 80 r:=⟨fun e=>absurd e (by decide),fun e=>absurd e (by decide),fun _=>h,fun e=>absurd e (by decide),fun e=>absurd e (by decide),fun e=>absurd e (by decide),fun e=>absurd e (by decide)⟩
theorem O9 {r:R} (h:StP r):PQ 83 r:=⟨fun e=>absurd e (by decide),fun e=>absurd e (by decide),fun e=>absurd e (by decide),fun _=>h,fun e=>absurd e (by decide),fun e=>absurd e (by decide),fun e=>absurd e (by decide)⟩
theorem Avb {r:R} (h:Pm r):PQ 66 r:=⟨fun e=>absurd e (by decide),fun e=>absurd e (by decide),fun e=>absurd e (by decide),fun e=>absurd e (by decide),fun _=>h,fun e=>absurd e (by decide),fun e=>absurd e (by decide)⟩
theorem Z8 {r:R} (h:ClP r):PQ 67 r:=⟨fun e=>absurd e (by decide),fun e=>absurd e (by decide),fun e=>absurd e (by decide),fun e=>absurd e (by decide),fun e=>absurd e (by decide),fun _=>h,fun e=>absurd e (by decide)⟩
theorem Afu {r:R} (h:Afq r):PQ 68 r:=⟨fun e=>absurd e (by decide),fun e=>absurd e (by decide),fun e=>absurd e (by decide),fun e=>absurd e (by decide),fun e=>absurd e (by decide),fun e=>absurd e (by decide),fun _=>h⟩
structure PB (c:UInt8) (r:R):Prop where
 q:PQ c r
 b:c=69->Afs r.tm
theorem Al3 {x:Ai} {ks:List R} (h:x.op≠32) (hk:∀k∈ks,k.nb=0):(Ar x ks).nb=0:=by
 have:=(Ta (x:=x) (ks:=ks) h (n:=0)).2 fun k hk'=>Nat.le_of_eq (hk k hk')
 omega
theorem As0 (c:UInt8) (x:Ai) (ds:List UInt8) (ks:List R) (h:OkN c x ds) (hk:F2 PB ds ks):PB c (Ar x ks):=by
 have hb:F2 Au3 ds ks:=by
  clear h
  induction ds generalizing ks with
  |nil=>cases ks with
   |nil=>trivial
   |cons=>exact hk
  |cons d ds ih=>cases ks with
   |nil=>exact hk
   |cons k ks=>exact⟨hk.1.b,ih ks hk.2⟩
 refine⟨?_,Anp c x ds ks h hb⟩
 cases h with
 |num n a h0 h1=>exact Al2 ⟨Auz h0 h1 ks hk.nil,Al3 (show(1:Int)≠32 by decide) (by rw [hk.nil];simp)⟩
 |name s a hn=>exact Al2 ⟨Aso hn ks hk.nil,Al3 (show(2:Int)≠32 by decide) (by rw [hk.nil];simp)⟩
 |un op a ho=>
  obtain⟨k,rfl,hq⟩:=hk.one
  exact Al2 ⟨Awb ho (hq.q.tm rfl).1,Al3 (show op≠32 by omega) (by simp [(hq.q.tm rfl).2])⟩
 |bin op a h5 h17=>
  obtain⟨k,k',rfl,hq,hq'⟩:=hk.two
  exact Al2 ⟨Au0 h5 h17 (hq.q.tm rfl).1 (hq'.q.tm rfl).1,Al3 (show op≠32 by omega) (by simp [(hq.q.tm rfl).2,(hq'.q.tm rfl).2])⟩
 |set op s a ho hn=>
  obtain⟨k,rfl,hq⟩:=hk.one
  obtain⟨ht,hb'⟩:=hq.q.tm rfl
  rcases ho with rfl|rfl|rfl
  ·exact O9 (Au4 hn ht hb')
  ·exact O9 (Au5 hn ht (hq.b rfl) hb')
  ·exact O9 (Ass hn ht hb')
 |send a=>
  obtain⟨k,k',rfl,hq,hq'⟩:=hk.two
  exact O9 (Ast (hq.q.ref rfl) (hq'.q.tm rfl).1 (hq'.q.tm rfl).2)
 |recv s a hn=>
  obtain⟨k,rfl,hq⟩:=hk.one
  exact O9 (Asu hn (hq.q.ref rfl))
 |if2 a=>
  obtain⟨k,k',rfl,hq,hq'⟩:=hk.two
  exact O9 (Au7 (hq.q.tm rfl).1 (hq.q.tm rfl).2 (hq'.q.blk rfl))
 |if3 a=>
  obtain⟨k,k',k'',rfl,hq,hq',Azl⟩:=hk.three
  exact O9 (Au8 (hq.q.tm rfl).1 (hq.q.tm rfl).2 (hq'.q.blk rfl) (Azl.q.blk rfl))
 |Bfz a=>
  obtain⟨k,k',rfl,hq,hq'⟩:=hk.two
  exact O9 (Aqe (hq.q.tm rfl).1 (hq.q.tm rfl).2 (hq'.q.blk rfl))
 |sel k a h1=>exact O9 (Ans hk.rep.1 h1 fun r hr=>(hk.rep.2 r hr).q.cl rfl)
 |start s k a hn=>exact O9 (Aqf hn hk.rep.1 fun r hr=>⟨((hk.rep.2 r hr).q.tm rfl).1,((hk.rep.2 r hr).q.tm rfl).2,(hk.rep.2 r hr).b rfl⟩)
 |one op a ho=>
  obtain⟨k,rfl,hq⟩:=hk.one
  refine O9 (Au6 (w:=if op=27 then Km else if op=28 then Kn else Hr) ?_ (hq.q.tm rfl).1 (hq.q.tm rfl).2)
  rcases ho with rfl|rfl|rfl<;>simp
 |none op a ho=>
  have:=hk.nil
  subst this
  refine O9 (Asv (w:=if op=30 then Nw else Nx) ?_)
  rcases ho with rfl|rfl<;>simp
 |els a=>
  obtain⟨k,rfl,hq⟩:=hk.one
  exact Z8 (Asy (hq.q.blk rfl))
 |clause op s a w ds' ho=>
  cases w with
  |false=>
   rcases ho with⟨rfl,hn,rfl⟩|⟨rfl,rfl,rfl⟩|⟨rfl,rfl,rfl⟩
   ·obtain⟨k,k',rfl,hq,hq'⟩:=F2.two (a:=82) (a':=66) hk
    exact Z8 (Aqh hn (hq.q.ref rfl) (hq'.q.blk rfl))
   ·obtain⟨k,k',k'',rfl,hq,hq',Azl⟩:=F2.three (a:=82) (a':=69) (a'':=66) hk
    exact Z8 (Aqj (hq.q.ref rfl) (hq'.q.tm rfl).1 (hq'.q.tm rfl).2 (Azl.q.blk rfl))
   ·obtain⟨k,k',rfl,hq,hq'⟩:=F2.two (a:=69) (a':=66) hk
    exact Z8 (Anq (hq.q.tm rfl).1 (hq.q.tm rfl).2 (hq'.q.blk rfl))
  |true=>
   rcases ho with⟨rfl,hn,rfl⟩|⟨rfl,rfl,rfl⟩|⟨rfl,rfl,rfl⟩
   ·obtain⟨k0,k,k',rfl,hq0,hq,hq'⟩:=F2.three (a:=69) (a':=82) (a'':=66) hk
    exact Z8 (Aqi (hq0.q.tm rfl).1 (hq0.q.tm rfl).2 hn (hq.q.ref rfl) (hq'.q.blk rfl))
   ·obtain⟨l1,l2,rfl,h1,h2⟩:=F2.split (l:=[69]) (l':=[82,69,66]) hk
    obtain⟨k0,rfl,hq0⟩:=h1.one
    obtain⟨k,k',k'',rfl,hq,hq',Azl⟩:=h2.three
    exact Z8 (Aqk (hq0.q.tm rfl).1 (hq0.q.tm rfl).2 (hq.q.ref rfl) (hq'.q.tm rfl).1 (hq'.q.tm rfl).2 (Azl.q.blk rfl))
   ·obtain⟨k0,k,k',rfl,hq0,hq,hq'⟩:=F2.three (a:=69) (a':=69) (a'':=66) hk
    exact Z8 (Anr (hq0.q.tm rfl).1 (hq0.q.tm rfl).2 (hq.q.tm rfl).1 (hq.q.tm rfl).2 (hq'.q.blk rfl))
 |Bc9 s a hn=>
  cases hk.nil
  exact Aqn (Au1 hn)
 |Bda s a hn=>
  obtain⟨k,rfl,hq⟩:=hk.one
  exact Aqn (Au2 hn (hq.q.tm rfl).1 (hq.q.tm rfl).2)
 |block k a=>exact Avb (Aqa hk.rep.1 fun r hr=>(hk.rep.2 r hr).q.st rfl)
 |param s a hn=>
  cases hk.nil
  exact Ava ⟨rfl,rfl,s,rfl,hn,rfl⟩
 |unit k a=>exact⟨fun e=>absurd e (by decide),fun e=>absurd e (by decide),fun e=>absurd e (by decide),fun e=>absurd e (by decide),fun e=>absurd e (by decide),fun e=>absurd e (by decide),fun e=>absurd e (by decide)⟩
 |chan s n a hn h0 h1=>
  cases hk.nil
  by_cases h:n=0
  ·subst h;exact Afu (Ant hn)
  ·exact Afu (Anu hn (by omega) h1)
 |main a=>
  obtain⟨k,rfl,hq⟩:=hk.one
  exact Afu (Aql (hq.q.blk rfl))
 |proc s k a hn=>
  obtain⟨ps,bs,rfl,h1,h2⟩:=hk.split
  obtain⟨b,rfl,hq⟩:=h2.one
  exact Afu (Aqm hn h1.rep.1 (fun r hr=>(h1.rep.2 r hr).q.prm rfl) (hq.q.blk rfl))
theorem Akw {ks:List R} (hk:∀r∈ks,Afq r) (hs:Ks toks 0 (kyK (Br 0 ks)++[((0:Int),([]:Str),(0:Int))])):
 ((∀r∈ks,r.nd<=24/\r.nb<=24)->(G5 TM toks).e_=0/\(G5 TM toks).l.map erG=(42,[],0,wr ks.length)::(ks.flatMap R.fl).map erG)/\(¬(∀r∈ks,r.nd<=24/\r.nb<=24)->(G5 TM toks).e_=5):=by
 have hlen:ks.length<fuel toks:=by
  have h1:=Ut hs
  have h2:=Mw (d:=0) (l:=ks) fun r hr=>by
   obtain⟨v,l,e,_⟩:=(hk r hr).beg
   exact Aku e
  unfold ln at h2
  rw [List.length_append,List.length_map]at h1
  unfold fuel;omega
 obtain⟨p',e1,e2,e3⟩:=Ra (g:=fun c=>decide (c.e_=0)&& !decide ((Cc toks c.at_).kind=0)) (b:=fun c=>Ga c (O8 TM toks c.at_))
  (fun r:R=>r.fl.map erG) (fun r=>ln (r.st 0)) (fun r=>r.nd<=24/\r.nb<=24) (fun p l=>(∀r∈l,Afq r)/\Ks toks p (kyK (Br 0 l)++[((0:Int),([]:Str),(0:Int))]))
  (fun ok L j p c h hs=>by
   by_cases o:ok
   ·obtain⟨h1,_,_,h4⟩:=h.1 o
    have h5:kyT (T (toks.map tT) p)=((0:Int),([]:Str),(0:Int)):=(Al hs.2).1
    have:(Cc toks (p:Int)).kind=0:=by rw [Ap5];exact congrArg (·.1) h5
    rw [h4,this];simp
   ·rw [h.2 o];simp)
  (fun c hc=>by simp [hc])
  (fun ok L j p c r l h hs=>by
   obtain⟨hq,hs⟩:=hs
   rw [Mv,List.append_assoc]at hs
   obtain⟨v,m,e,hv⟩:=(hq r (by simp)).beg
   obtain⟨s1,s2⟩:=C2 hs
   have hg:(Cc toks (p:Int)).kind=3:=by
    rw [e]at s1
    exact(Hv (Al s1).1).1.trans hv
   refine⟨fun o=> ?_,?_,fun r hr=>hq r (by simp [hr]),s2⟩
   ·obtain⟨h1,_,_,h4⟩:=h.1 o
    rw [h1,h4,hg];rfl
   ·refine O2 (k':=1) h fun o=> ?_
    rw [(h.1 o).2.2.2]
    exact(hq r (by simp)).par s1)
  ks (fuel toks) True [] 0 0 (A7 0) hlen (Cp 0) ⟨hk,hs⟩
 have e3:St (True/\∀r∈ks,r.nd<=24/\r.nb<=24) ([]++(ks.flatMap R.fl).map erG) (0+ks.length) p' (Uj TM toks):=e3.eq (by rw [List.map_flatMap]) rfl
 refine⟨fun o=> ?_,fun o=> ?_⟩
 ·obtain⟨h1,h2,h3,h4⟩:=e3.1 ⟨trivial,o⟩
  unfold G5
  rw [if_neg (by rw [h1];simp)]
  refine⟨rfl,?_⟩
  show erG ⟨42,[],0,(Uj TM toks).n,0⟩::(Uj TM toks).l.map erG=_
  rw [h2,h3,Nat.zero_add];rfl
 ·have h:=e3.2 fun h=>o h.2
  unfold G5
  rw [if_pos (by rw [h];decide)];exact h
end
end Go.Proofs.YtcakelelfklhdaaGreatDoor
namespace Go.Proofs.YtcakelelfklhdaaGreatDoor
open Go.Vc Go.Lv Go.Ty Go.Tk Go.Tm
def Tb (f:Fo):R:=(Lg f).getD 0 R0
def Pa (f:Fo):Str:=tx ((Tb f).st 0)
def okF (f:Fo):Prop:=(Tb f).nd<=24/\(Tb f).nb<=24
theorem Afv:∀(cs:List Ck) (a:Nat),(Uq cs a).map kyT=kyK cs
 |[],_=>rfl
 | .sp _::cs,a=>Afv cs (a+1)
 | .tk v::cs,a=>by
  show kyT ⟨kdS v,v,nvS v,a⟩::(Uq cs (a+v.length)).map kyT=_
  rw [Afv];rfl
theorem Qy {f:Fo} (h:WfF [85] f):∃(k:Nat) (a:Int) (ks:List R),Lg f=[Ar ⟨42,[],0,wr k,a⟩ ks]/\ks.length=k/\(∀r∈ks,Afq r)/\(∀r∈ks,V2 68 r):=by
 cases h with
 |@cons c x ds cs a b ho ha hb=>
  have hb':b= .nil:=by cases hb;rfl
  subst hb'
  have h1:=Oy PB As0 ha
  have h2:=Asn ha
  cases ho with
  |unit k a'=>
   exact⟨k,a',Lg a,rfl,h1.rep.1,fun r hr=>(h1.rep.2 r hr).q.dcl rfl,h2.rep.2⟩
theorem Uv {f:Fo} (h:WfF [85] f):f.flat=(Tb f).fl:=by
 obtain⟨k,a,ks,e,_⟩:=Qy h
 rw [Um]
 unfold Tb
 rw [e]
 show(Ar _ ks).fl++[]=_
 rw [List.append_nil];rfl
theorem Akx {f:Fo} (h:WfF [85] f) (hl:(Pa f).length<=65536):(okF f->(Wq (Pa f)).e_=0/\(Wq (Pa f)).l.map erG=f.flat.map erG)/\(¬okF f->(Wq (Pa f)).e_=5):=by
 obtain⟨k,a,ks,e,hk,hd,hs⟩:=Qy h
 have et:Tb f=Ar ⟨42,[],0,wr k,a⟩ ks:=by unfold Tb;rw [e];rfl
 have es:Pa f=tx (Br 0 ks):=by unfold Pa;rw [et];rfl
 rw [Uv h,et]
 have hok:okF f↔∀r∈ks,r.nd<=24/\r.nb<=24:=by
  unfold okF
  rw [et,V4 (show(18:Int)<=42 by decide),Ta (show(42:Int)≠32 by decide)]
  exact⟨fun h r hr=>⟨h.1 r hr,h.2 r hr⟩,fun h=>⟨fun r hr=>(h r hr).1,fun r hr=>(h r hr).2⟩⟩
 rw [hok]
 rw [es]at hl⊢
 have Ca5:=Asb (Br 0 ks) (Qx (fun r hr=>La (by decide) (hs r hr))) hl
 have hk0:(K9 (tx (Br 0 ks))).map tT=Uq (Br 0 ks) 0++[⟨0,[],0,(tx (Br 0 ks)).length⟩]:=by
  unfold K9
  rw [Ca5,List.map_map]
  exact List.map_id' _
 have hks:Ks (K9 (tx (Br 0 ks))) 0 (kyK (Br 0 ks)++[((0:Int),([]:Str),(0:Int))]):=by
  refine⟨[],?_⟩
  rw [List.append_nil,List.drop_zero,hk0,List.map_append,Afv];rfl
 obtain⟨h1,h2⟩:=Akw hd hks
 have he:(Oo (tx (Br 0 ks))).2.2=0:=by rw [Ca5]
 refine⟨fun o=> ?_,fun o=> ?_⟩
 ·obtain⟨e1,e2⟩:=h1 o
  unfold Wq
  rw [if_neg (fun c=>c he),if_neg (fun c=>c e1)]
  refine⟨rfl,?_⟩
  rw [e2,hk];rfl
 ·have e1:=h2 o
  unfold Wq
  rw [if_neg (fun c=>c he),if_pos (by rw [e1];decide)]
  exact e1
theorem O3 {x:Ai} {ks:List R} {k:R} (hk:k∈ks):k.ht+1<=(Ar x ks).ht:=by
 show k.ht+1<=htN ks
 unfold htN
 exact(Ap8 (l:=ks.map fun k=>k.ht+1)).1 (Nat.le_refl _) _ (List.mem_map.2 ⟨k,hk,rfl⟩)
structure HtQ (c:UInt8) (r:R):Prop where
 nd:r.nd<=r.ht
 nb:r.nb<=r.ht+1
 nb':c≠66->r.nb<=r.ht
 low:c=69->1<=lv r/\(lv r<6->r.nd+1<=r.ht)
theorem Afw {r:R} (h:HtQ 69 r) (n:Nat) (hn:n<=6):E3 r n<=r.ht:=by
 unfold E3
 split
 ·rename_i hl
  have hl:lv r<n:=hl
  have:=(h.low rfl).2 (by omega)
  omega
 ·exact h.nd
theorem En {c:UInt8} {x:Ai} {ks:List R} (hx:18<=x.op) (hx2:x.op≠32) (hc:c≠69) (h:∀k∈ks,k.nd<=k.ht/\k.nb<=k.ht+1):HtQ c (Ar x ks):=by
 have h1:(Ar x ks).nd<=(Ar x ks).ht:=(V4 hx).2 fun k hk=>Nat.le_trans (h k hk).1 (Nat.le_trans (Nat.le_succ _) (O3 hk))
 have h2:(Ar x ks).nb<=(Ar x ks).ht:=(Ta hx2).2 fun k hk=>Nat.le_trans (h k hk).2 (O3 hk)
 exact⟨h1,by omega,fun _=>h2,fun e=>absurd e hc⟩
theorem Aqo {Q:UInt8->R->Prop} {P:R->Prop} (hP:∀c r,Q c r->P r):∀ {cs:List UInt8} {ks:List R},F2 Q cs ks->∀r∈ks,P r
 |[],[],_,_,h=>(by cases h)
 |c::cs,k::ks,h,r,hr=>by
  rcases List.mem_cons.1 hr with rfl|hr
  ·exact hP _ _ h.1
  ·exact Aqo hP h.2 r hr
theorem As1 (c:UInt8) (x:Ai) (ds:List UInt8) (ks:List R) (h:OkN c x ds) (hk:F2 HtQ ds ks):HtQ c (Ar x ks):=by
 have Aw4:=Aqo (P:=fun k=>k.nd<=k.ht/\k.nb<=k.ht+1) (fun c r h=>⟨h.nd,h.nb⟩) hk
 cases h with
 |num n a h0 h1=>
  have:=hk.nil
  subst this
  exact⟨Nat.le_refl _,Nat.zero_le _,fun _=>Nat.le_refl _,fun _=>⟨show 1<=B6 1 by decide,fun h=>absurd h (show¬B6 1<6 by decide)⟩⟩
 |name s a hn=>
  have:=hk.nil
  subst this
  exact⟨Nat.le_refl _,Nat.zero_le _,fun _=>Nat.le_refl _,fun _=>⟨show 1<=B6 2 by decide,fun h=>absurd h (show¬B6 2<6 by decide)⟩⟩
 |un op a ho=>
  obtain⟨k,rfl,hq⟩:=hk.one
  have hnd:(Ar ⟨op,[],0,1,a⟩ [k]).nd=E3 k 6+1:=by rcases ho with rfl|rfl<;>rfl
  have hlv:lv (Ar ⟨op,[],0,1,a⟩ [k])=6:=by rcases ho with rfl|rfl<;>rfl
  have hht:=O3 (x:=⟨op,[],0,1,a⟩) (ks:=[k]) (k:=k) (by simp)
  have h1:=Afw hq 6 (Nat.le_refl _)
  have hnb:(Ar ⟨op,[],0,1,a⟩ [k]).nb<=(Ar ⟨op,[],0,1,a⟩ [k]).ht:=(Ta (show op≠32 by omega)).2 fun k' hk'=>Nat.le_trans (Aw4 k' hk').2 (O3 hk')
  exact⟨by rw [hnd];omega,by omega,fun _=>hnb,fun _=>⟨by omega,fun h=>by omega⟩⟩
 |bin op a h5 h17=>
  obtain⟨k,k',rfl,hq,hq'⟩:=hk.two
  obtain⟨_,_,hl1,hl5⟩:=Ap1 h5 h17
  have hnd:(Ar ⟨op,[],0,2,a⟩ [k,k']).nd=max (E3 k (Cf op)) (E3 k' (B6 op+1)):=by
   show ndN ⟨op,[],0,2,a⟩ [k,k']=_
   unfold ndN
   dsimp only
   rw [if_neg (by omega),if_pos ⟨h5,h17⟩]
   rfl
  have hlv:lv (Ar ⟨op,[],0,2,a⟩ [k,k'])=B6 op:=rfl
  have hht:=O3 (x:=⟨op,[],0,2,a⟩) (ks:=[k,k']) (k:=k) (by simp)
  have Cky:=O3 (x:=⟨op,[],0,2,a⟩) (ks:=[k,k']) (k:=k') (by simp)
  have hle:Cf op<=6:=by unfold Cf;split<;>omega
  have h1:=Afw hq (Cf op) hle
  have h2:=Afw hq' (B6 op+1) (by omega)
  have hnb:(Ar ⟨op,[],0,2,a⟩ [k,k']).nb<=(Ar ⟨op,[],0,2,a⟩ [k,k']).ht:=(Ta (show op≠32 by omega)).2 fun k' hk'=>Nat.le_trans (Aw4 k' hk').2 (O3 hk')
  have hn1:(Ar ⟨op,[],0,2,a⟩ [k,k']).nd+1<=(Ar ⟨op,[],0,2,a⟩ [k,k']).ht:=by rw [hnd];omega
  exact⟨by omega,by omega,fun _=>hnb,fun _=>⟨by omega,fun _=>hn1⟩⟩
 |set op s a ho hn=>exact En (show 18<=op by omega) (show op≠32 by omega) (by decide) Aw4
 |send a=>exact En (show(18:Int)<=21 by decide) (show(21:Int)≠32 by decide) (by decide) Aw4
 |recv s a hn=>exact En (show(18:Int)<=22 by decide) (show(22:Int)≠32 by decide) (by decide) Aw4
 |if2 a=>exact En (show(18:Int)<=23 by decide) (show(23:Int)≠32 by decide) (by decide) Aw4
 |if3 a=>exact En (show(18:Int)<=23 by decide) (show(23:Int)≠32 by decide) (by decide) Aw4
 |Bfz a=>exact En (show(18:Int)<=24 by decide) (show(24:Int)≠32 by decide) (by decide) Aw4
 |sel k a h1=>exact En (show(18:Int)<=25 by decide) (show(25:Int)≠32 by decide) (by decide) Aw4
 |start s k a hn=>exact En (show(18:Int)<=26 by decide) (show(26:Int)≠32 by decide) (by decide) Aw4
 |one op a ho=>exact En (show 18<=op by omega) (show op≠32 by omega) (by decide) Aw4
 |none op a ho=>exact En (show 18<=op by omega) (show op≠32 by omega) (by decide) Aw4
 |els a=>exact En (show(18:Int)<=37 by decide) (show(37:Int)≠32 by decide) (by decide) Aw4
 |clause op s a w ds' ho=>exact En (show 18<=op by omega) (show op≠32 by omega) (by decide) Aw4
 |Bc9 s a hn=>exact En (show(18:Int)<=33 by decide) (show(33:Int)≠32 by decide) (by decide) Aw4
 |Bda s a hn=>exact En (show(18:Int)<=33 by decide) (show(33:Int)≠32 by decide) (by decide) Aw4
 |block k a=>
  have hnd:(Ar ⟨32,[],0,wr k,a⟩ ks).nd<=(Ar ⟨32,[],0,wr k,a⟩ ks).ht:=(V4 (show(18:Int)<=32 by decide)).2 fun k hk=>Nat.le_trans (Aw4 k hk).1 (Nat.le_trans (Nat.le_succ _) (O3 hk))
  refine⟨hnd,?_,fun e=>absurd rfl e,fun e=>absurd e (by decide)⟩
  exact(Ai0 rfl).2 fun k hk=>Nat.le_trans (Aw4 k hk).2 (O3 hk)
 |param s a hn=>exact En (show(18:Int)<=39 by decide) (show(39:Int)≠32 by decide) (by decide) Aw4
 |unit k a=>exact En (show(18:Int)<=42 by decide) (show(42:Int)≠32 by decide) (by decide) Aw4
 |chan s n a hn h0 h1=>exact En (show(18:Int)<=38 by decide) (show(38:Int)≠32 by decide) (by decide) Aw4
 |main a=>exact En (show(18:Int)<=41 by decide) (show(41:Int)≠32 by decide) (by decide) Aw4
 |proc s k a hn=>exact En (show(18:Int)<=40 by decide) (show(40:Int)≠32 by decide) (by decide) Aw4
theorem As2 {f:Fo} (h:WfF [85] f) (hn:¬okF f):25<=(Tb f).ht:=by
 obtain⟨k,a,ks,e,_⟩:=Qy h
 have h1:=Oy HtQ As1 h
 unfold okF Tb at*
 rw [e]at h1 hn⊢
 have h2:HtQ 85 (Ar ⟨42,[],0,wr k,a⟩ ks):=h1.1
 have:=h2.nd;have:=h2.nb' (by decide)
 show 25<=(Ar ⟨42,[],0,wr k,a⟩ ks).ht
 have hn:¬((Ar ⟨42,[],0,wr k,a⟩ ks).nd<=24/\(Ar ⟨42,[],0,wr k,a⟩ ks).nb<=24):=hn
 omega
end Go.Proofs.YtcakelelfklhdaaGreatDoor
namespace Go.Proofs.YtcakelelfklhdaaGreatDoor
open Go.Vc Go.Lv Go.Ty Go.Tk Go.Tm
def tl (l:List Ck):Nat:=(tx l).length
theorem Ce:tl []=0:=rfl
theorem Ci (l:List Ck):tl (sps::l)=tl l+1:=by unfold tl;rw [Cl,List.length_append];show 1+_=_;omega
theorem Ba (v:Str) (l:List Ck):tl (.tk v::l)=v.length+tl l:=by unfold tl;rw [Cl,List.length_append];rfl
theorem B5 (a b:List Ck):tl (a++b)=tl a+tl b:=by unfold tl;rw [Cr,List.length_append]
theorem D3 (d:Nat) (l:List Ck):tl (line d l)=d+tl l+1:=by
 unfold line
 rw [B5,B5]
 have h1:tl (List.replicate d (Ck.sp 9))=d:=by
  induction d with
  |zero=>rfl
  |succ d ih=>rw [List.replicate_succ];unfold tl at*;rw [Cl,List.length_append,ih];show 1+d=d+1;omega
 have h2:tl [Ck.sp 10]=1:=rfl
 rw [h1,h2];omega
def Uw (D:Nat) (x:Ai):Nat:=
 if x.op<18\/x.op=33\/x.op=39 then 24 else if x.op=32 then 2*D+6 else if x.op=25 then 2*D+14
 else if x.op<=22\/(26<=x.op/\x.op<=31)\/x.op=38 then D+34 else 50
def Ca (D:Nat) (l:List Ai):Nat:=(l.map (Uw D)).foldr (·+·) 0
theorem V6 (D:Nat) (x:Ai) (l:List Ai):Ca D (x::l)=Uw D x+Ca D l:=rfl
theorem Df (D:Nat):∀(a b:List Ai),Ca D (a++b)=Ca D a+Ca D b
 |[],b=>by show Ca D b=0+_;omega
 |x::a,b=>by rw [List.cons_append,V6,V6,Df D a b];omega
theorem Lb (D:Nat) (x:Ai) (ks:List R):Ca D (Ar x ks).fl=Uw D x+Ca D (ks.flatMap R.fl):=rfl
theorem Al4 {n:Int} (h0:0<=n) (h1:n<=999999999999999999):(Lf n).length<=18:=by
 have e:Lf n=Xx 18 n.toNat []:=Ur 20 18 _ _ (by omega) (by omega) (by omega) (by omega)
 obtain⟨c,v,e2,ha,hl,hz,hv⟩:=Afp 18 n.toNat [] (by omega) (by omega)
 rw [e,e2,List.append_nil,List.length_cons];omega
structure LnQ (D:Nat) (c:UInt8) (r:R):Prop where
 tm:c=69\/c=82\/c=80->tl r.tm+4<=Ca D r.fl
 st:c=83\/c=68->∀d,d+2*r.nb<=D->tl (r.st d)<=Ca D r.fl
 cl:c=67->1<=r.nb/\∀d,d+2*r.nb<=D+1->tl (r.st d)<=Ca D r.fl
 bl:c=66->1<=r.nb/\∀d,d+2*r.nb<=D+2->tl (r.st d)+(2*D+6)<=Ca D r.fl
section
variable {D:Nat}
theorem Z9 {c:UInt8} {r:R} (hc:c=69\/c=82\/c=80) (h:tl r.tm+4<=Ca D r.fl):LnQ D c r:=by
 refine⟨fun _=>h,fun e=> ?_,fun e=> ?_,fun e=> ?_⟩
 ·rcases hc with rfl|rfl|rfl<;>exact absurd e (by decide)
 ·rcases hc with rfl|rfl|rfl<;>exact absurd e (by decide)
 ·rcases hc with rfl|rfl|rfl<;>exact absurd e (by decide)
theorem N5 {c:UInt8} {r:R} (hc:c=83\/c=68) (h:∀d,d+2*r.nb<=D->tl (r.st d)<=Ca D r.fl):LnQ D c r:=by
 refine⟨fun e=> ?_,fun _=>h,fun e=> ?_,fun e=> ?_⟩
 ·rcases hc with rfl|rfl<;>exact absurd e (by decide)
 ·rcases hc with rfl|rfl<;>exact absurd e (by decide)
 ·rcases hc with rfl|rfl<;>exact absurd e (by decide)
theorem Atp {r:R} (h:1<=r.nb/\∀d,d+2*r.nb<=D+1->tl (r.st d)<=Ca D r.fl):LnQ D 67 r:=
 ⟨fun e=>absurd e (by decide),fun e=>absurd e (by decide),fun _=>h,fun e=>absurd e (by decide)⟩
theorem Afx (r:R) (n:Nat):tl (Bw r n)<=tl r.tm+2:=by
 unfold Bw
 split
 ·rw [Ba,B5,Ba,Ce];show 1+(_+(1+0))<=_;omega
 ·omega
theorem Aqp (d:Nat) (f:List Ck) (r:R):tl (Bi d f r)=2*d+tl f+5+tl (r.st (d+1)):=by
 unfold Bi
 rw [B5,D3,B5,Ci,Ba,Ce,B5,D3,Ba,Ce]
 show d+(tl f+(1+0+1))+1+(tl (r.st (d+1))+(d+(1+0)+1))=_
 omega
theorem R7 {d:Nat} {f:List Ck} {r:R} (h:LnQ D 66 r) (hd:d+2*r.nb<=D+1):tl (Bi d f r)+1<=tl f+Ca D r.fl:=by
 obtain⟨h1,h2⟩:=h.bl rfl
 have:=h2 (d+1) (by omega)
 rw [Aqp];omega
theorem Ac1:∀(l:List (List Ck)),tl (Bx l)<=(l.map fun a=>tl a+2).foldr (·+·) 0
 |[]=>Nat.le_refl _
 |[a]=>by show tl a<=tl a+2+0;omega
 |a::b::l=>by
  have ih:=Ac1 (b::l)
  show tl (a++(.tk B2::sps::Bx (b::l)))<=tl a+2+((b::l).map fun a=>tl a+2).foldr (·+·) 0
  rw [B5,Ba,Ci]
  show tl a+(1+(tl (Bx (b::l))+1))<=_
  omega
theorem Al5 {c:UInt8} (hc:c=69\/c=80):∀ {ks:List R},(∀r∈ks,LnQ D c r)->tl (Bx (ks.map R.tm))<=Ca D (ks.flatMap R.fl):=by
 intro ks h
 refine Nat.le_trans (Ac1 _) ?_
 induction ks with
 |nil=>exact Nat.le_refl _
 |cons k ks ih=>
  have h1:=(h k (by simp)).tm (by rcases hc with rfl|rfl<;>simp)
  have h2:=ih fun r hr=>h r (by simp [hr])
  rw [List.flatMap_cons,Df]
  show tl k.tm+2+((ks.map R.tm).map fun a=>tl a+2).foldr (·+·) 0<=_
  omega
theorem X9 {d:Nat} :∀ {ks:List R},(∀r∈ks,tl (r.st d)<=Ca D r.fl)->tl (Br d ks)<=Ca D (ks.flatMap R.fl)
 |[],_=>Nat.le_refl _
 |k::ks,h=>by
  have h1:=h k (by simp)
  have h2:=X9 (d:=d) (ks:=ks) fun r hr=>h r (by simp [hr])
  rw [List.flatMap_cons,Df]
  show tl (k.st d++Br d ks)<=_
  rw [B5];omega
theorem M9 {x:Ai} {ks:List R} {k:R} (hx:x.op≠32) (hk:k∈ks):k.nb<=(Ar x ks).nb:=(Ta hx).1 (Nat.le_refl _) k hk
theorem As3 (c:UInt8) (x:Ai) (ds:List UInt8) (ks:List R) (h:OkN c x ds) (hk:F2 (LnQ D) ds ks):LnQ D c (Ar x ks):=by
 cases h with
 |num n a h0 h1=>
  have:=hk.nil
  subst this
  refine Z9 (.inl rfl) ?_
  show tl [.tk (Lf n)]+4<=24+0
  have:=Al4 h0 h1
  rw [Ba,Ce];omega
 |name s a hn=>
  have:=hk.nil
  subst this
  refine Z9 (.inl rfl) ?_
  show tl [.tk s]+4<=24+0
  have:=Gb hn
  rw [Ba,Ce];omega
 |un op a ho=>
  obtain⟨k,rfl,hq⟩:=hk.one
  refine Z9 (.inl rfl) ?_
  have h1:=hq.tm (.inl rfl)
  have h2:=Afx k 6
  rcases ho with rfl|rfl
  ·show tl (.tk [45]::Bw k 6)+4<=24+Ca D (k.fl++[])
   rw [Ba,List.append_nil];show 1+_+4<=_;omega
  ·show tl (.tk [33]::Bw k 6)+4<=24+Ca D (k.fl++[])
   rw [Ba,List.append_nil];show 1+_+4<=_;omega
 |bin op a h5 h17=>
  obtain⟨k,k',rfl,hq,hq'⟩:=hk.two
  refine Z9 (.inl rfl) ?_
  have h1:=hq.tm (.inl rfl)
  have h2:=Afx k (Cf op)
  have h1':=hq'.tm (.inl rfl)
  have h2':=Afx k' (B6 op+1)
  have htm:(Ar ⟨op,[],0,2,a⟩ [k,k']).tm=Bw k (Cf op)++(sps::.tk (sgO op)::sps::Bw k' (B6 op+1)):=by
   show tmN ⟨op,[],0,2,a⟩ [k,k']=_
   unfold tmN
   dsimp only
   rw [if_neg (by omega),if_neg (by omega),if_neg (by omega),if_neg (by omega)]
   rfl
  have hsg:(sgO op).length<=2:=by
   rcases ops (op:=op) (by omega)with rfl|rfl|rfl|rfl|rfl|rfl|rfl|rfl|rfl|rfl|rfl|rfl|rfl|rfl|rfl<;>decide
  have hc:Uw D ⟨op,[],0,2,a⟩=24:=by unfold Uw;rw [if_pos (.inl (show op<18 by omega))]
  rw [htm,Lb,hc,B5,Ci,Ba,Ci]
  show _<=24+Ca D (k.fl++(k'.fl++[]))
  rw [Df,List.append_nil];omega
 |set op s a ho hn=>
  obtain⟨k,rfl,hq⟩:=hk.one
  have h1:=hq.tm (.inl rfl)
  have h3:=Gb hn
  refine N5 (.inl rfl) fun d hd=> ?_
  rcases ho with rfl|rfl|rfl
  ·show tl (line d (.tk Pl::sps::.tk s::sps::.tk sEq::sps::(k.tm++[.tk Av])))<=(D+34)+Ca D (k.fl++[])
   rw [D3,Ba,Ci,Ba,Ci,Ba,Ci,B5,Ba,Ce,List.append_nil]
   show d+(3+(s.length+(1+(tl k.tm+(1+0)+1)+1)+1))+1<=_
   omega
  ·show tl (line d (.tk s::sps::.tk sEq::sps::(k.tm++[.tk Av])))<=(D+34)+Ca D (k.fl++[])
   rw [D3,Ba,Ci,Ba,Ci,B5,Ba,Ce,List.append_nil]
   show d+(s.length+(1+(tl k.tm+(1+0)+1)+1))+1<=_
   omega
  ·show tl (line d (.tk s::sps::.tk sEq::sps::.tk Gm::.tk sLP::(k.tm++[.tk sRP,.tk Av])))<=(D+34)+Ca D (k.fl++[])
   rw [D3,Ba,Ci,Ba,Ci,Ba,Ba,B5,Ba,Ba,Ce,List.append_nil]
   show d+(s.length+(1+(6+(1+(tl k.tm+(1+(1+0))))+1)+1))+1<=_
   omega
 |send a=>
  obtain⟨k,k',rfl,hq,hq'⟩:=hk.two
  have h1:=hq.tm (.inr (.inl rfl))
  have h2:=hq'.tm (.inl rfl)
  refine N5 (.inl rfl) fun d hd=> ?_
  show tl (line d (k.tm++(sps::.tk Db::sps::(k'.tm++[.tk Av]))))<=(D+34)+Ca D (k.fl++(k'.fl++[]))
  rw [D3,B5,Ci,Ba,Ci,B5,Ba,Ce,List.append_nil,Df]
  show d+(tl k.tm+(1+(tl k'.tm+(1+0)+1)+1))+1<=_
  omega
 |recv s a hn=>
  obtain⟨k,rfl,hq⟩:=hk.one
  have h1:=hq.tm (.inr (.inl rfl))
  have h3:=Gb hn
  refine N5 (.inl rfl) fun d hd=> ?_
  show tl (line d (k.tm++[sps,.tk G8,sps,.tk s,.tk Av]))<=(D+34)+Ca D (k.fl++[])
  rw [D3,B5,Ci,Ba,Ci,Ba,Ba,Ce,List.append_nil]
  show d+(tl k.tm+(1+(s.length+(1+0)+1)+1))+1<=_
  omega
 |if2 a=>
  obtain⟨k,k',rfl,hq,hq'⟩:=hk.two
  have h1:=hq.tm (.inl rfl)
  obtain⟨h2,h3⟩:=hq'.bl rfl
  refine N5 (.inl rfl) fun d hd=> ?_
  have hn:=M9 (x:=⟨23,[],0,2,a⟩) (ks:=[k,k']) (k:=k') (show(23:Int)≠32 by decide) (by simp)
  have:=h3 (d+1) (by omega)
  show tl (line d (.tk sIf::sps::(k.tm++[sps,.tk sLB]))++(k'.st (d+1)++line d [.tk sRB]))<=50+Ca D (k.fl++(k'.fl++[]))
  rw [B5,D3,Ba,Ci,B5,Ci,Ba,Ce,B5,D3,Ba,Ce,List.append_nil,Df]
  show d+(2+(tl k.tm+(1+0+1)+1))+1+(tl (k'.st (d+1))+(d+(1+0)+1))<=_
  omega
 |if3 a=>
  obtain⟨k,k',k'',rfl,hq,hq',Azl⟩:=hk.three
  have h1:=hq.tm (.inl rfl)
  obtain⟨h2,h3⟩:=hq'.bl rfl
  obtain⟨h4,h5⟩:=Azl.bl rfl
  refine N5 (.inl rfl) fun d hd=> ?_
  have hn:=M9 (x:=⟨23,[],0,3,a⟩) (ks:=[k,k',k'']) (k:=k') (show(23:Int)≠32 by decide) (by simp)
  have hn':=M9 (x:=⟨23,[],0,3,a⟩) (ks:=[k,k',k'']) (k:=k'') (show(23:Int)≠32 by decide) (by simp)
  have:=h3 (d+1) (by omega)
  have:=h5 (d+1) (by omega)
  show tl (line d (.tk sIf::sps::(k.tm++[sps,.tk sLB]))++(k'.st (d+1)++(line d [.tk sRB,sps,.tk Dp,sps,.tk sLB]++(k''.st (d+1)++line d [.tk sRB]))))<=50+Ca D (k.fl++(k'.fl++(k''.fl++[])))
  rw [B5,D3,Ba,Ci,B5,Ci,Ba,Ce,B5,B5,D3,Ba,Ci,Ba,Ci,Ba,Ce,B5,D3,Ba,Ce,List.append_nil,Df,Df]
  show d+(2+(tl k.tm+(1+0+1)+1))+1+(tl (k'.st (d+1))+(d+(1+(4+(1+0+1)+1))+1+(tl (k''.st (d+1))+(d+(1+0)+1))))<=_
  omega
 |Bfz a=>
  obtain⟨k,k',rfl,hq,hq'⟩:=hk.two
  have h1:=hq.tm (.inl rfl)
  refine N5 (.inl rfl) fun d hd=> ?_
  have hn:=M9 (x:=⟨24,[],0,2,a⟩) (ks:=[k,k']) (k:=k') (show(24:Int)≠32 by decide) (by simp)
  show tl (Bi d (.tk F9::sps::k.tm) k')<=50+Ca D (k.fl++(k'.fl++[]))
  have:=R7 (d:=d) (f:= .tk F9::sps::k.tm) hq' (by omega)
  rw [Ba,Ci]at this
  have h5:F9.length=5:=rfl
  rw [List.append_nil,Df];omega
 |sel k a h1=>
  refine N5 (.inl rfl) fun d hd=> ?_
  have hb:tl (Br (d+1) ks)<=Ca D (ks.flatMap R.fl):=X9 fun r hr=>((hk.rep.2 r hr).cl rfl).2 (d+1) (by
   have:=M9 (x:=⟨25,[],0,wr k,a⟩) (ks:=ks) (k:=r) (show(25:Int)≠32 by decide) hr
   omega)
  show tl (line d [.tk Ej,sps,.tk sLB]++(Br (d+1) ks++line d [.tk sRB]))<=(2*D+14)+Ca D (ks.flatMap R.fl)
  rw [B5,D3,Ba,Ci,Ba,Ce,B5,D3,Ba,Ce]
  show d+(6+(1+0+1))+1+(tl (Br (d+1) ks)+(d+(1+0)+1))<=_
  omega
 |start s k a hn=>
  refine N5 (.inl rfl) fun d hd=> ?_
  have h1:=Al5 (D:=D) (.inl rfl) hk.rep.2
  have h3:=Gb hn
  show tl (line d (.tk Fc::sps::.tk s::.tk sLP::(Bx (ks.map R.tm)++[.tk sRP,.tk Av])))<=(D+34)+Ca D (ks.flatMap R.fl)
  rw [D3,Ba,Ci,Ba,Ba,B5,Ba,Ba,Ce]
  show d+(5+(s.length+(1+(tl (Bx (ks.map R.tm))+(1+(1+0))))+1))+1<=_
  omega
 |one op a ho=>
  obtain⟨k,rfl,hq⟩:=hk.one
  have h1:=hq.tm (.inl rfl)
  refine N5 (.inl rfl) fun d hd=> ?_
  rcases ho with rfl|rfl|rfl
  ·show tl (line d (.tk Km::sps::(k.tm++[.tk Av])))<=(D+34)+Ca D (k.fl++[])
   rw [D3,Ba,Ci,B5,Ba,Ce,List.append_nil]
   show d+(5+(tl k.tm+(1+0)+1))+1<=_
   omega
  ·show tl (line d (.tk Kn::sps::(k.tm++[.tk Av])))<=(D+34)+Ca D (k.fl++[])
   rw [D3,Ba,Ci,B5,Ba,Ce,List.append_nil]
   show d+(5+(tl k.tm+(1+0)+1))+1<=_
   omega
  ·show tl (line d (.tk Hr::sps::(k.tm++[.tk Av])))<=(D+34)+Ca D (k.fl++[])
   rw [D3,Ba,Ci,B5,Ba,Ce,List.append_nil]
   show d+(6+(tl k.tm+(1+0)+1))+1<=_
   omega
 |none op a ho=>
  have:=hk.nil
  subst this
  refine N5 (.inl rfl) fun d hd=> ?_
  rcases ho with rfl|rfl
  ·show tl (line d [.tk Nw,.tk Av])<=(D+34)+0
   rw [D3,Ba,Ba,Ce]
   show d+(4+(1+0))+1<=_
   omega
  ·show tl (line d [.tk Nx,.tk Av])<=(D+34)+0
   rw [D3,Ba,Ba,Ce]
   show d+(4+(1+0))+1<=_
   omega
 |els a=>
  obtain⟨k,rfl,hq⟩:=hk.one
  have hn:=M9 (x:=⟨37,[],0,1,a⟩) (ks:=[k]) (k:=k) (show(37:Int)≠32 by decide) (by simp)
  refine Atp ⟨Nat.le_trans (hq.bl rfl).1 hn,fun d hd=> ?_⟩
  show tl (Bi d [.tk Dp] k)<=50+Ca D (k.fl++[])
  have:=R7 (d:=d) (f:=[.tk Dp]) hq (by omega)
  rw [Ba,Ce]at this
  have h5:Dp.length=4:=rfl
  rw [List.append_nil];omega
 |clause op s a w ds' ho=>
  have e34:∀(n:Int) (kids:Int) (ks:List R) (d:Nat),(Ar ⟨34,s,n,kids,a⟩ ks).st d=Bi d (Eb ⟨34,s,n,kids,a⟩ ks++((kd ks n.toNat).tm++[sps,.tk G8,sps,.tk s])) (kd ks (n.toNat+1)):=fun _ _ _ _=>rfl
  have e35:∀(n:Int) (kids:Int) (ks:List R) (d:Nat),(Ar ⟨35,s,n,kids,a⟩ ks).st d=Bi d (Eb ⟨35,s,n,kids,a⟩ ks++((kd ks n.toNat).tm++(sps::.tk Db::sps::(kd ks (n.toNat+1)).tm))) (kd ks (n.toNat+2)):=fun _ _ _ _=>rfl
  have e36:∀(n:Int) (kids:Int) (ks:List R) (d:Nat),(Ar ⟨36,s,n,kids,a⟩ ks).st d=Bi d (Eb ⟨36,s,n,kids,a⟩ ks++(.tk Ea::sps::(kd ks n.toNat).tm)) (kd ks (n.toNat+1)):=fun _ _ _ _=>rfl
  have Bde:Uw D ⟨op,s,if w then 1 else 0,wr ((if w then [69]else [])++ds').length,a⟩=50:=by
   unfold Uw
   dsimp only
   rw [if_neg (by omega),if_neg (by omega),if_neg (by omega),if_neg (by omega)]
  have hne:op≠32:=by omega
  have hB:∀(b:R),b∈ks->LnQ D 66 b->(∀d,d+2*b.nb<=D+1->tl ((Ar ⟨op,s,if w then 1 else 0,wr ((if w then [69]else [])++ds').length,a⟩ ks).st d)<=Ca D (Ar ⟨op,s,if w then 1 else 0,wr ((if w then [69]else [])++ds').length,a⟩ ks).fl)->LnQ D 67 (Ar ⟨op,s,if w then 1 else 0,wr ((if w then [69]else [])++ds').length,a⟩ ks):=by
   intro b hb hq h
   have hn:=M9 (x:=⟨op,s,if w then 1 else 0,wr ((if w then [69]else [])++ds').length,a⟩) (ks:=ks) (k:=b) hne hb
   exact Atp ⟨Nat.le_trans (hq.bl rfl).1 hn,fun d hd=>h d (by omega)⟩
  cases w with
  |false=>
   rcases ho with⟨rfl,hn,rfl⟩|⟨rfl,rfl,rfl⟩|⟨rfl,rfl,rfl⟩
   ·obtain⟨k,k',rfl,hq,hq'⟩:=F2.two (a:=82) (a':=66) hk
    refine hB k' (by simp) hq' fun d hd=> ?_
    have h1:=hq.tm (.inr (.inl rfl))
    have h3:=Gb hn
    have hb:=R7 (d:=d) (f:=[.tk B1,sps]++(k.tm++[sps,.tk G8,sps,.tk s])) hq' hd
    rw [Lb,Bde]
    show tl (Bi d ([.tk B1,sps]++(k.tm++[sps,.tk G8,sps,.tk s])) k')<=50+Ca D (k.fl++(k'.fl++[]))
    rw [B5,Ba,Ci,Ce,B5,Ci,Ba,Ci,Ba,Ce]at hb
    have h5:B1.length=4:=rfl
    have h6:G8.length=1:=rfl
    rw [List.append_nil,Df];omega
   ·obtain⟨k,k',k'',rfl,hq,hq',Azl⟩:=F2.three (a:=82) (a':=69) (a'':=66) hk
    refine hB k'' (by simp) Azl fun d hd=> ?_
    have h1:=hq.tm (.inr (.inl rfl))
    have h2:=hq'.tm (.inl rfl)
    have hb:=R7 (d:=d) (f:=[.tk B1,sps]++(k.tm++(sps::.tk Db::sps::k'.tm))) Azl hd
    rw [Lb,Bde]
    show tl (Bi d ([.tk B1,sps]++(k.tm++(sps::.tk Db::sps::k'.tm))) k'')<=50+Ca D (k.fl++(k'.fl++(k''.fl++[])))
    rw [B5,Ba,Ci,Ce,B5,Ci,Ba,Ci]at hb
    have h5:B1.length=4:=rfl
    have h6:Db.length=1:=rfl
    rw [List.append_nil,Df,Df];omega
   ·obtain⟨k,k',rfl,hq,hq'⟩:=F2.two (a:=69) (a':=66) hk
    refine hB k' (by simp) hq' fun d hd=> ?_
    have h1:=hq.tm (.inl rfl)
    have hb:=R7 (d:=d) (f:=[.tk B1,sps]++(.tk Ea::sps::k.tm)) hq' hd
    rw [Lb,Bde]
    show tl (Bi d ([.tk B1,sps]++(.tk Ea::sps::k.tm)) k')<=50+Ca D (k.fl++(k'.fl++[]))
    rw [B5,Ba,Ci,Ce,Ba,Ci]at hb
    have h5:B1.length=4:=rfl
    have h6:Ea.length=5:=rfl
    rw [List.append_nil,Df];omega
  |true=>
   rcases ho with⟨rfl,hn,rfl⟩|⟨rfl,rfl,rfl⟩|⟨rfl,rfl,rfl⟩
   ·obtain⟨k0,k,k',rfl,hq0,hq,hq'⟩:=F2.three (a:=69) (a':=82) (a'':=66) hk
    refine hB k' (by simp) hq' fun d hd=> ?_
    have h0:=hq0.tm (.inl rfl)
    have h1:=hq.tm (.inr (.inl rfl))
    have h3:=Gb hn
    have hb:=R7 (d:=d) (f:=(.tk B1::sps::.tk D9::sps::(k0.tm++[.tk D8,sps]))++(k.tm++[sps,.tk G8,sps,.tk s])) hq' hd
    rw [Lb,Bde]
    show tl (Bi d ((.tk B1::sps::.tk D9::sps::(k0.tm++[.tk D8,sps]))++(k.tm++[sps,.tk G8,sps,.tk s])) k')<=50+Ca D (k0.fl++(k.fl++(k'.fl++[])))
    rw [B5,Ba,Ci,Ba,Ci,B5,Ba,Ci,Ce,B5,Ci,Ba,Ci,Ba,Ce]at hb
    have h5:B1.length=4:=rfl
    have h6:G8.length=1:=rfl
    have h7:D9.length=4:=rfl
    have h8:D8.length=1:=rfl
    rw [List.append_nil,Df,Df];omega
   ·obtain⟨l1,l2,rfl,h1',h2'⟩:=F2.split (l:=[69]) (l':=[82,69,66]) hk
    obtain⟨k0,rfl,hq0⟩:=h1'.one
    obtain⟨k,k',k'',rfl,hq,hq',Azl⟩:=h2'.three
    refine hB k'' (by simp) Azl fun d hd=> ?_
    have h0:=hq0.tm (.inl rfl)
    have h1:=hq.tm (.inr (.inl rfl))
    have h2:=hq'.tm (.inl rfl)
    have hb:=R7 (d:=d) (f:=(.tk B1::sps::.tk D9::sps::(k0.tm++[.tk D8,sps]))++(k.tm++(sps::.tk Db::sps::k'.tm))) Azl hd
    rw [Lb,Bde]
    show tl (Bi d ((.tk B1::sps::.tk D9::sps::(k0.tm++[.tk D8,sps]))++(k.tm++(sps::.tk Db::sps::k'.tm))) k'')<=50+Ca D (k0.fl++(k.fl++(k'.fl++(k''.fl++[]))))
    rw [B5,Ba,Ci,Ba,Ci,B5,Ba,Ci,Ce,B5,Ci,Ba,Ci]at hb
    have h5:B1.length=4:=rfl
    have h6:Db.length=1:=rfl
    have h7:D9.length=4:=rfl
    have h8:D8.length=1:=rfl
    rw [List.append_nil,Df,Df,Df];omega
   ·obtain⟨k0,k,k',rfl,hq0,hq,hq'⟩:=F2.three (a:=69) (a':=69) (a'':=66) hk
    refine hB k' (by simp) hq' fun d hd=> ?_
    have h0:=hq0.tm (.inl rfl)
    have h1:=hq.tm (.inl rfl)
    have hb:=R7 (d:=d) (f:=(.tk B1::sps::.tk D9::sps::(k0.tm++[.tk D8,sps]))++(.tk Ea::sps::k.tm)) hq' hd
    rw [Lb,Bde]
    show tl (Bi d ((.tk B1::sps::.tk D9::sps::(k0.tm++[.tk D8,sps]))++(.tk Ea::sps::k.tm)) k')<=50+Ca D (k0.fl++(k.fl++(k'.fl++[])))
    rw [B5,Ba,Ci,Ba,Ci,B5,Ba,Ci,Ce,Ba,Ci]at hb
    have h5:B1.length=4:=rfl
    have h6:Ea.length=5:=rfl
    have h7:D9.length=4:=rfl
    have h8:D8.length=1:=rfl
    rw [List.append_nil,Df,Df];omega
 |Bc9 s a hn=>
  cases hk.nil
  refine Z9 (.inr (.inl rfl)) ?_
  show tl [.tk s]+4<=24+0
  have:=Gb hn
  rw [Ba,Ce];omega
 |Bda s a hn=>
  obtain⟨k,rfl,hq⟩:=hk.one
  have h1:=hq.tm (.inl rfl)
  refine Z9 (.inr (.inl rfl)) ?_
  show tl (.tk s::.tk sLS::(k.tm++[.tk sRS]))+4<=24+Ca D (k.fl++[])
  have:=Gb hn
  rw [Ba,Ba,B5,Ba,Ce,List.append_nil]
  show s.length+(1+(tl k.tm+(1+0)))+4<=_
  omega
 |block k a=>
  refine⟨fun e=>absurd e (by decide),fun e=>absurd e (by decide),fun e=>absurd e (by decide),fun _=>⟨?_,fun d hd=> ?_⟩⟩
  ·show 1<=(ks.map R.nb).foldr max 0+1;omega
  ·have hb:tl (Br d ks)<=Ca D (ks.flatMap R.fl):=X9 fun r hr=>(hk.rep.2 r hr).st (.inl rfl) d (by
    have hne:(Ar ⟨32,[],0,wr k,a⟩ ks).nb=(ks.map R.nb).foldr max 0+1:=rfl
    have:=Ap8.1 (Nat.le_refl ((ks.map R.nb).foldr max 0)) r.nb (List.mem_map.2 ⟨r,hr,rfl⟩)
    omega)
   show tl (Br d ks)+(2*D+6)<=(2*D+6)+Ca D (ks.flatMap R.fl)
   omega
 |param s a hn=>
  cases hk.nil
  refine Z9 (.inr (.inr rfl)) ?_
  show tl [.tk s]+4<=24+0
  have:=Gb hn
  rw [Ba,Ce];omega
 |unit k a=>exact⟨fun e=>absurd e (by decide),fun e=>absurd e (by decide),fun e=>absurd e (by decide),fun e=>absurd e (by decide)⟩
 |chan s n a hn h0 h1=>
  cases hk.nil
  refine N5 (.inr rfl) fun d hd=> ?_
  have h3:=Gb hn
  have h4:=Al4 h0 (by omega:n<=999999999999999999)
  have h2:(Lf n).length<=2:=by
   have e:Lf n=Xx 2 n.toNat []:=Ur 20 2 _ _ (by omega) (by omega) (by omega) (by omega)
   obtain⟨c,v,e2,ha,hl,hz,hv⟩:=Afp 2 n.toNat [] (by omega) (by omega)
   rw [e,e2,List.append_nil,List.length_cons];omega
  show tl (line d (.tk Gf::sps::.tk s::(if 0<n then [.tk sLS,.tk (Lf n),.tk sRS,.tk Av]else [.tk Av])))<=(D+34)+0
  rw [D3,Ba,Ci,Ba]
  split
  ·rw [Ba,Ba,Ba,Ba,Ce]
   show d+(4+(s.length+(1+((Lf n).length+(1+(1+0))))+1))+1<=_
   omega
  ·rw [Ba,Ce]
   show d+(4+(s.length+(1+0)+1))+1<=_
   omega
 |main a=>
  obtain⟨k,rfl,hq⟩:=hk.one
  have hn:=M9 (x:=⟨41,[],0,1,a⟩) (ks:=[k]) (k:=k) (show(41:Int)≠32 by decide) (by simp)
  refine N5 (.inr rfl) fun d hd=> ?_
  show tl (Bi d [.tk Ny] k)<=50+Ca D (k.fl++[])
  have:=R7 (d:=d) (f:=[.tk Ny]) hq (by omega)
  rw [Ba,Ce]at this
  have h5:Ny.length=4:=rfl
  rw [List.append_nil];omega
 |proc s k a hn=>
  obtain⟨ps,bs,rfl,h1,h2⟩:=hk.split
  obtain⟨b,rfl,hq⟩:=h2.one
  have hnb:=M9 (x:=⟨40,s,0,wr (k+1),a⟩) (ks:=ps++[b]) (k:=b) (show(40:Int)≠32 by decide) (by simp)
  have h3:=Gb hn
  refine N5 (.inr rfl) fun d hd=> ?_
  have e:(Ar ⟨40,s,0,wr (k+1),a⟩ (ps++[b])).st d=Bi d (.tk Hk::sps::.tk s::.tk sLP::(Bx (ps.map R.tm)++[.tk sRP])) b:=by
   show stN ⟨40,s,0,wr (k+1),a⟩ (ps++[b]) d=_
   unfold stN
   simp [kd]
  have hA:=Al5 (D:=D) (.inr rfl) h1.rep.2
  have:=R7 (d:=d) (f:= .tk Hk::sps::.tk s::.tk sLP::(Bx (ps.map R.tm)++[.tk sRP])) hq (by omega)
  rw [Ba,Ci,Ba,Ba,B5,Ba,Ce]at this
  have h5:Hk.length=4:=rfl
  have h6:sLP.length=1:=rfl
  have h7:sRP.length=1:=rfl
  rw [e,Lb,List.flatMap_append,Df]
  show _<=50+(Ca D (ps.flatMap R.fl)+Ca D (b.fl++[]))
  rw [List.append_nil];omega
end
theorem Aqq {f:Fo} (h:WfF [85] f) {D:Nat} (hD:2*(Tb f).nb<=D):(Pa f).length<=Ca D f.flat:=by
 rw [Uv h]
 cases h with
 |@cons c x ds cs a b ho ha hb=>
  cases ho with
  |unit k a'=>
   have h1:=(Oy (LnQ D) As3 ha).rep
   show tl (Br 0 (Lg a))<=50+Ca D ((Lg a).flatMap R.fl)
   have:tl (Br 0 (Lg a))<=Ca D ((Lg a).flatMap R.fl):=X9 fun r hr=>(h1.2 r hr).st (.inr rfl) 0 (by
    have:=M9 (x:=⟨42,[],0,wr k,a'⟩) (ks:=Lg a) (k:=r) (show(42:Int)≠32 by decide) hr
    have h3:2*(Ar ⟨42,[],0,wr k,a'⟩ (Lg a)).nb<=D:=hD
    omega)
   omega
end Go.Proofs.YtcakelelfklhdaaGreatDoor
namespace Go.Proofs.YtcakelelfklhdaaGreatDoor
open Go.Vc Go.Lv Go.Ty Go.Tk Go.Tm
def Awc (t:Tok):Prop:=(t.kind=1->Tk.Be t.text=true)/\(t.kind=2->0<=t.n/\t.n<=999999999999999999)
def Atq (toks:List Au):Prop:=∀t∈toks,Awc (tT t)
def WfT (K:Nat) (cs:List UInt8) (l:List Ai):Prop:=∃f:Fo,f.flat=l/\WfF cs f/\∀r∈Lg f,r.nd<=24/\r.nb<=K
def Fo.app:Fo->Fo->Fo
 | .nil,g=>g
 | .cons x ks rs,g=> .cons x ks (rs.app g)
theorem My:∀(f g:Fo),(f.app g).flat=f.flat++g.flat
 | .nil,_=>rfl
 | .cons x ks rs,g=>by
  show x::(ks.flat++(rs.app g).flat)=x::(ks.flat++rs.flat)++g.flat
  rw [My rs g,List.cons_append,List.append_assoc]
theorem Ac2 {cs ds:List UInt8} {f g:Fo} (h:WfF cs f) (k:WfF ds g):WfF (cs++ds) (f.app g):=by
 induction h with
 |nil=>exact k
 |cons ho h1 _ _ ih2=>exact .cons ho h1 ih2
def W1 (K:Nat) (k:UInt8) (c:Cur):Prop:=c.e_=0->WfT K [k] c.l
section
variable {K:Nat} {toks:List Au} (hT:Atq toks) {φ ψ:Prop} {Q Q':List UInt8->Prop} {c d:Cur} {blk:Int->Cur}
end
end Go.Proofs.YtcakelelfklhdaaGreatDoor
namespace Go.Proofs.YtcakelelfklhdaaGreatDoor
open Go.Vc Go.Lv Go.Ty Go.Tk Go.Tm
section
variable {toks:List Au} (hT:Atq toks) {at0:Int} {s q:Nat} {c d:Cur}
end
end Go.Proofs.YtcakelelfklhdaaGreatDoor
namespace Go.Proofs.YtcakelelfklhdaaGreatDoor
open Go.Vc Go.Lv Go.Ty Go.Tr Go.Tk Go.Tm
theorem Aky {Q Q':UInt8->R->Prop} :∀ {cs:List UInt8} {ks:List R},F2 Q cs ks->(∀c r,r∈ks->Q c r->Q' c r)->F2 Q' cs ks
 |[],ks,h,_=>by cases F2.nil h;trivial
 |_::_,[],h,_=>h.elim
 |_::_,_::_,h,hq=>⟨hq _ _ (by simp) h.1,Aky h.2 fun c r hr=>hq c r (by simp [hr])⟩
theorem Afy (c:UInt8) (x:Ai) (ds:List UInt8) (rs:List R) (ho:OkN c x ds) (hk:F2 (fun c r=>r.fl.length<2^39->W2 c r) ds rs):(Ar x rs).fl.length<2^39->W2 c (Ar x rs):=by
 intro hN
 have hf:F2 W2 ds rs:=Aky hk fun c r hr h=>h (by have:=Qs (x:=x) hr;omega)
 have hw:=Kg hf
 have hea:=Ek hw
 have hl:=Oz hea
 rw [Q9]at hN
 have hd:ds.length<2^39:=by rw [F2.len hf];omega
 have hkk:x.kids=(rs.length:Int):=by rw [←F2.len hf];exact Un ho hd
 have wt:WT c (Ar x rs):=⟨Acq hkk hea,⟨x,rs,rfl⟩,fun hc=>by subst hc;exact Am8 ho hw⟩
 cases ho with
 |num n a h1 h2=>exact⟨wt,nofun,nofun,nofun,nofun,nofun,nofun⟩
 |name s a h=>exact⟨wt,nofun,nofun,nofun,nofun,nofun,nofun⟩
 |un op a h=>exact⟨wt,nofun,nofun,nofun,nofun,nofun,nofun⟩
 |bin op a h1 h2=>exact⟨wt,nofun,nofun,nofun,nofun,nofun,nofun⟩
 |set op s a h hn=>exact⟨wt,nofun,fun _=>Apd h hf,nofun,nofun,nofun,nofun⟩
 |send a=>exact⟨wt,nofun,fun _=>Ane hf,nofun,nofun,nofun,nofun⟩
 |recv s a h=>exact⟨wt,nofun,fun _=>Anb hf,nofun,nofun,nofun,nofun⟩
 |if2 a=>exact⟨wt,nofun,fun _=>Apg hf,nofun,nofun,nofun,nofun⟩
 |if3 a=>exact⟨wt,nofun,fun _=>Aph hf,nofun,nofun,nofun,nofun⟩
 |Bfz a=>exact⟨wt,nofun,fun _=>Anf hf,nofun,nofun,nofun,nofun⟩
 |sel k a h=>exact⟨wt,nofun,fun _=>Api (by rw [List.length_replicate]at hd;exact hd) hf,nofun,nofun,nofun,nofun⟩
 |start s k a h=>exact⟨wt,nofun,fun _=>Akn (by rw [List.length_replicate]at hd;exact hd) hf,nofun,nofun,nofun,nofun⟩
 |one op a h=>exact⟨wt,nofun,fun _=>Ape h hf,nofun,nofun,nofun,nofun⟩
 |none op a h=>exact⟨wt,nofun,fun _=>Ana h hf,nofun,nofun,nofun,nofun⟩
 |els a=>exact⟨wt,nofun,nofun,fun _=>Apk hf,nofun,nofun,nofun⟩
 |clause op s a w ds h=>exact⟨wt,nofun,nofun,fun _=>Ait (w0:=w) h hf,nofun,nofun,nofun⟩
 |Bc9 s a h=>exact⟨wt,fun _=>Air (.Bc9 s a h) hw,nofun,nofun,nofun,nofun,nofun⟩
 |Bda s a h=>exact⟨wt,fun _=>Air (.Bda s a h) hw,nofun,nofun,nofun,nofun,nofun⟩
 |block k a=>exact⟨wt,nofun,nofun,nofun,nofun,fun _=>⟨_,_,rfl,rfl,hkk,hea,fun r hr=>((Z4 hf).2 r hr).st rfl⟩,nofun⟩
 |param s a h=>exact⟨wt,nofun,nofun,nofun,nofun,nofun,fun _=>⟨_,_,rfl,rfl⟩⟩
 |unit k a=>exact⟨wt,nofun,nofun,nofun,nofun,nofun,nofun⟩
 |chan s n a h h1 h2=>exact⟨wt,nofun,nofun,nofun,fun _=>Ank h1 h2 hf,nofun,nofun⟩
 |main a=>exact⟨wt,nofun,nofun,nofun,fun _=>Anj hf,nofun,nofun⟩
 |proc s k a h=>exact⟨wt,nofun,nofun,nofun,fun _=>Anl (by rw [List.length_append,List.length_replicate,List.length_singleton]at hd;exact hd) hf,nofun,nofun⟩
theorem As4 (k a:Int) (rs:List R) (d:Nat):(Ar ⟨42,[],0,k,a⟩ rs).st d=Br d rs:=by
 rw [Kq]
 unfold stN
 dsimp only
 simp only [Int.reduceEq,if_false,if_true]
theorem Al6 {f:Fo} (hf:WfF [85] f) (hl:f.flat.length<=100000) (hs:(Pa f).length<2^30) (K:List UInt8->Int->Prop) (h:K (Pa f) 0) (hc:∀K:Int->Int->Prop,K 0 0->Jr f.flat K):Mo f.flat K:=by
 have h2:=Oy _ Afy hf
 have hfo:=hf
 cases hf with
 |@cons c x ds cs a b ho ha hb=>
 cases hb
 have e1:Lg (.cons x a .nil)=[Ar x (Lg a)]:=rfl
 have Bmd:(Fo.cons x a .nil).flat=(Ar x (Lg a)).fl:=by rw [Um,e1];simp
 have hk:=Oy _ Afy ha
 have hk2:F2 W2 ds (Lg a):=Aky hk fun c r hr h=>h (by have:=Qs (x:=x) hr;rw [←Bmd]at this;omega)
 have hea:=Ek (Kg hk2)
 have Ca6:Pa (.cons x a .nil)=tx ((Ar x (Lg a)).st 0):=rfl
 rw [Ca6]at h hs
 rw [Bmd]at hl hc⊢
 generalize Lg a=rs at*
 cases ho with
 |unit k at_=>
 rw [As4]at h hs
 obtain⟨hlen,Aw4⟩:=Z4 hk2
 have hfl:=Oz hea
 have hfn:=Q9 ⟨42,[],0,wr k,at_⟩ rs
 have hkk:(⟨42,[],0,wr k,at_⟩:Ai).kids=(rs.length:Int):=by show wr k=_;rw [hlen];exact Mh (by omega)
 refine Ze _ _ (hc _ (A8 rfl (Ee _ _ (by exact hl) _ ?_)))
 have hd0:(Ar ⟨42,[],0,wr k,at_⟩ rs).fl.drop 0=(Ar ⟨42,[],0,wr k,at_⟩ rs).fl++[]:=by simp
 have hkp:=Dd hkk hea hd0
 have hkp:G4 (Ar ⟨42,[],0,wr k,at_⟩ rs).fl 0=plc 1 rs:=hkp
 dsimp only
 rw [hkp]
 have hdr:(Ar ⟨42,[],0,wr k,at_⟩ rs).fl.drop 1=rs.flatMap R.fl++[]:=by rw [List.append_nil];rfl
 generalize hL:(Ar ⟨42,[],0,wr k,at_⟩ rs).fl=L at*
 refine⟨fun x ad bf dp n=>∃j:Nat,x=j/\j<=rs.length/\dp=0/\bf=B8 (tx (Br 0 (rs.take j)))/\n=rs.length-j,⟨_,0,rfl,by omega,rfl,by simp [Br,tx,B8],rfl⟩,?_⟩
 rintro x ad bf dp n ⟨j,rfl,hj,rfl,rfl,rfl⟩
 rw [Bm]
 refine Ab (fun e=> ?_) fun e=> ?_
 ·have e:j<rs.length:=by simpa using e
  refine⟨⟨by omega,by omega⟩,fun x1 h1=> ?_⟩
  have hr:rs[j]? =some rs[j]:=List.getElem?_eq_getElem e
  obtain⟨q,hq,hat⟩:=C1 L rs 1 [] hdr j _ hr
  rw [Int.toNat_natCast,hq]at h1
  cases h1
  have hbt:=Vx 0 hr
  have hle:=Afn (rs:=rs) (j+1) 0
  rw [hbt,List.length_append]at hle
  have hml:=Z0 (List.getElem_mem e)
  refine(Aw4 _ (List.getElem_mem e)).dc rfl ⟨L,⟨ad,_⟩,((0:Nat):Int)⟩ q 0 hl hat rfl (by omega) (by rw [D5];omega) _ fun ad'=> ?_
  refine⟨rs.length-(j+1),by omega,j+1,by rw [Ax (by omega) (by omega)];omega,by omega,rfl,?_,rfl⟩
  rw [hbt,Gd]
 ·have e:¬j<rs.length:=by simpa using e
  have ht:rs.take j=rs:=List.take_of_length_le (by omega)
  rw [ht]
  exact Av2 _ _ rfl _ h
end Go.Proofs.YtcakelelfklhdaaGreatDoor
namespace Go.Proofs.YtcakelelfklhdaaGreatDoor
open Go.Vc
def Li (xA:Option Addr) (xN:Nat) (xC:Nat) (count:Int) (K:Value->World->Prop) (w:World):Prop:=
 ∃(J:World->Prop),
 (cond (decide (count<0))
 (False)
 (J w))/\
 ∀(_g:Nat->Value) (w2:World),J w2->
 Calls Tryz.prog 84 #[.int .u64 (IntKind.u64.wrap (xN:Int)),.int .u64 (IntKind.u64.wrap count)] w2 (Ret fun v1 w3=>
 ∃(x0:Int) (x1:Int),v1= .tuple #[.int .u64 x0,.int .u64 x1]/\
 ∃(J1:World->Prop),
 (∀(_g1:Nat->Value),
 cond (((decide (x0>0))||(decide (x1>9223372036854775807))))
 (False)
 (J1 w3))/\
 ∀(_g2:Nat->Value) (w5:World),J1 w5->
 Bl Tryz.prog (Instr.makeSlice 42 (.int .i64 (IntKind.i64.wrap x1)) (.int .i64 (IntKind.i64.wrap x1))) (fun v3 w6=>
 ∃(Aze:Option Addr) (Ayp:Nat) (Ax2:Nat),v3= .slice Aze Ayp Ax2/\
 Bl Tryz.prog (Builtin.copy_ #[42,42] 3 #[.slice Aze Ayp Ax2,.slice xA xN xC]) (fun v4 w7=>
 ∃(n:Int),v4= .int .i64 n/\
 ∃(I:Int->World->Prop) (m:Int->World->Nat),I n w7/\
 ∀(_g3:Nat->Value) (n1:Int) (w8:World),I n1 w8->
 cond (decide (n1<(Ayp:Int)))
 (∀w9:World,w9=w8.drew->
 ((0:Int)<=n1/\n1<=(Ayp:Int))/\
 ((0:Int)<=n1/\n1<=(Ax2:Int))/\
 Bl Tryz.prog (Builtin.copy_ #[42,42] 3 #[.slice (Hp Aze n1.toNat Ax2 1) (Ayp-n1.toNat) (Ax2-n1.toNat),.slice (Hp Aze 0 Ax2 1) n1.toNat Ax2]) (fun v5 w10=>
 ∃(x:Int),v5= .int .i64 x/\
 I (IntKind.i64.wrap (n1+x)) w10/\m (IntKind.i64.wrap (n1+x)) w10<m n1 w8) w9)
 (K (.slice Aze Ayp Ax2) w8)) w6) w5)
theorem Lj (xA:Option Addr) (xN:Nat) (xC:Nat) (count:Int) (K:Value->World->Prop) (w:World) (h:Li xA xN xC count K w):Calls Tryz.prog 78 #[.slice xA xN xC,.int .i64 count] w (Ret K):=
 Ao { loops:=[(508,[(8,.int .i64)])],Axo:=[(3,[]),(15,[])],Axr:=[(60,[26])] } Tryz.func78 (by kernel_rfl) h
def V7 (x:Int) (y:Int) (K:Value->World->Prop) (w:World):Prop:=
 Calls Tryz.prog 98 #[.int .u64 x,.int .u64 y] w (Ret fun v w1=>
 ∃(x0:Int) (x1:Int),v= .tuple #[.int .u64 x0,.int .u64 x1]/\
 K (.tuple #[.int .u64 x0,.int .u64 x1]) w1)
theorem V8 (x:Int) (y:Int) (K:Value->World->Prop) (w:World) (h:V7 x y K w):Calls Tryz.prog 84 #[.int .u64 x,.int .u64 y] w (Ret K):=
 Ao {} Tryz.func84 (by kernel_rfl) h
def Tc (x:Int) (y:Int) (K:Value->World->Prop) (w:World):Prop:=
 (0:Int)<=32/\
 (0:Int)<=32/\
 (0:Int)<=32/\
 (0:Int)<=32/\
 (0:Int)<=32/\
 K (.tuple #[.int .u64 (IntKind.u64.wrap ((IntKind.u64.wrap ((IntKind.u64.wrap ((x.fdiv (2^(min 32 IntKind.u64.bits)))*(y.fdiv (2^(min 32 IntKind.u64.bits)))))+((IntKind.u64.wrap ((IntKind.u64.wrap ((x.fdiv (2^(min 32 IntKind.u64.bits)))*(H8 .u64 y 4294967295)))+((IntKind.u64.wrap ((H8 .u64 x 4294967295)*(H8 .u64 y 4294967295))).fdiv (2^(min 32 IntKind.u64.bits))))).fdiv (2^(min 32 IntKind.u64.bits)))))+((IntKind.u64.wrap ((H8 .u64 (IntKind.u64.wrap ((IntKind.u64.wrap ((x.fdiv (2^(min 32 IntKind.u64.bits)))*(H8 .u64 y 4294967295)))+((IntKind.u64.wrap ((H8 .u64 x 4294967295)*(H8 .u64 y 4294967295))).fdiv (2^(min 32 IntKind.u64.bits))))) 4294967295)+(IntKind.u64.wrap ((H8 .u64 x 4294967295)*(y.fdiv (2^(min 32 IntKind.u64.bits))))))).fdiv (2^(min 32 IntKind.u64.bits))))),.int .u64 (IntKind.u64.wrap (x*y))]) w
theorem Td (x:Int) (y:Int) (K:Value->World->Prop) (w:World) (h:Tc x y K w):Calls Tryz.prog 98 #[.int .u64 x,.int .u64 y] w (Ret K):=
 Ao {} Tryz.func98 (by kernel_rfl) h
end Go.Proofs.YtcakelelfklhdaaGreatDoor
namespace Go.Proofs.YtcakelelfklhdaaGreatDoor
open Go.Vc Go.Lv Go.Ty
theorem wrap_u64 {n:Int} (h0:0<=n) (h:n<18446744073709551616):IntKind.u64.wrap n=n:=by
 simp [IntKind.wrap,IntKind.signed,IntKind.bits];omega
theorem As5 (n:Int) (h0:0<=n) (h:n<4294967296):H8 .u64 n 4294967295=n:=by
 obtain⟨m,rfl⟩:∃m:Nat,n=m:=⟨n.toNat,by omega⟩
 unfold H8
 have e:(BitVec.ofInt (IntKind.u64.bits) (m:Int)&&&BitVec.ofInt (IntKind.u64.bits) 4294967295).toNat=m:=by
  have h1:(BitVec.ofInt (IntKind.u64.bits) (m:Int)).toNat=m:=by
   show(BitVec.ofInt 64 (m:Int)).toNat=m
   rw [BitVec.toNat_ofInt];omega
  have h2:(BitVec.ofInt (IntKind.u64.bits) (4294967295:Int)).toNat=2^32-1:=by decide
  rw [BitVec.toNat_and,h1,h2,Nat.and_two_pow_sub_one_eq_mod]
  omega
 rw [e]
 have e2:IntKind.u64.wrap (m:Int)=(m:Int):=wrap_u64 (by omega) (by omega)
 exact e2
theorem Afz (n:Int) (h0:0<=n) (h:n<4294967296) (w:World):Calls Tryz.prog 84 #[.int .u64 1,.int .u64 n] w (Ret fun v w'=>v= .tuple #[.int .u64 0,.int .u64 n]/\w=w'):=by
 refine V8 _ _ _ _ ?_
 refine Td _ _ _ _ ⟨by decide,by decide,by decide,by decide,by decide,?_⟩
 have hb:(2^(min 32 IntKind.u64.bits):Int)=4294967296:=by decide
 rw [hb,As5 n h0 h,show(H8 .u64 1 4294967295)=1 by decide,show Int.fdiv 1 4294967296=0 by decide,show Int.fdiv n 4294967296=0 by rw [Int.fdiv_eq_ediv_of_nonneg _ (by omega)];omega]
 have w0:IntKind.u64.wrap 0=0:=by decide
 have wn:IntKind.u64.wrap n=n:=wrap_u64 (by omega) (by omega)
 simp only [Int.zero_mul,Int.one_mul,Int.mul_zero,w0,wn]
 rw [show Int.fdiv n 4294967296=0 by rw [Int.fdiv_eq_ediv_of_nonneg _ (by omega)];omega]
 simp only [w0,Int.zero_fdiv,show(H8 .u64 0 4294967295)=0 by decide,Int.add_zero]
 exact⟨_,_,rfl,rfl,trivial⟩
theorem Ai3 {w0 w:World} {g:Nat} {xs:Array Value} (h:An [] w0 w) (hg:w0.heap.size<=g):An [] w0 (w.setRow g xs):=
 ⟨h.os,h.tape,h.output,by simpa [World.setRow] using h.size,fun j hj hm=>by
  rw [←h.block j hj hm]
  simp only [World.setRow,Array.getElem?_modify]
  rw [if_neg (by omega)]⟩
theorem Avc (a n:Int) (hn:0<=n) (hn2:n<4294967296) (K:List Int->Prop) (h:K (List.replicate n.toNat a)):G3 [a] n K:=by
 intro m w hm xA xC hxc hx
 obtain⟨N,rfl⟩:∃N:Nat,n=N:=⟨n.toNat,by omega⟩
 rw [Int.toNat_natCast]at h
 refine Lj _ _ _ _ _ _ ⟨fun w'=>w=w',A8 (by simp) rfl,?_⟩
 rintro _ _ rfl
 have wn:IntKind.u64.wrap (N:Int)=N:=wrap_u64 (by omega) (by omega)
 rw [wn,show IntKind.u64.wrap (([a].length:Nat):Int)=1 from wrap_u64 (n:=1) (by omega) (by omega)]
 refine Aa (Afz N hn hn2 _) ?_
 rintro _ _ ⟨rfl,rfl⟩
 refine⟨_,_,rfl,fun w'=>w=w',fun _=>A8 (by simp;omega) rfl,?_⟩
 rintro _ _ rfl
 have hT:=Atv
 obtain⟨i,z,ht,hi,hz,hsz,hb,hzs,Bbt⟩:=hT
 have hz0:z= .int .u8 0:=by
  have:Tryz.prog.info? 5=some Tryz.t5:=by kernel_rfl
  rw [this]at hi
  cases hi
  have h2:Tryz.t5.zero=some (.int .u8 0):=by kernel_rfl
  rw [h2]at hz
  exact(Option.some.inj hz).symm
 subst hz0
 rw [Ax (n:=(N:Int)) (by omega) (by omega)]
 refine⟨_,_,run_make w (P:=Tryz.prog) 42 5 i (.int .u8 0) ht hi hz .i64 .i64 N N (by omega) (by omega) (by rw [hb];omega) (by omega),?_⟩
 refine⟨_,_,_,rfl,?_⟩
 rw [Int.toNat_natCast]
 have Axu:(madeCells (Value.int .u8 0).cells (N*i.size))=⟨List.replicate N (.int .u8 0)⟩:=by
  rw [hsz,Nat.mul_one]
  apply Array.ext'
  apply List.ext_getElem
  ·simp [madeCells]
  ·intro j h1 h2
   simp [madeCells,Value.cells,Nat.mod_one]
 rw [Axu]
 have Bcz:(Tryz.prog.info? 5).map (·.size)=some 1:=by rw [hi];simp [hsz]
 generalize hw1:w.alloc (.cells ⟨List.replicate N (.int .u8 0)⟩ 5)=w1
 have hg1:w1.heap[w.heap.size]? =some (.cells ⟨List.replicate N (.int .u8 0)⟩ 5 (0,0)):=by rw [←hw1];show(w.heap.push _)[w.heap.size]? =_;simp
 have hk1:An [] w w1:=Bk hw1.symm
 have Bd5:∀(w8:World),An [] w w8->w8.heap[w.heap.size]? =some (.cells ⟨List.replicate N (.int .u8 a)⟩ 5 (0,0))->
  (∃r0:List Int,K r0/\(∃(a0:Option Addr) (c0:Nat),(Value.slice (some ⟨w.heap.size,0,none⟩) N N)= .slice a0 r0.length c0/\r0.length<=c0/\SlR (Cb .u8) m w8 a0 r0)/\An [] w w8):=by
  intro w8 hk hg
  refine⟨_,h,⟨some ⟨w.heap.size,0,none⟩,N,by simp,by simp,.inr ⟨_,_,rfl,fun hmm=>Nat.lt_irrefl _ (hm.lt _ hmm),?_,Tx _ _ _⟩⟩,hk⟩
  intro j hj
  rw [F4,Nat.zero_add]
  have hj':j<N:=by simpa using hj
  simp [World.cell?,hg,hj']
 by_cases hN:N=0
 ·subst hN
  refine⟨_,_,run_copy_none (P:=Tryz.prog) w1 _ _ _ _ _ _ _ _ _ _ ht Bcz (by simp),⟨_,rfl,fun n1 w8=>n1=0/\w1=w8,fun _ _=>0,⟨rfl,rfl⟩,?_⟩⟩
  rintro _ _ _ ⟨rfl,rfl⟩
  exact A8 (by simp) (Bd5 _ hk1 hg1)
 ·obtain⟨p,x,cs,rfl,hx0,hat,Bdi⟩:=hx.elem (i:=0) (by simp)
  simp at hx0
  subst hx0
  have hcs:cs=[.int .u8 a]:=Bdi
  subst hcs
  have Bdx:Ad w1 (p.add 0) [.int .u8 a]:=hat.held hk1 (by simp)
  refine⟨_,_,run_copy_row Tryz.prog w1 _ _ _ _ w.heap.size 0 N N p 1 xC ⟨List.replicate N (.int .u8 0)⟩ 5 [.int .u8 a] ht Bcz hg1 (by show 1=min 1 N;omega) (fun j v hj=> ?_) (by simp;omega) (by simp [Value.oneCell']),?_⟩
  ·cases j with
   |zero=>
    simp at hj
    subst hj
    have:=Bdx 0 (by simp)
    simpa [Addr.add] using this
   |succ j=>simp at hj
  ·refine⟨_,rfl,fun n1 w8=>∃q:Nat,n1=q/\1<=q/\q<=N/\An [] w w8/\w8.heap[w.heap.size]? =some (.cells ⟨List.replicate q (.int .u8 a)++List.replicate (N-q) (.int .u8 0)⟩ 5 (0,0)),fun n1 _=>N-n1.toNat,⟨1,rfl,by omega,by omega,Ai3 hk1 (Nat.le_refl _),?_⟩,?_⟩
   ·rw [setRow_heap _ _ _ _ _ _ hg1]
    simp
   ·rintro _ _ w8 ⟨q,rfl,hq1,hqN,hk,hg⟩
    refine Ab (fun hc=> ?_) fun hc=> ?_
    ·have Ckz:q<N:=by simp at hc;omega
     intro w9 hw9
     refine⟨by omega,by omega,?_⟩
     have hk9:An [] w w9:=hk.trans (Acf hw9)
     have hg9:w9.heap[w.heap.size]? =some (.cells ⟨List.replicate q (.int .u8 a)++List.replicate (N-q) (.int .u8 0)⟩ 5 (0,0)):=by rw [hw9];exact hg
     rw [Int.toNat_natCast,Tw]
     have Be3:Hp (some ⟨w.heap.size,0,none⟩) q N 1=some ⟨w.heap.size,q,none⟩:=by
      unfold Hp
      rw [if_neg (by omega)]
      simp [F4]
     rw [Be3]
     obtain⟨c,hc1,hc2,hc3,hc4⟩:∃c:Nat,min q (N-q)=c/\1<=c/\c<=q/\c<=N-q:=⟨_,rfl,by omega,by omega,by omega⟩
     refine⟨_,_,run_copy_row Tryz.prog w9 _ _ _ _ w.heap.size q (N-q) (N-q) ⟨w.heap.size,0,none⟩ (q-0) (N-0) _ 5 (List.replicate c (.int .u8 a)) ht Bcz hg9 (by rw [List.length_replicate];show c=min q (N-q);omega) (fun j v hj=> ?_) (by simp;omega) (fun v hv=>by rw [List.eq_of_mem_replicate hv];rfl),?_⟩
     ·have hj':=(List.getElem?_eq_some_iff.1 hj).1
      have hv:=(List.getElem?_eq_some_iff.1 hj).2
      simp at hj' hv
      rw [F4,Nat.zero_add]
      have hjq:j<q:=by omega
      simp only [World.cell?,hg9,Option.isSome_none,Bool.false_eq_true,if_false]
      rw [List.getElem?_toArray]
      show(List.replicate q (Value.int .u8 a)++List.replicate (N-q) (Value.int .u8 0))[j]? =some v
      rw [List.getElem?_append_left (by simp;omega),←hv]
      simp [hjq]
     ·refine⟨_,rfl,?_⟩
      rw [List.length_replicate]
      rw [Ax (by omega) (by omega)]
      refine⟨⟨q+c,by omega,by omega,by omega,Ai3 hk9 (Nat.le_refl _),?_⟩,by show N-((q:Int)+(c:Int)).toNat<N-(q:Int).toNat;omega⟩
      have hl:(List.replicate q (Value.int .u8 a)++List.replicate (N-q) (Value.int .u8 0)).take q++List.replicate c (Value.int .u8 a)++(List.replicate q (Value.int .u8 a)++List.replicate (N-q) (Value.int .u8 0)).drop (q+c)=List.replicate (q+c) (Value.int .u8 a)++List.replicate (N-(q+c)) (Value.int .u8 0):=by
       rw [List.take_append_of_le_length (by simp),List.take_of_length_le (by simp),List.drop_append,List.drop_of_length_le (by simp),List.nil_append,List.drop_replicate,List.length_replicate,List.replicate_append_replicate,show N-q-(q+c-q)=N-(q+c) by omega]
      refine(setRow_heap _ _ _ _ _ _ hg9).trans ?_
      rw [←hl]
    ·have hq:q=N:=by simp at hc;omega
     subst hq
     rw [Nat.sub_self,List.replicate_zero,List.append_nil]at hg
     exact Bd5 _ hk hg
end Go.Proofs.YtcakelelfklhdaaGreatDoor
