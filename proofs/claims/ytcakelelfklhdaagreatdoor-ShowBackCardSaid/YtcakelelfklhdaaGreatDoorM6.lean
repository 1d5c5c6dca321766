/- A part of the proof: conditions of the code, contracts, the plain law. -/
import Derived.Test.YtcakelelfklhdaaGreatDoorM2
import Derived.Test.YtcakelelfklhdaaGreatDoorM3
import Derived.Test.YtcakelelfklhdaaGreatDoorM4
import Derived.Test.YtcakelelfklhdaaGreatDoorM5
import Derived.Test.YtcakelelfklhdaaGreatDoorM7
import Derived.Test.YtcakelelfklhdaaGreatDoorMapL
import Derived.Test.YtcakelelfklhdaaGreatDoorLv
import Derived.Test.YtcakelelfklhdaaGreatDoorLoop
namespace Go.Proofs.YtcakelelfklhdaaGreatDoor
open Go.Vc Go.Lv Go.Ty
set_option maxRecDepth 10000
def Aia (toks:List Au) (atx:Int) (deep:Int) (K:As->Prop):Prop:=
 Dm toks atx (fun x=>
 cond (x.kind==2)
 (K (⟨[(⟨1,[],x.n,0,x.at_⟩:Ai)],IntKind.i64.wrap (atx+1),0⟩:As))
 (cond (x.kind==1)
 (K (⟨[(⟨2,x.text,0,0,x.at_⟩:Ai)],IntKind.i64.wrap (atx+1),0⟩:As))
 (∃(J:Bool->Prop),
 (cond (x.kind !=4)
 (J true)
 (cond (!(x.text==[45]))
 (cond (!(x.text==[33]))
 (J (!(x.text==[40])))
 (J false))
 (J false)))/\
 ∀(x1:Bool),J x1->
 cond (x1)
 (K (⟨[],atx,11⟩:As))
 (cond (deep==24)
 (K (⟨[],atx,5⟩:As))
 (cond (x.text==[40])
 (Fi toks (IntKind.i64.wrap (atx+1)) 1 (IntKind.i64.wrap (deep+1)) (fun x2=>
 cond (x2.e_ !=0)
 (K x2)
 (Dm toks x2.at_ (fun x3=>
 ∃(J1:Bool->Prop),
 (cond (x3.kind !=4)
 (J1 true)
 (J1 (!(x3.text==[41]))))/\
 ∀(x4:Bool),J1 x4->
 cond (x4)
 (K (⟨[],x2.at_,11⟩:As))
 (K (⟨x2.l,IntKind.i64.wrap (x2.at_+1),0⟩:As))))))
 (Kk toks (IntKind.i64.wrap (atx+1)) (IntKind.i64.wrap (deep+1)) (fun x5=>
 cond (x5.e_ !=0)
 (K x5)
 (∃(J2:Int->Prop),
 (cond (x.text==[33])
 (J2 4)
 (J2 3))/\
 ∀(op:Int),J2 op->
 ([(⟨op,[],0,1,x.at_⟩:Ai)]).length+x5.l.length<2^32/\
 K (⟨([(⟨op,[],0,1,x.at_⟩:Ai)]++x5.l),x5.at_,0⟩:As)))))))))
set_option maxHeartbeats 4000000 in
theorem Ae5 (toks:List Au) (atx:Int) (deep:Int) (K:As->Prop) (h:Aia toks atx deep K):Kk toks atx deep K:=by
 intro m w hm Awv Aww Aws Awt
 have o:=Mem.start hm.lt
 refine Aj5 Awv toks.length Aww atx deep _ _ ?_
 intro b w1 hb hw1
 obtain⟨st,o⟩:=o.dB hb hw1
 refine Aa (h _ w1 (o.mn hm) _ _ Aws (Awt.st st)) ?_
 rintro _ w2 ⟨x,h,⟨cs,rfl,f⟩,ke⟩
 obtain⟨st1,o⟩:=o.dE ke
 obtain rfl:=Dj f
 refine⟨_,_,_,_,rfl,?_⟩
 intro b1 w3 hb1 hw3
 obtain⟨st2,o⟩:=o.dB hb1 hw3
 refine⟨o.wr 0 rfl rfl,fun w4 hw4=> ?_⟩
 obtain⟨st3,o⟩:=o.dSs 0 hw4 rfl
 refine⟨_,(o.at 0 rfl).cell rfl,?_⟩
 refine Ac (fun h=> ?_) (fun h=> ?_) h
 refine⟨_,(o.at 0 rfl).cell rfl,?_⟩
 refine⟨_,(o.at 0 rfl).cell rfl,?_⟩
 intro b2 w5 hb2 hw5
 have el:El Ay (ms [.box b1 [.q x.kind,.s x.text,.q x.n,.q x.at_],.box b [.slice none 0 0,.q 0,.q 0]] m) w4 [(⟨1,[],x.n,0,x.at_⟩:Ai)] ([.q 1,.s [],.q x.n,.q 0,.q x.at_]:List Value):=(El.cons (cs:=[.q 1,.s [],.q x.n,.q 0,.q x.at_]) (A3 (⟨1,[],x.n,0,x.at_⟩:Ai)) (El.nil _ _ _))
 have st4:=o.xL hb2 hw5 5 1
 have o:=o.lit hb2 hw5 5 1 (by decide) rfl
 refine⟨o.wr 2 rfl rfl,fun w6 hw6=> ?_⟩
 obtain⟨st5,o⟩:=o.dSs 2 hw6 rfl
 refine⟨_,_,_,_,_,(o.at 2 rfl).whole,?_⟩
 have le:=(o.rowAt 0 rfl).cap
 have st6:=o.xX 0
 have sT:=(st4.trans st5).trans st6
 have f1:=o.freeze (c:=Ay) (l:=[(⟨1,[],x.n,0,x.at_⟩:Ai)]) 0 rfl (fun b hb=>by simp at hb) (el.st sT)
 have o:=o.erase 0
 exact⟨(⟨[(⟨1,[],x.n,0,x.at_⟩:Ai)],IntKind.i64.wrap (atx+1),0⟩:As),h,⟨_,rfl,(B0 (⟨[(⟨1,[],x.n,0,x.at_⟩:Ai)],IntKind.i64.wrap (atx+1),0⟩:As) ⟨le,(f1.st Mem.Aw9)⟩)⟩,o.done⟩
 refine⟨_,(o.at 0 rfl).cell rfl,?_⟩
 refine Ac (fun h=> ?_) (fun h=> ?_) h
 refine⟨_,(o.at 0 rfl).cell rfl,?_⟩
 refine⟨_,(o.at 0 rfl).cell rfl,?_⟩
 intro b3 w7 hb3 hw7
 have el1:El Ay (ms [.box b1 [.q x.kind,.s x.text,.q x.n,.q x.at_],.box b [.slice none 0 0,.q 0,.q 0]] m) w4 [(⟨2,x.text,0,0,x.at_⟩:Ai)] ([.q 2,.s x.text,.q 0,.q 0,.q x.at_]:List Value):=(El.cons (cs:=[.q 2,.s x.text,.q 0,.q 0,.q x.at_]) (A3 (⟨2,x.text,0,0,x.at_⟩:Ai)) (El.nil _ _ _))
 have st7:=o.xL hb3 hw7 5 1
 have o:=o.lit hb3 hw7 5 1 (by decide) rfl
 refine⟨o.wr 2 rfl rfl,fun w8 hw8=> ?_⟩
 obtain⟨st8,o⟩:=o.dSs 2 hw8 rfl
 refine⟨_,_,_,_,_,(o.at 2 rfl).whole,?_⟩
 have le1:=(o.rowAt 0 rfl).cap
 have st9:=o.xX 0
 have sT1:=(st7.trans st8).trans st9
 have f2:=o.freeze (c:=Ay) (l:=[(⟨2,x.text,0,0,x.at_⟩:Ai)]) 0 rfl (fun b hb=>by simp at hb) (el1.st sT1)
 have o:=o.erase 0
 exact⟨(⟨[(⟨2,x.text,0,0,x.at_⟩:Ai)],IntKind.i64.wrap (atx+1),0⟩:As),h,⟨_,rfl,(B0 (⟨[(⟨2,x.text,0,0,x.at_⟩:Ai)],IntKind.i64.wrap (atx+1),0⟩:As) ⟨le1,(f2.st Mem.Aw9)⟩)⟩,o.done⟩
 obtain⟨J,h,h2⟩:=h
 refine⟨fun x1 w9=>J x1/\MT w m w4 w9 [.box b1 [.q x.kind,.s x.text,.q x.n,.q x.at_],.box b [.slice none 0 0,.q 0,.q 0]],?_,?_⟩
 refine⟨_,(o.at 0 rfl).cell rfl,?_⟩
 refine Ac (fun h=> ?_) (fun h=> ?_) h
 exact⟨h,o,Step.refl _ _⟩
 refine⟨_,(o.at 0 rfl).cell rfl,?_⟩
 refine Ac (fun h=> ?_) (fun h=> ?_) h
 refine⟨_,(o.at 0 rfl).cell rfl,?_⟩
 refine Ac (fun h=> ?_) (fun h=> ?_) h
 refine⟨_,(o.at 0 rfl).cell rfl,?_⟩
 exact⟨h,o,Step.refl _ _⟩
 exact⟨h,o,Step.refl _ _⟩
 exact⟨h,o,Step.refl _ _⟩
 rintro _ x1 w9 ⟨hJ,o,Aw6⟩
 have h:=h2 x1 hJ
 refine Ac (fun h=> ?_) (fun h=> ?_) h
 refine⟨o.wr 1 rfl rfl,fun w10 Bah=> ?_⟩
 obtain⟨Aw8,o⟩:=o.dSs 1 Bah rfl
 refine⟨_,_,_,_,_,(o.at 1 rfl).whole,?_⟩
 exact⟨(⟨[],atx,11⟩:As),h,⟨_,rfl,(B0 (⟨[],atx,11⟩:As) ⟨(Nat.le_refl _),(SlR.nil _ _ _ _)⟩)⟩,o.done⟩
 refine Ac (fun h=> ?_) (fun h=> ?_) h
 refine⟨o.wr 1 rfl rfl,fun w11 Azc=> ?_⟩
 obtain⟨Axd,o⟩:=o.dSs 1 Azc rfl
 refine⟨_,_,_,_,_,(o.at 1 rfl).whole,?_⟩
 exact⟨(⟨[],atx,5⟩:As),h,⟨_,rfl,(B0 (⟨[],atx,5⟩:As) ⟨(Nat.le_refl _),(SlR.nil _ _ _ _)⟩)⟩,o.done⟩
 refine⟨_,(o.at 0 rfl).cell rfl,?_⟩
 refine Ac (fun h=> ?_) (fun h=> ?_) h
 have sT2:=(((st.trans st1).trans st2).trans st3).trans Aw6
 refine Aa (h _ w9 (o.mn hm) _ _ Aws (Awt.st sT2)) ?_
 rintro _ w12 ⟨x2,h,⟨cs1,rfl,f3⟩,ke1⟩
 obtain⟨Axb,o⟩:=o.dE ke1
 obtain⟨a,c,rfl,⟨le2,f4⟩⟩:=D2 f3
 refine⟨_,_,_,_,_,rfl,?_⟩
 intro b4 w13 hb4 Azd
 obtain⟨Axl,o⟩:=o.dB hb4 Azd
 refine⟨o.wr 0 rfl rfl,fun w14 Bag=> ?_⟩
 obtain⟨Axh,o⟩:=o.dSs 0 Bag rfl
 refine⟨_,(o.at 0 rfl).cell rfl,?_⟩
 refine Ac (fun h=> ?_) (fun h=> ?_) h
 refine⟨_,_,_,_,_,(o.at 0 rfl).whole,?_⟩
 refine⟨o.wr 2 rfl rfl,fun w15 Ayn=> ?_⟩
 obtain⟨Axn,o⟩:=o.dSs 2 Ayn rfl
 refine⟨_,_,_,_,_,(o.at 2 rfl).whole,?_⟩
 exact⟨x2,h,⟨_,rfl,(B0 x2 ⟨le2,(f4.st (Axl.trans (Axh.trans (Axn.trans Mem.Aw9))))⟩)⟩,o.done⟩
 refine⟨_,(o.at 0 rfl).cell rfl,?_⟩
 have sT3:=((sT2.trans Axb).trans Axl).trans Axh
 refine Aa (h _ w14 (o.mn hm) _ _ Aws (Awt.st sT3)) ?_
 rintro _ w16 ⟨x3,h,⟨cs2,rfl,f5⟩,ke2⟩
 obtain⟨Axx,o⟩:=o.dE ke2
 obtain rfl:=Dj f5
 refine⟨_,_,_,_,rfl,?_⟩
 intro b5 w17 hb5 Azo
 obtain⟨Ax4,o⟩:=o.dB hb5 Azo
 refine⟨o.wr 0 rfl rfl,fun w18 Azy=> ?_⟩
 obtain⟨Aye,o⟩:=o.dSs 0 Azy rfl
 obtain⟨J1,h,h2⟩:=h
 refine⟨fun x4 w19=>J1 x4/\MT w m w18 w19 [.box b5 [.q x3.kind,.s x3.text,.q x3.n,.q x3.at_],.box b4 [.slice a x2.l.length c,.q x2.at_,.q x2.e_],.box b1 [.q x.kind,.s x.text,.q x.n,.q x.at_],.box b [.slice none 0 0,.q 0,.q 0]],?_,?_⟩
 refine⟨_,(o.at 0 rfl).cell rfl,?_⟩
 refine Ac (fun h=> ?_) (fun h=> ?_) h
 exact⟨h,o,Step.refl _ _⟩
 refine⟨_,(o.at 0 rfl).cell rfl,?_⟩
 exact⟨h,o,Step.refl _ _⟩
 rintro _ x4 w19 ⟨hJ,o,Ayc⟩
 have h:=h2 x4 hJ
 refine Ac (fun h=> ?_) (fun h=> ?_) h
 refine⟨_,(o.at 1 rfl).cell rfl,?_⟩
 refine⟨o.wr 3 rfl rfl,fun w20 Bdo=> ?_⟩
 obtain⟨Ayi,o⟩:=o.dSs 3 Bdo rfl
 refine⟨_,_,_,_,_,(o.at 3 rfl).whole,?_⟩
 exact⟨(⟨[],x2.at_,11⟩:As),h,⟨_,rfl,(B0 (⟨[],x2.at_,11⟩:As) ⟨(Nat.le_refl _),(SlR.nil _ _ _ _)⟩)⟩,o.done⟩
 refine⟨_,_,_,(o.at 1 rfl).cell rfl,?_⟩
 refine⟨_,(o.at 1 rfl).cell rfl,?_⟩
 refine⟨o.wr 3 rfl rfl,fun w21 Bdw=> ?_⟩
 obtain⟨Ayo,o⟩:=o.dSs 3 Bdw rfl
 refine⟨_,_,_,_,_,(o.at 3 rfl).whole,?_⟩
 exact⟨(⟨x2.l,IntKind.i64.wrap (x2.at_+1),0⟩:As),h,⟨_,rfl,(B0 (⟨x2.l,IntKind.i64.wrap (x2.at_+1),0⟩:As) ⟨le2,(f4.st (Axl.trans (Axh.trans (Axx.trans (Ax4.trans (Aye.trans (Ayc.trans (Ayo.trans Mem.Aw9))))))))⟩)⟩,o.done⟩
 have sT4:=(((st.trans st1).trans st2).trans st3).trans Aw6
 refine Aa (h _ w9 (o.mn hm) _ _ Aws (Awt.st sT4)) ?_
 rintro _ w22 ⟨x5,h,⟨cs3,rfl,f6⟩,ke3⟩
 obtain⟨Azp,o⟩:=o.dE ke3
 obtain⟨a1,c1,rfl,⟨le3,f7⟩⟩:=D2 f6
 refine⟨_,_,_,_,_,rfl,?_⟩
 intro b6 w23 hb6 Bj5
 obtain⟨Ay2,o⟩:=o.dB hb6 Bj5
 refine⟨o.wr 0 rfl rfl,fun w24 Bcy=> ?_⟩
 obtain⟨Ay3,o⟩:=o.dSs 0 Bcy rfl
 refine⟨_,(o.at 0 rfl).cell rfl,?_⟩
 refine Ac (fun h=> ?_) (fun h=> ?_) h
 refine⟨_,_,_,_,_,(o.at 0 rfl).whole,?_⟩
 refine⟨o.wr 2 rfl rfl,fun w25 Bbw=> ?_⟩
 obtain⟨Bad,o⟩:=o.dSs 2 Bbw rfl
 refine⟨_,_,_,_,_,(o.at 2 rfl).whole,?_⟩
 exact⟨x5,h,⟨_,rfl,(B0 x5 ⟨le3,(f7.st (Ay2.trans (Ay3.trans (Bad.trans Mem.Aw9))))⟩)⟩,o.done⟩
 obtain⟨J2,h,h2⟩:=h
 refine⟨fun op w26=>J2 op/\MT w m w24 w26 [.box b6 [.slice a1 x5.l.length c1,.q x5.at_,.q x5.e_],.box b1 [.q x.kind,.s x.text,.q x.n,.q x.at_],.box b [.slice none 0 0,.q 0,.q 0]],?_,?_⟩
 refine⟨_,(o.at 1 rfl).cell rfl,?_⟩
 refine Ac (fun h=> ?_) (fun h=> ?_) h
 exact⟨h,o,Step.refl _ _⟩
 exact⟨h,o,Step.refl _ _⟩
 rintro _ op w26 ⟨hJ,o,Ay7⟩
 have h:=h2 op hJ
 intro w27 Bfw
 obtain⟨Azj,o⟩:=o.dD Bfw
 have ox:=o
 refine⟨fun u=>An [] w27 u,An.refl _ _,?_⟩
 refine⟨_,fun u hu=>((ox.at 1 rfl).Awz hu (by simp)).cell rfl,?_⟩
 refine⟨_,_,_,fun u hu=>((ox.at 0 rfl).Awz hu (by simp)).cell rfl,?_⟩
 refine⟨_,fun u hu=>((ox.at 0 rfl).Awz hu (by simp)).cell rfl,?_⟩
 intro b7 w28 hb7 Bc8
 have el2:El Ay (ms [.box b6 [.slice a1 x5.l.length c1,.q x5.at_,.q x5.e_],.box b1 [.q x.kind,.s x.text,.q x.n,.q x.at_],.box b [.slice none 0 0,.q 0,.q 0]] m) w27 [(⟨op,[],0,1,x.at_⟩:Ai)] ([.q op,.s [],.q 0,.q 1,.q x.at_]:List Value):=(El.cons (cs:=[.q op,.s [],.q 0,.q 1,.q x.at_]) (A3 (⟨op,[],0,1,x.at_⟩:Ai)) (El.nil _ _ _))
 have Azq:=o.xL hb7 Bc8 5 1
 have o:=o.lit hb7 Bc8 5 1 (by decide) rfl
 refine⟨((Bk Bc8).mono (by simp)),?_⟩
 obtain⟨lt,h⟩:=h
 have sT5:=(((Ay2.trans Ay3).trans Ay7).trans Azj).trans Azq
 obtain⟨xs,hx,el3⟩:=SlR.cells (f7.st sT5)
 have el4:=((el2.st Azq)).app el3
 refine Eu Ach (o.rowAt 0 rfl) hx el3.len el3.one (by first|(simp;done)|simpa using lt) (by decide) (Nat.zero_le _) fun a2 c2 w29 hr hg hat=> ?_
 have ln:1+x5.l.length=([(⟨op,[],0,1,x.at_⟩:Ai)]++x5.l).length:=(by first|(simp;done)|(simp;omega))
 rw [ln]at hr⊢
 refine⟨_,_,_,rfl,?_⟩
 have Azz:=o.xA 0 rfl hr hg hat
 have o:=o.app 0 rfl hr hg hat
 refine⟨(Nn ((Bk Bc8).mono (by simp)) hg (Q4 hb7 (An.refl _ _))),?_⟩
 refine⟨o.wr 3 rfl rfl,fun w30 Bk6=> ?_⟩
 obtain⟨Bbb,o⟩:=o.dSs 3 Bk6 rfl
 refine⟨_,_,_,_,_,(o.at 3 rfl).whole,?_⟩
 have le4:=(o.rowAt 0 rfl).cap
 have Ay8:=o.xX 0
 have sT6:=(Azz.trans Bbb).trans Ay8
 have f8:=o.freeze (c:=Ay) (l:=([(⟨op,[],0,1,x.at_⟩:Ai)]++x5.l)) 0 rfl (fun b hb=>by simp at hb) (el4.st sT6)
 have o:=o.erase 0
 exact⟨(⟨([(⟨op,[],0,1,x.at_⟩:Ai)]++x5.l),x5.at_,0⟩:As),h,⟨_,rfl,(B0 (⟨([(⟨op,[],0,1,x.at_⟩:Ai)]++x5.l),x5.at_,0⟩:As) ⟨le4,(f8.st Mem.Aw9)⟩)⟩,o.done⟩
def Abs (toks:List Au) (atx:Int) (K:As->Prop):Prop:=
 cond (decide (atx<0))
 (K (⟨[],0,1⟩:As))
 (Fi toks atx 1 0 (fun x=>
 K x))
theorem Zr (toks:List Au) (atx:Int) (K:As->Prop) (h:Abs toks atx K):Mp toks atx K:=by
 intro m w hm Awv Aww Aws Awt
 have o:=Mem.start hm.lt
 refine Ad2 Awv toks.length Aww atx _ _ ?_
 intro b w1 hb hw1
 obtain⟨st,o⟩:=o.dB hb hw1
 refine Ac (fun h=> ?_) (fun h=> ?_) h
 refine⟨o.wr 0 rfl rfl,fun w2 hw2=> ?_⟩
 obtain⟨st1,o⟩:=o.dSs 0 hw2 rfl
 refine⟨_,_,_,_,_,(o.at 0 rfl).whole,?_⟩
 exact⟨(⟨[],0,1⟩:As),h,⟨_,rfl,(B0 (⟨[],0,1⟩:As) ⟨(Nat.le_refl _),(SlR.nil _ _ _ _)⟩)⟩,o.done⟩
 refine Aa (h _ w1 (o.mn hm) _ _ Aws (Awt.st st)) ?_
 rintro _ w3 ⟨x,h,⟨cs,rfl,f⟩,ke⟩
 obtain⟨st2,o⟩:=o.dE ke
 obtain⟨a,c,rfl,⟨le,f1⟩⟩:=D2 f
 refine⟨_,_,_,_,_,rfl,?_⟩
 refine⟨o.wr 0 rfl rfl,fun w4 hw4=> ?_⟩
 obtain⟨st3,o⟩:=o.dSs 0 hw4 rfl
 refine⟨_,_,_,_,_,(o.at 0 rfl).whole,?_⟩
 exact⟨x,h,⟨_,rfl,(B0 x ⟨le,(f1.st (st3.trans Mem.Aw9))⟩)⟩,o.done⟩
def Ae6 (K:Bool->Prop):Prop:=
 On [109,97,105,110,32,123,32,112,114,105,110,116,32,97,32,45,32,40,98,32,45,32,49,41,32,59,32,112,114,105,110,116,32,45,40,97,43,98,41,59,32,125] (fun x=>
 Mo x.l (fun r r1=>
 Wh x.l 4 (fun r2 r3=>
 K ((r==[109,97,105,110,32,123,10,9,112,114,105,110,116,32,97,32,45,32,40,98,32,45,32,49,41,59,10,9,112,114,105,110,116,32,45,40,97,32,43,32,98,41,59,10,125,10])&&((r1==0)&&((r2==[97,32,45,32,40,98,32,45,32,49,41])&&r3))))))
theorem Abt (K:Bool->Prop) (h:Ae6 K):Ma K:=by
 intro m w hm
 have o:=Mem.start hm.lt
 refine Ahm _ _ ?_
 refine Aa (h _ w (o.mn hm)) ?_
 rintro _ w1 ⟨x,h,⟨cs,rfl,f⟩,ke⟩
 obtain⟨st,o⟩:=o.dE ke
 obtain⟨a,c,rfl,⟨le,f1⟩⟩:=D2 f
 refine⟨_,_,_,_,_,rfl,?_⟩
 refine Aa (h _ w1 (o.mn hm) _ _ le f1) ?_
 rintro _ w2 ⟨r,r1,h,rfl,ke1⟩
 obtain⟨st1,o⟩:=o.dE ke1
 refine⟨_,_,rfl,?_⟩
 refine Aa (h _ w2 (o.mn hm) _ _ le (f1.st st1)) ?_
 rintro _ w3 ⟨r2,r3,h,rfl,ke2⟩
 obtain⟨st2,o⟩:=o.dE ke2
 refine⟨_,_,rfl,?_⟩
 intro _
 exact⟨((r==[109,97,105,110,32,123,10,9,112,114,105,110,116,32,97,32,45,32,40,98,32,45,32,49,41,59,10,9,112,114,105,110,116,32,45,40,97,32,43,32,98,41,59,10,125,10])&&((r1==0)&&((r2==[97,32,45,32,40,98,32,45,32,49,41])&&r3))),h,rfl,o.done⟩
def Vs (l:List Ai) (K:Bool->Prop):Prop:=
 ∃(J:Bool->Prop),
 (cond (decide ((l.length:Int)>120))
 (J true)
 (Y8 l (fun x1=>
 J (!x1))))/\
 ∀(x:Bool),J x->
 cond (x)
 (Ma (fun x2=>
 K x2))
 (Mo l (fun r r1=>
 On r (fun x3=>
 cond (x3.e_==5)
 (∃(I:Bool->Int->Nat->Prop),(∃n,I false 0 n)/\
 ∀(de:Bool) (i:Int) (n:Nat),I de i n->
 cond (decide (i<(l.length:Int)))
 (∃(J1:Bool->Prop),
 (cond (de)
 (J1 true)
 (Sn l i (fun x4=>
 J1 (decide (x4>24)))))/\
 ∀(de1:Bool),J1 de1->
 ∃n1,n1<n/\I de1 (IntKind.i64.wrap (i+1)) n1)
 (cond (de)
 (Ma (fun x5=>
 K x5))
 (K false)))
 (cond (r1==0)
 (cond (x3.e_==0)
 (Sm x3.l l (fun x6=>
 cond (x6)
 (Ma (fun x7=>
 K x7))
 (K false)))
 (K false))
 (K false)))))
theorem Ui (l:List Ai) (K:Bool->Prop) (h:Vs l K):Qc l K:=by
 intro m w hm lA lC Axc f_l
 have o:=Mem.start hm.lt
 refine Xh lA l.length lC _ _ ?_
 obtain⟨J,h,h2⟩:=h
 refine⟨fun x w1=>J x/\MT w m w w1 [],?_,?_⟩
 refine Ac (fun h=> ?_) (fun h=> ?_) h
 exact⟨h,o,Step.refl _ _⟩
 refine Aa (h _ w (o.mn hm) _ _ Axc f_l) ?_
 rintro _ w2 ⟨x1,h,rfl,ke⟩
 obtain⟨st1,o⟩:=o.dE ke
 refine⟨_,rfl,?_⟩
 exact⟨h,o,st1⟩
 rintro _ x w1 ⟨hJ,o,st⟩
 have h:=h2 x hJ
 refine Ac (fun h=> ?_) (fun h=> ?_) h
 refine Aa (h _ w1 (o.mn hm)) ?_
 rintro _ w3 ⟨x2,h,rfl,ke1⟩
 obtain⟨st2,o⟩:=o.dE ke1
 refine⟨_,rfl,?_⟩
 exact⟨x2,h,rfl,o.done⟩
 refine Aa (h _ w1 (o.mn hm) _ _ Axc (f_l.st st)) ?_
 rintro _ w4 ⟨r,r1,h,rfl,ke2⟩
 obtain⟨st3,o⟩:=o.dE ke2
 refine⟨_,_,rfl,?_⟩
 refine Aa (h _ w4 (o.mn hm)) ?_
 rintro _ w5 ⟨x3,h,⟨cs,rfl,f⟩,ke3⟩
 obtain⟨st4,o⟩:=o.dE ke3
 obtain⟨a,c,rfl,⟨le,f1⟩⟩:=D2 f
 refine⟨_,_,_,_,_,rfl,?_⟩
 intro b w6 hb hw6
 obtain⟨st5,o⟩:=o.dB hb hw6
 refine⟨o.wr 0 rfl rfl,fun w7 hw7=> ?_⟩
 obtain⟨st6,o⟩:=o.dSs 0 hw7 rfl
 refine⟨_,(o.at 0 rfl).cell rfl,?_⟩
 refine Ac (fun h=> ?_) (fun h=> ?_) h
 obtain⟨I,⟨n2,h⟩,h2⟩:=h
 obtain⟨Z,hZ⟩:∃Z:Bool->Int->World->Nat->Prop,Z=fun de i w8 n=>I de i n/\MT w m w7 w8 [.box b [.slice a x3.l.length c,.q x3.at_,.q x3.e_]]:=⟨_,rfl⟩
 refine⟨fun de i w8=>∃n,Z de i w8 n,fun de i w8=>Aw0 (Z de i w8),⟨n2,?_⟩,?_⟩
 rw [hZ];exact⟨h,o,Step.refl _ _⟩
 intro _ de i w8 hIZ
 obtain⟨n,hnn⟩:∃n,n=Aw0 (Z de i w8):=⟨_,rfl⟩
 have hIZ:=Bz hIZ
 rw [←hnn,hZ]at hIZ
 obtain⟨h,o,st7⟩:=hIZ
 have h:=h2 de i n h
 refine Ac (fun h=> ?_) (fun h=> ?_) h
 obtain⟨J1,h,h2⟩:=h
 refine⟨fun de1 w9=>J1 de1/\MT w m w8 w9 [.box b [.slice a x3.l.length c,.q x3.at_,.q x3.e_]],?_,?_⟩
 refine Ac (fun h=> ?_) (fun h=> ?_) h
 exact⟨h,o,Step.refl _ _⟩
 have sT:=((((st.trans st3).trans st4).trans st5).trans st6).trans st7
 refine Aa (h _ w8 (o.mn hm) _ _ Axc (f_l.st sT)) ?_
 rintro _ w10 ⟨x4,h,rfl,ke4⟩
 obtain⟨st9,o⟩:=o.dE ke4
 refine⟨_,rfl,?_⟩
 exact⟨h,o,st9⟩
 rintro _ de1 w9 ⟨hJ,o,st8⟩
 have h:=h2 de1 hJ
 obtain⟨n1,hl,h⟩:=h
 exact Bh hnn (show Z _ _ w9 n1 from(by rw [hZ];exact⟨h,o,(st7.trans st8)⟩)) hl
 refine Ac (fun h=> ?_) (fun h=> ?_) h
 refine Aa (h _ w8 (o.mn hm)) ?_
 rintro _ w11 ⟨x5,h,rfl,ke5⟩
 obtain⟨Aw6,o⟩:=o.dE ke5
 refine⟨_,rfl,?_⟩
 exact⟨x5,h,rfl,o.done⟩
 exact⟨false,h,rfl,o.done⟩
 refine Ac (fun h=> ?_) (fun h=> ?_) h
 refine⟨_,(o.at 0 rfl).cell rfl,?_⟩
 refine Ac (fun h=> ?_) (fun h=> ?_) h
 refine⟨_,_,_,(o.at 0 rfl).cell rfl,?_⟩
 have sT1:=(((st.trans st3).trans st4).trans st5).trans st6
 refine Aa (h _ w7 (o.mn hm) _ _ le (f1.st (st5.trans st6)) _ _ Axc (f_l.st sT1)) ?_
 rintro _ w12 ⟨x6,h,rfl,ke6⟩
 obtain⟨Aw8,o⟩:=o.dE ke6
 refine⟨_,rfl,?_⟩
 refine Ac (fun h=> ?_) (fun h=> ?_) h
 refine Aa (h _ w12 (o.mn hm)) ?_
 rintro _ w13 ⟨x7,h,rfl,ke7⟩
 obtain⟨Axd,o⟩:=o.dE ke7
 refine⟨_,rfl,?_⟩
 exact⟨x7,h,rfl,o.done⟩
 exact⟨false,h,rfl,o.done⟩
 exact⟨false,h,rfl,o.done⟩
 exact⟨false,h,rfl,o.done⟩
def Mf (sx:List UInt8) (K:(List UInt8)->Prop):Prop:=
 ∃(I:Int->Nat->Prop),(∃n,I 0 n)/\
 ∀(x:Int) (n:Nat),I x n->
 cond (decide (x<(sx.length:Int)))
 (((0:Int)<=x/\x<(sx.length:Int))/\
 L6 ((sx.getD x.toNat 0).toNat:Int) (fun x1=>
 cond (!x1)
 (((0:Int)<=x/\x<=(sx.length:Int))/\
 K (sx.take x.toNat))
 (∃n1,n1<n/\I (IntKind.i64.wrap (x+1)) n1)))
 (K sx)
theorem Lw (sx:List UInt8) (K:(List UInt8)->Prop) (h:Mf sx K):Fs sx K:=by
 intro m w hm
 have o:=Mem.start hm.lt
 refine Mk sx _ _ ?_
 obtain⟨I,⟨n2,h⟩,h2⟩:=h
 obtain⟨Z,hZ⟩:∃Z:Int->World->Nat->Prop,Z=fun x w1 n=>I x n/\MT w m w w1 []:=⟨_,rfl⟩
 refine⟨fun x w1=>∃n,Z x w1 n,fun x w1=>Aw0 (Z x w1),⟨n2,?_⟩,?_⟩
 rw [hZ];exact⟨h,o,Step.refl _ _⟩
 intro _ x w1 hIZ
 obtain⟨n,hnn⟩:∃n,n=Aw0 (Z x w1):=⟨_,rfl⟩
 have hIZ:=Bz hIZ
 rw [←hnn,hZ]at hIZ
 obtain⟨h,o,st⟩:=hIZ
 have h:=h2 x n h
 refine Ac (fun h=> ?_) (fun h=> ?_) h
 refine⟨h.1,?_⟩
 have h:=And.right h
 refine Aa (h _ w1 (o.mn hm)) ?_
 rintro _ w2 ⟨x1,h,rfl,ke⟩
 obtain⟨st1,o⟩:=o.dE ke
 refine⟨_,rfl,?_⟩
 refine Ac (fun h=> ?_) (fun h=> ?_) h
 refine⟨h.1,?_⟩
 have h:=And.right h
 exact⟨(sx.take x.toNat),h,rfl,o.done⟩
 obtain⟨n1,hl,h⟩:=h
 exact Bh hnn (show Z _ w2 n1 from(by rw [hZ];exact⟨h,o,(st.trans st1)⟩)) hl
 exact⟨sx,h,rfl,o.done⟩
def Dv (wx:Ae) (l:List Int) (K:Ae->Prop):Prop:=
 ∃(I:Int->Value->(List Int)->Int->Nat->Prop),(∃n,I 0 wx.b.addr wx.b.buf (IntKind.i64.wrap (wx.deep+1)) n)/\
 ∀(x:Int) (ba:Value) (bb:List Int) (de:Int) (n:Nat),I x ba bb de n->
 cond (decide (x<(l.length:Int)))
 (((0:Int)<=x/\x<(l.length:Int))/\
 ∀x1,l[x.toNat]? =some x1->
 Ct (⟨wx.l,(⟨ba,bb⟩:B3),de⟩:Ae) x1 (fun r=>
 ∃n1,n1<n/\I (IntKind.i64.wrap (x+1)) r.b.addr r.b.buf r.deep n1))
 (K (⟨wx.l,(⟨ba,bb⟩:B3),IntKind.i64.wrap (de-1)⟩:Ae))
theorem Gl (wx:Ae) (l:List Int) (K:Ae->Prop) (h:Dv wx l K):Cq wx l K:=by
 intro m w hm wxb wxA wxC Aw3 Aw1 Aw2 Axg Aw7 Axk Azb Axw Awu Awy Axj lA lC Axc f_l
 have Axv:=Mem.Bcn hm.lt Axg Aw7
 have o:=Mem.obj hm.lt Axg Aw7 Axk Azb
 have st:=Mem.Bfd (w:=w) (l:=[.slice Aw1 wx.l.length Aw2,wx.b.addr,.slice wxA wx.b.buf.length wxC,.q wx.deep]) (e:=5) (size:=1) (n:=wx.b.buf.length) (c:=wxC) (xs:=Aw3) Axg Aw7
 have hrm:∀b∈(wxb::(Vc.blk wxA).toList),b∈m:=fun b hb=>(List.mem_cons.1 hb).elim (fun e=>e▸Axg) (fun h=>(Aw7 b (Option.mem_toList.1 h)).1)
 refine Gs wxb lA l.length lC _ _ ?_
 refine⟨_,(o.at 0 rfl).cell rfl,?_⟩
 refine⟨o.wr 0 rfl rfl,fun w1 hw1=> ?_⟩
 obtain⟨st1,o⟩:=o.dS 0 hw1 rfl
 obtain⟨I,⟨n2,h⟩,h2⟩:=h
 obtain⟨Z,hZ⟩:∃Z:Int->World->Nat->Prop,Z=fun x w2 n=>∃(ba:Value) (bb:List Int) (de:Int) (xs:List Value) (a:Option Addr) (c:Nat),I x ba bb de n/\Hu 1 wxb ba/\El (Cb .u8) (ms [.box wxb [.slice Aw1 wx.l.length Aw2,ba,.slice a bb.length c,.q de],.row 5 1 a bb.length c xs] m) w2 bb xs/\Mem w.heap.size (wxb::(Vc.blk wxA).toList) m [((wxb::(Vc.blk wxA).toList),w.heap.size,w)] [] w2 [.box wxb [.slice Aw1 wx.l.length Aw2,ba,.slice a bb.length c,.q de],.row 5 1 a bb.length c xs]/\Step (ms [.box wxb [.slice Aw1 wx.l.length Aw2,wx.b.addr,.slice wxA wx.b.buf.length wxC,.q (IntKind.i64.wrap (wx.deep+1))],.row 5 1 wxA wx.b.buf.length wxC Aw3] m) w1 (ms [.box wxb [.slice Aw1 wx.l.length Aw2,ba,.slice a bb.length c,.q de],.row 5 1 a bb.length c xs] m) w2:=⟨_,rfl⟩
 refine⟨fun x w2=>∃n,Z x w2 n,fun x w2=>Aw0 (Z x w2),⟨n2,?_⟩,?_⟩
 rw [hZ];exact⟨wx.b.addr,wx.b.buf,(IntKind.i64.wrap (wx.deep+1)),Aw3,wxA,wxC,h,Axj,(Axw.st (st.trans st1)),o,Step.refl _ _⟩
 intro _ x w2 hIZ
 obtain⟨n,hnn⟩:∃n,n=Aw0 (Z x w2):=⟨_,rfl⟩
 have hIZ:=Bz hIZ
 rw [←hnn,hZ]at hIZ
 obtain⟨ba,bb,de,xs,a,c,h,sp,el,o,st2⟩:=hIZ
 have h:=h2 x ba bb de n h
 refine Ac (fun h=> ?_) (fun h=> ?_) h
 obtain⟨hi,h⟩:=h
 have sT:=(st.trans st1).trans st2
 obtain⟨p,x1,cs,hp,he,hc,hr⟩:=(f_l.st sT).elem hi
 obtain rfl:=hr
 have h:=h x1 he
 refine⟨hi,Ap hp ?_⟩
 refine⟨_,(Ad.head hc.2),?_⟩
 refine Aa (h _ w2 (o.mp hm hrm) _ _ _ _ _ _ (Mem.Axt 0 rfl) (o.Axf 0 1 rfl rfl (by decide)) (o.at 0 rfl) (o.rowAt 1 rfl) el Awu (Awy.st sT) sp) ?_
 rintro _ w3 ⟨r,h,-,⟨a1,c1,xs1,bx,hr1,el1,fr,sp1⟩,ke⟩
 obtain⟨st3,el2,o⟩:=o.y2 0 1 rfl rfl (by decide) ke bx hr1 fr el1
 obtain⟨n1,hl,h⟩:=h
 exact Bh hnn (show Z _ w3 n1 from(by rw [hZ];exact⟨r.b.addr,r.b.buf,r.deep,xs1,a1,c1,h,sp1,el2,o,(st2.trans st3)⟩)) hl
 refine⟨_,(o.at 0 rfl).cell rfl,?_⟩
 refine⟨o.wr 0 rfl rfl,fun w4 hw4=> ?_⟩
 obtain⟨st4,o⟩:=o.dS 0 hw4 rfl
 exact⟨(⟨wx.l,(⟨ba,bb⟩:B3),IntKind.i64.wrap (de-1)⟩:Ae),h,trivial,⟨_,_,_,o.at 0 rfl,o.rowAt 1 rfl,(el.st (st4.trans (o.eRS 1 rfl))),o.Axe 1 rfl 0 rfl (by decide),sp⟩,o.done⟩
def D1 (wx:Ae) (l:List Int) (K:Ae->Prop):Prop:=
 ∃(I:Int->Value->(List Int)->Int->Nat->Prop),(∃n,I 0 wx.b.addr wx.b.buf (IntKind.i64.wrap (wx.deep+1)) n)/\
 ∀(x:Int) (ba:Value) (bb:List Int) (de:Int) (n:Nat),I x ba bb de n->
 cond (decide (x<(l.length:Int)))
 (((0:Int)<=x/\x<(l.length:Int))/\
 ∀x1,l[x.toNat]? =some x1->
 A9 (⟨wx.l,(⟨ba,bb⟩:B3),de⟩:Ae) x1 (fun r=>
 ∃n1,n1<n/\I (IntKind.i64.wrap (x+1)) r.b.addr r.b.buf r.deep n1))
 (K (⟨wx.l,(⟨ba,bb⟩:B3),IntKind.i64.wrap (de-1)⟩:Ae))
theorem Gy (wx:Ae) (l:List Int) (K:Ae->Prop) (h:D1 wx l K):Bd wx l K:=by
 intro m w hm wxb wxA wxC Aw3 Aw1 Aw2 Axg Aw7 Axk Azb Axw Awu Awy Axj lA lC Axc f_l
 have Axv:=Mem.Bcn hm.lt Axg Aw7
 have o:=Mem.obj hm.lt Axg Aw7 Axk Azb
 have st:=Mem.Bfd (w:=w) (l:=[.slice Aw1 wx.l.length Aw2,wx.b.addr,.slice wxA wx.b.buf.length wxC,.q wx.deep]) (e:=5) (size:=1) (n:=wx.b.buf.length) (c:=wxC) (xs:=Aw3) Axg Aw7
 have hrm:∀b∈(wxb::(Vc.blk wxA).toList),b∈m:=fun b hb=>(List.mem_cons.1 hb).elim (fun e=>e▸Axg) (fun h=>(Aw7 b (Option.mem_toList.1 h)).1)
 refine Hf wxb lA l.length lC _ _ ?_
 refine⟨_,(o.at 0 rfl).cell rfl,?_⟩
 refine⟨o.wr 0 rfl rfl,fun w1 hw1=> ?_⟩
 obtain⟨st1,o⟩:=o.dS 0 hw1 rfl
 obtain⟨I,⟨n2,h⟩,h2⟩:=h
 obtain⟨Z,hZ⟩:∃Z:Int->World->Nat->Prop,Z=fun x w2 n=>∃(ba:Value) (bb:List Int) (de:Int) (xs:List Value) (a:Option Addr) (c:Nat),I x ba bb de n/\Hu 1 wxb ba/\El (Cb .u8) (ms [.box wxb [.slice Aw1 wx.l.length Aw2,ba,.slice a bb.length c,.q de],.row 5 1 a bb.length c xs] m) w2 bb xs/\Mem w.heap.size (wxb::(Vc.blk wxA).toList) m [((wxb::(Vc.blk wxA).toList),w.heap.size,w)] [] w2 [.box wxb [.slice Aw1 wx.l.length Aw2,ba,.slice a bb.length c,.q de],.row 5 1 a bb.length c xs]/\Step (ms [.box wxb [.slice Aw1 wx.l.length Aw2,wx.b.addr,.slice wxA wx.b.buf.length wxC,.q (IntKind.i64.wrap (wx.deep+1))],.row 5 1 wxA wx.b.buf.length wxC Aw3] m) w1 (ms [.box wxb [.slice Aw1 wx.l.length Aw2,ba,.slice a bb.length c,.q de],.row 5 1 a bb.length c xs] m) w2:=⟨_,rfl⟩
 refine⟨fun x w2=>∃n,Z x w2 n,fun x w2=>Aw0 (Z x w2),⟨n2,?_⟩,?_⟩
 rw [hZ];exact⟨wx.b.addr,wx.b.buf,(IntKind.i64.wrap (wx.deep+1)),Aw3,wxA,wxC,h,Axj,(Axw.st (st.trans st1)),o,Step.refl _ _⟩
 intro _ x w2 hIZ
 obtain⟨n,hnn⟩:∃n,n=Aw0 (Z x w2):=⟨_,rfl⟩
 have hIZ:=Bz hIZ
 rw [←hnn,hZ]at hIZ
 obtain⟨ba,bb,de,xs,a,c,h,sp,el,o,st2⟩:=hIZ
 have h:=h2 x ba bb de n h
 refine Ac (fun h=> ?_) (fun h=> ?_) h
 obtain⟨hi,h⟩:=h
 have sT:=(st.trans st1).trans st2
 obtain⟨p,x1,cs,hp,he,hc,hr⟩:=(f_l.st sT).elem hi
 obtain rfl:=hr
 have h:=h x1 he
 refine⟨hi,Ap hp ?_⟩
 refine⟨_,(Ad.head hc.2),?_⟩
 refine Aa (h _ w2 (o.mp hm hrm) _ _ _ _ _ _ (Mem.Axt 0 rfl) (o.Axf 0 1 rfl rfl (by decide)) (o.at 0 rfl) (o.rowAt 1 rfl) el Awu (Awy.st sT) sp) ?_
 rintro _ w3 ⟨r,h,-,⟨a1,c1,xs1,bx,hr1,el1,fr,sp1⟩,ke⟩
 obtain⟨st3,el2,o⟩:=o.y2 0 1 rfl rfl (by decide) ke bx hr1 fr el1
 obtain⟨n1,hl,h⟩:=h
 exact Bh hnn (show Z _ w3 n1 from(by rw [hZ];exact⟨r.b.addr,r.b.buf,r.deep,xs1,a1,c1,h,sp1,el2,o,(st2.trans st3)⟩)) hl
 refine⟨_,(o.at 0 rfl).cell rfl,?_⟩
 refine⟨o.wr 0 rfl rfl,fun w4 hw4=> ?_⟩
 obtain⟨st4,o⟩:=o.dS 0 hw4 rfl
 exact⟨(⟨wx.l,(⟨ba,bb⟩:B3),IntKind.i64.wrap (de-1)⟩:Ae),h,trivial,⟨_,_,_,o.at 0 rfl,o.rowAt 1 rfl,(el.st (st4.trans (o.eRS 1 rfl))),o.Axe 1 rfl 0 rfl (by decide),sp⟩,o.done⟩
def Jf (Bbv:Int) (seq1:List Ai) (K:(List Int)->Prop):Prop:=
 Dh Bbv seq1 (fun x=>
 K x)
theorem H3 (Bbv:Int) (seq1:List Ai) (K:(List Int)->Prop) (h:Jf Bbv seq1 K):Fg Bbv seq1 K:=by
 intro m w hm Ba1 Baa Bdy Bfx Ba2 Bab Bdz Bfy
 obtain rfl:=Bfx
 obtain⟨a,c,rfl,le,f⟩:=Bfy
 have o:=Mem.start hm.lt
 refine Jm Ba1 Ba2 _ _ ?_
 refine Aa (h _ w (o.mn hm) _ _ Bdy rfl _ _ Bdz ⟨_,_,rfl,le,f⟩) ?_
 rintro _ w1 ⟨x,h,⟨a1,c1,rfl,le1,f1⟩,ke⟩
 obtain⟨st,o⟩:=o.dE ke
 refine⟨_,_,_,rfl,?_⟩
 exact⟨x,h,⟨_,_,rfl,le1,(f1.st (Mem.Aw9 (ps:=[]) (m0:=m)))⟩,o.done⟩
def Fk (Bbv:Int) (seq1:List Ai) (K:(List Int)->Prop):Prop:=
 ∃xs1:List (Int),L4 Bbv seq1 xs1/\
 ∃(I:List (Int)->(List Int)->Prop),I [] []/\
 (∀(pre:List (Int)) (x:Int) (v:List Int),(pre++[x])<+:xs1->I pre v->
 v.length+[x].length<2^32/\
 I (pre++[x]) (v++[x]))/\
 ∀(v:List Int),I xs1 v->
 K v
theorem Fb (Bbv:Int) (seq1:List Ai) (K:(List Int)->Prop) (h:Fk Bbv seq1 K):Dh Bbv seq1 K:=by
 intro m w hm Ba1 Baa Bdy Bfx Ba2 Bab Bdz Bfy
 obtain rfl:=Bfx
 obtain⟨a,c,rfl,le,f⟩:=Bfy
 have o:=Mem.start hm.lt
 refine Fq Ba1 Ba2 _ _ ?_
 intro b w1 hb hw1
 obtain⟨st,o⟩:=o.dB hb hw1
 have st1:=o.xN 3 1
 have o:=o.Bbu 3 1
 obtain⟨xs1,hIt,I,h,hb,hd⟩:=h
 have hle:=o.le
 have hdl:=o.dsl
 refine⟨(ms [.row 3 1 none 0 0 [],.box b [.slice none 0 0]] m),xs1,Amf.of (o.mn hm).lt (hIt _ _ (o.mn hm) _ _ (Bdy.st (st.trans st1)) rfl _ _ (Bdz.st (st.trans st1)) ⟨_,_,rfl,le,(f.st (st.trans st1))⟩),fun F pre w2=>∃(v:List Int) (xs:List Value) (a1:Option Addr) (c1:Nat),F=(ms [.row 3 1 a1 v.length c1 xs,.box b [.slice a1 v.length c1]] m)/\I pre v/\El (Cb .i64) (ms [.row 3 1 a1 v.length c1 xs,.box b [.slice a1 v.length c1]] m) w2 v xs/\MS w m w1 [.row 3 1 none 0 0 [],.box b [.slice none 0 0]] w2 [.row 3 1 a1 v.length c1 xs,.box b [.slice a1 v.length c1]],fun _ _=>False,fun _ _ _=>False,⟨[],[],none,0,rfl,h,(El.nil _ _ _),o,Step.refl _ _⟩,?_,?_,?_⟩
 rintro _ pre x w2 w3 ⟨v,xs,a1,c1,rfl,h,el,o,st2⟩ hG Ayr
 have h:=hb pre x v Ayr h
 have o:=o.grow hG (fun f hf=>by rw [List.mem_singleton.1 hf];exact hle) hdl
 have st3:=Step.grow (ms [.row 3 1 a1 v.length c1 xs,.box b [.slice a1 v.length c1]] m) hG
 have o:=o.round (M:=(ms [.row 3 1 a1 v.length c1 xs,.box b [.slice a1 v.length c1]] m)) (B:=w3.heap.size) (Nat.le_refl _) (fun k hk=> .inl hk)
 refine⟨_,_,_,(o.at 1 rfl).cell rfl,?_⟩
 intro b1 w5 hb1 hw5
 have el1:El (Cb .i64) (ms [.row 3 1 a1 v.length c1 xs,.box b [.slice a1 v.length c1]] m) w3 [x] ([.q x]:List Value):=(El.cons (cs:=[.q x]) rfl (El.nil _ _ _))
 have st5:=o.xL hb1 hw5 1 1
 have o:=o.lit hb1 hw5 1 1 (by decide) rfl
 obtain⟨lt,h⟩:=h
 have el3:=((el.st (st3.trans st5))).app (el1.st st5)
 refine Eu Avu (o.rowAt 1 rfl) (o.rowAt 0 rfl).sl (el1.st st5).len (el1.st st5).one (by first|(simp;done)|simpa using lt) (by decide) (Nat.zero_le _) fun a2 c2 w6 hr hg hat=> ?_
 have ln:v.length+1=(v++[x]).length:=(by first|(simp;done)|(simp;omega))
 rw [ln]at hr⊢
 refine⟨_,_,_,rfl,?_⟩
 have st6:=o.xA 1 rfl hr hg hat
 have o:=o.app 1 rfl hr hg hat
 refine⟨o.wr 2 rfl rfl,fun w7 hw7=> ?_⟩
 obtain⟨st7,o⟩:=o.dS 2 hw7 rfl
 obtain⟨st8,o⟩:=o.dX 0
 obtain⟨hk,o⟩:=o.Bi2
 have sT:=((st5.trans st6).trans st7).trans st8
 have sT1:=(st6.trans st7).trans st8
 have sT2:=((((st2.trans st3).trans st5).trans st6).trans st7).trans st8
 exact⟨_,⟨hk.kp.all,fun k hk=>sT.sub k hk⟩,(v++[x]),(xs++([.q x]:List Value)),a2,c2,rfl,h,(el3.st sT1),o,sT2⟩
 intro _ _ _ _ _ hx;exact hx.elim
 rintro _ w8 w4 D ⟨v,xs,a1,c1,rfl,h,el,o,st2⟩ hG hD hDD
 have h:=hd v h
 have o:=o.grow hG (fun f hf=>by rw [List.mem_singleton.1 hf];exact hle) hdl
 have st3:=Step.grow (ms [.row 3 1 a1 v.length c1 xs,.box b [.slice a1 v.length c1]] m) hG
 have o:=o.mark hDD hD hle hdl
 refine⟨_,_,_,(o.at 1 rfl).cell rfl,?_⟩
 refine⟨o.marks.1,?_⟩
 have le1:=(o.rowAt 0 rfl).cap
 have st4:=o.xX 0
 have f1:=o.freeze (c:=(Cb .i64)) (l:=v) 0 rfl (fun b hb=>by simp at hb) (el.st (st3.trans st4))
 have o:=o.erase 0
 exact⟨v,h,⟨_,_,rfl,le1,(f1.st (o.By2.trans Mem.Aw9))⟩,o.By1⟩
def Vt (v0:Int) (v1:List Ai) (xs:List (Int)):Prop:=
 ∃(J1:Bool->(List (Int))->Bool->Prop),
 (cond (decide (v0<0))
 (J1 true [] false)
 (J1 (decide (v0>=(v1.length:Int))) [] false))/\
 ∀(x:Bool) (pre:List (Int)) (st:Bool),J1 x pre st->
 cond (x)
 ((st=false->pre=xs))
 (st=false/\
 ((0:Int)<=v0/\v0<(v1.length:Int))/\
 ∀x1,v1[v0.toNat]? =some x1->
 ∃(I:Int->Int->(List (Int))->Bool->Nat->Prop),(∃n,I (IntKind.i64.wrap (v0+1)) 0 pre false n)/\
 ∀(atx:Int) (x2:Int) (Bai:List (Int)) (st2:Bool) (n:Nat),I atx x2 Bai st2 n->
 cond (decide (x2<x1.kids))
 (∃(J2:Bool->(List (Int))->Bool->Prop),
 (st2=false/\
 cond (decide (atx>=(v1.length:Int)))
 (J2 true Bai false)
 (xs[Bai.length]? =some atx/\
 (J2 false (Bai++[atx]) false)/\
 (J2 true (Bai++[atx]) true)))/\
 ∀(x3:Bool) (Qv:List (Int)) (st4:Bool),J2 x3 Qv st4->
 cond (x3)
 ((st4=false->Qv=xs))
 (st4=false/\
 Sk v1 atx (fun Awx=>
 ∃n1,n1<n/\I Awx (IntKind.i64.wrap (x2+1)) Qv false n1)))
 ((st2=false->Bai=xs)))
theorem Zs (v0:Int) (v1:List Ai) (xs:List (Int)) (h:Vt v0 v1 xs):L4 v0 v1 xs:=by
 intro m w hm b0 cs0 el0 f0 b1 cs1 el1 f1
 obtain rfl:=f0
 obtain⟨a,c,rfl,le,f⟩:=f1
 intro l J Jx W hW hAJ hAX hY hG
 have kw:=hW.By3 m
 have stw:=kw.stw
 have Ayr:([]:List (Int))<+:xs:=List.nil_prefix
 change Gh J Jx [] false W at hG
 refine Y7 l b0 b1 _ _ ?_
 obtain⟨J1,h,h2⟩:=h
 refine⟨fun x w1=>∃(pre:List (Int)) (st:Bool),J1 x pre st/\pre<+:xs/\Gh J Jx pre st w1/\(st=false->An m w w1),?_,?_⟩
 ·refine⟨_,(Ad.head (el0.st stw).2),?_⟩
  refine Ac (fun h=> ?_) (fun h=> ?_) h
  ·exact⟨[],false,h,Ayr,hG,(fun _=>kw)⟩
  ·refine⟨_,(Ad.head (el0.st stw).2),?_⟩
   refine⟨_,_,_,(Ad.head (el1.st stw).2),?_⟩
   exact⟨[],false,h,Ayr,hG,(fun _=>kw)⟩
 ·rintro _ x w1 ⟨pre,st,hJ,Ayr,hG,hkw⟩
  have h:=h2 x pre st hJ
  refine Ac (fun h=> ?_) (fun h=> ?_) h
  ·exact⟨Ajw _,Ajv hG Ayr h⟩
  ·obtain⟨hs,h⟩:=h
   rw [hs]at hG
   have kw:=hkw hs
   have stw:=kw.stw
   refine⟨_,(Ad.head (el0.st stw).2),?_⟩
   refine⟨_,_,_,(Ad.head (el1.st stw).2),?_⟩
   refine⟨_,(Ad.head (el0.st stw).2),?_⟩
   obtain⟨hi,h⟩:=h
   obtain⟨p,x1,cs,hp,he,hc,hr⟩:=(f.st stw).elem hi
   obtain rfl:=Bg hr
   have h:=h x1 he
   refine⟨hi,Ap hp ?_⟩
   refine⟨_,hc.2 3 (Nat.le_of_ble_eq_true rfl),?_⟩
   obtain⟨I,⟨n2,h⟩,h2⟩:=h
   obtain⟨Z,hZ⟩:∃Z:Int->Int->World->Nat->Prop,Z=fun atx x2 w2 n=>∃(Bai:List (Int)) (st2:Bool),I atx x2 Bai st2 n/\Bai<+:xs/\Gh J Jx Bai st2 w2/\(st2=false->An m w w2):=⟨_,rfl⟩
   refine⟨fun atx x2 w2=>∃n,Z atx x2 w2 n,fun atx x2 w2=>Aw0 (Z atx x2 w2),⟨n2,?_⟩,?_⟩
   ·rw [hZ];exact⟨pre,false,h,Ayr,hG,(fun _=>kw)⟩
   ·intro _ atx x2 w2 hIZ
    obtain⟨n,hnn⟩:∃n,n=Aw0 (Z atx x2 w2):=⟨_,rfl⟩
    have hIZ:=Bz hIZ
    rw [←hnn,hZ]at hIZ
    obtain⟨Bai,st2,h,Ayr,hG,hkw⟩:=hIZ
    have h:=h2 atx x2 Bai st2 n h
    refine Ac (fun h=> ?_) (fun h=> ?_) h
    ·obtain⟨J2,h,h2⟩:=h
     refine⟨fun x3 w3=>∃(Qv:List (Int)) (st4:Bool),J2 x3 Qv st4/\Qv<+:xs/\Gh J Jx Qv st4 w3/\(st4=false->An m w w3),?_,?_⟩
     ·obtain⟨hs,h⟩:=h
      rw [hs]at hG
      have kw:=hkw hs
      have stw:=kw.stw
      refine⟨_,_,_,(Ad.head (el1.st stw).2),?_⟩
      refine Ac (fun h=> ?_) (fun h=> ?_) h
      ·exact⟨Bai,false,h,Ayr,hG,(fun _=>kw)⟩
      ·obtain⟨hx,h⟩:=h
       have Ayr:=Ag9 Ayr hx
       refine M3.mono (hY _ _ _ hG Ayr) (fun go w4 hb=> ?_)
       cases go
       ·have hG:Gh J Jx _ true w4:=hb
        have h:=And.right h
        exact⟨(Bai++[atx]),true,h,Ayr,hG,(fun h=>(by cases h))⟩
       ·have hG:Gh J Jx _ false w4:=hb.1
        have kw:=kw.kpm hb.2
        have stw:=kw.stw
        have h:=h.1
        exact⟨(Bai++[atx]),false,h,Ayr,hG,(fun _=>kw)⟩
     ·rintro _ x3 w3 ⟨Qv,st4,hJ,Ayr,hG,hkw⟩
      have h:=h2 x3 Qv st4 hJ
      refine Ac (fun h=> ?_) (fun h=> ?_) h
      ·exact⟨Ajw _,Ajv hG Ayr h⟩
      ·obtain⟨hs,h⟩:=h
       rw [hs]at hG
       have kw:=hkw hs
       have stw:=kw.stw
       refine⟨_,_,_,(Ad.head (el1.st stw).2),?_⟩
       refine Aa (h _ w3 (hm.Awz kw) _ _ le (f.st stw)) ?_
       rintro _ w5 ⟨Awx,h,rfl,ke⟩
       have kw:=kw.more ke
       have hG:=Avs hAJ hAX hG ke.by
       have stw:=kw.stw
       refine⟨_,rfl,?_⟩
       obtain⟨n1,hl,h⟩:=h
       exact Bh hnn (show Z _ _ w5 n1 from(by rw [hZ];exact⟨Qv,false,h,Ayr,hG,(fun _=>kw)⟩)) hl
    ·exact⟨Ajw _,Ajv hG Ayr h⟩
end Go.Proofs.YtcakelelfklhdaaGreatDoor
namespace Go.Tr
def eat:Nat->List Int->List Int
 |0,l=>l
 |_+1,[]=>[]
 |n+1,k::l=>eat (n+k.toNat) l
 termination_by _ l=>l.length
theorem H4 (l:List Int):eat 0 l=l:=by rw [eat]
theorem Ow (n:Nat):eat n []=[]:=by cases n<;>rw [eat]
theorem K8 (n:Nat) (k:Int) (l:List Int):eat (n+1) (k::l)=eat (n+k.toNat) l:=by rw [eat]
theorem Kx:∀(l:List Int) (a b:Nat),eat (a+b) l=eat b (eat a l)
 |[],a,b=>by simp [Ow]
 |k::l,0,b=>by simp [H4]
 |k::l,a+1,b=>by
  rw [show a+1+b=(a+b)+1 by omega,K8,K8,show a+b+k.toNat=(a+k.toNat)+b by omega,Kx l]
theorem Ae7 (k:Int) (l:List Int):eat 1 (k::l)=eat k.toNat l:=by
 rw [show(1:Nat)=0+1 from rfl,K8,Nat.zero_add]
theorem Ae8:∀(l:List Int) (n:Nat),eat n l<:+l
 |[],n=>by rw [Ow];exact List.suffix_refl _
 |k::l,0=>by rw [H4];exact List.suffix_refl _
 |k::l,n+1=>by rw [K8];exact(Ae8 l _).trans (List.suffix_cons k l)
theorem Akg (l:List Int) (n:Nat):(eat n l).length<=l.length:=(Ae8 l n).length_le
theorem Aou (l:List Int) (n:Nat) (h:l≠[]) (hn:0<n):(eat n l).length<l.length:=by
 cases l with
 |nil=>exact absurd rfl h
 |cons k l=>
  cases n with
  |zero=>omega
  |succ n=>rw [K8,List.length_cons];have:=Akg l (n+k.toNat);omega
theorem Ae9:∀(l:List Int) (n:Nat),l.length<=n->eat n l=[]
 |[],n,_=>Ow n
 |k::l,0,h=>by simp at h
 |k::l,n+1,h=>by rw [K8];exact Ae9 l _ (by simp at h;omega)
theorem Aov:∀(l:List Int) (n:Nat) (m:List Int),m<:+l->(eat n l).length<m.length->∃d,0<d/\eat n l=eat d m
 |[],n,m,hm,h=>by
  have:m=[]:=List.suffix_nil.1 hm
  subst this;simp at h
 |k::l,0,m,hm,h=>by rw [H4]at h;have:=hm.length_le;omega
 |k::l,n+1,m,hm,h=>by
  rcases List.suffix_cons_iff.1 hm with rfl|hm
  ·exact⟨n+1,by omega,rfl⟩
  ·rw [K8]at h⊢
   exact Aov l _ m hm h
theorem Aow {α:Type} {m l:List α} (h:m<:+l):m=l.drop (l.length-m.length):=by
 obtain⟨t,rfl⟩:=h
 simp
theorem Aox {α:Type} {l:List α} {i j:Nat} (hi:i<=l.length) (hj:j<=l.length) (h:l.drop i=l.drop j):i=j:=by
 have:=congrArg List.length h
 simp at this;omega
def Rs (l:List Int) (i:Nat):Nat:=l.length-(eat 1 (l.drop i)).length
theorem Q5 (l:List Int) (i:Nat):l.drop (Rs l i)=eat 1 (l.drop i):=by
 have h:=(Ae8 (l.drop i) 1).trans (List.drop_suffix i l)
 exact(Aow h).symm
theorem X4 (l:List Int) (i:Nat):Rs l i<=l.length:=by unfold Rs;omega
theorem X5 (l:List Int) (i:Nat) (h:i<l.length):i<Rs l i:=by
 have h1:=Aou (l.drop i) 1 (by intro e;have:=congrArg List.length e;simp at this;omega) (by omega)
 rw [List.length_drop]at h1
 unfold Rs;omega
def Kid (l:List Int) (k j i:Nat):Prop:=k<l.length/\j<(l.getD k 0).toNat/\eat j (l.drop (k+1))=l.drop i/\i<l.length
theorem Zt {l:List Int} {k:Nat} (h:k<l.length):l.drop k=l.getD k 0::l.drop (k+1):=by
 rw [List.drop_eq_getElem_cons h];simp [List.getD,h]
theorem Kid.ahead {l:List Int} {k j i:Nat} (h:Kid l k j i):k<i:=by
 obtain⟨hk,hj,he,hi⟩:=h
 have h1:=Akg (l.drop (k+1)) j
 rw [he]at h1
 simp at h1;omega
theorem Kid.Bgb {l:List Int} {k1 k2 j1 j2 i:Nat} (h1:Kid l k1 j1 i) (h2:Kid l k2 j2 i) (hlt:k1<k2):False:=by
 obtain⟨hk1,hj1,he1,hi⟩:=h1
 have Ckt:=h2.ahead
 obtain⟨hk2,hj2,he2,_⟩:=h2
 have hs:l.drop k2<:+l.drop (k1+1):=by
  rw [show k2=(k1+1)+(k2-(k1+1)) by omega,←List.drop_drop]
  exact List.drop_suffix _ _
 obtain⟨d,hd,hed⟩:=Aov _ j1 _ hs (by rw [he1];simp;omega)
 rw [he1,show d=1+(d-1) by omega,Kx,Zt hk2,Ae7,show(l.getD k2 0).toNat=j2+((l.getD k2 0).toNat-j2) by omega,Kx,he2]at hed
 have h3:=congrArg List.length hed
 have h4:=Akg (eat ((l.getD k2 0).toNat-j2) (l.drop i)) (d-1)
 have h5:=Aou (l.drop i) ((l.getD k2 0).toNat-j2) (by intro e;have:=congrArg List.length e;simp at this;omega) (by omega)
 omega
theorem Kid.unique {l:List Int} {k1 k2 j1 j2 i:Nat} (h1:Kid l k1 j1 i) (h2:Kid l k2 j2 i):k1=k2:=by
 rcases Nat.lt_trichotomy k1 k2 with h|h|h
 ·exact(h1.Bgb h2 h).elim
 ·exact h
 ·exact(h2.Bgb h1 h).elim
def F8 (l:List Int):Nat->Nat->List Int
 |0,_=>[]
 |n+1,at_=>if at_<l.length then(at_:Int)::F8 l n (Rs l at_)else []
theorem Ack (l:List Int):∀(n at_:Nat) (x:Int),x∈F8 l n at_↔∃j i:Nat,x=i/\j<n/\eat j (l.drop at_)=l.drop i/\i<l.length
 |0,at_,x=>by simp [F8]
 |n+1,at_,x=>by
  unfold F8
  by_cases h:at_<l.length
  ·rw [if_pos h,List.mem_cons,Ack l n]
   constructor
   ·rintro(rfl|⟨j,i,rfl,hj,he,hi⟩)
    ·exact⟨0,at_,rfl,by omega,H4 _,h⟩
    ·exact⟨1+j,i,rfl,by omega,by rw [Kx,←Q5];exact he,hi⟩
   ·rintro⟨j,i,rfl,hj,he,hi⟩
    cases j with
    |zero=>
     left
     rw [H4]at he
     rw [Aox (by omega) (by omega) he]
    |succ j=>
     right
     refine⟨j,i,rfl,by omega,?_,hi⟩
     rw [show j+1=1+j by omega,Kx,←Q5]at he
     exact he
  ·rw [if_neg h]
   simp only [List.not_mem_nil,false_iff]
   rintro⟨j,i,rfl,hj,he,hi⟩
   rw [List.drop_of_length_le (by omega),Ow]at he
   have:=congrArg List.length he
   simp at this;omega
theorem Q6 (l:List Int):∀(n at_ j:Nat),(F8 l n at_)[j]? =if j<n/\eat j (l.drop at_)≠[]then some ((l.length-(eat j (l.drop at_)).length:Nat):Int)else none
 |0,at_,j=>by simp [F8]
 |n+1,at_,j=>by
  unfold F8
  by_cases h:at_<l.length
  ·rw [if_pos h]
   cases j with
   |zero=>
    rw [H4,if_pos ⟨by omega,by intro e;have:=congrArg List.length e;simp at this;omega⟩]
    simp;omega
   |succ j=>
    rw [List.getElem?_cons_succ,Q6 l n,Q5,←Kx,Nat.add_comm 1 j]
    by_cases hc:j<n/\eat (j+1) (l.drop at_)≠[]
    ·rw [if_pos hc,if_pos ⟨by omega,hc.2⟩]
    ·rw [if_neg hc,if_neg (fun h=>hc ⟨by omega,h.2⟩)]
  ·rw [if_neg h,List.drop_of_length_le (by omega),Ow]
   simp
def Ox (l:List Int) (k:Nat):List Int:=if k<l.length then F8 l (l.getD k 0).toNat (k+1)else []
theorem Akh (l:List Int) (k:Nat) (x:Int):x∈Ox l k↔∃j i:Nat,x=i/\Kid l k j i:=by
 unfold Ox
 split
 ·rename_i h
  rw [Ack]
  constructor
  ·rintro⟨j,i,rfl,h1,h2,h3⟩;exact⟨j,i,rfl,h,h1,h2,h3⟩
  ·rintro⟨j,i,rfl,_,h1,h2,h3⟩;exact⟨j,i,rfl,h1,h2,h3⟩
 ·rename_i h
  simp only [List.not_mem_nil,false_iff]
  rintro⟨j,i,rfl,h1,_⟩;exact h h1
end Go.Tr
namespace Go.Proofs.YtcakelelfklhdaaGreatDoor
open Go.Vc Go.Lv Go.Ty Go.Tr
def ks (l:List Ai):List Int:=l.map (·.kids)
theorem D6 (l:List Ai):(ks l).length=l.length:=by simp [ks]
theorem Afa {l:List Ai} {p:Nat} {x:Ai} (h:l[p]? =some x):(ks l).getD p 0=x.kids:=by
 simp [ks,List.getD,h]
theorem Alh {l:List Ai} {p:Nat} {x:Ai} (h:l[p]? =some x):(ks l).drop p=x.kids::(ks l).drop (p+1):=by
 rw [Zt (by rw [D6];exact(List.getElem?_eq_some_iff.1 h).1),Afa h]
def Zu (l:List Ai) (i:Int):Int:=if 0<=i/\i<l.length then Rs (ks l) i.toNat else l.length
def G4 (l:List Ai) (i:Int):List Int:=if 0<=i then Ox (ks l) i.toNat else []
theorem Avz (l:List Ai) (i:Int) (hl:l.length<=100000) (K:Int->Prop) (h:K (Zu l i)):Sk l i K:=by
 refine Abb _ _ _ (Ab (fun hc=> ?_) fun hc=> ?_)
 ·unfold Zu at h
  rw [if_neg (by simp at hc;omega)]at h
  exact h
 ·have hi:0<=i/\i<l.length:=by simp at hc;omega
  unfold Zu at h
  rw [if_pos hi]at h
  refine⟨fun i1 Ciw n=>∃p d:Nat,i1=p/\Ciw=d/\p<=l.length/\d<=1+p*100000/\n=l.length-p/\eat 1 ((ks l).drop i.toNat)=eat d ((ks l).drop p),⟨_,i.toNat,1,by omega,rfl,by omega,by omega,rfl,rfl⟩,?_⟩
  rintro _ _ _ ⟨p,d,rfl,rfl,hp,hd,rfl,he⟩
  refine Ab (fun hc=> ?_) fun hc=> ?_
  ·have hc':0<d/\p<l.length:=by simp at hc;omega
   refine⟨by omega,fun x hx=> ?_⟩
   rw [Int.toNat_natCast]at hx
   rw [Alh hx]at he
   obtain⟨e,rfl⟩:∃e,d=e+1:=⟨d-1,by omega⟩
   rw [K8]at he
   have hlen:((ks l).drop (p+1)).length<=l.length:=by rw [List.length_drop,D6];omega
   have hw:∃q:Nat,(if(l.length:Int)<(if 0>x.kids then 0 else x.kids)then(l.length:Int)else(if 0>x.kids then 0 else x.kids))=q/\q<=l.length/\eat (e+x.kids.toNat) ((ks l).drop (p+1))=eat (e+q) ((ks l).drop (p+1)):=by
    by_cases h0:0>x.kids
    ·rw [if_pos h0]
     exact⟨0,by rw [if_neg (by omega)];rfl,by omega,by rw [show x.kids.toNat=0 by omega]⟩
    ·rw [if_neg h0]
     by_cases h1:(l.length:Int)<x.kids
     ·rw [if_pos h1]
      exact⟨l.length,rfl,by omega,by rw [Ae9 _ _ (by omega),Ae9 _ _ (by omega)]⟩
     ·rw [if_neg h1]
      exact⟨x.kids.toNat,by omega,by omega,rfl⟩
   obtain⟨q,hq,hql,hqe⟩:=hw
   rw [hq,Ax (n:=(q:Int)-1) (by omega) (by omega),Ax (n:=(p:Int)+1) (by omega) (by omega),Ax (by omega) (by omega)]
   exact⟨l.length-(p+1),by omega,p+1,e+q,by omega,by omega,by omega,by omega,rfl,he.trans hqe⟩
  ·have hr:eat 1 ((ks l).drop i.toNat)=(ks l).drop p:=by
    rw [he]
    by_cases hd0:d=0
    ·rw [hd0,H4]
    ·have:p=l.length:=by simp at hc;omega
     rw [List.drop_of_length_le (by rw [D6];omega),Ow]
   have:Rs (ks l) i.toNat=p:=by unfold Rs;rw [hr,List.length_drop,D6];omega
   rw [this]at h
   exact h
theorem At3 (l:List Ai) (hl:l.length<=100000):∀(m:Nat) (i:Int) (K:Int->Prop),(l.length:Int)-i<=m->K (Zu l i)->Nr l i K:=by
 intro m
 induction m with
 |zero=>
  intro i K hm h
  refine Ua _ _ _ (Dt (by simp;omega) ?_)
  unfold Zu at h
  rw [if_neg (by omega)]at h
  exact h
 |succ m ih=>
  intro i K hm h
  refine Ua _ _ _ (Ab (fun hc=> ?_) fun hc=> ?_)
  ·unfold Zu at h
   rw [if_neg (by simp at hc;omega)]at h
   exact h
  ·have hi:0<=i/\i<l.length:=by simp at hc;omega
   unfold Zu at h
   rw [if_pos hi]at h
   obtain⟨a,rfl⟩:∃a:Nat,i=a:=⟨i.toNat,by omega⟩
   rw [Int.toNat_natCast]at h
   have hal:a<l.length:=by omega
   have hx:l[a]? =some l[a]:=List.getElem?_eq_getElem hal
   refine⟨fun atx k n=>∃p c:Nat,atx=p/\k=c/\a<p/\p<=l.length/\c<=p/\c<=(l[a].kids).toNat/\n=l.length-p/\eat c ((ks l).drop (a+1))=(ks l).drop p,⟨_,a+1,0,by rw [Ax (by omega) (by omega)];omega,rfl,by omega,by omega,by omega,by omega,rfl,H4 _⟩,?_⟩
   rintro _ _ _ ⟨p,c,rfl,rfl,hap,hp,hcp,hck,rfl,he⟩
   refine⟨fun b=>b=(decide ((c:Int)<l[a].kids)&&decide (p<l.length)),⟨by omega,fun x1 hx1=> ?_⟩,?_⟩
   ·rw [Int.toNat_natCast,hx]at hx1
    cases hx1
    refine Ab (fun hd=> ?_) fun hd=> ?_
    ·rw [hd,Bool.true_and];congr 1;simp
    ·rw [hd,Bool.false_and]
   ·rintro _ rfl
    refine Ab (fun hd=> ?_) fun hd=> ?_
    ·have hd':(c:Int)<l[a].kids/\p<l.length:=by simpa using hd
     refine ih p _ (by omega) ?_
     unfold Zu
     rw [if_pos (by omega),Int.toNat_natCast]
     have h1:=X5 (ks l) p (by rw [D6];omega)
     have h2:=X4 (ks l) p
     rw [D6]at h2
     refine⟨l.length-Rs (ks l) p,by omega,Rs (ks l) p,c+1,rfl,by rw [Ax (by omega) (by omega)];omega,by omega,by omega,by omega,by omega,rfl,?_⟩
     rw [Kx,he,Q5]
    ·have hr:eat 1 ((ks l).drop a)=(ks l).drop p:=by
      rw [Alh hx,Ae7]
      by_cases hcc:c=(l[a].kids).toNat
      ·rw [←hcc,he]
      ·have:p=l.length:=by simp at hd;omega
       rw [show(l[a].kids).toNat=c+((l[a].kids).toNat-c) by omega,Kx,he,List.drop_of_length_le (by rw [D6];omega),Ow]
     have:Rs (ks l) a=p:=by unfold Rs;rw [hr,List.length_drop,D6];omega
     rw [this]at h
     exact h
theorem Awm (l:List Ai) (i:Int) (hl:l.length<=100000) (K:Int->Prop) (h:K (Zu l i)):Nr l i K:=At3 l hl ((l.length:Int)-i).toNat i K (by omega) h
theorem Ark (l:List Ai) (i:Int) (hl:l.length<=100000):L4 i l (G4 l i):=by
 refine Zs _ _ _ ⟨fun b pre stop=>pre=[]/\stop=false/\b=(decide (i<0)||decide (i>=(l.length:Int))),Ab (fun hc=>⟨rfl,rfl,by rw [hc];rfl⟩) (fun hc=>⟨rfl,rfl,by rw [hc];rfl⟩),?_⟩
 rintro _ _ _ ⟨rfl,rfl,rfl⟩
 refine Ab (fun hc=>fun _=> ?_) fun hc=>⟨rfl,?_⟩
 ·unfold G4 Ox
  split
  ·rw [if_neg (by rw [D6];simp at hc;omega)]
  ·rfl
 ·have hi:0<=i/\i<l.length:=by simp at hc;omega
  obtain⟨a,rfl⟩:∃a:Nat,i=a:=⟨i.toNat,by omega⟩
  refine⟨by omega,fun x hx=> ?_⟩
  rw [Int.toNat_natCast]at hx
  have hxs:G4 l a=F8 (ks l) x.kids.toNat (a+1):=by
   unfold G4 Ox
   rw [if_pos (by omega),Int.toNat_natCast,if_pos (by rw [D6];omega),Afa hx]
  rw [hxs]
  refine⟨fun atx x2 pre stop n=>stop=false/\∃p c:Nat,atx=p/\x2=c/\p<=l.length/\c<=p/\c<=x.kids.toNat/\n=x.kids.toNat-c/\pre++F8 (ks l) (x.kids.toNat-c) p=F8 (ks l) x.kids.toNat (a+1),⟨_,rfl,a+1,0,by rw [Ax (by omega) (by omega)];omega,rfl,by omega,by omega,by omega,rfl,by simp⟩,?_⟩
  rintro _ _ pre _ _ ⟨rfl,p,c,rfl,rfl,hp,hcp,hck,rfl,he⟩
  refine Ab (fun hd=> ?_) fun hd=>fun _=> ?_
  ·have Cku:c<x.kids.toNat:=by simp at hd;omega
   have hs:x.kids.toNat-c=(x.kids.toNat-(c+1))+1:=by omega
   refine⟨fun b Qv Bkd=>(b=true/\(Bkd=false->Qv=F8 (ks l) x.kids.toNat (a+1)))\/(b=false/\Bkd=false/\p<l.length/\Qv=pre++[(p:Int)]),⟨rfl,Ab (fun hc=> ?_) fun hc=> ?_⟩,?_⟩
   ·refine .inl ⟨rfl,fun _=> ?_⟩
    rw [hs,F8,if_neg (by rw [D6];simp at hc;omega),List.append_nil]at he
    exact he
   ·have hpl:p<l.length:=by simp at hc;omega
    rw [hs,F8,if_pos (by rw [D6];omega)]at he
    refine⟨by rw [←he];simp,.inr ⟨rfl,rfl,hpl,rfl⟩,.inl ⟨rfl,by simp⟩⟩
   ·rintro b Qv Bkd (⟨rfl,h⟩|⟨rfl,rfl,hpl,rfl⟩)
    ·exact h
    ·refine⟨rfl,Avz l p hl _ ?_⟩
     rw [hs,F8,if_pos (by rw [D6];omega)]at he
     unfold Zu
     rw [if_pos (by omega),Int.toNat_natCast]
     have h1:=X5 (ks l) p (by rw [D6];omega)
     have h2:=X4 (ks l) p
     rw [D6]at h2
     exact⟨x.kids.toNat-(c+1),by omega,rfl,Rs (ks l) p,c+1,rfl,by rw [Ax (by omega) (by omega)];omega,by omega,by omega,by omega,rfl,by rw [List.append_assoc];exact he⟩
  ·have:x.kids.toNat-c=0:=by simp at hd;omega
   rw [this,F8,List.append_nil]at he
   exact he
theorem Acl (l:List Int):∀(n p:Nat),p<=l.length->(F8 l n p).length<=l.length-p
 |0,p,_=>by simp [F8]
 |n+1,p,hp=>by
  unfold F8
  split
  ·rename_i h
   have h1:=X5 l p h
   have h2:=X4 l p
   have:=Acl l n (Rs l p) h2
   rw [List.length_cons];omega
  ·simp
theorem Vu (l:List Ai) (i:Int):(G4 l i).length<=l.length:=by
 unfold G4 Ox
 split
 ·split
  ·rename_i h
   have:=Acl (ks l) ((ks l).getD i.toNat 0).toNat (i.toNat+1) (by omega)
   rw [D6]at this;omega
  ·simp
 ·simp
theorem Av0 (l:List Ai) (i:Int) (hl:l.length<=100000) (K:List Int->Prop) (h:K (G4 l i)):Sl l i K:=by
 refine Abc _ _ _ (Ab (fun hc=> ?_) fun hc=> ?_)
 ·have:G4 l i=[]:=by
   unfold G4 Ox
   split
   ·rw [if_neg (by rw [D6];simp at hc;omega)]
   ·rfl
  rw [this]at h
  exact h
 ·have hi:0<=i/\i<l.length:=by simp at hc;omega
  obtain⟨a,rfl⟩:∃a:Nat,i=a:=⟨i.toNat,by omega⟩
  have hal:a<l.length:=by omega
  have hx:l[a]? =some l[a]:=List.getElem?_eq_getElem hal
  have hxs:G4 l a=F8 (ks l) (l[a].kids).toNat (a+1):=by
   unfold G4 Ox
   rw [if_pos (by omega),Int.toNat_natCast,if_pos (by rw [D6];omega),Afa hx]
  have hlen:=Vu l a
  rw [hxs]at h hlen
  refine⟨fun out atx k n=>∃p c:Nat,atx=p/\k=c/\p<=l.length/\c<=p/\c<=(l[a].kids).toNat/\n=(l[a].kids).toNat-c/\out++F8 (ks l) ((l[a].kids).toNat-c) p=F8 (ks l) (l[a].kids).toNat (a+1),⟨_,a+1,0,by rw [Ax (by omega) (by omega)];omega,rfl,by omega,by omega,by omega,rfl,by simp⟩,?_⟩
  rintro out _ _ _ ⟨p,c,rfl,rfl,hp,hcp,hck,rfl,he⟩
  refine⟨fun b=>b=(decide ((c:Int)<l[a].kids)&&decide (p<l.length)),⟨by omega,fun x1 hx1=> ?_⟩,?_⟩
  ·rw [Int.toNat_natCast,hx]at hx1
   cases hx1
   refine Ab (fun hd=> ?_) fun hd=> ?_
   ·rw [hd,Bool.true_and];congr 1;simp
   ·rw [hd,Bool.false_and]
  ·rintro _ rfl
   refine Ab (fun hd=> ?_) fun hd=> ?_
   ·have hd':(c:Int)<l[a].kids/\p<l.length:=by simpa using hd
    have hs:(l[a].kids).toNat-c=((l[a].kids).toNat-(c+1))+1:=by omega
    rw [hs,F8,if_pos (by rw [D6];omega)]at he
    have hol:out.length+1<=l.length:=by
     have:=congrArg List.length he
     simp at this;omega
    refine⟨by simp;omega,Awm l p hl _ ?_⟩
    unfold Zu
    rw [if_pos (by omega),Int.toNat_natCast]
    have h1:=X5 (ks l) p (by rw [D6];omega)
    have h2:=X4 (ks l) p
    rw [D6]at h2
    exact⟨(l[a].kids).toNat-(c+1),by omega,Rs (ks l) p,c+1,rfl,by rw [Ax (by omega) (by omega)];omega,by omega,by omega,by omega,rfl,by rw [List.append_assoc];exact he⟩
   ·have:out=F8 (ks l) (l[a].kids).toNat (a+1):=by
     by_cases hcc:c=(l[a].kids).toNat
     ·rw [←hcc,Nat.sub_self,F8,List.append_nil,hcc]at he
      exact he
     ·have hpl:¬p<(ks l).length:=by rw [D6];simp at hd;omega
      rw [show(l[a].kids).toNat-c=((l[a].kids).toNat-(c+1))+1 by omega,F8,if_neg hpl,List.append_nil]at he
      exact he
    rw [this]
    exact h
theorem At4 (l:List Ai) (i:Int) (K:Int->List Ai->Prop) (h:K i l):P9 l i K:=Zj _ _ _ h
def Aib (l:List Ai) (i r:Int):Prop:=(∃k:Nat,r=k/\i∈G4 l k)\/(r= -1/\∀k:Nat,i∉G4 l k)
theorem Nu {l:List Ai} {k:Nat} {x:Int} :x∈G4 l k↔∃j i:Nat,x=i/\Kid (ks l) k j i:=by
 unfold G4
 rw [if_pos (by omega),Int.toNat_natCast,Akh]
theorem Aib.unique {l:List Ai} {i r r':Int} (h:Aib l i r) (h':Aib l i r'):r=r':=by
 rcases h with⟨k,rfl,hk⟩|⟨rfl,hn⟩<;>rcases h' with⟨k',rfl,hk'⟩|⟨rfl,hn'⟩
 ·obtain⟨j,a,rfl,h1⟩:=Nu.1 hk
  obtain⟨j',a',e,h2⟩:=Nu.1 hk'
  obtain rfl:a=a':=by omega
  rw [h1.unique h2]
 ·exact absurd hk (hn' k)
 ·exact absurd hk' (hn k')
 ·rfl
theorem Atj (l:List Ai) (i:Int) (hl:l.length<=100000) (K:Int->Prop) (h:∀r,Aib l i r->K r):T0 l i K:=by
 refine Ah1 _ _ _ ⟨fun k n=>∃a:Nat,k=a/\a<=l.length/\n=l.length-a/\∀b,b<a->i∉G4 l b,⟨_,0,rfl,by omega,rfl,by omega⟩,?_⟩
 rintro _ _ ⟨a,rfl,ha,rfl,hno⟩
 refine Ab (fun hc=> ?_) fun hc=> ?_
 ·have hc':(a:Int)<i/\a<l.length:=by simp at hc;omega
  refine Av0 l a hl _ ⟨fun j n=>∃b:Nat,j=b/\b<=(G4 l a).length/\n=(G4 l a).length-b/\i∉(G4 l a).take b,⟨_,0,rfl,by omega,rfl,by simp⟩,?_⟩
  rintro _ _ ⟨b,rfl,hb,rfl,hnb⟩
  have hlen:=Vu l a
  refine Ab (fun hd=>⟨by simp at hd;omega,fun x hx=> ?_⟩) fun hd=> ?_
  ·rw [Int.toNat_natCast]at hx
   have hbl:=(List.getElem?_eq_some_iff.1 hx).1
   refine Ab (fun he=>h _ (.inl ⟨a,rfl,?_⟩)) fun he=> ?_
   ·have:x=i:=by simpa using he
    subst this
    exact List.mem_of_getElem? hx
   ·rw [Ax (by omega) (by omega)]
    refine⟨(G4 l a).length-(b+1),by omega,b+1,by omega,by omega,rfl,?_⟩
    rw [List.take_add_one,hx]
    simp only [Option.toList_some,List.mem_append,List.mem_singleton,not_or]
    exact⟨hnb,fun e=>by rw [e]at he;simp at he⟩
  ·rw [List.take_of_length_le (by simp at hd;omega)]at hnb
   rw [Ax (by omega) (by omega)]
   refine⟨l.length-(a+1),by omega,a+1,by omega,by omega,rfl,fun c hc=> ?_⟩
   by_cases hca:c=a
   ·rw [hca];exact hnb
   ·exact hno c (by omega)
 ·refine h _ (.inr ⟨rfl,fun k hk=> ?_⟩)
  by_cases hka:k<a
  ·exact hno k hka hk
  ·obtain⟨j,b,rfl,hq⟩:=Nu.1 hk
   have h1:=hq.ahead
   have h2:=hq.2.2.2
   have h3:=hq.1
   rw [D6]at h2 h3
   simp at hc;omega
def alike (x y:Ai):Bool:=(x.op==y.op)&&(x.name==y.name)&&(x.n==y.n)&&(x.kids==y.kids)
def Qn:List Ai->List Ai->Bool
 |[],[]=>true
 |x::a,y::b=>alike x y&&Qn a b
 |_,_=>false
theorem Acm:∀(a b:List Ai),a.length≠b.length->Qn a b=false
 |[],[],h=>absurd rfl h
 |[],_::_,_=>rfl
 |_::_,[],_=>rfl
 |x::a,y::b,h=>by rw [Qn,Acm a b (by simpa using h),Bool.and_false]
theorem Aki {a b:List Ai} {k:Nat} {x y:Ai} (hx:a[k]? =some x) (hy:b[k]? =some y):Qn (a.drop k) (b.drop k)=(alike x y&&Qn (a.drop (k+1)) (b.drop (k+1))):=by
 obtain⟨h1,rfl⟩:=List.getElem?_eq_some_iff.1 hx
 obtain⟨h2,rfl⟩:=List.getElem?_eq_some_iff.1 hy
 rw [List.drop_eq_getElem_cons h1,List.drop_eq_getElem_cons h2,Qn]
theorem Arl (a b:List Ai) (ha:a.length<=100000) (K:Bool->Prop) (h:K (Qn a b)):Sm a b K:=by
 refine Abd _ _ _ (Ab (fun hc=> ?_) fun hc=> ?_)
 ·rw [Acm a b (by simp at hc;omega)]at h
  exact h
 ·have hab:a.length=b.length:=by simp at hc;omega
  refine⟨fun x n=>∃k:Nat,x=k/\k<=a.length/\n=a.length-k/\Qn a b=Qn (a.drop k) (b.drop k),⟨_,0,rfl,by omega,rfl,by simp⟩,?_⟩
  rintro _ _ ⟨k,rfl,hk,rfl,he⟩
  refine Ab (fun hd=> ?_) fun hd=> ?_
  ·have hkl:k<a.length:=by simp at hd;omega
   have ga:=List.getElem?_eq_getElem hkl
   have gb:=List.getElem?_eq_getElem (l:=b) (i:=k) (by omega)
   rw [Aki ga gb]at he
   have r1:(0:Int)<=k/\(k:Int)<a.length:=by omega
   have r2:(0:Int)<=k/\(k:Int)<b.length:=by omega
   refine⟨fun bb=>bb= !alike a[k] (b[k]'(by omega)),⟨r1,fun x1 h1=>⟨r2,fun x2 h2=> ?_⟩⟩,?_⟩
   ·rw [Int.toNat_natCast]at h1 h2
    rw [ga]at h1;rw [gb]at h2;cases h1;cases h2
    refine Ab (fun hq=> ?_) fun hq=>⟨r1,fun x3 h3=>⟨r2,fun x4 h4=> ?_⟩⟩
    ·simp at hq;simp [alike,hq]
    ·rw [Int.toNat_natCast]at h3 h4
     rw [ga]at h3;rw [gb]at h4;cases h3;cases h4
     refine Ab (fun hq2=> ?_) fun hq2=>⟨r1,fun x3 h3=>⟨r2,fun x4 h4=> ?_⟩⟩
     ·simp at hq2;simp [alike,hq2]
     ·rw [Int.toNat_natCast]at h3 h4
      rw [ga]at h3;rw [gb]at h4;cases h3;cases h4
      refine Ab (fun hq3=> ?_) fun hq3=>⟨r1,fun x3 h3=>⟨r2,fun x4 h4=> ?_⟩⟩
      ·simp at hq3;simp [alike,hq3]
      ·rw [Int.toNat_natCast]at h3 h4
       rw [ga]at h3;rw [gb]at h4;cases h3;cases h4
       simp at hq hq2 hq3
       simp [alike,hq,hq2,hq3,bne]
   ·rintro _ rfl
    refine Ab (fun hq=> ?_) fun hq=> ?_
    ·simp at hq
     rw [he,hq,Bool.false_and]at h
     exact h
    ·simp at hq
     rw [hq,Bool.true_and]at he
     rw [Ax (by omega) (by omega)]
     exact⟨a.length-(k+1),by omega,k+1,by omega,by omega,rfl,he⟩
  ·rw [he,List.drop_of_length_le (by simp at hd;omega),List.drop_of_length_le (by simp at hd;omega)]at h
   exact h
end Go.Proofs.YtcakelelfklhdaaGreatDoor
namespace Go.Proofs.YtcakelelfklhdaaGreatDoor
open Go.Vc Go.Lv Go.Ty
structure D7 where
 T:List Au->Int->List Ai×Int×Int
 lo:∀toks at_,0<=at_->at_<=(toks.length:Int)->at_<=(T toks at_).2.1
 hi:∀toks at_,0<=at_->at_<=(toks.length:Int)->(T toks at_).2.1<=(toks.length:Int)
 len:∀toks at_,0<=at_->at_<=(toks.length:Int)->((T toks at_).1.length:Int)<=(T toks at_).2.1-at_
 rv:∀toks,toks.length<1000000000->∀at_,0<=at_->at_<=(toks.length:Int)->∀K:As->Prop,K ⟨(T toks at_).1,(T toks at_).2.1,(T toks at_).2.2⟩->Mp toks at_ K
abbrev Str:=List UInt8
def sLB:Str:=[123]
def sRB:Str:=[125]
def sLP:Str:=[40]
def sRP:Str:=[41]
def sLS:Str:=[91]
def sRS:Str:=[93]
def Av:Str:=[59]
def B2:Str:=[44]
def D8:Str:=[58]
def Db:Str:=[33]
def G8:Str:=[63]
def sEq:Str:=[61]
def Pl:Str:=[118,97,114]
def Fc:Str:=[115,116,97,114,116]
def Km:Str:=[115,108,101,101,112]
def Kn:Str:=[112,114,105,110,116]
def Hr:Str:=[97,115,115,101,114,116]
def Nw:Str:=[115,107,105,112]
def Nx:Str:=[115,116,111,112]
def F9:Str:=[119,104,105,108,101]
def sIf:Str:=[105,102]
def Dp:Str:=[101,108,115,101]
def Ej:Str:=[115,101,108,101,99,116]
def B1:Str:=[99,97,115,101]
def D9:Str:=[119,104,101,110]
def Ea:Str:=[97,102,116,101,114]
def Gm:Str:=[114,97,110,100,111,109]
def Gf:Str:=[99,104,97,110]
def Hk:Str:=[112,114,111,99]
def Ny:Str:=[109,97,105,110]
abbrev Cur:=Aj
section
variable (M:D7) (toks:List Au)
def Cc (at_:Int):Au:=if at_<(toks.length:Int)then(toks[at_.toNat]?).getD ⟨0,[],0,0⟩else⟨0,[],0,0⟩
def isF (at_:Int) (s:Str):Bool:=((Cc toks at_).kind==3||(Cc toks at_).kind==4)&&((Cc toks at_).text==s)
def A7 (at_:Int):Cur:=⟨[],0,at_,0⟩
def Bb (s:Str) (c:Cur):Cur:=if c.e_=0 then(if isF toks c.at_ s then⟨c.l,c.n,c.at_+1,0⟩else⟨c.l,c.n,c.at_,11⟩)else c
def Ga (c d:Cur):Cur:=if c.e_=0 then⟨c.l++d.l,IntKind.i64.wrap (c.n+1),d.at_,d.e_⟩else c
def Dc (c:Cur) (x:Ai):Cur:=⟨⟨x.op,x.name,x.n,c.n,x.at_⟩::c.l,1,c.at_,c.e_⟩
def Eg (c:Cur):Cur:=if c.e_=0 then(if(Cc toks c.at_).kind=1 then⟨c.l,c.n,c.at_+1,0⟩else⟨c.l,c.n,c.at_,11⟩)else c
def Be (c:Cur):Str:=if c.e_=0 then(if(Cc toks c.at_).kind=1 then(Cc toks c.at_).text else [])else []
def Es (c:Cur):Cur:=Ga c ⟨(M.T toks c.at_).1,0,(M.T toks c.at_).2.1,(M.T toks c.at_).2.2⟩
def Ew (s:Str) (c:Cur):Bool:=decide (c.e_=0)&&isF toks c.at_ s
def nd (op:Int) (name:Str) (n at_:Int):Ai:=⟨op,name,n,0,(Cc toks at_).at_⟩
def Wm (c:Cur):Cur:=if Ew toks sLS c then Bb toks sRS (Es M toks (Bb toks sLS c))else c
def Abu (at_:Int):Cur:=Dc (Wm M toks (Eg toks (A7 at_))) (nd toks 33 (Be toks (A7 at_)) 0 at_)
def Fw (g:Cur->Bool) (b:Cur->Cur):Nat->Cur->Cur
 |0,c=>c
 |f+1,c=>if g c then Fw g b f (b c)else c
def fuel:Nat:=toks.length+2
def Vv (stmt:Int->Cur) (at_:Int):Cur:=
 Dc (Bb toks sRB (Fw (fun c=>decide (c.e_=0)&& !isF toks c.at_ sRB) (fun c=>Ga c (stmt c.at_)) (fuel toks) (Bb toks sLB (A7 at_)))) (nd toks 32 [] 0 at_)
def inC (blk:Int->Cur) (c:Cur):Cur:=Ga c (blk c.at_)
structure Comm where
 c:Cur
 op:Int
 name:Str
def Sw (send recv:Int) (c:Cur):Comm:=if Ew toks Db c then⟨Es M toks (Bb toks Db c),send,[]⟩else⟨Eg toks (Bb toks G8 c),recv,Be toks (Bb toks G8 c)⟩
def H5 (send recv:Int) (c:Cur):Comm:=if c.e_=0 then Sw M toks send recv (Ga c (Abu M toks c.at_))else⟨c,0,[]⟩
def Kf (c:Cur):Cur:=if Ew toks D9 c then Bb toks D8 (Es M toks (Bb toks D9 c))else c
def Nz (c:Cur):Int:=if Ew toks D9 c then 1 else 0
def Gn (c:Cur):Comm:=if Ew toks Ea c then⟨Es M toks (Bb toks Ea c),36,[]⟩else H5 M toks 35 34 c
def E7 (blk:Int->Cur) (at_:Int):Cur:=
 if isF toks at_ Dp then Dc (inC blk (Bb toks Dp (A7 at_))) (nd toks 37 [] 0 at_)
 else Dc (inC blk (Gn M toks (Kf M toks (Bb toks B1 (A7 at_)))).c) (nd toks (Gn M toks (Kf M toks (Bb toks B1 (A7 at_)))).op (Gn M toks (Kf M toks (Bb toks B1 (A7 at_)))).name (Nz toks (Bb toks B1 (A7 at_))) at_)
def Wo (c:Cur):Cur:=
 Bb toks sRP (if(decide ((Bb toks sLP c).e_=0)&& !isF toks (Bb toks sLP c).at_ sRP)then
  Fw (Ew toks B2) (fun c=>Es M toks (Bb toks B2 c)) (fuel toks) (Es M toks (Bb toks sLP c))else Bb toks sLP c)
def Afb (at_:Int):Cur:=
 if Ew toks Gm (Bb toks sEq (Eg toks (A7 at_)))then
  Dc (Bb toks Av (Bb toks sRP (Es M toks (Bb toks sLP (Bb toks Gm (Bb toks sEq (Eg toks (A7 at_)))))))) (nd toks 20 (Be toks (A7 at_)) 0 at_)
 else Dc (Bb toks Av (Es M toks (Bb toks sEq (Eg toks (A7 at_))))) (nd toks 19 (Be toks (A7 at_)) 0 at_)
def Am3 (s:Str) (op:Int) (at_:Int):Cur:=Dc (Bb toks Av (Es M toks (Bb toks s (A7 at_)))) (nd toks op [] 0 at_)
def Aic (s:Str) (op:Int) (at_:Int):Cur:=Dc (Bb toks Av (Bb toks s (A7 at_))) (nd toks op [] 0 at_)
def ifC (blk:Int->Cur) (c:Cur):Cur:=if Ew toks Dp c then inC blk (Bb toks Dp c)else c
def Aoy (blk:Int->Cur) (c:Cur):Cur:=Fw (fun c=>decide (c.e_=0)&& !isF toks c.at_ sRB) (fun c=>Ga c (E7 M toks blk c.at_)) (fuel toks) (Ga c (E7 M toks blk c.at_))
def Bj (blk:Int->Cur) (at_:Int):Cur:=
 let s:=(Cc toks at_).text
 if s=Pl then Dc (Bb toks Av (Es M toks (Bb toks sEq (Eg toks (Bb toks Pl (A7 at_)))))) (nd toks 18 (Be toks (Bb toks Pl (A7 at_))) 0 at_)
 else if s=Fc then Dc (Bb toks Av (Wo M toks (Eg toks (Bb toks Fc (A7 at_))))) (nd toks 26 (Be toks (Bb toks Fc (A7 at_))) 0 at_)
 else if s=Km then Am3 M toks Km 27 at_
 else if s=Kn then Am3 M toks Kn 28 at_
 else if s=Hr then Am3 M toks Hr 29 at_
 else if s=Nw then Aic toks Nw 30 at_
 else if s=Nx then Aic toks Nx 31 at_
 else if s=F9 then Dc (inC blk (Es M toks (Bb toks F9 (A7 at_)))) (nd toks 24 [] 0 at_)
 else if s=sIf then Dc (ifC toks blk (inC blk (Es M toks (Bb toks sIf (A7 at_))))) (nd toks 23 [] 0 at_)
 else if s=Ej then Dc (Bb toks sRB (Aoy M toks blk (Bb toks sLB (Bb toks Ej (A7 at_))))) (nd toks 25 [] 0 at_)
 else⟨[],0,at_,11⟩
def Mr (blk:Int->Cur) (at_:Int):Cur:=
 if(Cc toks at_).kind=1 then
  (if isF toks (at_+1) sEq then Afb M toks at_
   else Dc (Bb toks Av (H5 M toks 21 22 (A7 at_)).c) (nd toks (H5 M toks 21 22 (A7 at_)).op (H5 M toks 21 22 (A7 at_)).name 0 at_))
 else if(Cc toks at_).kind=3 then Bj M toks blk at_
 else⟨[],0,at_,11⟩
def E0:Nat->Int->Cur
 |0,at_=>if isF toks at_ sLB then⟨[],0,at_,5⟩else Vv toks A7 at_
 |k+1,at_=>Vv toks (Mr M toks (E0 k)) at_
def R6 (c:Cur):Cur:=if c.e_=0 then(if(Cc toks c.at_).kind=2 then(if(Cc toks c.at_).n<1\/(Cc toks c.at_).n>16 then⟨c.l,c.n,c.at_,6⟩else⟨c.l,c.n,c.at_+1,0⟩)else⟨c.l,c.n,c.at_,11⟩)else c
def Acn (c:Cur):Int:=if(R6 toks c).e_=0 then(Cc toks c.at_).n else 0
def Jz (c:Cur):Cur:=Ga c (Dc (Eg toks (A7 c.at_)) (nd toks 39 (Be toks (A7 c.at_)) 0 c.at_))
def Qo (c:Cur):Cur:=if Ew toks sLS c then Bb toks sRS (R6 toks (Bb toks sLS c))else c
def Aco (c:Cur):Int:=if Ew toks sLS c then Acn toks (Bb toks sLS c)else 0
def Qp (c:Cur):Cur:=if(decide (c.e_=0)&& !isF toks c.at_ sRP)then Fw (Ew toks B2) (fun c=>Jz toks (Bb toks B2 c)) (fuel toks) (Jz toks c)else c
def O8 (at_:Int):Cur:=
 if isF toks at_ Gf then
  Dc (Bb toks Av (Qo toks (Eg toks (Bb toks Gf (A7 at_))))) (nd toks 38 (Be toks (Bb toks Gf (A7 at_))) (Aco toks (Eg toks (Bb toks Gf (A7 at_)))) at_)
 else if isF toks at_ Hk then
  Dc (inC (E0 M toks 24) (Bb toks sRP (Qp toks (Bb toks sLP (Eg toks (Bb toks Hk (A7 at_))))))) (nd toks 40 (Be toks (Bb toks Hk (A7 at_))) 0 at_)
 else Dc (inC (E0 M toks 24) (Bb toks Ny (A7 at_))) (nd toks 41 [] 0 at_)
def Uj:Cur:=Fw (fun c=>decide (c.e_=0)&& !decide ((Cc toks c.at_).kind=0)) (fun c=>Ga c (O8 M toks c.at_)) (fuel toks) (A7 0)
def G5:As:=if(Uj M toks).e_≠0 then⟨[],(Uj M toks).at_,(Uj M toks).e_⟩else⟨(Dc (Uj M toks) ⟨42,[],0,0,0⟩).l,0,0⟩
end
structure Cw (toks:List Au) (at0:Int) (s q:Nat) (c:Cur):Prop where
 z:0<=at0
 lo:at0<=c.at_
 hi:c.at_<=(toks.length:Int)
 w:c.e_=0->(c.l.length:Int)+s<=c.at_-at0
 b:(c.l.length:Int)<=c.at_-at0+q
section
variable {toks:List Au} {at0:Int} {s q:Nat} {c d:Cur}
theorem Cw.mono {s' q':Nat} (h:Cw toks at0 s q c) (hs:s'<=s) (hq:q<=q'):Cw toks at0 s' q' c:=
 ⟨h.z,h.lo,h.hi,fun e=>by have:=h.w e;omega,by have:=h.b;omega⟩
theorem Dg {at_:Int} (h0:0<=at_) (h1:at_<=(toks.length:Int)) (q:Nat):Cw toks at_ 0 q (A7 at_):=⟨h0,Int.le_refl _,h1,fun _=>by simp [A7],by simp [A7]⟩
theorem Aid {at_:Int} (h:(toks.length:Int)<=at_):Cc toks at_=⟨0,[],0,0⟩:=by unfold Cc;rw [if_neg (by omega)]
theorem Aoz {at_:Int} {s:Str} (h:isF toks at_ s=true):at_<(toks.length:Int):=by
 by_cases hl:at_<(toks.length:Int)
 ·exact hl
 ·unfold isF at h
  rw [Aid (by omega)]at h
  simp at h
theorem X6 {at_:Int} (h:(Cc toks at_).kind≠0):at_<(toks.length:Int):=by
 by_cases hl:at_<(toks.length:Int)
 ·exact hl
 ·rw [Aid (by omega)]at h;exact absurd rfl h
theorem Az (t:Str) (h:Cw toks at0 s q c):Cw toks at0 (s+1) q (Bb toks t c):=by
 obtain⟨z,lo,hi,w,b⟩:=h
 unfold Bb
 split
 ·rename_i he
  split
  ·rename_i hs
   have:=Aoz hs
   have:=w he
   exact⟨z,by dsimp only;omega,by dsimp only;omega,fun _=>by dsimp only;omega,by dsimp only;omega⟩
  ·exact⟨z,lo,hi,fun h=>by simp at h,b⟩
 ·rename_i he
  exact⟨z,lo,hi,fun h=>absurd h he,b⟩
theorem Fl (h:Cw toks at0 s q c):Cw toks at0 (s+1) q (Eg toks c):=by
 obtain⟨z,lo,hi,w,b⟩:=h
 unfold Eg
 split
 ·rename_i he
  split
  ·rename_i hs
   have:=X6 (toks:=toks) (at_:=c.at_) (by omega)
   have:=w he
   exact⟨z,by dsimp only;omega,by dsimp only;omega,fun _=>by dsimp only;omega,by dsimp only;omega⟩
  ·exact⟨z,lo,hi,fun h=>by simp at h,b⟩
 ·rename_i he
  exact⟨z,lo,hi,fun h=>absurd h he,b⟩
theorem Ali (h:Cw toks at0 s q c):Cw toks at0 (s+1) q (R6 toks c):=by
 obtain⟨z,lo,hi,w,b⟩:=h
 unfold R6
 split
 ·rename_i he
  split
  ·rename_i hs
   have:=X6 (toks:=toks) (at_:=c.at_) (by omega)
   have:=w he
   split
   ·exact⟨z,lo,hi,fun h=>by simp at h,b⟩
   ·exact⟨z,by dsimp only;omega,by dsimp only;omega,fun _=>by dsimp only;omega,by dsimp only;omega⟩
  ·exact⟨z,lo,hi,fun h=>by simp at h,b⟩
 ·rename_i he
  exact⟨z,lo,hi,fun h=>absurd h he,b⟩
theorem Ko {q' s':Nat} (h:Cw toks at0 s q c) (hd:c.e_=0->Cw toks c.at_ s' q' d) (hq:q'<=q):Cw toks at0 (s+s') q (Ga c d):=by
 obtain⟨z,lo,hi,w,b⟩:=h
 unfold Ga
 split
 ·rename_i he
  obtain⟨z',lo',hi',w',b'⟩:=hd he
  have:=w he
  refine⟨z,by dsimp only;omega,hi',fun e=> ?_,?_⟩
  ·have:=w' e
   simp only [List.length_append];omega
  ·simp only [List.length_append];omega
 ·rename_i he
  exact⟨z,lo,hi,fun h=>absurd h he,b⟩
theorem Dq (M:D7) (h:Cw toks at0 s q c):Cw toks at0 s q (Es M toks c):=by
 have h0:0<=c.at_:=Int.le_trans h.z h.lo
 refine Ko (s':=0) (q':=0) h (fun _=>⟨h0,M.lo _ _ h0 h.hi,M.hi _ _ h0 h.hi,fun _=> ?_,?_⟩) (Nat.zero_le _)
 ·have:=M.len _ _ h0 h.hi;simpa using this
 ·have:=M.len _ _ h0 h.hi;simpa using this
theorem Cu {x:Ai} (h:Cw toks at0 (s+1) q c):Cw toks at0 s (q+1) (Dc c x):=by
 obtain⟨z,lo,hi,w,b⟩:=h
 refine⟨z,lo,hi,fun e=> ?_,?_⟩
 ·have:=w e
  simp only [Dc,List.length_cons];omega
 ·simp only [Dc,List.length_cons];omega
theorem Cw.z1 (h:Cw toks at0 s q c):0<=c.at_:=Int.le_trans h.z h.lo
theorem Akj {at_ e:Int} (h0:0<=at_) (h1:at_<=(toks.length:Int)) (he:e≠0) (s q:Nat):Cw toks at_ s q ⟨[],0,at_,e⟩:=⟨h0,Int.le_refl _,h1,fun h=>absurd h he,by simp⟩
theorem Alj (M:D7) (h:Cw toks at0 s q c):Cw toks at0 s q (Wm M toks c):=by
 unfold Wm
 split
 ·exact(Az _ (Dq M (Az _ h))).mono (by omega) (Nat.le_refl _)
 ·exact h
theorem Ao0 (M:D7) {at_:Int} (h0:0<=at_) (h1:at_<=(toks.length:Int)):Cw toks at_ 0 1 (Abu M toks at_):=
 Cu (Alj M (Fl (Dg h0 h1 0)))
theorem Ao1 (M:D7) (a b:Int) (h:Cw toks at0 s q c):Cw toks at0 (s+1) q (Sw M toks a b c).c:=by
 unfold Sw
 split
 ·exact Dq M (Az _ h)
 ·exact(Fl (Az _ h)).mono (by omega) (Nat.le_refl _)
theorem Afc (M:D7) (a b:Int) (h:Cw toks at0 s q c) (hq:1<=q):Cw toks at0 (s+1) q (H5 M toks a b c).c:=by
 unfold H5
 split
 ·exact Ao1 M a b (Ko h (fun _=>Ao0 M h.z1 h.hi) hq)
 ·rename_i he
  exact⟨h.z,h.lo,h.hi,fun h=>absurd h he,h.b⟩
theorem Q7 {g:Cur->Bool} {b:Cur->Cur} (hb:∀c,Cw toks at0 s q c->g c=true->Cw toks at0 s q (b c)):∀(f:Nat) (c:Cur),Cw toks at0 s q c->Cw toks at0 s q (Fw g b f c)
 |0,c,h=>h
 |f+1,c,h=>by
  unfold Fw
  cases hg:g c with
  |true=>rw [if_pos rfl];exact Q7 hb f _ (hb c h hg)
  |false=>rw [if_neg (by simp)];exact h
theorem Aie {stmt:Int->Cur} (hs:∀at_,0<=at_->at_<=(toks.length:Int)->Cw toks at_ 0 q (stmt at_)) {at_:Int} (h0:0<=at_) (h1:at_<=(toks.length:Int)):Cw toks at_ 1 (q+1) (Vv toks stmt at_):=
 Cu (Az _ (Q7 (s:=1) (fun _ h _=>Ko h (fun _=>hs _ h.z1 h.hi) (Nat.le_refl _)) _ _ (Az _ (Dg h0 h1 q))))
def Blk (toks:List Au) (q:Nat) (blk:Int->Cur):Prop:=∀at_,0<=at_->at_<=(toks.length:Int)->Cw toks at_ 1 q (blk at_)
theorem Ms {blk:Int->Cur} {q':Nat} (hb:Blk toks q' blk) (h:Cw toks at0 s q c) (hq:q'<=q):Cw toks at0 (s+1) q (inC blk c):=
 Ko h (fun _=>hb _ h.z1 h.hi) hq
theorem Alk (M:D7) (h:Cw toks at0 s q c):Cw toks at0 s q (Kf M toks c):=by
 unfold Kf
 split
 ·exact(Az _ (Dq M (Az _ h))).mono (by omega) (Nat.le_refl _)
 ·exact h
theorem Aif (M:D7) (h:Cw toks at0 s q c) (hq:1<=q):Cw toks at0 s q (Gn M toks c).c:=by
 unfold Gn
 split
 ·exact(Dq M (Az _ h)).mono (by omega) (Nat.le_refl _)
 ·exact(Afc M _ _ h hq).mono (by omega) (Nat.le_refl _)
theorem Vw (M:D7) {blk:Int->Cur} (hb:Blk toks q blk) (hq:1<=q) {at_:Int} (h0:0<=at_) (h1:at_<=(toks.length:Int)):Cw toks at_ 1 (q+1) (E7 M toks blk at_):=by
 unfold E7
 split
 ·exact Cu (Ms hb (Az _ (Dg h0 h1 q)) (Nat.le_refl _))
 ·exact Cu (Ms hb (Aif M (Alk M (Az _ (Dg h0 h1 q))) hq) (Nat.le_refl _))
theorem All (M:D7) (h:Cw toks at0 s q c):Cw toks at0 s q (Wo M toks c):=by
 unfold Wo
 refine(Az (s:=s) _ ?_).mono (by omega) (Nat.le_refl _)
 split
 ·exact Q7 (fun _ h _=>(Dq M (Az _ h)).mono (by omega) (Nat.le_refl _)) _ _ ((Dq M (Az _ h)).mono (by omega) (Nat.le_refl _))
 ·exact(Az _ h).mono (by omega) (Nat.le_refl _)
theorem At5 (M:D7) {at_:Int} (h0:0<=at_) (h1:at_<=(toks.length:Int)):Cw toks at_ 1 1 (Afb M toks at_):=by
 unfold Afb
 split
 ·exact(Cu (Az _ (Az _ (Dq M (Az _ (Az _ (Az _ (Fl (Dg h0 h1 0))))))))).mono (by omega) (Nat.le_refl _)
 ·exact(Cu (Az _ (Dq M (Az _ (Fl (Dg h0 h1 0)))))).mono (by omega) (Nat.le_refl _)
theorem Arm (M:D7) {blk:Int->Cur} (hb:Blk toks q blk) (hq:1<=q) {at_:Int} (h0:0<=at_) (h1:at_<=(toks.length:Int)):Cw toks at_ 1 (q+2) (Bj M toks blk at_):=by
 have hf:=Dg h0 h1 q
 have h11:=Akj (toks:=toks) h0 h1 (e:=11) (by decide) 1 (q+2)
 unfold Bj
 dsimp only
 split
 ·exact(Cu (Az _ (Dq M (Az _ (Fl (Az _ hf)))))).mono (by omega) (by omega)
 split
 ·exact(Cu (Az _ (All M (Fl (Az _ hf))))).mono (by omega) (by omega)
 split
 ·exact(Cu (Az _ (Dq M (Az _ hf)))).mono (by omega) (by omega)
 split
 ·exact(Cu (Az _ (Dq M (Az _ hf)))).mono (by omega) (by omega)
 split
 ·exact(Cu (Az _ (Dq M (Az _ hf)))).mono (by omega) (by omega)
 split
 ·exact(Cu (Az _ (Az _ hf))).mono (by omega) (by omega)
 split
 ·exact(Cu (Az _ (Az _ hf))).mono (by omega) (by omega)
 split
 ·exact(Cu (Ms hb (Dq M (Az _ hf)) (Nat.le_refl _))).mono (by omega) (by omega)
 split
 ·have hi:=Ms hb (Dq M (Az sIf hf)) (Nat.le_refl _)
  refine(Cu (s:=1) (q:=q) ?_).mono (by omega) (by omega)
  unfold ifC
  split
  ·exact(Ms hb (Az _ hi) (Nat.le_refl _)).mono (by omega) (Nat.le_refl _)
  ·exact hi
 split
 ·refine(Cu (s:=2) (q:=q+1) (Az _ ?_)).mono (by omega) (by omega)
  unfold Aoy
  have hf':=(Az sLB (Az Ej hf)).mono (q':=q+1) (Nat.le_refl _) (by omega)
  exact Q7 (s:=2) (fun _ h _=>(Ko h (fun _=>Vw M hb hq h.z1 h.hi) (Nat.le_refl _)).mono (by omega) (Nat.le_refl _)) _ _ ((Ko hf' (fun _=>Vw M hb hq hf'.z1 hf'.hi) (Nat.le_refl _)).mono (by omega) (Nat.le_refl _))
 ·exact h11
theorem Alm (M:D7) {blk:Int->Cur} (hb:Blk toks q blk) (hq:1<=q) {at_:Int} (h0:0<=at_) (h1:at_<=(toks.length:Int)):Cw toks at_ 1 (q+2) (Mr M toks blk at_):=by
 unfold Mr
 split
 ·split
  ·exact(At5 M h0 h1).mono (by omega) (by omega)
  ·exact(Cu (Az _ (Afc M _ _ (Dg h0 h1 q) hq))).mono (by omega) (by omega)
 ·split
  ·exact Arm M hb hq h0 h1
  ·exact Akj h0 h1 (by decide) _ _
theorem Sx (M:D7):∀k,Blk toks (3*k+2) (E0 M toks k)
 |0,at_,h0,h1=>by
  unfold E0
  split
  ·exact Akj h0 h1 (by decide) _ _
  ·exact(Aie (fun a h0 h1=>Dg h0 h1 1) h0 h1).mono (by omega) (by omega)
 |k+1,at_,h0,h1=>by
  unfold E0
  exact(Aie (fun a h0 h1=>(Alm M (Sx M k) (by omega) h0 h1).mono (by omega) (Nat.le_refl _)) h0 h1).mono (by omega) (by omega)
theorem Uk (h:Cw toks at0 s q c) (hq:1<=q):Cw toks at0 s q (Jz toks c):=
 Ko h (fun _=>Cu (Fl (Dg h.z1 h.hi 0))) hq
theorem Aig (h:Cw toks at0 s q c) (hq:1<=q):Cw toks at0 s q (Qp toks c):=by
 unfold Qp
 split
 ·exact Q7 (fun _ h _=>(Uk (Az _ h) hq).mono (by omega) (Nat.le_refl _)) _ _ (Uk h hq)
 ·exact h
theorem Aih (h:Cw toks at0 s q c):Cw toks at0 s q (Qo toks c):=by
 unfold Qo
 split
 ·exact(Az _ (Ali (Az _ h))).mono (by omega) (Nat.le_refl _)
 ·exact h
theorem Aln (M:D7) {at_:Int} (h0:0<=at_) (h1:at_<=(toks.length:Int)):Cw toks at_ 1 100 (O8 M toks at_):=by
 have hf:=Dg h0 h1 80
 unfold O8
 split
 ·exact(Cu (Az _ (Aih (Fl (Az _ hf))))).mono (by omega) (by omega)
 split
 ·exact(Cu (Ms (Sx M 24) (Az _ (Aig (Az _ (Fl (Az _ hf))) (by omega))) (by omega))).mono (by omega) (by omega)
 ·exact(Cu (Ms (Sx M 24) (Az _ hf) (by omega))).mono (by omega) (by omega)
def LI (toks:List Au) (g:Cur->Bool) (b:Cur->Cur) (F:Cur) (f:Nat) (c:Cur):Prop:=Fw g b f c=F/\(c.e_=0->(toks.length:Int)+2<=f+c.at_)
theorem LI.start {g:Cur->Bool} {b:Cur->Cur} (h:Cw toks at0 s q c):LI toks g b (Fw g b (fuel toks) c) (fuel toks) c:=⟨rfl,fun _=>by have:=h.z1;unfold fuel;omega⟩
theorem LI.step {g:Cur->Bool} {b:Cur->Cur} {F:Cur} {f:Nat} (h:LI toks g b F f c) (hg:g c=true) (he:c.e_=0) (hh:c.at_<=(toks.length:Int)) (ha:(b c).e_=0->c.at_+1<=(b c).at_):∃f',f'<f/\LI toks g b F f' (b c):=by
 have h2:=h.2 he
 obtain⟨f,rfl⟩:∃f',f=f'+1:=⟨f-1,by omega⟩
 refine⟨f,by omega,?_,fun e=>by have:=ha e;omega⟩
 have:=h.1
 rw [Fw,hg,if_pos rfl]at this
 exact this
theorem LI.stop {g:Cur->Bool} {b:Cur->Cur} {F:Cur} {f:Nat} (h:LI toks g b F f c) (hg:g c=false):c=F:=by
 have:=h.1
 cases f with
 |zero=>exact this
 |succ f=>rw [Fw,hg,if_neg (by simp)]at this;exact this
theorem Afd {s' q':Nat} (h:Cw toks c.at_ (s'+1) q' d) (he:c.e_=0) (hd:(Ga c d).e_=0):c.at_+1<=(Ga c d).at_:=by
 unfold Ga at hd⊢
 rw [if_pos he]at hd⊢
 have:=h.w hd
 dsimp only
 omega
theorem Arn (M:D7):Cw toks 0 0 100 (Uj M toks):=
 Q7 (fun _ h _=>(Ko h (fun _=>Aln M h.z1 h.hi) (Nat.le_refl _)).mono (by omega) (Nat.le_refl _)) _ _ (Dg (Int.le_refl _) (by omega) _)
end
end Go.Proofs.YtcakelelfklhdaaGreatDoor
namespace Go.Proofs.YtcakelelfklhdaaGreatDoor
open Go.Vc Go.Lv Go.Ty
section
variable {toks:List Au} {at0:Int} {s q:Nat} {c d:Cur}
theorem Mg {at_:Int} (h0:0<=at_) (K:Au->Prop) (h:K (Cc toks at_)):Dm toks at_ K:=by
 refine Ae3 _ _ _ (Ab (fun hc=> ?_) fun hc=> ?_)
 ·have hlt:at_<(toks.length:Int):=by simpa using hc
  refine⟨⟨h0,hlt⟩,fun x hx=> ?_⟩
  unfold Cc at h
  rw [if_pos hlt,hx]at h;exact h
 ·have hlt:¬at_<(toks.length:Int):=by simpa using hc
  unfold Cc at h
  rw [if_neg hlt]at h;exact h
theorem Aro (x:Au) (t:Str) (K:Bool->Prop) (h:K ((x.kind==3||x.kind==4)&&(x.text==t))):cond (x.kind==3) (K (x.text==t)) (cond (x.kind==4) (K (x.text==t)) (K false)):=by
 refine Ab (fun h3=> ?_) fun h3=>Ab (fun h4=> ?_) fun h4=> ?_
 ·rw [h3]at h;exact h
 ·rw [h3,h4]at h;exact h
 ·rw [h3,h4]at h;exact h
theorem Wp {at_:Int} (h0:0<=at_) (t:Str) (K:Bool->Prop) (h:K (isF toks at_ t)):Cn toks at_ t K:=
 Ah5 _ _ _ _ (Mg h0 _ (Aro _ t K h))
theorem Ja {at_:Int} (K:Cur->Prop) (h:K (A7 at_)):D0 at_ K:=Abl _ _ h
theorem Afe {e at_:Int} (h0:0<=at_) (t:Str) {A B:Prop} (hA:(decide (e=0)&&isF toks at_ t)=true->A) (hB:(decide (e=0)&&isF toks at_ t)=false->B):
 ∃J1:Bool->Prop,(cond (e==0) (Cn toks at_ t (fun x=>J1 x)) (J1 false))/\∀x,J1 x->cond x A B:=by
 refine⟨fun x=>x=(decide (e=0)&&isF toks at_ t),Ab (fun he=> ?_) (fun he=> ?_),?_⟩
 ·have he:e=0:=by simpa using he
  subst he
  exact Wp h0 t _ rfl
 ·have he:¬e=0:=by simpa using he
  show false=_
  rw [decide_eq_false he];rfl
 ·rintro _ rfl
  exact Ab hA hB
theorem Aii {e at_:Int} (h0:0<=at_) (t:Str) {A B:Prop} (hA:(decide (e=0)&& !isF toks at_ t)=true->A) (hB:(decide (e=0)&& !isF toks at_ t)=false->B):
 ∃J1:Bool->Prop,(cond (e==0) (Cn toks at_ t (fun x=>J1 (!x))) (J1 false))/\∀x,J1 x->cond x A B:=by
 refine⟨fun x=>x=(decide (e=0)&& !isF toks at_ t),Ab (fun he=> ?_) (fun he=> ?_),?_⟩
 ·have he:e=0:=by simpa using he
  subst he
  exact Wp h0 t _ rfl
 ·have he:¬e=0:=by simpa using he
  show false=_
  rw [decide_eq_false he];rfl
 ·rintro _ rfl
  exact Ab hA hB
theorem B4 (hN:toks.length<1000000) (hc:Cw toks at0 s q c) (t:Str) (K:Cur->Prop) (h:K (Bb toks t c)):Ak c toks t K:=by
 have h0:=hc.z1
 have h1:=hc.hi
 refine Vl _ _ _ _ ⟨fun l n a e=>l=c.l/\n=c.n/\a=c.at_/\e=if decide (c.e_=0)&& !isF toks c.at_ t then 11 else c.e_,Aii h0 t (fun hA=>⟨rfl,rfl,rfl,by rw [if_pos hA]⟩) (fun hB=>⟨rfl,rfl,rfl,by rw [if_neg (by rw [hB];simp)]⟩),?_⟩
 rintro _ _ _ _ ⟨rfl,rfl,rfl,rfl⟩
 refine⟨fun l n a e=>⟨l,n,a,e⟩=Bb toks t c,?_,fun _ _ _ _ he=>by rw [he];exact h⟩
 unfold Bb
 by_cases he:c.e_=0
 ·rw [if_pos he]
  cases hi:isF toks c.at_ t with
  |true=>
   rw [decide_eq_true he]
   have:=Aoz hi
   refine Dt (by rw [he];rfl) ?_
   show _=_
   rw [Ax (by omega) (by omega),he];rfl
  |false=>
   rw [decide_eq_true he]
   exact A8 rfl rfl
 ·rw [if_neg he,decide_eq_false he]
  refine A8 (by simpa using he) ?_
  rfl
theorem Qq (K:Cur->Prop) (hl:c.e_=0->c.l.length+d.l.length<2^32) (h:K (Ga c d)):Da c d K:=by
 refine Vm _ _ _ (Ab (fun he=> ?_) fun he=> ?_)
 ·have he:¬c.e_=0:=by simpa using he
  unfold Ga at h;rw [if_neg he]at h;exact h
 ·have he:c.e_=0:=by simpa using he
  unfold Ga at h;rw [if_pos he]at h
  have:=hl he
  exact⟨by omega,this,h⟩
theorem Dx (x:Ai) (K:Cur->Prop) (hl:c.l.length<2^31) (h:K (Dc c x)):A2 c x K:=
 Su _ _ _ ⟨by simp only [List.length_cons,List.length_nil];omega,h⟩
theorem Cw.len (hN:toks.length<1000000) (hc:Cw toks at0 s q c) (hq:q<=1000):c.l.length<2000000:=by
 have:=hc.b;have:=hc.lo;have:=hc.hi;have:=hc.z
 omega
theorem Cw.sum {q' s':Nat} (hN:toks.length<1000000) (hc:Cw toks at0 s q c) (hd:Cw toks c.at_ s' q' d) (hq:q<=1000) (hq':q'<=1000):c.l.length+d.l.length<2^32:=by
 have:=hc.len hN hq;have:=hd.len hN hq'
 omega
theorem Jb (M:D7) (hN:toks.length<1000000) (hc:Cw toks at0 s q c) (hq:q<=1000) (K:Cur->Prop) (h:K (Es M toks c)):Bp c toks K:=by
 have h0:=hc.z1
 refine Uc _ _ _ (Ab (fun he=> ?_) fun he=> ?_)
 ·have he:¬c.e_=0:=by simpa using he
  unfold Es Ga at h;rw [if_neg he]at h;exact h
 ·refine M.rv toks (by omega) _ h0 hc.hi _ (Qq _ (fun _=> ?_) h)
  have h1:=hc.len hN hq
  have h2:=M.len toks _ h0 hc.hi
  have h3:=M.hi toks _ h0 hc.hi
  dsimp only
  omega
theorem Mt (hN:toks.length<1000000) (hc:Cw toks at0 s q c) (K:Cur->Str->Prop) (h:K (Eg toks c) (Be toks c)):C9 c toks K:=by
 have h0:=hc.z1
 have h1:=hc.hi
 refine Ud _ _ _ (Mg h0 _ ⟨fun l n a e=>l=c.l/\n=c.n/\a=c.at_/\e=if c.e_=0/\(Cc toks c.at_).kind≠1 then 11 else c.e_,?_,?_⟩)
 ·refine⟨fun x=>x=decide (c.e_=0/\(Cc toks c.at_).kind≠1),Ab (fun he=> ?_) (fun he=> ?_),?_⟩
  ·have he:c.e_=0:=by simpa using he
   show _=_
   rw [Bool.eq_iff_iff];simp [he]
  ·have he:¬c.e_=0:=by simpa using he
   show false=_
   rw [decide_eq_false (fun h=>he h.1)]
  ·rintro _ rfl
   refine Ab (fun hh=>⟨rfl,rfl,rfl,by rw [if_pos (of_decide_eq_true hh)]⟩) (fun hh=>⟨rfl,rfl,rfl,by rw [if_neg (of_decide_eq_false hh)]⟩)
 ·rintro _ _ _ _ ⟨rfl,rfl,rfl,rfl⟩
  unfold Eg Be at h
  by_cases he:c.e_=0
  ·rw [if_pos he,if_pos he]at h
   by_cases hk:(Cc toks c.at_).kind=1
   ·rw [if_pos hk,if_pos hk]at h
    have:=X6 (toks:=toks) (at_:=c.at_) (by omega)
    rw [if_neg (fun hh=>hh.2 hk)]
    refine A8 (by simpa using he) ?_
    rw [Ax (by omega) (by omega),he];exact h
   ·rw [if_neg hk,if_neg hk]at h
    rw [if_pos ⟨he,hk⟩];exact h
  ·rw [if_neg he,if_neg he]at h
   rw [if_neg (fun hh=>he hh.1)]
   exact Dt (by simpa using he) h
theorem At6 (M:D7) (hN:toks.length<1000000) {at_:Int} (h0:0<=at_) (h1:at_<=(toks.length:Int)) (K:Cur->Prop) (h:K (Abu M toks at_)):Vd toks at_ K:=by
 have hf:=Dg h0 h1 0
 have hn:=Fl hf
 refine Aex _ _ _ (Ja _ (Mt hN hf _ ⟨fun l n a e=>⟨l,n,a,e⟩=Wm M toks (Eg toks (A7 at_)),Afe hn.z1 sLS (fun hA=> ?_) (fun hB=> ?_),?_⟩))
 ·have e1:=Az sLS hn
  refine B4 hN hn sLS _ (Jb M hN e1 (by omega) _ (B4 hN (Dq M e1) sRS _ ?_))
  unfold Wm;rw [if_pos (show Ew toks sLS _=true from hA)]
 ·unfold Wm;rw [if_neg (by rw [show Ew toks sLS _=false from hB];simp)]
 ·intro l n a e he
  refine Mg h0 _ ?_
  rw [he]
  exact Dx _ _ (by have:=(Alj M hn).len hN (by omega);omega) h
theorem Zv {q':Nat} (hN:toks.length<1000000) {blk:Int->Cur} {deep:Int} (hb:Blk toks q' blk) (hq':q'<=1000) (hB:∀at_,0<=at_->at_<=(toks.length:Int)->∀K:Cur->Prop,K (blk at_)->K2 toks at_ deep K)
 (hc:Cw toks at0 s q c) (hq:q<=1000) (K:Cur->Prop) (h:K (inC blk c)):Ei c toks deep K:=by
 refine Xw _ _ _ _ (Ab (fun he=> ?_) fun he=> ?_)
 ·have he:¬c.e_=0:=by simpa using he
  unfold inC Ga at h;rw [if_neg he]at h;exact h
 ·exact hB _ hc.z1 hc.hi _ (Qq _ (fun _=>hc.sum hN (hb _ hc.z1 hc.hi) hq hq') h)
theorem Alo (M:D7) (hN:toks.length<1000000) (a b:Int) (hc:Cw toks at0 s q c) (h1q:1<=q) (hq:q<=1000) (K:Cur->Int->Str->Prop) (h:K (H5 M toks a b c).c (H5 M toks a b c).op (H5 M toks a b c).name):Jy c toks a b K:=by
 refine Ue _ _ _ _ _ (Ab (fun he=> ?_) fun he=> ?_)
 ·have he:¬c.e_=0:=by simpa using he
  unfold H5 at h;rw [if_neg he]at h;exact h
 ·have he:c.e_=0:=by simpa using he
  unfold H5 at h;rw [if_pos he]at h
  have hr:=Ao0 M hc.z1 hc.hi
  have ha:=Ko hc (fun _=>hr) h1q
  refine⟨fun l n x e=>⟨l,n,x,e⟩=Ga c (Abu M toks c.at_),At6 M hN hc.z1 hc.hi _ (Qq _ (fun _=>hc.sum hN hr hq (by omega)) rfl),?_⟩
  intro l n x e hx
  rw [←hx]at h ha
  refine Afe ha.z1 Db (fun hA=> ?_) (fun hB=> ?_)
  ·unfold Sw at h
   rw [if_pos (show Ew toks Db ⟨l,n,x,e⟩=true from hA)]at h
   exact B4 hN ha Db _ (Jb M hN (Az _ ha) hq _ h)
  ·unfold Sw at h
   rw [if_neg (by rw [show Ew toks Db ⟨l,n,x,e⟩=false from hB];simp)]at h
   exact B4 hN ha G8 _ (Mt hN (Az _ ha) _ h)
theorem Aff {t:Str} (h:(decide (c.e_=0)&&isF toks c.at_ t)=true):Bb toks t c=⟨c.l,c.n,c.at_+1,0⟩:=by
 simp only [Bool.and_eq_true,decide_eq_true_eq]at h
 unfold Bb
 rw [if_pos h.1,if_pos h.2]
theorem Arp (M:D7) (hc:Cw toks at0 s q c) (he:c.e_=0):c.at_<=(Es M toks c).at_:=by
 unfold Es Ga
 rw [if_pos he]
 exact M.lo _ _ hc.z1 hc.hi
theorem Arq (M:D7) (hN:toks.length<1000000) (hc:Cw toks at0 s q c) (hq:q<=1000) (K:Cur->Prop) (h:K (Wo M toks c)):L8 c toks K:=by
 have e1:=Az sLP hc
 refine Uf _ _ _ (B4 hN hc sLP _ ?_)
 unfold Wo at h
 refine⟨fun l n a e=>K (Bb toks sRP ⟨l,n,a,e⟩)/\Cw toks at0 s q ⟨l,n,a,e⟩,Aii e1.z1 sRP (fun hA=> ?_) (fun hB=> ?_),?_⟩
 ·rw [if_pos hA]at h
  have t1:=(Dq M e1).mono (s':=s) (by omega) (Nat.le_refl _)
  refine Jb M hN e1 hq _ ⟨fun l n a e f=>Cw toks at0 s q ⟨l,n,a,e⟩/\LI toks (Ew toks B2) (fun c=>Es M toks (Bb toks B2 c)) (Fw (Ew toks B2) (fun c=>Es M toks (Bb toks B2 c)) (fuel toks) (Es M toks (Bb toks sLP c))) f ⟨l,n,a,e⟩,⟨_,t1,LI.start t1⟩,?_⟩
  rintro l n a e f ⟨hw,hl⟩
  refine Afe hw.z1 B2 (fun hA=> ?_) (fun hB=> ?_)
  ·have e2:=Az B2 hw
   refine B4 hN hw B2 _ (Jb M hN e2 hq _ ?_)
   have hw2:=Dq M e2
   have hst:=hl.step hA (by simp at hA;exact hA.1) hw.hi (fun hd=> ?_)
   ·obtain⟨f',hf',hl'⟩:=hst
    exact⟨f',hf',hw2.mono (by omega) (Nat.le_refl _),hl'⟩
   ·have hs:=Aff (c:=⟨l,n,a,e⟩) hA
    have:=Arp M e2 (by rw [hs])
    rw [hs]at this⊢
    exact this
  ·rw [←hl.stop hB]at h
   exact⟨h,hw⟩
 ·rw [if_neg (by rw [hB];simp)]at h
  exact⟨h,e1.mono (by omega) (Nat.le_refl _)⟩
 ·rintro l n a e ⟨h,hw⟩
  exact B4 hN hw sRP _ h
end
end Go.Proofs.YtcakelelfklhdaaGreatDoor
namespace Go.Proofs.YtcakelelfklhdaaGreatDoor
open Go.Vc Go.Lv Go.Ty
section
variable {toks:List Au} {at0:Int} {s q:Nat} {c d:Cur}
theorem At7 (M:D7) (hN:toks.length<1000000) {at_:Int} (h0:0<=at_) (h1:at_<=(toks.length:Int)) (K:Cur->Prop) (h:K (Afb M toks at_)):Ve toks at_ ⟨0,[],0,0,(Cc toks at_).at_⟩ K:=by
 have hf:=Dg h0 h1 0
 have hn:=Fl hf
 have e1:=Az sEq hn
 refine Aey _ _ _ _ (Ja _ (Mt hN hf _ (B4 hN hn sEq _ ?_)))
 refine⟨fun l n a e op nm N kids at'=>nm=Be toks (A7 at_)/\N=0/\kids=0/\at'=(Cc toks at_).at_/\Cw toks at_ 1 0 ⟨l,n,a,e⟩/\Afb M toks at_=Dc (Bb toks Av ⟨l,n,a,e⟩) (nd toks op (Be toks (A7 at_)) 0 at_),Afe e1.z1 Gm (fun hA=> ?_) (fun hB=> ?_),?_⟩
 ·have e2:=Az Gm e1
  have e3:=Az sLP e2
  have e4:=Dq M e3
  have e5:=Az sRP e4
  refine B4 hN e1 Gm _ (B4 hN e2 sLP _ (Jb M hN e3 (by omega) _ (B4 hN e4 sRP _ ⟨rfl,rfl,rfl,rfl,e5.mono (by omega) (by omega),?_⟩)))
  unfold Afb;rw [if_pos (show Ew toks Gm _=true from hA)]
 ·have e4:=Dq M e1
  refine Jb M hN e1 (by omega) _ ⟨rfl,rfl,rfl,rfl,e4.mono (by omega) (by omega),?_⟩
  unfold Afb;rw [if_neg (by rw [show Ew toks Gm _=false from hB];simp)]
 ·rintro l n a e op nm N kids at' ⟨rfl,rfl,rfl,rfl,hw,he⟩
  rw [he]at h
  exact B4 hN hw Av _ (Dx _ _ (by have:=(Az Av hw).len hN (by omega);omega) h)
def RB (M:D7) (toks:List Au) (k:Nat):Prop:=∀at_,0<=at_->at_<=(toks.length:Int)->∀K:Cur->Prop,K (E0 M toks k at_)->K2 toks at_ (25-(k:Int)) K
def RS (M:D7) (toks:List Au) (k:Nat):Prop:=∀at_,0<=at_->at_<=(toks.length:Int)->∀K:Cur->Prop,K (Mr M toks (E0 M toks k) at_)->L7 toks at_ (24-(k:Int)) K
theorem Q8 {k:Nat} (hk:k<=24):IntKind.i64.wrap ((24-(k:Int))+1)=25-(k:Int):=by rw [Ax (by omega) (by omega)];omega
theorem Acp (M:D7) (hN:toks.length<1000000) {k:Nat} (hk:k<=24) (hB:RB M toks k) {at_:Int} (h0:0<=at_) (h1:at_<=(toks.length:Int)) (K:Cur->Prop) (h:K (E7 M toks (E0 M toks k) at_)):Lt toks at_ (24-(k:Int)) K:=by
 have hb:=Sx (toks:=toks) M k
 have hf:=Dg h0 h1 200
 refine Xt _ _ _ _ (Mg h0 _ (Wp h0 Dp _ (Ab (fun hA=> ?_) fun hA=> ?_)))
 ·unfold E7 at h;rw [if_pos hA]at h
  have e1:=Az Dp hf
  have i1:=Ms hb e1 (by omega)
  refine Ja _ (B4 hN hf Dp _ ?_)
  rw [Q8 hk]
  exact Zv hN hb (by omega) hB e1 (by omega) _ (Dx _ _ (by have:=i1.len hN (by omega);omega) h)
 ·unfold E7 at h;rw [if_neg (by rw [hA];simp)]at h
  have e1:=Az B1 hf
  refine Ja _ (B4 hN hf B1 _ ?_)
  generalize hc1:Bb toks B1 (A7 at_)=c1 at h e1
  have w1:=Alk M e1
  refine⟨fun l n a e op nm N kids at'=>op=0/\nm=[]/\N=Nz toks c1/\kids=0/\at'=(Cc toks at_).at_/\⟨l,n,a,e⟩=Kf M toks c1,Afe e1.z1 D9 (fun hA=> ?_) (fun hB=> ?_),?_⟩
  ·have e2:=Az D9 e1
   refine B4 hN e1 D9 _ (Jb M hN e2 (by omega) _ (B4 hN (Dq M e2) D8 _ ⟨rfl,rfl,?_,rfl,rfl,?_⟩))
   ·unfold Nz;rw [if_pos (show Ew toks D9 c1=true from hA)]
   ·unfold Kf;rw [if_pos (show Ew toks D9 c1=true from hA)]
  ·refine⟨rfl,rfl,?_,rfl,rfl,?_⟩
   ·unfold Nz;rw [if_neg (by rw [show Ew toks D9 c1=false from hB];simp)]
   ·unfold Kf;rw [if_neg (by rw [show Ew toks D9 c1=false from hB];simp)]
  ·rintro l n a e _ _ _ _ _ ⟨rfl,rfl,rfl,rfl,rfl,hx⟩
   generalize Kf M toks c1=c2 at h w1 hx
   subst hx
   have a1:=Aif M w1 (by omega)
   refine⟨fun l1 n1 a1 e1 op nm N kids at'=>op=(Gn M toks ⟨l,n,a,e⟩).op/\nm=(Gn M toks ⟨l,n,a,e⟩).name/\N=Nz toks c1/\kids=0/\at'=(Cc toks at_).at_/\⟨l1,n1,a1,e1⟩=(Gn M toks ⟨l,n,a,e⟩).c,Afe w1.z1 Ea (fun hA=> ?_) (fun hB=> ?_),?_⟩
   ·have e2:=Az Ea w1
    refine B4 hN w1 Ea _ (Jb M hN e2 (by omega) _ ?_)
    unfold Gn;rw [if_pos (show Ew toks Ea ⟨l,n,a,e⟩=true from hA)]
    exact⟨rfl,rfl,rfl,rfl,rfl,rfl⟩
   ·refine Alo M hN 35 34 w1 (by omega) (by omega) _ ?_
    unfold Gn;rw [if_neg (by rw [show Ew toks Ea ⟨l,n,a,e⟩=false from hB];simp)]
    exact⟨rfl,rfl,rfl,rfl,rfl,rfl⟩
   ·rintro l1 n1 x1 e1 _ _ _ _ _ ⟨rfl,rfl,rfl,rfl,rfl,hx⟩
    rw [hx,Q8 hk]
    have i1:=Ms hb a1 (by omega)
    exact Zv hN hb (by omega) hB a1 (by omega) _ (Dx _ _ (by have:=i1.len hN (by omega);omega) h)
theorem Akk (M:D7) (hN:toks.length<1000000) (t:Str) (op:Int) {at_:Int} (h0:0<=at_) (h1:at_<=(toks.length:Int)) (K:Cur->Prop) (h:K (Am3 M toks t op at_)):
 Ak (A7 at_) toks t (fun x16=>Bp x16 toks (fun x17=>Ak x17 toks [59] (fun x18=>A2 x18 (⟨op,[],0,0,(Cc toks at_).at_⟩:Ai) (fun x19=>K x19)))):=by
 have hf:=Dg h0 h1 0
 have e1:=Az t hf
 have e2:=Dq M e1
 have e3:=Az Av e2
 exact B4 hN hf t _ (Jb M hN e1 (by omega) _ (B4 hN e2 Av _ (Dx _ _ (by have:=e3.len hN (by omega);omega) h)))
theorem Alp (hN:toks.length<1000000) (t:Str) (op:Int) {at_:Int} (h0:0<=at_) (h1:at_<=(toks.length:Int)) (K:Cur->Prop) (h:K (Aic toks t op at_)):
 Ak (A7 at_) toks t (fun x16=>Ak x16 toks [59] (fun x18=>A2 x18 (⟨op,[],0,0,(Cc toks at_).at_⟩:Ai) (fun x19=>K x19))):=by
 have hf:=Dg h0 h1 0
 have e1:=Az t hf
 have e3:=Az Av e1
 exact B4 hN hf t _ (B4 hN e1 Av _ (Dx _ _ (by have:=e3.len hN (by omega);omega) h))
theorem Arr (M:D7) (hN:toks.length<1000000) {k:Nat} (hk:k<=24) (hB:RB M toks k):RS M toks k:=by
 intro at_ h0 h1 K h
 have hb:=Sx (toks:=toks) M k
 have hf:=Dg h0 h1 200
 refine Abn _ _ _ _ (Mg h0 _ (Ja _ ⟨fun x=>x=(decide ((Cc toks at_).kind=1)&&isF toks (at_+1) sEq),?_,?_⟩))
 ·refine Ab (fun hc=> ?_) fun hc=> ?_
  ·have hk1:(Cc toks at_).kind=1:=by simpa using hc
   rw [Ax (by omega) (by omega)]
   refine Wp (by omega) sEq _ ?_
   rw [decide_eq_true hk1];rfl
  ·have hk1:¬(Cc toks at_).kind=1:=by simpa using hc
   show false=_
   rw [decide_eq_false hk1];rfl
 rintro _ rfl
 unfold Mr at h
 refine Ab (fun hc=> ?_) fun hc=>Ab (fun h1k=> ?_) fun h1k=>Ab (fun h3=> ?_) fun h3=> ?_
 ·simp only [Bool.and_eq_true,decide_eq_true_eq]at hc
  rw [if_pos hc.1,if_pos hc.2]at h
  exact At7 M hN h0 h1 _ h
 ·have hk1:(Cc toks at_).kind=1:=by simpa using h1k
  rw [hk1]at hc
  rw [if_pos hk1,if_neg (by simpa using hc)]at h
  have c1:=Afc M 21 22 hf (by omega)
  exact Alo M hN 21 22 hf (by omega) (by omega) _ (B4 hN c1 Av _ (Dx _ _ (by have:=(Az Av c1).len hN (by omega);omega) h))
 ·have hk1:¬(Cc toks at_).kind=1:=by simpa using h1k
  have hk3:¬(Cc toks at_).kind=3:=by simpa using h3
  rw [if_neg hk1,if_neg hk3]at h
  exact h
 ·have hk1:¬(Cc toks at_).kind=1:=by simpa using h1k
  have hk3:(Cc toks at_).kind=3:=by simpa using h3
  rw [if_neg hk1,if_pos hk3]at h
  clear hc h1k h3
  unfold Bj at h
  dsimp only at h
  refine Ab (fun e=> ?_) fun e=> ?_
  ·rw [if_pos (show(Cc toks at_).text=Pl from eq_of_beq e)]at h
   have e1:=Az Pl hf
   have e2:=Fl e1
   have e3:=Az sEq e2
   have e4:=Dq M e3
   have e5:=Az Av e4
   exact B4 hN hf Pl _ (Mt hN e1 _ (B4 hN e2 sEq _ (Jb M hN e3 (by omega) _ (B4 hN e4 Av _ (Dx _ _ (by have:=e5.len hN (by omega);omega) h)))))
  rw [if_neg (show¬(Cc toks at_).text=Pl from ne_of_beq_false e)]at h
  refine Ab (fun e=> ?_) fun e=> ?_
  ·rw [if_pos (show(Cc toks at_).text=Fc from eq_of_beq e)]at h
   have e1:=Az Fc hf
   have e2:=Fl e1
   have e3:=All M e2
   have e5:=Az Av e3
   exact B4 hN hf Fc _ (Mt hN e1 _ (Arq M hN e2 (by omega) _ (B4 hN e3 Av _ (Dx _ _ (by have:=e5.len hN (by omega);omega) h))))
  rw [if_neg (show¬(Cc toks at_).text=Fc from ne_of_beq_false e)]at h
  refine Ab (fun e=> ?_) fun e=> ?_
  ·rw [if_pos (show(Cc toks at_).text=Km from eq_of_beq e)]at h
   exact Akk M hN Km 27 h0 h1 _ h
  rw [if_neg (show¬(Cc toks at_).text=Km from ne_of_beq_false e)]at h
  refine Ab (fun e=> ?_) fun e=> ?_
  ·rw [if_pos (show(Cc toks at_).text=Kn from eq_of_beq e)]at h
   exact Akk M hN Kn 28 h0 h1 _ h
  rw [if_neg (show¬(Cc toks at_).text=Kn from ne_of_beq_false e)]at h
  refine Ab (fun e=> ?_) fun e=> ?_
  ·rw [if_pos (show(Cc toks at_).text=Hr from eq_of_beq e)]at h
   exact Akk M hN Hr 29 h0 h1 _ h
  rw [if_neg (show¬(Cc toks at_).text=Hr from ne_of_beq_false e)]at h
  refine Ab (fun e=> ?_) fun e=> ?_
  ·rw [if_pos (show(Cc toks at_).text=Nw from eq_of_beq e)]at h
   exact Alp hN Nw 30 h0 h1 _ h
  rw [if_neg (show¬(Cc toks at_).text=Nw from ne_of_beq_false e)]at h
  refine Ab (fun e=> ?_) fun e=> ?_
  ·rw [if_pos (show(Cc toks at_).text=Nx from eq_of_beq e)]at h
   exact Alp hN Nx 31 h0 h1 _ h
  rw [if_neg (show¬(Cc toks at_).text=Nx from ne_of_beq_false e)]at h
  refine Ab (fun e=> ?_) fun e=> ?_
  ·rw [if_pos (show(Cc toks at_).text=F9 from eq_of_beq e)]at h
   have e1:=Az F9 hf
   have e2:=Dq M e1
   have e3:=Ms hb e2 (by omega)
   refine B4 hN hf F9 _ (Jb M hN e1 (by omega) _ ?_)
   rw [Q8 hk]
   exact Zv hN hb (by omega) hB e2 (by omega) _ (Dx _ _ (by have:=e3.len hN (by omega);omega) h)
  rw [if_neg (show¬(Cc toks at_).text=F9 from ne_of_beq_false e)]at h
  refine Ab (fun e=> ?_) fun e=> ?_
  ·rw [if_pos (show(Cc toks at_).text=sIf from eq_of_beq e)]at h
   have e1:=Az sIf hf
   have e2:=Dq M e1
   have e3:=Ms hb e2 (by omega)
   refine B4 hN hf sIf _ (Jb M hN e1 (by omega) _ ?_)
   rw [Q8 hk]
   refine Zv hN hb (by omega) hB e2 (by omega) _ ?_
   generalize inC (E0 M toks k) (Es M toks (Bb toks sIf (A7 at_)))=c1 at h e3
   refine⟨fun l n a e=>⟨l,n,a,e⟩=ifC toks (E0 M toks k) c1,Afe e3.z1 Dp (fun hA=> ?_) (fun hB'=> ?_),?_⟩
   ·have e4:=Az Dp e3
    refine B4 hN e3 Dp _ (Zv hN hb (by omega) hB e4 (by omega) _ ?_)
    unfold ifC;rw [if_pos (show Ew toks Dp c1=true from hA)]
   ·unfold ifC;rw [if_neg (by rw [show Ew toks Dp c1=false from hB'];simp)]
   ·intro l n a e hx
    rw [hx]
    refine Dx _ _ ?_ h
    unfold ifC
    split
    ·have:=(Ms hb (Az Dp e3) (by omega)).len hN (by omega);omega
    ·have:=e3.len hN (by omega);omega
  rw [if_neg (show¬(Cc toks at_).text=sIf from ne_of_beq_false e)]at h
  refine Ab (fun e=> ?_) fun e=> ?_
  ·rw [if_pos (show(Cc toks at_).text=Ej from eq_of_beq e)]at h
   have e1:=Az Ej hf
   have e2:=Az sLB e1
   refine B4 hN hf Ej _ (B4 hN e1 sLB _ ?_)
   generalize Bb toks sLB (Bb toks Ej (A7 at_))=c1 at h e2
   have hcl:∀ {a:Int},0<=a->a<=(toks.length:Int)->Cw toks a 1 (3*k+3) (E7 M toks (E0 M toks k) a):=fun ha hb'=>Vw M hb (by omega) ha hb'
   have a1:=(Ko e2 (fun _=>hcl e2.z1 e2.hi) (by omega)).mono (s':=2) (by omega) (Nat.le_refl _)
   refine⟨fun l n a e=>⟨l,n,a,e⟩=Ga c1 (E7 M toks (E0 M toks k) c1.at_),Ab (fun he=> ?_) (fun he=> ?_),?_⟩
   ·exact Acp M hN hk hB e2.z1 e2.hi _ (Qq _ (fun _=>e2.sum hN (hcl e2.z1 e2.hi) (by omega) (by omega)) rfl)
   ·show c1=_
    unfold Ga
    rw [if_neg (by simpa using he)]
   ·intro l n a e hx
    rw [←hx]at a1
    unfold Aoy at h
    rw [←hx]at h
    generalize hF:Fw (fun c=>decide (c.e_=0)&& !isF toks c.at_ sRB) (fun c=>Ga c (E7 M toks (E0 M toks k) c.at_)) (fuel toks) ⟨l,n,a,e⟩=F at h
    refine⟨fun l n a e f=>Cw toks at_ 2 200 ⟨l,n,a,e⟩/\LI toks (fun c=>decide (c.e_=0)&& !isF toks c.at_ sRB) (fun c=>Ga c (E7 M toks (E0 M toks k) c.at_)) F f ⟨l,n,a,e⟩,⟨_,a1,hF▸LI.start a1⟩,?_⟩
    clear hF
    clear hx a1
    rintro l n a e f ⟨hw,hl⟩
    refine Aii hw.z1 sRB (fun hA=> ?_) (fun hB'=> ?_)
    ·have he:e=0:=by simp at hA;exact hA.1
     have hcw:=hcl hw.z1 hw.hi
     obtain⟨f',hf',hl'⟩:=hl.step hA he hw.hi (fun hd=>Afd hcw he hd)
     exact Acp M hN hk hB hw.z1 hw.hi _ (Qq _ (fun _=>hw.sum hN hcw (by omega) (by omega)) ⟨f',hf',(Ko hw (fun _=>hcw) (by omega)).mono (by omega) (Nat.le_refl _),hl'⟩)
    ·rw [←hl.stop hB']at h
     exact B4 hN hw sRB _ (Dx _ _ (by have:=(Az sRB hw).len hN (by omega);omega) h)
  rw [if_neg (show¬(Cc toks at_).text=Ej from ne_of_beq_false e)]at h
  exact h
theorem Ao2 (hN:toks.length<1000000) {stmt:Int->Cur} {deep:Int} {at_:Int} (h0:0<=at_) (h1:at_<=(toks.length:Int)) (hq:q<=900)
 (hS:isF toks at_ sLB=true->∀a,0<=a->a<=(toks.length:Int)->Cw toks a 1 q (stmt a)/\∀K:Cur->Prop,K (stmt a)->L7 toks a deep K) (K:Cur->Prop) (h:K (Vv toks stmt at_)):
 Ak (A7 at_) toks [123] (fun x3=>
 ∃(I:(List Ai)->Int->Int->Int->Nat->Prop),(∃n1,I x3.l x3.n x3.at_ x3.e_ n1)/\
 ∀(l:List Ai) (n:Int) (Awx:Int) (ex:Int) (n1:Nat),I l n Awx ex n1->
 ∃(J1:Bool->Prop),
 (cond (ex==0) (Cn toks Awx [125] (fun x5=>J1 (!x5))) (J1 false))/\
 ∀(x4:Bool),J1 x4->
 cond (x4)
 (L7 toks Awx deep (fun x6=>Da (⟨l,n,Awx,ex⟩:Aj) x6 (fun x7=>∃n2,n2<n1/\I x7.l x7.n x7.at_ x7.e_ n2)))
 (Ak (⟨l,n,Awx,ex⟩:Aj) toks [125] (fun x8=>Dm toks at_ (fun x9=>A2 x8 (⟨32,[],0,0,x9.at_⟩:Ai) (fun x10=>K x10))))):=by
 have hf:=Dg h0 h1 q
 have e1:=Az sLB hf
 refine B4 hN hf sLB _ ?_
 have Bcz:(Bb toks sLB (A7 at_)).e_=0->isF toks at_ sLB=true:=by
  unfold Bb A7
  dsimp only
  rw [if_pos rfl]
  split
  ·rename_i hx;exact fun _=>hx
  ·intro hx;cases hx
 unfold Vv at h
 generalize Bb toks sLB (A7 at_)=c0 at h e1 Bcz
 generalize hF:Fw (fun c=>decide (c.e_=0)&& !isF toks c.at_ sRB) (fun c=>Ga c (stmt c.at_)) (fuel toks) c0=F at h
 refine⟨fun l n a e f=>Cw toks at_ 1 q ⟨l,n,a,e⟩/\(e=0->isF toks at_ sLB=true)/\LI toks (fun c=>decide (c.e_=0)&& !isF toks c.at_ sRB) (fun c=>Ga c (stmt c.at_)) F f ⟨l,n,a,e⟩,⟨_,e1,Bcz,hF▸LI.start e1⟩,?_⟩
 clear e1 Bcz
 rintro l n a e f ⟨hw,hso,hl⟩
 refine Aii hw.z1 sRB (fun hA=> ?_) (fun hB'=> ?_)
 ·have he:e=0:=by simp at hA;exact hA.1
  obtain⟨hcw,hst⟩:=hS (hso he) a hw.z1 hw.hi
  obtain⟨f',hf',hl'⟩:=hl.step hA he hw.hi (fun hd=>Afd hcw he hd)
  exact hst _ (Qq _ (fun _=>hw.sum hN hcw (by omega) (by omega)) ⟨f',hf',(Ko hw (fun _=>hcw) (by omega)).mono (by omega) (Nat.le_refl _),fun _=>hso he,hl'⟩)
 ·rw [←hl.stop hB']at h
  exact B4 hN hw sRB _ (Mg h0 _ (Dx _ _ (by have:=(Az sRB hw).len hN (by omega);omega) h))
theorem Ao3 (M:D7) (hN:toks.length<1000000):∀k,k<=24->RB M toks k
 |0,_=>fun at_ h0 h1 K h=>by
  refine Qm _ _ _ _ (Ja _ ⟨fun x=>x=isF toks at_ sLB,Wp h0 sLB _ (Ab (fun hc=> ?_) (fun hc=> ?_)),?_⟩)
  ·show decide _=_
   have hc:isF toks at_ sLB=true:=hc
   rw [hc];decide
  ·show false=_
   have hc:isF toks at_ sLB=false:=hc
   rw [hc]
  ·rintro _ rfl
   unfold E0 at h
   refine Ab (fun hc=> ?_) fun hc=> ?_
   ·rw [if_pos hc]at h;exact h
   ·rw [if_neg (by rw [hc];simp)]at h
    exact Ao2 (q:=0) hN h0 h1 (by omega) (fun hx=>by rw [hc]at hx;cases hx) K h
 |k+1,hk=>fun at_ h0 h1 K h=>by
  have hd:¬(25-((k+1:Nat):Int))>24:=by omega
  refine Qm _ _ _ _ (Ja _ ⟨fun x=>x=false,Wp h0 sLB _ (Ab (fun hc=> ?_) (fun hc=>rfl)),?_⟩)
  ·show decide _=_
   exact decide_eq_false hd
  ·rintro _ rfl
   unfold E0 at h
   have hS:=Arr M hN (by omega) (Ao3 M hN k (by omega))
   refine Ao2 (q:=3*k+4) hN h0 h1 (by omega) (fun _ a ha hb=>⟨Alm M (Sx M k) (by omega) ha hb,fun K hK=> ?_⟩) K h
   have:=hS a ha hb K hK
   rw [show(25-((k+1:Nat):Int))=24-(k:Int) by omega]
   exact this
theorem Ao4 (M:D7) (hN:toks.length<1000000) (at_:Int) (h0:0<=at_) (h1:at_<=(toks.length:Int)) (K:Cur->Prop) (h:K (E0 M toks 24 at_)):K2 toks at_ 1 K:=
 Ao3 M hN 24 (Nat.le_refl _) at_ h0 h1 K h
theorem Ars (hN:toks.length<1000000) (hc:Cw toks at0 s q c) (K:Cur->Int->Prop) (h:K (R6 toks c) (Acn toks c)):L9 c toks K:=by
 have h0:=hc.z1
 have h1:=hc.hi
 unfold Acn at h
 refine Ug _ _ _ (Mg h0 _ ⟨fun l n a e=>l=c.l/\n=c.n/\a=c.at_/\e=if c.e_=0/\(Cc toks c.at_).kind≠2 then 11 else c.e_,?_,?_⟩)
 ·refine⟨fun x=>x=decide (c.e_=0/\(Cc toks c.at_).kind≠2),Ab (fun he=> ?_) (fun he=> ?_),?_⟩
  ·have he:c.e_=0:=by simpa using he
   show _=_
   rw [Bool.eq_iff_iff];simp [he]
  ·have he:¬c.e_=0:=by simpa using he
   show false=_
   rw [decide_eq_false (fun h=>he h.1)]
  ·rintro _ rfl
   exact Ab (fun hh=>⟨rfl,rfl,rfl,by rw [if_pos (of_decide_eq_true hh)]⟩) (fun hh=>⟨rfl,rfl,rfl,by rw [if_neg (of_decide_eq_false hh)]⟩)
 ·rintro _ _ _ _ ⟨rfl,rfl,rfl,rfl⟩
  generalize hx:Cc toks c.at_=x at h
  refine⟨fun l n a e=>l=c.l/\n=c.n/\a=c.at_/\e=if c.e_=0/\x.kind=2/\(x.n<1\/x.n>16)then 6 else if c.e_=0/\x.kind≠2 then 11 else c.e_,?_,?_⟩
  ·refine⟨fun b=>b=decide (c.e_=0/\x.kind=2/\(x.n<1\/x.n>16)),Ab (fun he=>Ab (fun h1'=> ?_) (fun h1'=> ?_)) (fun he=> ?_),?_⟩
   ·show true=_
    have h1':x.n<1:=by simpa using h1'
    have hh:¬(c.e_=0/\x.kind≠2):=by
     intro hh;rw [if_pos hh]at he;simp at he
    rw [if_neg hh]at he
    have he:c.e_=0:=by simpa using he
    rw [decide_eq_true]
    exact⟨he,by
     apply Classical.byContradiction
     intro hk;exact hh ⟨he,hk⟩,.inl h1'⟩
   ·show _=_
    have h1':¬x.n<1:=by simpa using h1'
    have hh:¬(c.e_=0/\x.kind≠2):=by
     intro hh;rw [if_pos hh]at he;simp at he
    rw [if_neg hh]at he
    have he:c.e_=0:=by simpa using he
    have hk:x.kind=2:=by
     apply Classical.byContradiction
     intro hk;exact hh ⟨he,hk⟩
    rw [Bool.eq_iff_iff];simp [he,hk];omega
   ·show false=_
    rw [decide_eq_false]
    rintro⟨h3,h4,_⟩
    rw [if_neg (fun hh=>hh.2 h4),h3]at he
    simp at he
   ·rintro _ rfl
    exact Ab (fun hh=>⟨rfl,rfl,rfl,by rw [if_pos (of_decide_eq_true hh)]⟩) (fun hh=>⟨rfl,rfl,rfl,by rw [if_neg (of_decide_eq_false hh)]⟩)
  ·rintro _ _ _ _ ⟨rfl,rfl,rfl,rfl⟩
   unfold R6 at h
   rw [hx]at h
   by_cases he:c.e_=0
   ·rw [if_pos he]at h
    by_cases hk:x.kind=2
    ·rw [if_pos hk]at h
     have:=X6 (toks:=toks) (at_:=c.at_) (by rw [hx,hk];decide)
     by_cases hr:x.n<1\/x.n>16
     ·rw [if_pos hr,if_neg (by simp)]at h
      rw [if_pos ⟨he,hk,hr⟩];exact h
     ·rw [if_neg hr,if_pos rfl]at h
      rw [if_neg (fun hh=>hr hh.2.2),if_neg (fun hh=>hh.2 hk)]
      refine A8 (by simpa using he) ?_
      rw [Ax (by omega) (by omega),he];exact h
    ·rw [if_neg hk,if_neg (by simp)]at h
     rw [if_neg (fun hh=>hk hh.2.1),if_pos ⟨he,hk⟩];exact h
   ·rw [if_neg he,if_neg he]at h
    rw [if_neg (fun hh=>he hh.1),if_neg (fun hh=>he hh.1)]
    exact Dt (by simpa using he) h
theorem Aij (hN:toks.length<1000000) (hc:Cw toks at0 s q c) (hq:q<=1000) (K:Cur->Prop) (h:K (Jz toks c)):H9 c toks K:=by
 refine Sv _ _ _ (Ab (fun he=> ?_) fun he=> ?_)
 ·have he:¬c.e_=0:=by simpa using he
  unfold Jz Ga at h;rw [if_neg he]at h;exact h
 ·have hf:=Dg hc.z1 hc.hi 0
  have hn:=Fl hf
  exact Ja _ (Mt hN hf _ (Mg hc.z1 _ (Dx _ _ (by have:=hn.len hN (by omega);omega) (Qq _ (fun _=>hc.sum hN (Cu hn) hq (by omega)) h))))
theorem Art (M:D7) (hN:toks.length<1000000) {at_:Int} (h0:0<=at_) (h1:at_<=(toks.length:Int)) (K:Cur->Prop) (h:K (O8 M toks at_)):Sq toks at_ K:=by
 have hf:=Dg h0 h1 200
 have hb:=Sx (toks:=toks) M 24
 unfold O8 at h
 refine Abo _ _ _ (Mg h0 _ (Wp h0 Gf _ (Ab (fun hA=> ?_) fun hA=>Wp h0 Hk _ (Ab (fun hP=> ?_) fun hP=> ?_))))
 ·rw [if_pos hA]at h
  have e1:=Az Gf hf
  have e2:=Fl e1
  refine Ja _ (B4 hN hf Gf _ (Mt hN e1 _ ?_))
  generalize Be toks (Bb toks Gf (A7 at_))=nm at h
  generalize Eg toks (Bb toks Gf (A7 at_))=c1 at h e2
  refine⟨fun l n a e op nm' N kids at'=>op=38/\nm'=nm/\N=Aco toks c1/\kids=0/\at'=(Cc toks at_).at_/\⟨l,n,a,e⟩=Qo toks c1,Afe e2.z1 sLS (fun hA=> ?_) (fun hB=> ?_),?_⟩
  ·have e3:=Az sLS e2
   refine B4 hN e2 sLS _ (Ars hN e3 _ (B4 hN (Ali e3) sRS _ ⟨rfl,rfl,?_,rfl,rfl,?_⟩))
   ·unfold Aco;rw [if_pos (show Ew toks sLS c1=true from hA)]
   ·unfold Qo;rw [if_pos (show Ew toks sLS c1=true from hA)]
  ·refine⟨rfl,rfl,?_,rfl,rfl,?_⟩
   ·unfold Aco;rw [if_neg (by rw [show Ew toks sLS c1=false from hB];simp)]
   ·unfold Qo;rw [if_neg (by rw [show Ew toks sLS c1=false from hB];simp)]
  ·rintro l n a e _ _ _ _ _ ⟨rfl,rfl,rfl,rfl,rfl,hx⟩
   rw [hx]
   have e3:=Aih e2
   exact B4 hN e3 Av _ (Dx _ _ (by have:=(Az Av e3).len hN (by omega);omega) h)
 ·rw [if_neg (by rw [hA];simp),if_pos hP]at h
  have e1:=Az Hk hf
  have e2:=Fl e1
  have e3:=Az sLP e2
  refine Ja _ (B4 hN hf Hk _ (Mt hN e1 _ (B4 hN e2 sLP _ ?_)))
  generalize Be toks (Bb toks Hk (A7 at_))=nm at h
  generalize Bb toks sLP (Eg toks (Bb toks Hk (A7 at_)))=c1 at h e3
  have hpw:∀ {c:Cur},Cw toks at_ 3 200 c->Cw toks at_ 3 200 (Jz toks c):=fun hw=>Uk hw (by omega)
  refine⟨fun l n a e=>⟨l,n,a,e⟩=Qp toks c1,Aii e3.z1 sRP (fun hA=> ?_) (fun hB=> ?_),?_⟩
  ·have p1:=hpw e3
   refine Aij hN e3 (by omega) _ ?_
   unfold Qp
   rw [if_pos hA]
   refine⟨fun l n a e f=>Cw toks at_ 3 200 ⟨l,n,a,e⟩/\LI toks (Ew toks B2) (fun c=>Jz toks (Bb toks B2 c)) (Fw (Ew toks B2) (fun c=>Jz toks (Bb toks B2 c)) (fuel toks) (Jz toks c1)) f ⟨l,n,a,e⟩,⟨_,p1,LI.start p1⟩,?_⟩
   rintro l n a e f ⟨hw,hl⟩
   refine Afe hw.z1 B2 (fun hA=> ?_) (fun hB=> ?_)
   ·have e4:=Az B2 hw
    have hs:=Aff (c:=⟨l,n,a,e⟩) hA
    have he:e=0:=by simp at hA;exact hA.1
    have hpp:Cw toks a 0 0 (A7 a):=Dg hw.z1 hw.hi 0
    obtain⟨f',hf',hl'⟩:=hl.step hA he hw.hi (fun hd=>by
     rw [hs]at hd⊢
     have e5:Cw toks a 1 200 ⟨[],n,a+1,0⟩:=by
      have:=Az B2 (Dg hw.z1 hw.hi 200)
      have hs':=Aff (toks:=toks) (t:=B2) (c:=A7 a) (by subst he;exact hA)
      rw [hs']at this
      exact⟨this.z,this.lo,this.hi,this.w,this.b⟩
     have e6:=Cu (x:=nd toks 39 (Be toks (A7 (a+1))) 0 (a+1)) (Fl (Dg (toks:=toks) (at_:=a+1) (by have:=e5.z1;exact this) e5.hi 0))
     unfold Jz Ga at hd⊢
     rw [if_pos rfl]at hd⊢
     have:=e6.lo
     dsimp only at this⊢
     omega)
    exact B4 hN hw B2 _ (Aij hN e4 (by omega) _ ⟨f',hf',(Uk e4 (by omega)).mono (by omega) (Nat.le_refl _),hl'⟩)
   ·exact hl.stop hB
  ·unfold Qp
   rw [if_neg (by rw [hB];simp)]
  ·intro l n a e hx
   rw [hx]
   have e4:=Aig e3 (by omega)
   have e5:=Az sRP e4
   have e6:=Ms hb e5 (by omega)
   exact B4 hN e4 sRP _ (Zv hN hb (by omega) (Ao4 M hN) e5 (by omega) _ (Dx _ _ (by have:=e6.len hN (by omega);omega) h))
 ·rw [if_neg (by rw [hA];simp),if_neg (by rw [hP];simp)]at h
  have e1:=Az Ny hf
  have e2:=Ms hb e1 (by omega)
  exact Ja _ (B4 hN hf Ny _ (Zv hN hb (by omega) (Ao4 M hN) e1 (by omega) _ (Dx _ _ (by have:=e2.len hN (by omega);omega) h)))
theorem Aru (M:D7) (hN:toks.length<1000000) (K:As->Prop) (h:K (G5 M toks)):Om toks K:=by
 have hf:=Dg (toks:=toks) (at_:=0) (Int.le_refl _) (by omega) 100
 refine Abp _ _ (Ja _ ⟨fun l n a e f=>Cw toks 0 0 100 ⟨l,n,a,e⟩/\LI toks (fun c=>decide (c.e_=0)&& !decide ((Cc toks c.at_).kind=0)) (fun c=>Ga c (O8 M toks c.at_)) (Uj M toks) f ⟨l,n,a,e⟩,⟨_,hf,LI.start hf⟩,?_⟩)
 rintro l n a e f ⟨hw,hl⟩
 refine⟨fun x=>x=(decide (e=0)&& !decide ((Cc toks a).kind=0)),Ab (fun he=> ?_) (fun he=> ?_),?_⟩
 ·have he:e=0:=by simpa using he
  subst he
  refine Mg hw.z1 _ ?_
  show _=_
  rw [Bool.eq_iff_iff];simp
 ·have he:¬e=0:=by simpa using he
  show false=_
  rw [decide_eq_false he];rfl
 ·rintro _ rfl
  refine Ab (fun hA=> ?_) fun hB=> ?_
  ·have he:e=0:=by simp at hA;exact hA.1
   have hcw:=Aln M hw.z1 hw.hi
   obtain⟨f',hf',hl'⟩:=hl.step hA he hw.hi (fun hd=>Afd hcw he hd)
   exact Art M hN hw.z1 hw.hi _ (Qq _ (fun _=>hw.sum hN hcw (by omega) (by omega)) ⟨f',hf',(Ko hw (fun _=>hcw) (by omega)).mono (by omega) (Nat.le_refl _),hl'⟩)
  ·have hst:=hl.stop hB
   unfold G5 at h
   rw [←hst]at h
   refine Ab (fun he=> ?_) fun he=> ?_
   ·rw [if_pos (by simpa using he)]at h;exact h
   ·rw [if_neg (by simpa using he)]at h
    exact Dx _ _ (by have:=hw.len hN (by omega);omega) h
end
end Go.Proofs.YtcakelelfklhdaaGreatDoor
namespace Go.Proofs.YtcakelelfklhdaaGreatDoor
open Go.Vc Go.Lv Go.Ty Go.Tk Go.Tm
def gT (t:Tok):Au:=⟨t.kind,t.text,t.n,t.at_⟩
def tT (t:Au):Tok:=⟨t.kind,t.text,t.n,t.at_⟩
def gN (x:Nd):Ai:=⟨x.op,x.name,x.n,x.kids,x.at_⟩
theorem Ao5 (toks:List Au):(toks.map tT).map gT=toks:=by
 rw [List.map_map]
 exact List.map_id _
theorem Ul {K K':Value->World->Prop} (h:∀v w',K v w'->K' v w'):∀e w',Ret K e w'->Ret K' e w'
 | .returned _,w',hk=>h _ w' hk
 | .panicked _,_,hk=>hk.elim
 | .outgrown,_,hk=>hk.elim
theorem Arv (s:List UInt8) (hs:s.length<2^40) (at_:Int) (K:Np->Prop) (h:K ⟨gT (C4 s at_).1,(C4 s at_).2.1,(C4 s at_).2.2⟩):Y9 s at_ K:=fun _ w _=>
 (Aka s hs at_ w).mono (Ul fun _ _ ⟨hv,he⟩=>⟨_,h,⟨_,hv,Ahn ⟨gT (C4 s at_).1,(C4 s at_).2.1,(C4 s at_).2.2⟩⟩,An.Bb0 he⟩)
theorem Awn (s:List UInt8) (K:Int->Prop) (h:K (K3 s)):Aho s K:=fun _ w _=>
 (Ahx s w).mono (Ul fun _ _ ⟨hv,he⟩=>⟨_,h,hv,An.Bb0 he⟩)
theorem Arw (op:Int) (K:Int->Prop) (h:K (B6 op:Nat)):Wj op K:=fun _ w _=>
 (Ahy op w).mono (Ul fun _ _ ⟨hv,he⟩=>⟨_,h,hv,An.Bb0 he⟩)
theorem At8 (s:List UInt8) (K:Dl->Prop) (h:K ⟨(Oo s).1.map gT,(Oo s).2.1,(Oo s).2.2⟩):Vf s K:=by
 refine Ae4 _ _ (Ab (fun hx=> ?_) fun hx=> ?_)
 ·have:Oo s=([],0,5):=by unfold Oo;rw [if_pos (by simp at hx;omega)]
  rw [this]at h;exact h
 ·have hs:s.length<=65536:=by simp at hx;omega
  have Aw4:Oo s=Fz s (s.length+1) 0 []:=by unfold Oo;rw [if_neg (by omega)]
  rw [Aw4]at h
  refine⟨fun atx out _ E _ _ n=>∃(acc:List Tok) (k:Nat),atx=k/\E=0/\out=acc.map gT/\acc.length<=k/\k<=s.length/\s.length<n+k/\Fz s (s.length+1) 0 []=Fz s n k acc,⟨s.length+1,[],0,rfl,rfl,rfl,Nat.zero_le _,Nat.zero_le _,by omega,rfl⟩,?_⟩
  rintro _ _ at0 _ at1 e1 n ⟨acc,k,rfl,rfl,rfl,Ckv,hk,hf,heq⟩
  rw [heq]at h
  obtain⟨f,rfl⟩:∃f',n=f'+1:=⟨n-1,by omega⟩
  refine Arv s (by omega) k _ ?_
  have Blx:=Aci s k hk
  have Bbd:Fz s (f+1) k acc=if(C4 s k).2.2≠0 then(([]:List Tok),((C4 s k).2.1:Int),(C4 s k).2.2)else if(C4 s k).1.kind=0 then(acc++[(C4 s k).1],(C4 s k).1.at_,0)else Fz s f (C4 s k).2.1 (acc++[(C4 s k).1]):=rfl
  generalize C4 s k=x at*
  obtain⟨t,nx,e⟩:=x
  dsimp only at Blx Bbd⊢
  refine Ab (fun he=> ?_) fun he=> ?_
  ·rw [Bbd,if_pos (by simpa using he)]at h;exact h
  ·have he:e=0:=by simpa using he
   subst he
   rw [if_neg (fun h=>h rfl)]at Bbd
   refine⟨by simp only [List.length_map,List.length_cons,List.length_nil];omega,Ab (fun hk0=> ?_) fun hk0=> ?_⟩
   ·rw [Bbd,if_pos (show t.kind=0 by simpa [gT] using hk0)]at h
    simpa [gT] using h
   ·have hk0:t.kind≠0:=by simpa [gT] using hk0
    rw [if_neg hk0]at Bbd
    obtain⟨h1,h2⟩:=Blx rfl hk0
    exact⟨f,by omega,acc++[t],nx,rfl,rfl,by simp,by simp;omega,h2,by omega,heq.trans Bbd⟩
def gR (r:Res):As:=⟨r.l.map gN,(r.at_:Int),r.e⟩
theorem Atk (toks:List Tok) (p:Nat):Cc (toks.map gT) (p:Int)=gT (T toks p):=by
 unfold Cc T
 rw [List.length_map,Int.toNat_natCast]
 by_cases h:p<toks.length
 ·rw [if_pos (by omega),List.getElem?_map,List.getD_eq_getElem?_getD,List.getElem?_eq_getElem h];rfl
 ·rw [if_neg (by omega),List.getD_eq_getElem?_getD,List.getElem?_eq_none (by omega)];rfl
theorem Afg (toks:List Tok) (p:Nat) (K:Au->Prop) (h:K (gT (T toks p))):Dm (toks.map gT) p K:=Mg (by omega) _ (by rw [Atk];exact h)
section
variable (toks:List Tok) (hN:toks.length<2^30)
include hN
theorem At9 (r1 rl:Nat->Nat->Option Res)
 (hr1:∀p d r,r1 p d=some r->d<=24->∀K:As->Prop,K (gR r)->Kk (toks.map gT) p d K)
 (hrl:∀p d r,rl p d=some r->d<=24->∀K:As->Prop,K (gR r)->Fi (toks.map gT) p 1 d K)
 (hk1:∀p d r,r1 p d=some r->Ok toks p r) (hkl:∀p d r,rl p d=some r->Ok toks p r)
 (p d:Nat) (r:Res) (h:Co toks r1 rl p d=some r) (hd:d<=24) (K:As->Prop) (hK:K (gR r)):Kk (toks.map gT) p d K:=by
 refine Ae5 _ _ _ _ (Afg toks p _ ?_)
 have hlt:(T toks p).kind≠0->p<toks.length:=T4
 unfold Co at h
 generalize T toks p=t at h hlt⊢
 obtain⟨tk,tx,tn,ta⟩:=t
 dsimp only [gT]at h hlt⊢
 have hp1:p<toks.length->IntKind.i64.wrap ((p:Int)+1)=((p+1:Nat):Int):=fun hp=>by rw [Ax (by omega) (by omega)];omega
 have hd1:IntKind.i64.wrap ((d:Int)+1)=((d+1:Nat):Int):=by rw [Ax (by omega) (by omega)];omega
 refine Ab (fun h2=> ?_) fun h2=> ?_
 ·have h2:tk=2:=by simpa using h2
  rw [if_pos h2]at h
  cases h
  rw [hp1 (hlt (by omega))]
  exact hK
 have h2:tk≠2:=by simpa using h2
 rw [if_neg h2]at h
 refine Ab (fun h3=> ?_) fun h3=> ?_
 ·have h3:tk=1:=by simpa using h3
  rw [if_pos h3]at h
  cases h
  rw [hp1 (hlt (by omega))]
  exact hK
 have h3:tk≠1:=by simpa using h3
 rw [if_neg h3]at h
 refine⟨fun b=>b= !decide (tk=4/\(tx=[45]\/tx=[33]\/tx=[40])),?_,?_⟩
 ·refine Ab (fun h4=> ?_) fun h4=> ?_
  ·have h4:tk≠4:=by simpa using h4
   show true=_
   rw [decide_eq_false (fun c=>h4 c.1)];rfl
  ·have h4:tk=4:=by simpa using h4
   refine Ab (fun h5=>Ab (fun h6=> ?_) fun h6=> ?_) fun h5=> ?_
   ·show _=_
    have h5:tx≠[45]:=by simpa using h5
    have h6:tx≠[33]:=by simpa using h6
    rw [Bool.eq_iff_iff];simp [h4,h5,h6]
   ·show false=_
    have h6:tx=[33]:=by simpa using h6
    rw [decide_eq_true ⟨h4,.inr (.inl h6)⟩];rfl
   ·show false=_
    have h5:tx=[45]:=by simpa using h5
    rw [decide_eq_true ⟨h4,.inl h5⟩];rfl
 rintro _ rfl
 refine Ab (fun hc=> ?_) fun hc=> ?_
 ·have hc:¬(tk=4/\(tx=[45]\/tx=[33]\/tx=[40])):=by simpa only [Bool.not_eq_true',decide_eq_false_iff_not] using hc
  rw [if_neg (fun c=>hc ⟨c.1,c.2.elim .inl (fun e=> .inr (.inl e))⟩),if_neg (fun c=>hc ⟨c.1,.inr (.inr c.2)⟩)]at h
  cases h
  exact hK
 have hc:tk=4/\(tx=[45]\/tx=[33]\/tx=[40]):=by simpa only [Bool.not_eq_false',decide_eq_true_eq] using hc
 have hp:=hlt (by omega)
 rw [hp1 hp,hd1]
 by_cases h40:tx=[40]
 ·subst h40
  rw [if_neg (fun c=>by simp at c),if_pos ⟨hc.1,rfl⟩]at h
  refine Ab (fun h24=> ?_) fun h24=> ?_
  ·have h24:d=24:=by have:(d:Int)=24:=by simpa using h24
                     omega
   rw [if_pos h24]at h
   cases h
   exact hK
  ·have h24:d≠24:=by
    intro e;subst e;simp at h24
   rw [if_neg h24]at h
   obtain⟨x,hx,rfl⟩:=Option.map_eq_some_iff.1 h
   refine Dt (by simp) (hrl _ _ _ hx (by omega) _ ?_)
   have hk:=hkl _ _ _ hx
   refine Ab (fun he=> ?_) fun he=> ?_
   ·have he:x.e≠0:=by simpa [gR] using he
    rw [if_pos he]at hK;exact hK
   ·have he:x.e=0:=by simpa [gR] using he
    rw [if_neg (fun c=>c he)]at hK
    refine Afg toks x.at_ _ ?_
    refine⟨fun b=>b= !decide ((T toks x.at_).kind=4/\(T toks x.at_).text=[41]),Ab (fun h4=> ?_) (fun h4=> ?_),?_⟩
    ·have h4:(T toks x.at_).kind≠4:=by simpa [gT] using h4
     show true=_
     rw [decide_eq_false (fun c=>h4 c.1)];rfl
    ·have h4:(T toks x.at_).kind=4:=by simpa [gT] using h4
     show _=_
     rw [Bool.eq_iff_iff];simp [h4,gT]
    ·rintro _ rfl
     refine Ab (fun hq=> ?_) fun hq=> ?_
     ·rw [if_neg (by simpa only [Bool.not_eq_true',decide_eq_false_iff_not] using hq)]at hK;exact hK
     ·have hq:(T toks x.at_).kind=4/\(T toks x.at_).text=[41]:=by simpa only [Bool.not_eq_false',decide_eq_true_eq] using hq
      rw [if_pos hq]at hK
      have:=(hk.1 he).2.1
      have hw:IntKind.i64.wrap ((gR x).at_+1)=((x.at_+1:Nat):Int):=by
       show IntKind.i64.wrap ((x.at_:Int)+1)=_
       rw [Ax (by omega) (by omega)];omega
      rw [hw]
      exact hK
 ·have hs:tx=[45]\/tx=[33]:=by
   rcases hc.2 with e|e|e
   ·exact .inl e
   ·exact .inr e
   ·exact absurd e h40
  rw [if_pos ⟨hc.1,hs⟩]at h
  refine Ab (fun h24=> ?_) fun h24=> ?_
  ·have h24:d=24:=by have:(d:Int)=24:=by simpa using h24
                     omega
   rw [if_pos h24]at h
   cases h
   exact hK
  ·have h24:d≠24:=by
    intro e;subst e;simp at h24
   rw [if_neg h24]at h
   obtain⟨x,hx,rfl⟩:=Option.map_eq_some_iff.1 h
   have hk:=hk1 _ _ _ hx
   refine A8 (by simpa using h40) (hr1 _ _ _ hx (by omega) _ ?_)
   refine Ab (fun he=> ?_) fun he=> ?_
   ·have he:x.e≠0:=by simpa [gR] using he
    rw [if_neg he]at hK;exact hK
   ·have he:x.e=0:=by simpa [gR] using he
    rw [if_pos he]at hK
    refine⟨fun op=>op=if tx=[33]then 4 else 3,Ab (fun h5=> ?_) (fun h5=> ?_),?_⟩
    ·show(4:Int)=_
     rw [if_pos (by simpa using h5)]
    ·show(3:Int)=_
     rw [if_neg (by simpa using h5)]
    ·rintro _ rfl
     have:=hk.1 he
     exact⟨by simp only [List.length_cons,List.length_nil,gR,List.length_map];omega,hK⟩
theorem Aua (f:Nat)
 (ih1:∀f',f'<=f->∀p d r,R toks f' (.one p d)=some r->d<=24->∀K:As->Prop,K (gR r)->Kk (toks.map gT) p d K)
 (ihl:∀f',f'<=f->∀(n:Nat) p d r,1<=n->n<=6->R toks f' (.lev n p d)=some r->d<=24->∀K:As->Prop,K (gR r)->Fi (toks.map gT) p n d K)
 (n p d:Nat) (r:Res) (h1:1<=n) (h6:n<=6) (h:R toks (f+1) (.lev n p d)=some r) (hd:d<=24) (K:As->Prop) (hK:K (gR r)):Fi (toks.map gT) p n d K:=by
 refine Zq _ _ _ _ _ ?_
 rw [R]at h
 refine Ab (fun h66=> ?_) fun h66=> ?_
 ·have h66:n=6:=by have:(n:Int)=6:=by simpa using h66
                   omega
  rw [if_pos h66]at h
  exact ih1 f (Nat.le_refl _) _ _ _ h hd _ hK
 ·have h66:n≠6:=by
   intro e;subst e;simp at h66
  rw [if_neg h66]at h
  obtain⟨x0,hx0,hr0⟩:=Option.bind_eq_some_iff.1 h
  have hn1:IntKind.i64.wrap ((n:Int)+1)=((n+1:Nat):Int):=by rw [Ax (by omega) (by omega)];omega
  rw [hn1]
  refine ihl f (Nat.le_refl _) (n+1) p d x0 (by omega) (by omega) hx0 hd _ ?_
  have Caw:=(Arh toks f).2.1 _ _ _ _ hx0
  refine⟨fun L At E _ _ _ n1=>∃x,n1<=f/\R toks n1 (.loop n 0 d x)=some r/\L=x.l.map gN/\At=(x.at_:Int)/\E=x.e/\(x.e=0->x.at_<=toks.length/\x.l.length<=x.at_),⟨f,x0,Nat.le_refl _,hr0,rfl,rfl,rfl,fun he=>by have:=Caw.1 he;omega⟩,?_⟩
  clear hr0 Caw hx0
  rintro _ _ _ L1 At1 E1 n1 ⟨x,hf1,hr,rfl,rfl,rfl,hxo⟩
  obtain⟨g,rfl⟩:∃g,n1=g+1:=by
   cases n1 with
   |zero=>simp [R]at hr
   |succ g=>exact⟨g,rfl⟩
  rw [R]at hr
  refine Ab (fun he=> ?_) fun he=> ?_
  ·have he:x.e=0:=by simpa using he
   obtain⟨hxN,hxl⟩:=hxo he
   rw [if_neg (fun c=>c he)]at hr
   refine Afg toks x.at_ _ (Awn _ _ ?_)
   have Bgc:∀y,join toks x y=⟨⟨K3 (T toks x.at_).text,[],0,2,(T toks x.at_).at_⟩::x.l++y.l,y.at_,0⟩:=fun _=>rfl
   have Bez:Cz toks x.at_=if(T toks x.at_).kind=4 then B6 (K3 (T toks x.at_).text)else 0:=rfl
   have Cix:=Aeh (toks:=toks) (p:=x.at_)
   have hlv:=Aos (T toks x.at_).text
   generalize T toks x.at_=t at Bgc Bez hlv⊢
   obtain⟨tk,tx,tn,ta⟩:=t
   dsimp only [gT]at Bgc Bez hlv⊢
   refine⟨fun b=>b=decide (Cz toks x.at_=0\/Cz toks x.at_≠n),?_,?_⟩
   ·refine Ab (fun h4=> ?_) fun h4=>Ab (fun h0=> ?_) fun h0=> ?_
    ·have h4:tk≠4:=by simpa using h4
     show true=_
     rw [Bez,if_neg h4];simp
    ·have h4:tk=4:=by simpa using h4
     have h0:K3 tx=0:=by simpa using h0
     show true=_
     rw [Bez,if_pos h4]
     rcases hlv with h|h
     ·rw [h.2];simp
     ·exact absurd h0 h.1
    ·have h4:tk=4:=by simpa using h4
     have h0:K3 tx≠0:=by simpa using h0
     refine Arw _ _ ?_
     show _=_
     rw [Bez,if_pos h4,Bool.eq_iff_iff]
     simp only [bne_iff_ne,ne_eq,decide_eq_true_eq]
     rcases hlv with h|h
     ·exact absurd h.1 h0
     ·constructor
      ·intro hh;right;intro e;exact hh (by rw [e])
      ·rintro(hh|hh)
       ·omega
       ·intro e;apply hh;omega
   ·rintro _ rfl
    refine Ab (fun hc=> ?_) fun hc=> ?_
    ·rw [if_pos (of_decide_eq_true hc)]at hr
     cases hr
     exact hK
    ·have hc:=of_decide_eq_false hc
     rw [if_neg hc]at hr
     simp only [not_or,Classical.not_not]at hc
     have hlt:=Cix hc.1
     obtain⟨y,hy,hr⟩:=Option.bind_eq_some_iff.1 hr
     have hyk:=(Arh toks g).2.1 _ _ _ _ hy
     have hx1:IntKind.i64.wrap ((x.at_:Int)+1)=((x.at_+1:Nat):Int):=by rw [Ax (by omega) (by omega)];omega
     rw [hx1]
     refine ihl g (by omega) (n+1) _ d y (by omega) (by omega) hy hd _ ?_
     refine Ab (fun hye=> ?_) fun hye=> ?_
     ·have hye:y.e≠0:=by simpa [gR] using hye
      rw [if_pos hye]at hr
      cases hr
      exact hK
     ·have hye:y.e=0:=by simpa [gR] using hye
      rw [if_neg (fun c=>c hye)]at hr
      have hyk:=hyk.1 hye
      refine⟨by simp only [List.length_cons,List.length_nil,List.length_map];omega,fun L2 At2 E2=>L2=(join toks x y).l.map gN/\At2=(y.at_:Int)/\E2=0,⟨by simp only [List.length_cons,List.length_nil,List.length_append,List.length_map,gR];omega,?_,rfl,rfl⟩,?_⟩
      ·rw [Bgc];simp [gR,gN]
      ·rintro _ _ _ ⟨rfl,rfl,rfl⟩
       have hja:(join toks x y).at_=y.at_:=rfl
       have hje:(join toks x y).e=0:=rfl
       refine Ab (fun h3=> ?_) fun h3=> ?_
       ·have h3:n=3:=by have:(n:Int)=3:=by simpa using h3
                        omega
        rw [if_pos h3]at hr
        cases hr
        exact hK
       ·have h3:n≠3:=by
         intro e;subst e;simp at h3
        rw [if_neg h3]at hr
        refine⟨g,by omega,join toks x y,by omega,hr,rfl,rfl,rfl,fun _=>⟨by rw [hja];omega,?_⟩⟩
        rw [hja,Bgc]
        simp only [List.cons_append,List.length_cons,List.length_append]
        omega
  ·have he:x.e≠0:=by simpa using he
   rw [if_pos he]at hr
   cases hr
   exact hK
theorem Arx:∀f,∀f1,f1<=f->
 (∀p d r,R toks f1 (.one p d)=some r->d<=24->∀K:As->Prop,K (gR r)->Kk (toks.map gT) p d K)/\
 (∀(n:Nat) p d r,1<=n->n<=6->R toks f1 (.lev n p d)=some r->d<=24->∀K:As->Prop,K (gR r)->Fi (toks.map gT) p n d K):=by
 intro f
 induction f with
 |zero=>
  intro f1 hf
  obtain rfl:f1=0:=by omega
  exact⟨fun _ _ _ h=>by simp [R]at h,fun _ _ _ _ _ _ h=>by simp [R]at h⟩
 |succ f ih=>
  intro f1 hf
  by_cases hle:f1<=f
  ·exact ih f1 hle
  ·obtain rfl:f1=f+1:=by omega
   refine⟨fun p d r h hd K hK=> ?_,fun n p d r h1 h6 h hd K hK=>Aua toks hN f (fun f' hf'=>(ih f' hf').1) (fun f' hf'=>(ih f' hf').2) n p d r h1 h6 h hd K hK⟩
   simp only [R]at h
   exact At9 toks hN _ _ (ih f (Nat.le_refl _)).1 (fun p d r h hd K hK=>(ih f (Nat.le_refl _)).2 1 p d r (by omega) (by omega) h hd K hK) (fun p d r h=>(Arh toks f).1 p d r h) (fun p d r h=>(Arh toks f).2.1 1 p d r h) p d r h hd K hK
theorem Ao6 (at_:Int) (h0:0<=at_) (K:As->Prop) (hK:K (gR (Hq toks at_))):Mp (toks.map gT) at_ K:=by
 refine Zr _ _ _ (A8 (by simp;omega) ?_)
 have hP:=Jg toks at_ (by omega)
 generalize Hq toks at_=r at hP hK
 obtain⟨p,rfl⟩:∃p:Nat,at_=p:=⟨at_.toNat,by omega⟩
 obtain⟨g,hg⟩:=(P_R toks _).2.1 1 _ _ _ (by omega) (by omega) hP
 exact(Arx toks hN g g (Nat.le_refl _)).2 1 p 0 r (by omega) (by omega) hg (by omega) _ hK
end
theorem Aub {toks:List Tok} {r1 rl:Nat->Nat->Option Res} (h1:∀p d r,r1 p d=some r->p<=toks.length->p<=r.at_/\r.at_<=toks.length) (hl:∀p d r,rl p d=some r->p<=toks.length->p<=r.at_/\r.at_<=toks.length) {p d:Nat} {r:Res}
 (h:Co toks r1 rl p d=some r) (hp:p<=toks.length):p<=r.at_/\r.at_<=toks.length:=by
 unfold Co at h
 split at h
 ·rename_i c
  have:=T4 (toks:=toks) (p:=p) (by rw [c];decide)
  cases h;exact⟨by simp,by simp;omega⟩
 split at h
 ·rename_i c
  have:=T4 (toks:=toks) (p:=p) (by rw [c];decide)
  cases h;exact⟨by simp,by simp;omega⟩
 split at h
 ·rename_i c
  have:=T4 (toks:=toks) (p:=p) (by rw [c.1];decide)
  split at h
  ·cases h;exact⟨Nat.le_refl _,hp⟩
  ·obtain⟨x,hx,rfl⟩:=Option.map_eq_some_iff.1 h
   have hk:=h1 _ _ _ hx (by omega)
   split
   ·exact⟨by dsimp only;omega,by dsimp only;omega⟩
   ·exact⟨by omega,by omega⟩
 split at h
 ·rename_i c
  have:=T4 (toks:=toks) (p:=p) (by rw [c.1];decide)
  split at h
  ·cases h;exact⟨Nat.le_refl _,hp⟩
  ·obtain⟨x,hx,rfl⟩:=Option.map_eq_some_iff.1 h
   have hk:=hl _ _ _ hx (by omega)
   split
   ·exact⟨by omega,by omega⟩
   ·split
    ·rename_i c
     have:=T4 (toks:=toks) (p:=x.at_) (by rw [c.1];decide)
     exact⟨by dsimp only;omega,by dsimp only;omega⟩
    ·exact⟨by dsimp only;omega,by dsimp only;omega⟩
 ·cases h;exact⟨Nat.le_refl _,hp⟩
theorem Auc (toks:List Tok):∀(f:Nat),(∀p d r,P toks f (.one p d)=some r->p<=toks.length->p<=r.at_/\r.at_<=toks.length)/\(∀n p d r,P toks f (.lev n p d)=some r->p<=toks.length->p<=r.at_/\r.at_<=toks.length)/\
 (∀n m d x r,P toks f (.loop n m d x)=some r->x.at_<=toks.length->x.at_<=r.at_/\r.at_<=toks.length):=by
 intro f
 induction f with
 |zero=>exact⟨fun _ _ _ h=>by simp [P]at h,fun _ _ _ _ h=>by simp [P]at h,fun _ _ _ _ _ h=>by simp [P]at h⟩
 |succ f ih=>
  obtain⟨ih1,ih2,ih3⟩:=ih
  refine⟨fun p d r h hp=> ?_,fun n p d r h hp=> ?_,fun n m d x r h hp=> ?_⟩
  ·simp only [P]at h
   exact Aub (fun p d r h=>ih1 p d r h) (fun p d r h=>ih2 1 p d r h) h hp
  ·rw [P]at h
   obtain⟨x,hx,hr⟩:=Option.bind_eq_some_iff.1 h
   have h1:=ih1 _ _ _ hx hp
   have h2:=ih3 _ _ _ _ _ hr h1.2
   omega
  ·rw [P]at h
   split at h
   ·cases h;exact⟨Nat.le_refl _,hp⟩
   split at h
   ·cases h;exact⟨Nat.le_refl _,hp⟩
   ·rename_i c
    obtain⟨y,hy,hr⟩:=Option.bind_eq_some_iff.1 h
    have:=Aeh (toks:=toks) (p:=x.at_) (fun e=>c (.inl e))
    have h1:=ih2 _ _ _ _ hy (by omega)
    split at hr
    ·cases hr;omega
    ·have h2:=ih3 _ _ _ _ _ hr h1.2
     have:(join toks x y).at_=y.at_:=rfl
     omega
def TM:D7 where
 T toks at_:=((Hq (toks.map tT) at_).l.map gN,((Hq (toks.map tT) at_).at_:Int),(Hq (toks.map tT) at_).e)
 lo toks at_ h0 h1:=by
  have:=((Auc (toks.map tT) _).2.1 _ _ _ _ (Jg (toks.map tT) at_ (by omega)) (by rw [List.length_map];omega)).1
  dsimp only;omega
 hi toks at_ h0 h1:=by
  have:=((Auc (toks.map tT) _).2.1 _ _ _ _ (Jg (toks.map tT) at_ (by omega)) (by rw [List.length_map];omega)).2
  rw [List.length_map]at this
  dsimp only;omega
 len toks at_ h0 h1:=by
  have hb:=((Auc (toks.map tT) _).2.1 _ _ _ _ (Jg (toks.map tT) at_ (by omega)) (by rw [List.length_map];omega)).1
  have hk:=(Avy (toks.map tT) _).2.1 _ _ _ _ (Jg (toks.map tT) at_ (by omega))
  dsimp only
  rw [List.length_map]
  by_cases he:(Hq (toks.map tT) at_).e=0
  ·have:=(hk.1 he).2.2
   omega
  ·rw [hk.2 he]
   simp only [List.length_nil]
   omega
 rv toks hN at_ h0 _ K hK:=by
  have:=Ao6 (toks.map tT) (by rw [List.length_map];omega) at_ h0 K hK
  rwa [Ao5]at this
end Go.Proofs.YtcakelelfklhdaaGreatDoor
namespace Go.Proofs.YtcakelelfklhdaaGreatDoor
open Go.Vc Go.Lv Go.Ty Go.Tk Go.Tm
theorem Zw (s:List UInt8):∀(f k:Nat) (acc:List Tok),k<=s.length->s.length<f+k->(Fz s f k acc).2.2=0->(Fz s f k acc).1≠[]/\(Fz s f k acc).1.length<=acc.length+f
 |0,k,acc,hk,hf,_=>by omega
 |f+1,k,acc,hk,hf,h=>by
  unfold Fz at h⊢
  have Blx:=Aci s k hk
  split at h
  ·rename_i he;exact absurd h he
  ·rename_i he
   have he:(C4 s k).2.2=0:=Classical.not_not.1 he
   rw [if_neg (by rw [he];simp)]
   split at h
   ·rename_i hk0
    rw [if_pos hk0]
    exact⟨by simp,by simp⟩
   ·rename_i hk0
    rw [if_neg hk0]
    obtain⟨h1,h2⟩:=Blx he hk0
    have:=Zw s f (C4 s k).2.1 (acc++[(C4 s k).1]) h2 (by omega) h
    refine⟨this.1,?_⟩
    have h3:=this.2
    simp only [List.length_append,List.length_cons,List.length_nil]at h3
    omega
theorem Ary (s:List UInt8) (h:(Oo s).2.2=0):(Oo s).1≠[]/\(Oo s).1.length<=65537:=by
 unfold Oo at h⊢
 split at h
 ·cases h
 ·rename_i hl
  rw [if_neg hl]
  have:=Zw s (s.length+1) 0 [] (Nat.zero_le _) (by omega) h
  refine⟨this.1,?_⟩
  have h2:=this.2
  simp only [List.length_nil]at h2
  omega
def K9 (s:List UInt8):List Au:=(Oo s).1.map gT
def Atl (toks:List Au) (a:Int):Int:=if(toks.length:Int)-1<a then(toks.length:Int)-1 else a
def atF (toks:List Au) (a:Int):Int:=((toks[(Atl toks a).toNat]?).getD ⟨0,[],0,0⟩).at_
def Wq (s:List UInt8):As:=
 if(Oo s).2.2≠0 then⟨[],(Oo s).2.1,(Oo s).2.2⟩
 else if(G5 TM (K9 s)).e_≠0 then⟨[],atF (K9 s) (G5 TM (K9 s)).at_,(G5 TM (K9 s)).e_⟩
 else⟨(G5 TM (K9 s)).l,0,0⟩
theorem Aud (M:D7) (toks:List Au) (h:(G5 M toks).e_≠0):(G5 M toks).l=[]:=by
 unfold G5 at h⊢
 split
 ·rfl
 ·rename_i c;rw [if_neg c]at h;exact absurd rfl h
theorem Aue (M:D7) (toks:List Au) (h:(G5 M toks).e_=0):(G5 M toks).at_=0:=by
 unfold G5 at h⊢
 split
 ·rename_i c;rw [if_pos c]at h;exact absurd h c
 ·rfl
theorem Arz (M:D7) (toks:List Au):0<=(G5 M toks).at_/\(G5 M toks).at_<=(toks.length:Int):=by
 have:=Arn (toks:=toks) M
 unfold G5
 split
 ·exact⟨this.z1,this.hi⟩
 ·exact⟨Int.le_refl _,by dsimp only;omega⟩
theorem Ar0 {toks:List Au} {a:Int} (h:toks≠[]) (h0:0<=a) (P:Int->Prop) (hP:P (atF toks a)) (hN:toks.length<1000000):
 ((0:Int)<=(if(IntKind.i64.wrap ((toks.length:Int)-1))<a then IntKind.i64.wrap ((toks.length:Int)-1)else a)/\(if(IntKind.i64.wrap ((toks.length:Int)-1))<a then IntKind.i64.wrap ((toks.length:Int)-1)else a)<(toks.length:Int))/\
 ∀x,toks[(if(IntKind.i64.wrap ((toks.length:Int)-1))<a then IntKind.i64.wrap ((toks.length:Int)-1)else a).toNat]? =some x->P x.at_:=by
 have hl:=List.length_pos_iff.2 h
 have hw:IntKind.i64.wrap ((toks.length:Int)-1)=(toks.length:Int)-1:=Ax (by omega) (by omega)
 rw [hw]
 unfold atF Atl at hP
 refine⟨by split<;>omega,fun x hx=> ?_⟩
 rw [hx]at hP
 exact hP
theorem Alq (s:List UInt8) (K:As->Prop) (h:K (Wq s)):On s K:=by
 refine Abq _ _ (At8 s _ ?_)
 unfold Wq at h
 refine Ab (fun he=> ?_) fun he=> ?_
 ·rw [if_pos (by simpa using he)]at h;exact h
 ·have he:(Oo s).2.2=0:=by simpa using he
  rw [if_neg (fun c=>c he)]at h
  obtain⟨hne,hlen⟩:=Ary s he
  have hN:(K9 s).length<1000000:=by unfold K9;rw [List.length_map];omega
  have hne:K9 s≠[]:=by unfold K9;simpa using hne
  show Om (K9 s) _
  refine Aru TM hN _ ?_
  refine⟨fun L A E=>K ⟨L,A,E⟩,Ab (fun hu=> ?_) (fun hu=> ?_),fun _ _ _ h=>h⟩
  ·have hu:(G5 TM (K9 s)).e_≠0:=by simpa using hu
   rw [if_pos hu]at h
   refine Ar0 hne (Arz TM _).1 (fun a=>K ⟨(G5 TM (K9 s)).l,a,(G5 TM (K9 s)).e_⟩) ?_ hN
   rw [Aud TM _ hu];exact h
  ·have hu:(G5 TM (K9 s)).e_=0:=by simpa using hu
   rw [if_neg (fun c=>c hu)]at h
   show K ⟨_,_,_⟩
   rw [Aue TM _ hu,hu];exact h
end Go.Proofs.YtcakelelfklhdaaGreatDoor
namespace Go.Proofs.YtcakelelfklhdaaGreatDoor
open Go.Vc Go.Lv Go.Ty Go.Tk Go.Tm
def wr (n:Nat):Int:=IntKind.i64.wrap (n:Int)
theorem Mh {n:Nat} (h:n<2^40):wr n=n:=Ax (by omega) (by omega)
inductive OkN:UInt8->Ai->List UInt8->Prop
 |num (n a:Int):0<=n->n<=999999999999999999->OkN 69 ⟨1,[],n,0,a⟩ []
 |name (s:Str) (a:Int):Tk.Be s=true->OkN 69 ⟨2,s,0,0,a⟩ []
 |un (op a:Int):op=3\/op=4->OkN 69 ⟨op,[],0,1,a⟩ [69]
 |bin (op a:Int):5<=op->op<=17->OkN 69 ⟨op,[],0,2,a⟩ [69,69]
 |set (op:Int) (s:Str) (a:Int):op=18\/op=19\/op=20->Tk.Be s=true->OkN 83 ⟨op,s,0,1,a⟩ [69]
 |send (a:Int):OkN 83 ⟨21,[],0,2,a⟩ [82,69]
 |recv (s:Str) (a:Int):Tk.Be s=true->OkN 83 ⟨22,s,0,1,a⟩ [82]
 |if2 (a:Int):OkN 83 ⟨23,[],0,2,a⟩ [69,66]
 |if3 (a:Int):OkN 83 ⟨23,[],0,3,a⟩ [69,66,66]
 |Bfz (a:Int):OkN 83 ⟨24,[],0,2,a⟩ [69,66]
 |sel (k:Nat) (a:Int):1<=k->OkN 83 ⟨25,[],0,wr k,a⟩ (List.replicate k 67)
 |start (s:Str) (k:Nat) (a:Int):Tk.Be s=true->OkN 83 ⟨26,s,0,wr k,a⟩ (List.replicate k 69)
 |one (op a:Int):op=27\/op=28\/op=29->OkN 83 ⟨op,[],0,1,a⟩ [69]
 |none (op a:Int):op=30\/op=31->OkN 83 ⟨op,[],0,0,a⟩ []
 |els (a:Int):OkN 67 ⟨37,[],0,1,a⟩ [66]
 |clause (op:Int) (s:Str) (a:Int) (w:Bool) (ds:List UInt8):(op=34/\Tk.Be s=true/\ds=[82,66])\/(op=35/\s=[]/\ds=[82,69,66])\/(op=36/\s=[]/\ds=[69,66])->
  OkN 67 ⟨op,s,(if w then 1 else 0),wr ((if w then [69]else [])++ds).length,a⟩ ((if w then [69]else [])++ds)
 |Bc9 (s:Str) (a:Int):Tk.Be s=true->OkN 82 ⟨33,s,0,0,a⟩ []
 |Bda (s:Str) (a:Int):Tk.Be s=true->OkN 82 ⟨33,s,0,1,a⟩ [69]
 |block (k:Nat) (a:Int):OkN 66 ⟨32,[],0,wr k,a⟩ (List.replicate k 83)
 |param (s:Str) (a:Int):Tk.Be s=true->OkN 80 ⟨39,s,0,0,a⟩ []
 |unit (k:Nat) (a:Int):OkN 85 ⟨42,[],0,wr k,a⟩ (List.replicate k 68)
 |chan (s:Str) (n a:Int):Tk.Be s=true->0<=n->n<=16->OkN 68 ⟨38,s,n,0,a⟩ []
 |main (a:Int):OkN 68 ⟨41,[],0,1,a⟩ [66]
 |proc (s:Str) (k:Nat) (a:Int):Tk.Be s=true->OkN 68 ⟨40,s,0,wr (k+1),a⟩ (List.replicate k 80++[66])
theorem Gb {s:Str} (h:Tk.Be s=true):s.length<=16:=by
 cases s with
 |nil=>simp
 |cons c l=>
  rw [Oq]at h
  exact of_decide_eq_true (Bool.and_eq_true_iff.1 h).1
theorem Auf (s:Str) (hs:s.length<2^62) (K:Bool->Prop) (h:K (Tk.Be s)):Ol s K:=fun _ w _=>
 (Akc s hs w).mono (Ul fun _ _ ⟨hv,he⟩=>⟨_,h,hv,An.Bb0 he⟩)
theorem M6 (x:Ai) (k:Int) (hs:x.name.length<2^62) (K:Bool->Prop) (h:K (Tk.Be x.name&&(x.n==0&&x.kids==k))):Ft x k K:=by
 refine Abj _ _ _ (Auf _ hs _ (Ab (fun h1=>Ab (fun h2=> ?_) fun h2=> ?_) fun h1=> ?_))
 ·rw [h1,h2]at h;exact h
 ·rw [h1,h2]at h;exact h
 ·rw [h1]at h;exact h
theorem J0 (x:Ai) (k:Int) (K:Bool->Prop) (h:K (x.name==[]&&(x.n==0&&x.kids==k))):C6 x k K:=by
 refine Abk _ _ _ (Ab (fun h1=>Ab (fun h2=> ?_) fun h2=> ?_) fun h1=> ?_)
 ·rw [h1,h2]at h;exact h
 ·rw [h1,h2]at h;exact h
 ·rw [h1]at h;exact h
section
variable {l:List Ai}
end
end Go.Proofs.YtcakelelfklhdaaGreatDoor
namespace Go.Proofs.YtcakelelfklhdaaGreatDoor
open Go.Vc Go.Lv Go.Ty Go.Tk Go.Tm
inductive Fo where
 |nil
 |cons (x:Ai) (ks rs:Fo)
def Fo.flat:Fo->List Ai
 | .nil=>[]
 | .cons x ks rs=>x::(ks.flat++rs.flat)
inductive WfF:List UInt8->Fo->Prop
 |nil:WfF [] .nil
 |cons {c:UInt8} {x:Ai} {ds cs:List UInt8} {a b:Fo} :OkN c x ds->WfF ds a->WfF cs b->WfF (c::cs) (.cons x a b)
inductive Ck where
 |sp (c:UInt8)
 |tk (v:Str)
def Ck.tx:Ck->Str
 | .sp c=>[c]
 | .tk v=>v
def tx (l:List Ck):Str:=l.flatMap Ck.tx
theorem Cr (a b:List Ck):tx (a++b)=tx a++tx b:=by simp [tx]
theorem Cl (a:Ck) (b:List Ck):tx (a::b)=a.tx++tx b:=by simp [tx]
def Xx:Nat->Nat->Str->Str
 |0,_,acc=>acc
 |f+1,n,acc=>if n<10 then UInt8.ofNat (48+n)::acc else Xx f (n/10) (UInt8.ofNat (48+n%10)::acc)
def Lf (n:Int):Str:=Xx 20 n.toNat []
def sgO (op:Int):Str:=if op=3 then [45]else if op=4 then [33]else sgs.getD (op-5).toNat []
structure R where
 x:Ai
 tm:List Ck
 st:Nat->List Ck
 nd:Nat
 nb:Nat
 fl:List Ai
 ht:Nat
def R0:R:=⟨⟨0,[],0,0,0⟩,[],fun _=>[],0,0,[],0⟩
def Bw (r:R) (n:Nat):List Ck:=if B6 r.x.op<n then .tk sLP::(r.tm++[.tk sRP])else r.tm
def E3 (r:R) (n:Nat):Nat:=if B6 r.x.op<n then r.nd+1 else r.nd
def Cf (op:Int):Nat:=if B6 op=3 then 4 else B6 op
def sps:Ck:= .sp 32
def Awo (x:Ai) (ks:List R):List Ck:=match ks with|[]=>[.tk x.name]|k::_=> .tk x.name::.tk sLS::(k.tm++[.tk sRS])
def tmN (x:Ai) (ks:List R):List Ck:=
 if x.op=1 then [.tk (Lf x.n)]
 else if x.op=2\/x.op=39 then [.tk x.name]
 else if x.op=33 then Awo x ks
 else if x.op=3\/x.op=4 then .tk (sgO x.op)::Bw (ks.getD 0 R0) 6
 else Bw (ks.getD 0 R0) (Cf x.op)++(sps::.tk (sgO x.op)::sps::Bw (ks.getD 1 R0) (B6 x.op+1))
def ndN (x:Ai) (ks:List R):Nat:=
 if x.op=3\/x.op=4 then E3 (ks.getD 0 R0) 6+1
 else if 5<=x.op/\x.op<=17 then max (E3 (ks.getD 0 R0) (Cf x.op)) (E3 (ks.getD 1 R0) (B6 x.op+1))
 else(ks.map R.nd).foldr max 0
def nbN (x:Ai) (ks:List R):Nat:=(ks.map R.nb).foldr max 0+(if x.op=32 then 1 else 0)
def line (d:Nat) (cs:List Ck):List Ck:=List.replicate d (.sp 9)++(cs++[.sp 10])
def Bx:List (List Ck)->List Ck
 |[]=>[]
 |[a]=>a
 |a::b::l=>a++(.tk B2::sps::Bx (b::l))
def Br (d:Nat) (ks:List R):List Ck:=ks.flatMap fun k=>k.st d
def Bi (d:Nat) (front:List Ck) (r:R):List Ck:=line d (front++[sps,.tk sLB])++(r.st (d+1)++line d [.tk sRB])
def kd (ks:List R) (i:Nat):R:=ks.getD i R0
def Eb (x:Ai) (ks:List R):List Ck:= .tk B1::sps::(if x.n=1 then .tk D9::sps::((kd ks 0).tm++[.tk D8,sps])else [])
def stN (x:Ai) (ks:List R) (d:Nat):List Ck:=
 if x.op=18 then line d (.tk Pl::sps::.tk x.name::sps::.tk sEq::sps::((kd ks 0).tm++[.tk Av]))
 else if x.op=19 then line d (.tk x.name::sps::.tk sEq::sps::((kd ks 0).tm++[.tk Av]))
 else if x.op=20 then line d (.tk x.name::sps::.tk sEq::sps::.tk Gm::.tk sLP::((kd ks 0).tm++[.tk sRP,.tk Av]))
 else if x.op=21 then line d ((kd ks 0).tm++(sps::.tk Db::sps::((kd ks 1).tm++[.tk Av])))
 else if x.op=22 then line d ((kd ks 0).tm++[sps,.tk G8,sps,.tk x.name,.tk Av])
 else if x.op=23 then line d (.tk sIf::sps::((kd ks 0).tm++[sps,.tk sLB]))++((kd ks 1).st (d+1)++(if ks.length=3 then line d [.tk sRB,sps,.tk Dp,sps,.tk sLB]++((kd ks 2).st (d+1)++line d [.tk sRB])else line d [.tk sRB]))
 else if x.op=24 then Bi d (.tk F9::sps::(kd ks 0).tm) (kd ks 1)
 else if x.op=25 then line d [.tk Ej,sps,.tk sLB]++(Br (d+1) ks++line d [.tk sRB])
 else if x.op=26 then line d (.tk Fc::sps::.tk x.name::.tk sLP::(Bx (ks.map R.tm)++[.tk sRP,.tk Av]))
 else if x.op=27 then line d (.tk Km::sps::((kd ks 0).tm++[.tk Av]))
 else if x.op=28 then line d (.tk Kn::sps::((kd ks 0).tm++[.tk Av]))
 else if x.op=29 then line d (.tk Hr::sps::((kd ks 0).tm++[.tk Av]))
 else if x.op=30 then line d [.tk Nw,.tk Av]
 else if x.op=31 then line d [.tk Nx,.tk Av]
 else if x.op=32 then Br d ks
 else if x.op=34 then Bi d (Eb x ks++((kd ks x.n.toNat).tm++[sps,.tk G8,sps,.tk x.name])) (kd ks (x.n.toNat+1))
 else if x.op=35 then Bi d (Eb x ks++((kd ks x.n.toNat).tm++(sps::.tk Db::sps::(kd ks (x.n.toNat+1)).tm))) (kd ks (x.n.toNat+2))
 else if x.op=36 then Bi d (Eb x ks++(.tk Ea::sps::(kd ks x.n.toNat).tm)) (kd ks (x.n.toNat+1))
 else if x.op=37 then Bi d [.tk Dp] (kd ks 0)
 else if x.op=38 then line d (.tk Gf::sps::.tk x.name::(if 0<x.n then [.tk sLS,.tk (Lf x.n),.tk sRS,.tk Av]else [.tk Av]))
 else if x.op=40 then Bi d (.tk Hk::sps::.tk x.name::.tk sLP::(Bx ((ks.take (ks.length-1)).map R.tm)++[.tk sRP])) (kd ks (ks.length-1))
 else if x.op=41 then Bi d [.tk Ny] (kd ks 0)
 else if x.op=42 then Br d ks
 else []
def htN (ks:List R):Nat:=(ks.map fun k=>k.ht+1).foldr max 0
def Ar (x:Ai) (ks:List R):R:=⟨x,tmN x ks,stN x ks,ndN x ks,nbN x ks,x::ks.flatMap R.fl,htN ks⟩
def Lg:Fo->List R
 | .nil=>[]
 | .cons x ks rs=>Ar x (Lg ks)::Lg rs
theorem Um:∀f:Fo,f.flat=(Lg f).flatMap R.fl
 | .nil=>rfl
 | .cons x ks rs=>by
  rw [Fo.flat,Um ks,Um rs,Lg,List.flatMap_cons]
  rfl
def F2 {α β:Type} (Q:α->β->Prop):List α->List β->Prop
 |[],[]=>True
 |a::l,b::m=>Q a b/\F2 Q l m
 |_,_=>False
theorem F2.len {α β:Type} {Q:α->β->Prop} :∀ {l:List α} {m:List β},F2 Q l m->l.length=m.length
 |[],[],_=>rfl
 |_::_,_::_,⟨_,h⟩=>by simp [F2.len h]
theorem F2.rep {α β:Type} {Q:α->β->Prop} {a:α} :∀ {k:Nat} {m:List β},F2 Q (List.replicate k a) m->m.length=k/\∀b∈m,Q a b
 |0,[],_=>⟨rfl,by simp⟩
 |k+1,b::m,⟨h1,h2⟩=>by
  obtain⟨h3,h4⟩:=F2.rep h2
  refine⟨by simp [h3],fun c hc=> ?_⟩
  rcases List.mem_cons.1 hc with rfl|hc
  ·exact h1
  ·exact h4 c hc
theorem F2.split {α β:Type} {Q:α->β->Prop} :∀ {l l':List α} {m:List β},F2 Q (l++l') m->∃a b,m=a++b/\F2 Q l a/\F2 Q l' b
 |[],_,m,h=>⟨[],m,rfl,trivial,h⟩
 |_::_,_,_::_,⟨h1,h2⟩=>by
  obtain⟨a,b,rfl,h3,h4⟩:=F2.split h2
  exact⟨_::a,b,rfl,⟨h1,h3⟩,h4⟩
theorem F2.one {α β:Type} {Q:α->β->Prop} {a:α} :∀ {m:List β},F2 Q [a] m->∃b,m=[b]/\Q a b
 |[b],h=>⟨b,rfl,h.1⟩
theorem F2.two {α β:Type} {Q:α->β->Prop} {a a':α} :∀ {m:List β},F2 Q [a,a'] m->∃b b',m=[b,b']/\Q a b/\Q a' b'
 |[b,b'],h=>⟨b,b',rfl,h.1,h.2.1⟩
theorem F2.three {α β:Type} {Q:α->β->Prop} {a a' a'':α} :∀ {m:List β},F2 Q [a,a',a''] m->∃b b' b'',m=[b,b',b'']/\Q a b/\Q a' b'/\Q a'' b''
 |[b,b',b''],h=>⟨b,b',b'',rfl,h.1,h.2.1,h.2.2.1⟩
theorem F2.nil {α β:Type} {Q:α->β->Prop} :∀ {m:List β},F2 Q ([]:List α) m->m=[]
 |[],_=>rfl
theorem Oy (Q:UInt8->R->Prop) (h:∀c x ds ks,OkN c x ds->F2 Q ds ks->Q c (Ar x ks)) {cs:List UInt8} {f:Fo} (hf:WfF cs f):F2 Q cs (Lg f):=by
 induction hf with
 |nil=>trivial
 |cons ho _ _ ih1 ih2=>exact⟨h _ _ _ _ ho ih1,ih2⟩
end Go.Proofs.YtcakelelfklhdaaGreatDoor
namespace Go.Proofs.YtcakelelfklhdaaGreatDoor
open Go.Vc Go.Lv Go.Ty Go.Tr Go.Tk Go.Tm
def plc:Nat->List R->List Int
 |_,[]=>[]
 |p,r::rs=>(p:Int)::plc (p+r.fl.length) rs
def Sy (r:R):Prop:=0<r.fl.length/\∀post:List Int,eat 1 (r.fl.map (·.kids)++post)=post
theorem Aik:∀(rs:List R),(∀r∈rs,Sy r)->∀post:List Int,eat rs.length ((rs.flatMap R.fl).map (·.kids)++post)=post
 |[],_,post=>by simp [H4]
 |r::rs,h,post=>by
  rw [List.flatMap_cons,List.map_append,List.append_assoc,List.length_cons,Nat.add_comm,Kx,(h r (by simp)).2]
  exact Aik rs (fun q hq=>h q (by simp [hq])) post
theorem Acq {x:Ai} {rs:List R} (hk:x.kids=(rs.length:Int)) (h:∀r∈rs,Sy r):Sy (Ar x rs):=by
 refine⟨by simp [Ar],fun post=> ?_⟩
 show eat 1 (x.kids::((rs.flatMap R.fl).map (·.kids))++post)=post
 rw [List.cons_append,Ae7,hk,Int.toNat_natCast]
 exact Aik rs h post
theorem Acr (L:List Ai):∀(rs:List R) (p:Nat) (post:List Ai),(∀r∈rs,Sy r)->L.drop p=rs.flatMap R.fl++post->F8 (ks L) rs.length p=plc p rs
 |[],p,post,_,_=>by
  apply List.ext_getElem? ;intro j
  rw [Q6];simp [plc]
 |r::rs,p,post,h,hd=>by
  have hr:=h r (by simp)
  have hlen:r.fl.length<=(L.drop p).length:=by rw [hd,List.flatMap_cons];simp only [List.length_append];omega
  rw [List.length_drop]at hlen
  have h0:=hr.1
  have hks:(ks L).drop p=r.fl.map (·.kids)++((rs.flatMap R.fl).map (·.kids)++post.map (·.kids)):=by
   show(L.map (·.kids)).drop p=_
   rw [←List.map_drop,hd,List.flatMap_cons];simp
  have hd2:L.drop (p+r.fl.length)=rs.flatMap R.fl++post:=by
   rw [←List.drop_drop,hd,List.flatMap_cons,List.append_assoc,List.drop_left]
  have Ciy:(ks L).drop (p+r.fl.length)=(rs.flatMap R.fl).map (·.kids)++post.map (·.kids):=by
   show(L.map (·.kids)).drop _=_
   rw [←List.map_drop,hd2];simp
  have e1:eat 1 ((ks L).drop p)=(ks L).drop (p+r.fl.length):=by rw [hks,hr.2,Ciy]
  have ih:=Acr L rs (p+r.fl.length) post (fun q hq=>h q (by simp [hq])) hd2
  have hkl:(ks L).length=L.length:=D6 L
  apply List.ext_getElem?
  intro j
  rw [Q6,plc]
  cases j with
  |zero=>
   rw [List.getElem?_cons_zero,H4,if_pos ⟨by simp,fun e=>by
    have:=congrArg List.length e
    rw [List.length_drop,hkl]at this;simp at this;omega⟩,List.length_drop,hkl,show L.length-(L.length-p)=p by omega]
  |succ j=>
   rw [List.getElem?_cons_succ,←ih,Q6,Nat.add_comm j 1,Kx,e1]
   simp only [List.length_cons,Nat.add_comm 1 j,Nat.add_lt_add_iff_right]
theorem Dd {L:List Ai} {x:Ai} {rs:List R} {i:Nat} {post:List Ai} (hk:x.kids=(rs.length:Int)) (h:∀r∈rs,Sy r) (hd:L.drop i=(Ar x rs).fl++post):G4 L i=plc (i+1) rs:=by
 have hi:i<L.length:=by
  have:=congrArg List.length hd
  rw [List.length_drop]at this;simp [Ar]at this;omega
 have hx:L[i]? =some x:=by
  have:(L.drop i)[0]? =some x:=by rw [hd];rfl
  rwa [List.getElem?_drop,Nat.add_zero]at this
 unfold G4 Ox
 rw [if_pos (by omega),Int.toNat_natCast,if_pos (by rw [D6];exact hi),Afa hx,hk,Int.toNat_natCast]
 refine Acr L rs (i+1) post h ?_
 rw [←List.drop_drop,hd];rfl
end Go.Proofs.YtcakelelfklhdaaGreatDoor
