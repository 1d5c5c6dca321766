/- A part of the proof: conditions of the code, contracts, the plain law. -/
import Derived.Test.YtcakelelfklhdaaGreatDoorM2
import Derived.Test.YtcakelelfklhdaaGreatDoorM3
import Derived.Test.YtcakelelfklhdaaGreatDoorM4
import Derived.Test.YtcakelelfklhdaaGreatDoorM5
import Derived.Test.YtcakelelfklhdaaGreatDoorM7
import Derived.Test.YtcakelelfklhdaaGreatDoorMapL
import Derived.Test.YtcakelelfklhdaaGreatDoorLv
import Derived.Test.YtcakelelfklhdaaGreatDoorLoop
import Derived.Shelf.Strings.Builder1
import Derived.WalkKit
namespace Go.Proofs.YtcakelelfklhdaaGreatDoor
open Go.Vc Go.Lv Go.Ty
set_option maxRecDepth 10000
def Agv (toks:List Aq) (atx:Int) (deep:Int) (K:Ap->Prop):Prop:=
 Dp toks atx (fun x=>
 cond (x.kind==2)
 (K (⟨[(⟨1,[],x.n,0,x.at_⟩:Aj)],IntKind.i64.wrap (atx+1),0⟩:Ap))
 (cond (x.kind==1)
 (K (⟨[(⟨2,x.text,0,0,x.at_⟩:Aj)],IntKind.i64.wrap (atx+1),0⟩:Ap))
 (∃(J:Bool->Prop),
 (cond (x.kind !=4)
 (J true)
 (cond (!(x.text==[45]))
 (cond (!(x.text==[33]))
 (J (!(x.text==[40])))
 (J false))
 (J false)))/\
 ∀(x1:Bool),J x1->
 cond (x1)
 (K (⟨[],atx,11⟩:Ap))
 (cond (deep==24)
 (K (⟨[],atx,5⟩:Ap))
 (cond (x.text==[40])
 (Fl toks (IntKind.i64.wrap (atx+1)) 1 (IntKind.i64.wrap (deep+1)) (fun x2=>
 cond (x2.e_ !=0)
 (K x2)
 (Dp toks x2.at_ (fun x3=>
 ∃(J1:Bool->Prop),
 (cond (x3.kind !=4)
 (J1 true)
 (J1 (!(x3.text==[41]))))/\
 ∀(x4:Bool),J1 x4->
 cond (x4)
 (K (⟨[],x2.at_,11⟩:Ap))
 (K (⟨x2.l,IntKind.i64.wrap (x2.at_+1),0⟩:Ap))))))
 (Kn toks (IntKind.i64.wrap (atx+1)) (IntKind.i64.wrap (deep+1)) (fun x5=>
 cond (x5.e_ !=0)
 (K x5)
 (∃(J2:Int->Prop),
 (cond (x.text==[33])
 (J2 4)
 (J2 3))/\
 ∀(op:Int),J2 op->
 ([(⟨op,[],0,1,x.at_⟩:Aj)]).length+x5.l.length<2^32/\
 K (⟨([(⟨op,[],0,1,x.at_⟩:Aj)]++x5.l),x5.at_,0⟩:Ap)))))))))
set_option maxHeartbeats 4000000 in
theorem Ad7 (toks:List Aq) (atx:Int) (deep:Int) (K:Ap->Prop) (h:Agv toks atx deep K):Kn toks atx deep K:=by
 intro m w hm Av4 Av5 Av1 Av2
 have o:=Mem.start hm.lt
 refine Aio Av4 toks.length Av5 atx deep _ _ ?_
 intro b w1 hb hw1
 obtain⟨st,o⟩:=o.dB hb hw1
 refine Aa (h _ w1 (o.mn hm) _ _ Av1 (Av2.st st)) ?_
 rintro _ w2 ⟨x,h,⟨cs,rfl,f⟩,ke⟩
 obtain⟨st1,o⟩:=o.dE ke
 obtain rfl:=Dk f
 refine⟨_,_,_,_,rfl,?_⟩
 intro b1 w3 hb1 hw3
 obtain⟨st2,o⟩:=o.dB hb1 hw3
 refine⟨o.wr 0 rfl rfl,fun w4 hw4=> ?_⟩
 obtain⟨st3,o⟩:=o.dSs 0 hw4 rfl
 refine⟨_,(o.at 0 rfl).cell rfl,?_⟩
 refine Ad (fun h=> ?_) (fun h=> ?_) h
 refine⟨_,(o.at 0 rfl).cell rfl,?_⟩
 refine⟨_,(o.at 0 rfl).cell rfl,?_⟩
 intro b2 w5 hb2 hw5
 have el:El A4 (ms [.box b1 [.q x.kind,.s x.text,.q x.n,.q x.at_],.box b [.slice none 0 0,.q 0,.q 0]] m) w4 [(⟨1,[],x.n,0,x.at_⟩:Aj)] ([.q 1,.s [],.q x.n,.q 0,.q x.at_]:List Value):=(El.cons (cs:=[.q 1,.s [],.q x.n,.q 0,.q x.at_]) (Bu (⟨1,[],x.n,0,x.at_⟩:Aj)) (El.nil _ _ _))
 have st4:=o.xL hb2 hw5 5 1
 have o:=o.lit hb2 hw5 5 1 (by decide) rfl
 refine⟨o.wr 2 rfl rfl,fun w6 hw6=> ?_⟩
 obtain⟨st5,o⟩:=o.dSs 2 hw6 rfl
 refine⟨_,_,_,_,_,(o.at 2 rfl).whole,?_⟩
 have le:=(o.rowAt 0 rfl).cap
 have st6:=o.xX 0
 have sT:=(st4.trans st5).trans st6
 have f1:=o.freeze (c:=A4) (l:=[(⟨1,[],x.n,0,x.at_⟩:Aj)]) 0 rfl (fun b hb=>by simp at hb) (el.st sT)
 have o:=o.erase 0
 exact⟨(⟨[(⟨1,[],x.n,0,x.at_⟩:Aj)],IntKind.i64.wrap (atx+1),0⟩:Ap),h,⟨_,rfl,(Bw (⟨[(⟨1,[],x.n,0,x.at_⟩:Aj)],IntKind.i64.wrap (atx+1),0⟩:Ap) ⟨le,(f1.st Mem.Awg)⟩)⟩,o.done⟩
 refine⟨_,(o.at 0 rfl).cell rfl,?_⟩
 refine Ad (fun h=> ?_) (fun h=> ?_) h
 refine⟨_,(o.at 0 rfl).cell rfl,?_⟩
 refine⟨_,(o.at 0 rfl).cell rfl,?_⟩
 intro b3 w7 hb3 hw7
 have el1:El A4 (ms [.box b1 [.q x.kind,.s x.text,.q x.n,.q x.at_],.box b [.slice none 0 0,.q 0,.q 0]] m) w4 [(⟨2,x.text,0,0,x.at_⟩:Aj)] ([.q 2,.s x.text,.q 0,.q 0,.q x.at_]:List Value):=(El.cons (cs:=[.q 2,.s x.text,.q 0,.q 0,.q x.at_]) (Bu (⟨2,x.text,0,0,x.at_⟩:Aj)) (El.nil _ _ _))
 have st7:=o.xL hb3 hw7 5 1
 have o:=o.lit hb3 hw7 5 1 (by decide) rfl
 refine⟨o.wr 2 rfl rfl,fun w8 hw8=> ?_⟩
 obtain⟨st8,o⟩:=o.dSs 2 hw8 rfl
 refine⟨_,_,_,_,_,(o.at 2 rfl).whole,?_⟩
 have le1:=(o.rowAt 0 rfl).cap
 have st9:=o.xX 0
 have sT1:=(st7.trans st8).trans st9
 have f2:=o.freeze (c:=A4) (l:=[(⟨2,x.text,0,0,x.at_⟩:Aj)]) 0 rfl (fun b hb=>by simp at hb) (el1.st sT1)
 have o:=o.erase 0
 exact⟨(⟨[(⟨2,x.text,0,0,x.at_⟩:Aj)],IntKind.i64.wrap (atx+1),0⟩:Ap),h,⟨_,rfl,(Bw (⟨[(⟨2,x.text,0,0,x.at_⟩:Aj)],IntKind.i64.wrap (atx+1),0⟩:Ap) ⟨le1,(f2.st Mem.Awg)⟩)⟩,o.done⟩
 obtain⟨J,h,h2⟩:=h
 refine⟨fun x1 w9=>J x1/\MT w m w4 w9 [.box b1 [.q x.kind,.s x.text,.q x.n,.q x.at_],.box b [.slice none 0 0,.q 0,.q 0]],?_,?_⟩
 refine⟨_,(o.at 0 rfl).cell rfl,?_⟩
 refine Ad (fun h=> ?_) (fun h=> ?_) h
 exact⟨h,o,Step.refl _ _⟩
 refine⟨_,(o.at 0 rfl).cell rfl,?_⟩
 refine Ad (fun h=> ?_) (fun h=> ?_) h
 refine⟨_,(o.at 0 rfl).cell rfl,?_⟩
 refine Ad (fun h=> ?_) (fun h=> ?_) h
 refine⟨_,(o.at 0 rfl).cell rfl,?_⟩
 exact⟨h,o,Step.refl _ _⟩
 exact⟨h,o,Step.refl _ _⟩
 exact⟨h,o,Step.refl _ _⟩
 rintro _ x1 w9 ⟨hJ,o,Awf⟩
 have h:=h2 x1 hJ
 refine Ad (fun h=> ?_) (fun h=> ?_) h
 refine⟨o.wr 1 rfl rfl,fun w10 Azs=> ?_⟩
 obtain⟨Awi,o⟩:=o.dSs 1 Azs rfl
 refine⟨_,_,_,_,_,(o.at 1 rfl).whole,?_⟩
 exact⟨(⟨[],atx,11⟩:Ap),h,⟨_,rfl,(Bw (⟨[],atx,11⟩:Ap) ⟨(Nat.le_refl _),(SlR.nil _ _ _ _)⟩)⟩,o.done⟩
 refine Ad (fun h=> ?_) (fun h=> ?_) h
 refine⟨o.wr 1 rfl rfl,fun w11 Ax6=> ?_⟩
 obtain⟨Awr,o⟩:=o.dSs 1 Ax6 rfl
 refine⟨_,_,_,_,_,(o.at 1 rfl).whole,?_⟩
 exact⟨(⟨[],atx,5⟩:Ap),h,⟨_,rfl,(Bw (⟨[],atx,5⟩:Ap) ⟨(Nat.le_refl _),(SlR.nil _ _ _ _)⟩)⟩,o.done⟩
 refine⟨_,(o.at 0 rfl).cell rfl,?_⟩
 refine Ad (fun h=> ?_) (fun h=> ?_) h
 have sT2:=(((st.trans st1).trans st2).trans st3).trans Awf
 refine Aa (h _ w9 (o.mn hm) _ _ Av1 (Av2.st sT2)) ?_
 rintro _ w12 ⟨x2,h,⟨cs1,rfl,f3⟩,ke1⟩
 obtain⟨Awj,o⟩:=o.dE ke1
 obtain⟨a,c,rfl,⟨le2,f4⟩⟩:=Dw f3
 refine⟨_,_,_,_,_,rfl,?_⟩
 intro b4 w13 hb4 Ayn
 obtain⟨Aws,o⟩:=o.dB hb4 Ayn
 refine⟨o.wr 0 rfl rfl,fun w14 Azq=> ?_⟩
 obtain⟨Awt,o⟩:=o.dSs 0 Azq rfl
 refine⟨_,(o.at 0 rfl).cell rfl,?_⟩
 refine Ad (fun h=> ?_) (fun h=> ?_) h
 refine⟨_,_,_,_,_,(o.at 0 rfl).whole,?_⟩
 refine⟨o.wr 2 rfl rfl,fun w15 Ax7=> ?_⟩
 obtain⟨Awu,o⟩:=o.dSs 2 Ax7 rfl
 refine⟨_,_,_,_,_,(o.at 2 rfl).whole,?_⟩
 exact⟨x2,h,⟨_,rfl,(Bw x2 ⟨le2,(f4.st (Aws.trans (Awt.trans (Awu.trans Mem.Awg))))⟩)⟩,o.done⟩
 refine⟨_,(o.at 0 rfl).cell rfl,?_⟩
 have sT3:=((sT2.trans Awj).trans Aws).trans Awt
 refine Aa (h _ w14 (o.mn hm) _ _ Av1 (Av2.st sT3)) ?_
 rintro _ w16 ⟨x3,h,⟨cs2,rfl,f5⟩,ke2⟩
 obtain⟨Aw7,o⟩:=o.dE ke2
 obtain rfl:=Dk f5
 refine⟨_,_,_,_,rfl,?_⟩
 intro b5 w17 hb5 Ayo
 obtain⟨Axf,o⟩:=o.dB hb5 Ayo
 refine⟨o.wr 0 rfl rfl,fun w18 Azm=> ?_⟩
 obtain⟨Axe,o⟩:=o.dSs 0 Azm rfl
 obtain⟨J1,h,h2⟩:=h
 refine⟨fun x4 w19=>J1 x4/\MT w m w18 w19 [.box b5 [.q x3.kind,.s x3.text,.q x3.n,.q x3.at_],.box b4 [.slice a x2.l.length c,.q x2.at_,.q x2.e_],.box b1 [.q x.kind,.s x.text,.q x.n,.q x.at_],.box b [.slice none 0 0,.q 0,.q 0]],?_,?_⟩
 refine⟨_,(o.at 0 rfl).cell rfl,?_⟩
 refine Ad (fun h=> ?_) (fun h=> ?_) h
 exact⟨h,o,Step.refl _ _⟩
 refine⟨_,(o.at 0 rfl).cell rfl,?_⟩
 exact⟨h,o,Step.refl _ _⟩
 rintro _ x4 w19 ⟨hJ,o,Axg⟩
 have h:=h2 x4 hJ
 refine Ad (fun h=> ?_) (fun h=> ?_) h
 refine⟨_,(o.at 1 rfl).cell rfl,?_⟩
 refine⟨o.wr 3 rfl rfl,fun w20 Bdq=> ?_⟩
 obtain⟨Axu,o⟩:=o.dSs 3 Bdq rfl
 refine⟨_,_,_,_,_,(o.at 3 rfl).whole,?_⟩
 exact⟨(⟨[],x2.at_,11⟩:Ap),h,⟨_,rfl,(Bw (⟨[],x2.at_,11⟩:Ap) ⟨(Nat.le_refl _),(SlR.nil _ _ _ _)⟩)⟩,o.done⟩
 refine⟨_,_,_,(o.at 1 rfl).cell rfl,?_⟩
 refine⟨_,(o.at 1 rfl).cell rfl,?_⟩
 refine⟨o.wr 3 rfl rfl,fun w21 Beb=> ?_⟩
 obtain⟨Axv,o⟩:=o.dSs 3 Beb rfl
 refine⟨_,_,_,_,_,(o.at 3 rfl).whole,?_⟩
 exact⟨(⟨x2.l,IntKind.i64.wrap (x2.at_+1),0⟩:Ap),h,⟨_,rfl,(Bw (⟨x2.l,IntKind.i64.wrap (x2.at_+1),0⟩:Ap) ⟨le2,(f4.st (Aws.trans (Awt.trans (Aw7.trans (Axf.trans (Axe.trans (Axg.trans (Axv.trans Mem.Awg))))))))⟩)⟩,o.done⟩
 have sT4:=(((st.trans st1).trans st2).trans st3).trans Awf
 refine Aa (h _ w9 (o.mn hm) _ _ Av1 (Av2.st sT4)) ?_
 rintro _ w22 ⟨x5,h,⟨cs3,rfl,f6⟩,ke3⟩
 obtain⟨Ayp,o⟩:=o.dE ke3
 obtain⟨a1,c1,rfl,⟨le3,f7⟩⟩:=Dw f6
 refine⟨_,_,_,_,_,rfl,?_⟩
 intro b6 w23 hb6 Bip
 obtain⟨Ayc,o⟩:=o.dB hb6 Bip
 refine⟨o.wr 0 rfl rfl,fun w24 Bea=> ?_⟩
 obtain⟨Ax8,o⟩:=o.dSs 0 Bea rfl
 refine⟨_,(o.at 0 rfl).cell rfl,?_⟩
 refine Ad (fun h=> ?_) (fun h=> ?_) h
 refine⟨_,_,_,_,_,(o.at 0 rfl).whole,?_⟩
 refine⟨o.wr 2 rfl rfl,fun w25 Azp=> ?_⟩
 obtain⟨Azo,o⟩:=o.dSs 2 Azp rfl
 refine⟨_,_,_,_,_,(o.at 2 rfl).whole,?_⟩
 exact⟨x5,h,⟨_,rfl,(Bw x5 ⟨le3,(f7.st (Ayc.trans (Ax8.trans (Azo.trans Mem.Awg))))⟩)⟩,o.done⟩
 obtain⟨J2,h,h2⟩:=h
 refine⟨fun op w26=>J2 op/\MT w m w24 w26 [.box b6 [.slice a1 x5.l.length c1,.q x5.at_,.q x5.e_],.box b1 [.q x.kind,.s x.text,.q x.n,.q x.at_],.box b [.slice none 0 0,.q 0,.q 0]],?_,?_⟩
 refine⟨_,(o.at 1 rfl).cell rfl,?_⟩
 refine Ad (fun h=> ?_) (fun h=> ?_) h
 exact⟨h,o,Step.refl _ _⟩
 exact⟨h,o,Step.refl _ _⟩
 rintro _ op w26 ⟨hJ,o,Ayd⟩
 have h:=h2 op hJ
 intro w27 Bir
 obtain⟨Ay8,o⟩:=o.dD Bir
 have ox:=o
 refine⟨fun u=>Am [] w27 u,Am.refl _ _,?_⟩
 refine⟨_,fun u hu=>((ox.at 1 rfl).Av8 hu (by simp)).cell rfl,?_⟩
 refine⟨_,_,_,fun u hu=>((ox.at 0 rfl).Av8 hu (by simp)).cell rfl,?_⟩
 refine⟨_,fun u hu=>((ox.at 0 rfl).Av8 hu (by simp)).cell rfl,?_⟩
 intro b7 w28 hb7 Bcv
 have el2:El A4 (ms [.box b6 [.slice a1 x5.l.length c1,.q x5.at_,.q x5.e_],.box b1 [.q x.kind,.s x.text,.q x.n,.q x.at_],.box b [.slice none 0 0,.q 0,.q 0]] m) w27 [(⟨op,[],0,1,x.at_⟩:Aj)] ([.q op,.s [],.q 0,.q 1,.q x.at_]:List Value):=(El.cons (cs:=[.q op,.s [],.q 0,.q 1,.q x.at_]) (Bu (⟨op,[],0,1,x.at_⟩:Aj)) (El.nil _ _ _))
 have Ayv:=o.xL hb7 Bcv 5 1
 have o:=o.lit hb7 Bcv 5 1 (by decide) rfl
 refine⟨((Be Bcv).mono (by simp)),?_⟩
 obtain⟨lt,h⟩:=h
 have sT5:=(((Ayc.trans Ax8).trans Ayd).trans Ay8).trans Ayv
 obtain⟨xs,hx,el3⟩:=SlR.cells (f7.st sT5)
 have el4:=((el2.st Ayv)).app el3
 refine Fh Abt (o.rowAt 0 rfl) hx el3.len el3.one (by first|(simp;done)|simpa using lt) (by decide) (Nat.zero_le _) fun a2 c2 w29 hr hg hat=> ?_
 have ln:1+x5.l.length=([(⟨op,[],0,1,x.at_⟩:Aj)]++x5.l).length:=(by first|(simp;done)|(simp;omega))
 rw [ln]at hr⊢
 refine⟨_,_,_,rfl,?_⟩
 have Ayw:=o.xA 0 rfl hr hg hat
 have o:=o.app 0 rfl hr hg hat
 refine⟨(Nw ((Be Bcv).mono (by simp)) hg (Qz hb7 (Am.refl _ _))),?_⟩
 refine⟨o.wr 3 rfl rfl,fun w30 Bj3=> ?_⟩
 obtain⟨Bae,o⟩:=o.dSs 3 Bj3 rfl
 refine⟨_,_,_,_,_,(o.at 3 rfl).whole,?_⟩
 have le4:=(o.rowAt 0 rfl).cap
 have Baf:=o.xX 0
 have sT6:=(Ayw.trans Bae).trans Baf
 have f8:=o.freeze (c:=A4) (l:=([(⟨op,[],0,1,x.at_⟩:Aj)]++x5.l)) 0 rfl (fun b hb=>by simp at hb) (el4.st sT6)
 have o:=o.erase 0
 exact⟨(⟨([(⟨op,[],0,1,x.at_⟩:Aj)]++x5.l),x5.at_,0⟩:Ap),h,⟨_,rfl,(Bw (⟨([(⟨op,[],0,1,x.at_⟩:Aj)]++x5.l),x5.at_,0⟩:Ap) ⟨le4,(f8.st Mem.Awg)⟩)⟩,o.done⟩
def Aa5 (toks:List Aq) (atx:Int) (K:Ap->Prop):Prop:=
 cond (decide (atx<0))
 (K (⟨[],0,1⟩:Ap))
 (Fl toks atx 1 0 (fun x=>
 K x))
theorem Zb (toks:List Aq) (atx:Int) (K:Ap->Prop) (h:Aa5 toks atx K):Ms toks atx K:=by
 intro m w hm Av4 Av5 Av1 Av2
 have o:=Mem.start hm.lt
 refine Ada Av4 toks.length Av5 atx _ _ ?_
 intro b w1 hb hw1
 obtain⟨st,o⟩:=o.dB hb hw1
 refine Ad (fun h=> ?_) (fun h=> ?_) h
 refine⟨o.wr 0 rfl rfl,fun w2 hw2=> ?_⟩
 obtain⟨st1,o⟩:=o.dSs 0 hw2 rfl
 refine⟨_,_,_,_,_,(o.at 0 rfl).whole,?_⟩
 exact⟨(⟨[],0,1⟩:Ap),h,⟨_,rfl,(Bw (⟨[],0,1⟩:Ap) ⟨(Nat.le_refl _),(SlR.nil _ _ _ _)⟩)⟩,o.done⟩
 refine Aa (h _ w1 (o.mn hm) _ _ Av1 (Av2.st st)) ?_
 rintro _ w3 ⟨x,h,⟨cs,rfl,f⟩,ke⟩
 obtain⟨st2,o⟩:=o.dE ke
 obtain⟨a,c,rfl,⟨le,f1⟩⟩:=Dw f
 refine⟨_,_,_,_,_,rfl,?_⟩
 refine⟨o.wr 0 rfl rfl,fun w4 hw4=> ?_⟩
 obtain⟨st3,o⟩:=o.dSs 0 hw4 rfl
 refine⟨_,_,_,_,_,(o.at 0 rfl).whole,?_⟩
 exact⟨x,h,⟨_,rfl,(Bw x ⟨le,(f1.st (st3.trans Mem.Awg))⟩)⟩,o.done⟩
def Ad8 (K:Bool->Prop):Prop:=
 Md [109,97,105,110,32,123,32,112,114,105,110,116,32,97,32,45,32,40,98,32,45,32,49,41,32,59,32,112,114,105,110,116,32,45,40,97,43,98,41,59,32,125] (fun x=>
 K4 x.l (fun r r1=>
 V7 x.l 4 (fun r2 r3=>
 K ((r==[109,97,105,110,32,123,10,9,112,114,105,110,116,32,97,32,45,32,40,98,32,45,32,49,41,59,10,9,112,114,105,110,116,32,45,40,97,32,43,32,98,41,59,10,125,10])&&((r1==0)&&((r2==[97,32,45,32,40,98,32,45,32,49,41])&&r3))))))
theorem Aa6 (K:Bool->Prop) (h:Ad8 K):Me K:=by
 intro m w hm
 have o:=Mem.start hm.lt
 refine Agc _ _ ?_
 refine Aa (h _ w (o.mn hm)) ?_
 rintro _ w1 ⟨x,h,⟨cs,rfl,f⟩,ke⟩
 obtain⟨st,o⟩:=o.dE ke
 obtain⟨a,c,rfl,⟨le,f1⟩⟩:=Dw f
 refine⟨_,_,_,_,_,rfl,?_⟩
 refine Aa (h _ w1 (o.mn hm) _ _ le f1) ?_
 rintro _ w2 ⟨r,r1,h,rfl,ke1⟩
 obtain⟨st1,o⟩:=o.dE ke1
 refine⟨_,_,rfl,?_⟩
 refine Aa (h _ w2 (o.mn hm) _ _ le (f1.st st1)) ?_
 rintro _ w3 ⟨r2,r3,h,rfl,ke2⟩
 obtain⟨st2,o⟩:=o.dE ke2
 refine⟨_,_,rfl,?_⟩
 intro _
 exact⟨((r==[109,97,105,110,32,123,10,9,112,114,105,110,116,32,97,32,45,32,40,98,32,45,32,49,41,59,10,9,112,114,105,110,116,32,45,40,97,32,43,32,98,41,59,10,125,10])&&((r1==0)&&((r2==[97,32,45,32,40,98,32,45,32,49,41])&&r3))),h,rfl,o.done⟩
def Vf (sx:List UInt8) (K:Bool->Prop):Prop:=
 cond (decide ((sx.length:Int)>600))
 (Me (fun x=>
 K x))
 (Md sx (fun x1=>
 cond (x1.e_ !=0)
 (Me (fun x2=>
 K x2))
 (K4 x1.l (fun r r1=>
 Md r (fun x3=>
 K4 x3.l (fun r2 r3=>
 cond (r1==0)
 (cond (r3==0)
 (cond (x3.e_==0)
 (Si x1.l x3.l (fun x4=>
 cond (x4)
 (cond (r==r2)
 (Me (fun x5=>
 K x5))
 (K false))
 (K false)))
 (K false))
 (K false))
 (K false)))))))
theorem T8 (sx:List UInt8) (K:Bool->Prop) (h:Vf sx K):P7 sx K:=by
 intro m w hm
 have o:=Mem.start hm.lt
 refine Wz sx _ _ ?_
 refine Ad (fun h=> ?_) (fun h=> ?_) h
 refine Aa (h _ w (o.mn hm)) ?_
 rintro _ w1 ⟨x,h,rfl,ke⟩
 obtain⟨st,o⟩:=o.dE ke
 refine⟨_,rfl,?_⟩
 exact⟨x,h,rfl,o.done⟩
 refine Aa (h _ w (o.mn hm)) ?_
 rintro _ w2 ⟨x1,h,⟨cs,rfl,f⟩,ke1⟩
 obtain⟨st1,o⟩:=o.dE ke1
 obtain⟨a,c,rfl,⟨le,f1⟩⟩:=Dw f
 refine⟨_,_,_,_,_,rfl,?_⟩
 intro b w3 hb hw3
 obtain⟨st2,o⟩:=o.dB hb hw3
 refine⟨o.wr 0 rfl rfl,fun w4 hw4=> ?_⟩
 obtain⟨st3,o⟩:=o.dSs 0 hw4 rfl
 refine⟨_,(o.at 0 rfl).cell rfl,?_⟩
 refine Ad (fun h=> ?_) (fun h=> ?_) h
 refine Aa (h _ w4 (o.mn hm)) ?_
 rintro _ w5 ⟨x2,h,rfl,ke2⟩
 obtain⟨st4,o⟩:=o.dE ke2
 refine⟨_,rfl,?_⟩
 exact⟨x2,h,rfl,o.done⟩
 refine⟨_,_,_,(o.at 0 rfl).cell rfl,?_⟩
 refine Aa (h _ w4 (o.mn hm) _ _ le (f1.st (st2.trans st3))) ?_
 rintro _ w6 ⟨r,r1,h,rfl,ke3⟩
 obtain⟨st5,o⟩:=o.dE ke3
 refine⟨_,_,rfl,?_⟩
 refine Aa (h _ w6 (o.mn hm)) ?_
 rintro _ w7 ⟨x3,h,⟨cs1,rfl,f2⟩,ke4⟩
 obtain⟨st6,o⟩:=o.dE ke4
 obtain⟨a1,c1,rfl,⟨le1,f3⟩⟩:=Dw f2
 refine⟨_,_,_,_,_,rfl,?_⟩
 intro b1 w8 hb1 hw8
 obtain⟨st7,o⟩:=o.dB hb1 hw8
 refine⟨o.wr 0 rfl rfl,fun w9 hw9=> ?_⟩
 obtain⟨st8,o⟩:=o.dSs 0 hw9 rfl
 refine⟨_,_,_,(o.at 0 rfl).cell rfl,?_⟩
 refine Aa (h _ w9 (o.mn hm) _ _ le1 (f3.st (st7.trans st8))) ?_
 rintro _ w10 ⟨r2,r3,h,rfl,ke5⟩
 obtain⟨st9,o⟩:=o.dE ke5
 refine⟨_,_,rfl,?_⟩
 refine Ad (fun h=> ?_) (fun h=> ?_) h
 refine Ad (fun h=> ?_) (fun h=> ?_) h
 refine⟨_,(o.at 0 rfl).cell rfl,?_⟩
 refine Ad (fun h=> ?_) (fun h=> ?_) h
 refine⟨_,_,_,(o.at 1 rfl).cell rfl,?_⟩
 refine⟨_,_,_,(o.at 0 rfl).cell rfl,?_⟩
 have sT:=(((((st2.trans st3).trans st5).trans st6).trans st7).trans st8).trans st9
 have sT1:=(st7.trans st8).trans st9
 refine Aa (h _ w10 (o.mn hm) _ _ le (f1.st sT) _ _ le1 (f3.st sT1)) ?_
 rintro _ w11 ⟨x4,h,rfl,ke6⟩
 obtain⟨Awf,o⟩:=o.dE ke6
 refine⟨_,rfl,?_⟩
 refine Ad (fun h=> ?_) (fun h=> ?_) h
 refine Ad (fun h=> ?_) (fun h=> ?_) h
 refine Aa (h _ w11 (o.mn hm)) ?_
 rintro _ w12 ⟨x5,h,rfl,ke7⟩
 obtain⟨Awi,o⟩:=o.dE ke7
 refine⟨_,rfl,?_⟩
 exact⟨x5,h,rfl,o.done⟩
 exact⟨false,h,rfl,o.done⟩
 exact⟨false,h,rfl,o.done⟩
 exact⟨false,h,rfl,o.done⟩
 exact⟨false,h,rfl,o.done⟩
 exact⟨false,h,rfl,o.done⟩
def Mi (sx:List UInt8) (K:(List UInt8)->Prop):Prop:=
 ∃(I:Int->Nat->Prop),(∃n,I 0 n)/\
 ∀(x:Int) (n:Nat),I x n->
 cond (decide (x<(sx.length:Int)))
 (((0:Int)<=x/\x<(sx.length:Int))/\
 L9 ((sx.getD x.toNat 0).toNat:Int) (fun x1=>
 cond (!x1)
 (((0:Int)<=x/\x<=(sx.length:Int))/\
 K (sx.take x.toNat))
 (∃n1,n1<n/\I (IntKind.i64.wrap (x+1)) n1)))
 (K sx)
theorem Lz (sx:List UInt8) (K:(List UInt8)->Prop) (h:Mi sx K):Fv sx K:=by
 intro m w hm
 have o:=Mem.start hm.lt
 refine Mo sx _ _ ?_
 obtain⟨I,⟨n2,h⟩,h2⟩:=h
 obtain⟨Z,hZ⟩:∃Z:Int->World->Nat->Prop,Z=fun x w1 n=>I x n/\MT w m w w1 []:=⟨_,rfl⟩
 refine⟨fun x w1=>∃n,Z x w1 n,fun x w1=>Awb (Z x w1),⟨n2,?_⟩,?_⟩
 rw [hZ];exact⟨h,o,Step.refl _ _⟩
 intro _ x w1 hIZ
 obtain⟨n,hnn⟩:∃n,n=Awb (Z x w1):=⟨_,rfl⟩
 have hIZ:=C2 hIZ
 rw [←hnn,hZ]at hIZ
 obtain⟨h,o,st⟩:=hIZ
 have h:=h2 x n h
 refine Ad (fun h=> ?_) (fun h=> ?_) h
 refine⟨h.1,?_⟩
 have h:=And.right h
 refine Aa (h _ w1 (o.mn hm)) ?_
 rintro _ w2 ⟨x1,h,rfl,ke⟩
 obtain⟨st1,o⟩:=o.dE ke
 refine⟨_,rfl,?_⟩
 refine Ad (fun h=> ?_) (fun h=> ?_) h
 refine⟨h.1,?_⟩
 have h:=And.right h
 exact⟨(sx.take x.toNat),h,rfl,o.done⟩
 obtain⟨n1,hl,h⟩:=h
 exact B8 hnn (show Z _ w2 n1 from(by rw [hZ];exact⟨h,o,(st.trans st1)⟩)) hl
 exact⟨sx,h,rfl,o.done⟩
def D0 (wx:Ab) (l:List Int) (K:Ab->Prop):Prop:=
 ∃(I:Int->Value->(List Int)->Int->Nat->Prop),(∃n,I 0 wx.b.addr wx.b.buf (IntKind.i64.wrap (wx.deep+1)) n)/\
 ∀(x:Int) (ba:Value) (bb:List Int) (de:Int) (n:Nat),I x ba bb de n->
 cond (decide (x<(l.length:Int)))
 (((0:Int)<=x/\x<(l.length:Int))/\
 ∀x1,l[x.toNat]? =some x1->
 Cv (⟨wx.l,(⟨ba,bb⟩:B1),de⟩:Ab) x1 (fun r=>
 ∃n1,n1<n/\I (IntKind.i64.wrap (x+1)) r.b.addr r.b.buf r.deep n1))
 (K (⟨wx.l,(⟨ba,bb⟩:B1),IntKind.i64.wrap (de-1)⟩:Ab))
theorem Gp (wx:Ab) (l:List Int) (K:Ab->Prop) (h:D0 wx l K):Co wx l K:=by
 intro m w hm wxb wxA wxC Awc Av9 Awa Awm Awe Awq Axy Aw0 Av3 Av6 Awp lA lC Ay6 f_l
 have Awz:=Mem.Bab hm.lt Awm Awe
 have o:=Mem.obj hm.lt Awm Awe Awq Axy
 have st:=Mem.Bdn (w:=w) (l:=[.slice Av9 wx.l.length Awa,wx.b.addr,.slice wxA wx.b.buf.length wxC,.q wx.deep]) (e:=5) (size:=1) (n:=wx.b.buf.length) (c:=wxC) (xs:=Awc) Awm Awe
 have hrm:∀b∈(wxb::(Vc.blk wxA).toList),b∈m:=fun b hb=>(List.mem_cons.1 hb).elim (fun e=>e▸Awm) (fun h=>(Awe b (Option.mem_toList.1 h)).1)
 refine Gz wxb lA l.length lC _ _ ?_
 refine⟨_,(o.at 0 rfl).cell rfl,?_⟩
 refine⟨o.wr 0 rfl rfl,fun w1 hw1=> ?_⟩
 obtain⟨st1,o⟩:=o.dS 0 hw1 rfl
 obtain⟨I,⟨n2,h⟩,h2⟩:=h
 obtain⟨Z,hZ⟩:∃Z:Int->World->Nat->Prop,Z=fun x w2 n=>∃(ba:Value) (bb:List Int) (de:Int) (xs:List Value) (a:Option Addr) (c:Nat),I x ba bb de n/\Hv 1 wxb ba/\El (Cu .u8) (ms [.box wxb [.slice Av9 wx.l.length Awa,ba,.slice a bb.length c,.q de],.row 5 1 a bb.length c xs] m) w2 bb xs/\Mem w.heap.size (wxb::(Vc.blk wxA).toList) m [((wxb::(Vc.blk wxA).toList),w.heap.size,w)] [] w2 [.box wxb [.slice Av9 wx.l.length Awa,ba,.slice a bb.length c,.q de],.row 5 1 a bb.length c xs]/\Step (ms [.box wxb [.slice Av9 wx.l.length Awa,wx.b.addr,.slice wxA wx.b.buf.length wxC,.q (IntKind.i64.wrap (wx.deep+1))],.row 5 1 wxA wx.b.buf.length wxC Awc] m) w1 (ms [.box wxb [.slice Av9 wx.l.length Awa,ba,.slice a bb.length c,.q de],.row 5 1 a bb.length c xs] m) w2:=⟨_,rfl⟩
 refine⟨fun x w2=>∃n,Z x w2 n,fun x w2=>Awb (Z x w2),⟨n2,?_⟩,?_⟩
 rw [hZ];exact⟨wx.b.addr,wx.b.buf,(IntKind.i64.wrap (wx.deep+1)),Awc,wxA,wxC,h,Awp,(Aw0.st (st.trans st1)),o,Step.refl _ _⟩
 intro _ x w2 hIZ
 obtain⟨n,hnn⟩:∃n,n=Awb (Z x w2):=⟨_,rfl⟩
 have hIZ:=C2 hIZ
 rw [←hnn,hZ]at hIZ
 obtain⟨ba,bb,de,xs,a,c,h,sp,el,o,st2⟩:=hIZ
 have h:=h2 x ba bb de n h
 refine Ad (fun h=> ?_) (fun h=> ?_) h
 obtain⟨hi,h⟩:=h
 have sT:=(st.trans st1).trans st2
 obtain⟨p,x1,cs,hp,he,hc,hr⟩:=(f_l.st sT).elem hi
 obtain rfl:=hr
 have h:=h x1 he
 refine⟨hi,An hp ?_⟩
 refine⟨_,(Ae.head hc.2),?_⟩
 refine Aa (h _ w2 (o.mp hm hrm) _ _ _ _ _ _ (Mem.Awx 0 rfl) (o.Awl 0 1 rfl rfl (by decide)) (o.at 0 rfl) (o.rowAt 1 rfl) el Av3 (Av6.st sT) sp) ?_
 rintro _ w3 ⟨r,h,-,⟨a1,c1,xs1,bx,hr1,el1,fr,sp1⟩,ke⟩
 obtain⟨st3,el2,o⟩:=o.y2 0 1 rfl rfl (by decide) ke bx hr1 fr el1
 obtain⟨n1,hl,h⟩:=h
 exact B8 hnn (show Z _ w3 n1 from(by rw [hZ];exact⟨r.b.addr,r.b.buf,r.deep,xs1,a1,c1,h,sp1,el2,o,(st2.trans st3)⟩)) hl
 refine⟨_,(o.at 0 rfl).cell rfl,?_⟩
 refine⟨o.wr 0 rfl rfl,fun w4 hw4=> ?_⟩
 obtain⟨st4,o⟩:=o.dS 0 hw4 rfl
 exact⟨(⟨wx.l,(⟨ba,bb⟩:B1),IntKind.i64.wrap (de-1)⟩:Ab),h,trivial,⟨_,_,_,o.at 0 rfl,o.rowAt 1 rfl,(el.st (st4.trans (o.eRS 1 rfl))),o.Awk 1 rfl 0 rfl (by decide),sp⟩,o.done⟩
def D9 (wx:Ab) (l:List Int) (K:Ab->Prop):Prop:=
 ∃(I:Int->Value->(List Int)->Int->Nat->Prop),(∃n,I 0 wx.b.addr wx.b.buf (IntKind.i64.wrap (wx.deep+1)) n)/\
 ∀(x:Int) (ba:Value) (bb:List Int) (de:Int) (n:Nat),I x ba bb de n->
 cond (decide (x<(l.length:Int)))
 (((0:Int)<=x/\x<(l.length:Int))/\
 ∀x1,l[x.toNat]? =some x1->
 A5 (⟨wx.l,(⟨ba,bb⟩:B1),de⟩:Ab) x1 (fun r=>
 ∃n1,n1<n/\I (IntKind.i64.wrap (x+1)) r.b.addr r.b.buf r.deep n1))
 (K (⟨wx.l,(⟨ba,bb⟩:B1),IntKind.i64.wrap (de-1)⟩:Ab))
theorem G4 (wx:Ab) (l:List Int) (K:Ab->Prop) (h:D9 wx l K):Bb wx l K:=by
 intro m w hm wxb wxA wxC Awc Av9 Awa Awm Awe Awq Axy Aw0 Av3 Av6 Awp lA lC Ay6 f_l
 have Awz:=Mem.Bab hm.lt Awm Awe
 have o:=Mem.obj hm.lt Awm Awe Awq Axy
 have st:=Mem.Bdn (w:=w) (l:=[.slice Av9 wx.l.length Awa,wx.b.addr,.slice wxA wx.b.buf.length wxC,.q wx.deep]) (e:=5) (size:=1) (n:=wx.b.buf.length) (c:=wxC) (xs:=Awc) Awm Awe
 have hrm:∀b∈(wxb::(Vc.blk wxA).toList),b∈m:=fun b hb=>(List.mem_cons.1 hb).elim (fun e=>e▸Awm) (fun h=>(Awe b (Option.mem_toList.1 h)).1)
 refine Hk wxb lA l.length lC _ _ ?_
 refine⟨_,(o.at 0 rfl).cell rfl,?_⟩
 refine⟨o.wr 0 rfl rfl,fun w1 hw1=> ?_⟩
 obtain⟨st1,o⟩:=o.dS 0 hw1 rfl
 obtain⟨I,⟨n2,h⟩,h2⟩:=h
 obtain⟨Z,hZ⟩:∃Z:Int->World->Nat->Prop,Z=fun x w2 n=>∃(ba:Value) (bb:List Int) (de:Int) (xs:List Value) (a:Option Addr) (c:Nat),I x ba bb de n/\Hv 1 wxb ba/\El (Cu .u8) (ms [.box wxb [.slice Av9 wx.l.length Awa,ba,.slice a bb.length c,.q de],.row 5 1 a bb.length c xs] m) w2 bb xs/\Mem w.heap.size (wxb::(Vc.blk wxA).toList) m [((wxb::(Vc.blk wxA).toList),w.heap.size,w)] [] w2 [.box wxb [.slice Av9 wx.l.length Awa,ba,.slice a bb.length c,.q de],.row 5 1 a bb.length c xs]/\Step (ms [.box wxb [.slice Av9 wx.l.length Awa,wx.b.addr,.slice wxA wx.b.buf.length wxC,.q (IntKind.i64.wrap (wx.deep+1))],.row 5 1 wxA wx.b.buf.length wxC Awc] m) w1 (ms [.box wxb [.slice Av9 wx.l.length Awa,ba,.slice a bb.length c,.q de],.row 5 1 a bb.length c xs] m) w2:=⟨_,rfl⟩
 refine⟨fun x w2=>∃n,Z x w2 n,fun x w2=>Awb (Z x w2),⟨n2,?_⟩,?_⟩
 rw [hZ];exact⟨wx.b.addr,wx.b.buf,(IntKind.i64.wrap (wx.deep+1)),Awc,wxA,wxC,h,Awp,(Aw0.st (st.trans st1)),o,Step.refl _ _⟩
 intro _ x w2 hIZ
 obtain⟨n,hnn⟩:∃n,n=Awb (Z x w2):=⟨_,rfl⟩
 have hIZ:=C2 hIZ
 rw [←hnn,hZ]at hIZ
 obtain⟨ba,bb,de,xs,a,c,h,sp,el,o,st2⟩:=hIZ
 have h:=h2 x ba bb de n h
 refine Ad (fun h=> ?_) (fun h=> ?_) h
 obtain⟨hi,h⟩:=h
 have sT:=(st.trans st1).trans st2
 obtain⟨p,x1,cs,hp,he,hc,hr⟩:=(f_l.st sT).elem hi
 obtain rfl:=hr
 have h:=h x1 he
 refine⟨hi,An hp ?_⟩
 refine⟨_,(Ae.head hc.2),?_⟩
 refine Aa (h _ w2 (o.mp hm hrm) _ _ _ _ _ _ (Mem.Awx 0 rfl) (o.Awl 0 1 rfl rfl (by decide)) (o.at 0 rfl) (o.rowAt 1 rfl) el Av3 (Av6.st sT) sp) ?_
 rintro _ w3 ⟨r,h,-,⟨a1,c1,xs1,bx,hr1,el1,fr,sp1⟩,ke⟩
 obtain⟨st3,el2,o⟩:=o.y2 0 1 rfl rfl (by decide) ke bx hr1 fr el1
 obtain⟨n1,hl,h⟩:=h
 exact B8 hnn (show Z _ w3 n1 from(by rw [hZ];exact⟨r.b.addr,r.b.buf,r.deep,xs1,a1,c1,h,sp1,el2,o,(st2.trans st3)⟩)) hl
 refine⟨_,(o.at 0 rfl).cell rfl,?_⟩
 refine⟨o.wr 0 rfl rfl,fun w4 hw4=> ?_⟩
 obtain⟨st4,o⟩:=o.dS 0 hw4 rfl
 exact⟨(⟨wx.l,(⟨ba,bb⟩:B1),IntKind.i64.wrap (de-1)⟩:Ab),h,trivial,⟨_,_,_,o.at 0 rfl,o.rowAt 1 rfl,(el.st (st4.trans (o.eRS 1 rfl))),o.Awk 1 rfl 0 rfl (by decide),sp⟩,o.done⟩
def Jh (Azl:Int) (seq1:List Aj) (K:(List Int)->Prop):Prop:=
 Dg Azl seq1 (fun x=>
 K x)
theorem H3 (Azl:Int) (seq1:List Aj) (K:(List Int)->Prop) (h:Jh Azl seq1 K):Fj Azl seq1 K:=by
 intro m w hm Ay3 Ayt Bbf Bec Ay4 Ayu Bbg Bed
 obtain rfl:=Bec
 obtain⟨a,c,rfl,le,f⟩:=Bed
 have o:=Mem.start hm.lt
 refine Jq Ay3 Ay4 _ _ ?_
 refine Aa (h _ w (o.mn hm) _ _ Bbf rfl _ _ Bbg ⟨_,_,rfl,le,f⟩) ?_
 rintro _ w1 ⟨x,h,⟨a1,c1,rfl,le1,f1⟩,ke⟩
 obtain⟨st,o⟩:=o.dE ke
 refine⟨_,_,_,rfl,?_⟩
 exact⟨x,h,⟨_,_,rfl,le1,(f1.st (Mem.Awg (ps:=[]) (m0:=m)))⟩,o.done⟩
def Fp (Azl:Int) (seq1:List Aj) (K:(List Int)->Prop):Prop:=
 ∃xs1:List (Int),L7 Azl seq1 xs1/\
 ∃(I:List (Int)->(List Int)->Prop),I [] []/\
 (∀(pre:List (Int)) (x:Int) (v:List Int),(pre++[x])<+:xs1->I pre v->
 v.length+[x].length<2^32/\
 I (pre++[x]) (v++[x]))/\
 ∀(v:List Int),I xs1 v->
 K v
theorem Fe (Azl:Int) (seq1:List Aj) (K:(List Int)->Prop) (h:Fp Azl seq1 K):Dg Azl seq1 K:=by
 intro m w hm Ay3 Ayt Bbf Bec Ay4 Ayu Bbg Bed
 obtain rfl:=Bec
 obtain⟨a,c,rfl,le,f⟩:=Bed
 have o:=Mem.start hm.lt
 refine Fu Ay3 Ay4 _ _ ?_
 intro b w1 hb hw1
 obtain⟨st,o⟩:=o.dB hb hw1
 have st1:=o.xN 3 1
 have o:=o.Bac 3 1
 obtain⟨xs1,hIt,I,h,hb,hd⟩:=h
 have hle:=o.le
 have hdl:=o.dsl
 refine⟨(ms [.row 3 1 none 0 0 [],.box b [.slice none 0 0]] m),xs1,Ak3.of (o.mn hm).lt (hIt _ _ (o.mn hm) _ _ (Bbf.st (st.trans st1)) rfl _ _ (Bbg.st (st.trans st1)) ⟨_,_,rfl,le,(f.st (st.trans st1))⟩),fun F pre w2=>∃(v:List Int) (xs:List Value) (a1:Option Addr) (c1:Nat),F=(ms [.row 3 1 a1 v.length c1 xs,.box b [.slice a1 v.length c1]] m)/\I pre v/\El (Cu .i64) (ms [.row 3 1 a1 v.length c1 xs,.box b [.slice a1 v.length c1]] m) w2 v xs/\MS w m w1 [.row 3 1 none 0 0 [],.box b [.slice none 0 0]] w2 [.row 3 1 a1 v.length c1 xs,.box b [.slice a1 v.length c1]],fun _ _=>False,fun _ _ _=>False,⟨[],[],none,0,rfl,h,(El.nil _ _ _),o,Step.refl _ _⟩,?_,?_,?_⟩
 rintro _ pre x w2 w3 ⟨v,xs,a1,c1,rfl,h,el,o,st2⟩ hG Axm
 have h:=hb pre x v Axm h
 have o:=o.grow hG (fun f hf=>by rw [List.mem_singleton.1 hf];exact hle) hdl
 have st3:=Step.grow (ms [.row 3 1 a1 v.length c1 xs,.box b [.slice a1 v.length c1]] m) hG
 have o:=o.round (M:=(ms [.row 3 1 a1 v.length c1 xs,.box b [.slice a1 v.length c1]] m)) (B:=w3.heap.size) (Nat.le_refl _) (fun k hk=> .inl hk)
 refine⟨_,_,_,(o.at 1 rfl).cell rfl,?_⟩
 intro b1 w5 hb1 hw5
 have el1:El (Cu .i64) (ms [.row 3 1 a1 v.length c1 xs,.box b [.slice a1 v.length c1]] m) w3 [x] ([.q x]:List Value):=(El.cons (cs:=[.q x]) rfl (El.nil _ _ _))
 have st5:=o.xL hb1 hw5 1 1
 have o:=o.lit hb1 hw5 1 1 (by decide) rfl
 obtain⟨lt,h⟩:=h
 have el3:=((el.st (st3.trans st5))).app (el1.st st5)
 refine Fh Avs (o.rowAt 1 rfl) (o.rowAt 0 rfl).sl (el1.st st5).len (el1.st st5).one (by first|(simp;done)|simpa using lt) (by decide) (Nat.zero_le _) fun a2 c2 w6 hr hg hat=> ?_
 have ln:v.length+1=(v++[x]).length:=(by first|(simp;done)|(simp;omega))
 rw [ln]at hr⊢
 refine⟨_,_,_,rfl,?_⟩
 have st6:=o.xA 1 rfl hr hg hat
 have o:=o.app 1 rfl hr hg hat
 refine⟨o.wr 2 rfl rfl,fun w7 hw7=> ?_⟩
 obtain⟨st7,o⟩:=o.dS 2 hw7 rfl
 obtain⟨st8,o⟩:=o.dX 0
 obtain⟨hk,o⟩:=o.Bh0
 have sT:=((st5.trans st6).trans st7).trans st8
 have sT1:=(st6.trans st7).trans st8
 have sT2:=((((st2.trans st3).trans st5).trans st6).trans st7).trans st8
 exact⟨_,⟨hk.kp.all,fun k hk=>sT.sub k hk⟩,(v++[x]),(xs++([.q x]:List Value)),a2,c2,rfl,h,(el3.st sT1),o,sT2⟩
 intro _ _ _ _ _ hx;exact hx.elim
 rintro _ w8 w4 D ⟨v,xs,a1,c1,rfl,h,el,o,st2⟩ hG hD hDD
 have h:=hd v h
 have o:=o.grow hG (fun f hf=>by rw [List.mem_singleton.1 hf];exact hle) hdl
 have st3:=Step.grow (ms [.row 3 1 a1 v.length c1 xs,.box b [.slice a1 v.length c1]] m) hG
 have o:=o.mark hDD hD hle hdl
 refine⟨_,_,_,(o.at 1 rfl).cell rfl,?_⟩
 refine⟨o.marks.1,?_⟩
 have le1:=(o.rowAt 0 rfl).cap
 have st4:=o.xX 0
 have f1:=o.freeze (c:=(Cu .i64)) (l:=v) 0 rfl (fun b hb=>by simp at hb) (el.st (st3.trans st4))
 have o:=o.erase 0
 exact⟨v,h,⟨_,_,rfl,le1,(f1.st (o.Bxz.trans Mem.Awg))⟩,o.Bxy⟩
def Vg (v0:Int) (v1:List Aj) (xs:List (Int)):Prop:=
 ∃(J1:Bool->(List (Int))->Bool->Prop),
 (cond (decide (v0<0))
 (J1 true [] false)
 (J1 (decide (v0>=(v1.length:Int))) [] false))/\
 ∀(x:Bool) (pre:List (Int)) (st:Bool),J1 x pre st->
 cond (x)
 ((st=false->pre=xs))
 (st=false/\
 ((0:Int)<=v0/\v0<(v1.length:Int))/\
 ∀x1,v1[v0.toNat]? =some x1->
 ∃(I:Int->Int->(List (Int))->Bool->Nat->Prop),(∃n,I (IntKind.i64.wrap (v0+1)) 0 pre false n)/\
 ∀(atx:Int) (x2:Int) (Ayz:List (Int)) (st2:Bool) (n:Nat),I atx x2 Ayz st2 n->
 cond (decide (x2<x1.kids))
 (∃(J2:Bool->(List (Int))->Bool->Prop),
 (st2=false/\
 cond (decide (atx>=(v1.length:Int)))
 (J2 true Ayz false)
 (xs[Ayz.length]? =some atx/\
 (J2 false (Ayz++[atx]) false)/\
 (J2 true (Ayz++[atx]) true)))/\
 ∀(x3:Bool) (Qp:List (Int)) (st4:Bool),J2 x3 Qp st4->
 cond (x3)
 ((st4=false->Qp=xs))
 (st4=false/\
 Sh v1 atx (fun Av7=>
 ∃n1,n1<n/\I Av7 (IntKind.i64.wrap (x2+1)) Qp false n1)))
 ((st2=false->Ayz=xs)))
theorem Zc (v0:Int) (v1:List Aj) (xs:List (Int)) (h:Vg v0 v1 xs):L7 v0 v1 xs:=by
 intro m w hm b0 cs0 el0 f0 b1 cs1 el1 f1
 obtain rfl:=f0
 obtain⟨a,c,rfl,le,f⟩:=f1
 intro l J Jx W hW hAJ hAX hY hG
 have kw:=hW.Bx0 m
 have stw:=kw.stw
 have Axm:([]:List (Int))<+:xs:=List.nil_prefix
 change Gh J Jx [] false W at hG
 refine Ys l b0 b1 _ _ ?_
 obtain⟨J1,h,h2⟩:=h
 refine⟨fun x w1=>∃(pre:List (Int)) (st:Bool),J1 x pre st/\pre<+:xs/\Gh J Jx pre st w1/\(st=false->Am m w w1),?_,?_⟩
 ·refine⟨_,(Ae.head (el0.st stw).2),?_⟩
  refine Ad (fun h=> ?_) (fun h=> ?_) h
  ·exact⟨[],false,h,Axm,hG,(fun _=>kw)⟩
  ·refine⟨_,(Ae.head (el0.st stw).2),?_⟩
   refine⟨_,_,_,(Ae.head (el1.st stw).2),?_⟩
   exact⟨[],false,h,Axm,hG,(fun _=>kw)⟩
 ·rintro _ x w1 ⟨pre,st,hJ,Axm,hG,hkw⟩
  have h:=h2 x pre st hJ
  refine Ad (fun h=> ?_) (fun h=> ?_) h
  ·exact⟨Aij _,Aii hG Axm h⟩
  ·obtain⟨hs,h⟩:=h
   rw [hs]at hG
   have kw:=hkw hs
   have stw:=kw.stw
   refine⟨_,(Ae.head (el0.st stw).2),?_⟩
   refine⟨_,_,_,(Ae.head (el1.st stw).2),?_⟩
   refine⟨_,(Ae.head (el0.st stw).2),?_⟩
   obtain⟨hi,h⟩:=h
   obtain⟨p,x1,cs,hp,he,hc,hr⟩:=(f.st stw).elem hi
   obtain rfl:=Bv hr
   have h:=h x1 he
   refine⟨hi,An hp ?_⟩
   refine⟨_,hc.2 3 (Nat.le_of_ble_eq_true rfl),?_⟩
   obtain⟨I,⟨n2,h⟩,h2⟩:=h
   obtain⟨Z,hZ⟩:∃Z:Int->Int->World->Nat->Prop,Z=fun atx x2 w2 n=>∃(Ayz:List (Int)) (st2:Bool),I atx x2 Ayz st2 n/\Ayz<+:xs/\Gh J Jx Ayz st2 w2/\(st2=false->Am m w w2):=⟨_,rfl⟩
   refine⟨fun atx x2 w2=>∃n,Z atx x2 w2 n,fun atx x2 w2=>Awb (Z atx x2 w2),⟨n2,?_⟩,?_⟩
   ·rw [hZ];exact⟨pre,false,h,Axm,hG,(fun _=>kw)⟩
   ·intro _ atx x2 w2 hIZ
    obtain⟨n,hnn⟩:∃n,n=Awb (Z atx x2 w2):=⟨_,rfl⟩
    have hIZ:=C2 hIZ
    rw [←hnn,hZ]at hIZ
    obtain⟨Ayz,st2,h,Axm,hG,hkw⟩:=hIZ
    have h:=h2 atx x2 Ayz st2 n h
    refine Ad (fun h=> ?_) (fun h=> ?_) h
    ·obtain⟨J2,h,h2⟩:=h
     refine⟨fun x3 w3=>∃(Qp:List (Int)) (st4:Bool),J2 x3 Qp st4/\Qp<+:xs/\Gh J Jx Qp st4 w3/\(st4=false->Am m w w3),?_,?_⟩
     ·obtain⟨hs,h⟩:=h
      rw [hs]at hG
      have kw:=hkw hs
      have stw:=kw.stw
      refine⟨_,_,_,(Ae.head (el1.st stw).2),?_⟩
      refine Ad (fun h=> ?_) (fun h=> ?_) h
      ·exact⟨Ayz,false,h,Axm,hG,(fun _=>kw)⟩
      ·obtain⟨hx,h⟩:=h
       have Axm:=Af5 Axm hx
       refine M7.mono (hY _ _ _ hG Axm) (fun go w4 hb=> ?_)
       cases go
       ·have hG:Gh J Jx _ true w4:=hb
        have h:=And.right h
        exact⟨(Ayz++[atx]),true,h,Axm,hG,(fun h=>(by cases h))⟩
       ·have hG:Gh J Jx _ false w4:=hb.1
        have kw:=kw.kpm hb.2
        have stw:=kw.stw
        have h:=h.1
        exact⟨(Ayz++[atx]),false,h,Axm,hG,(fun _=>kw)⟩
     ·rintro _ x3 w3 ⟨Qp,st4,hJ,Axm,hG,hkw⟩
      have h:=h2 x3 Qp st4 hJ
      refine Ad (fun h=> ?_) (fun h=> ?_) h
      ·exact⟨Aij _,Aii hG Axm h⟩
      ·obtain⟨hs,h⟩:=h
       rw [hs]at hG
       have kw:=hkw hs
       have stw:=kw.stw
       refine⟨_,_,_,(Ae.head (el1.st stw).2),?_⟩
       refine Aa (h _ w3 (hm.Av8 kw) _ _ le (f.st stw)) ?_
       rintro _ w5 ⟨Av7,h,rfl,ke⟩
       have kw:=kw.more ke
       have hG:=Aut hAJ hAX hG ke.by
       have stw:=kw.stw
       refine⟨_,rfl,?_⟩
       obtain⟨n1,hl,h⟩:=h
       exact B8 hnn (show Z _ _ w5 n1 from(by rw [hZ];exact⟨Qp,false,h,Axm,hG,(fun _=>kw)⟩)) hl
    ·exact⟨Aij _,Aii hG Axm h⟩
end Go.Proofs.YtcakelelfklhdaaGreatDoor
namespace Go.Tr
def eat:Nat->List Int->List Int
 |0,l=>l
 |_+1,[]=>[]
 |n+1,k::l=>eat (n+k.toNat) l
 termination_by _ l=>l.length
theorem La (l:List Int):eat 0 l=l:=by rw [eat]
theorem Q0 (n:Nat):eat n []=[]:=by cases n<;>rw [eat]
theorem Mj (n:Nat) (k:Int) (l:List Int):eat (n+1) (k::l)=eat (n+k.toNat) l:=by rw [eat]
theorem Q1:∀(l:List Int) (a b:Nat),eat (a+b) l=eat b (eat a l)
 |[],a,b=>by simp [Q0]
 |k::l,0,b=>by simp [La]
 |k::l,a+1,b=>by
  rw [show a+1+b=(a+b)+1 by omega,Mj,Mj,show a+b+k.toNat=(a+k.toNat)+b by omega,Q1 l]
theorem Ap3 (k:Int) (l:List Int):eat 1 (k::l)=eat k.toNat l:=by
 rw [show(1:Nat)=0+1 from rfl,Mj,Nat.zero_add]
theorem Ad9:∀(l:List Int) (n:Nat),eat n l<:+l
 |[],n=>by rw [Q0];exact List.suffix_refl _
 |k::l,0=>by rw [La];exact List.suffix_refl _
 |k::l,n+1=>by rw [Mj];exact(Ad9 l _).trans (List.suffix_cons k l)
theorem As0 (l:List Int) (n:Nat):(eat n l).length<=l.length:=(Ad9 l n).length_le
theorem As1 (l:List Int) (n:Nat) (h:l≠[]) (hn:0<n):(eat n l).length<l.length:=by
 cases l with
 |nil=>exact absurd rfl h
 |cons k l=>
  cases n with
  |zero=>omega
  |succ n=>rw [Mj,List.length_cons];have:=As0 l (n+k.toNat);omega
theorem Aea:∀(l:List Int) (n:Nat),l.length<=n->eat n l=[]
 |[],n,_=>Q0 n
 |k::l,0,h=>by simp at h
 |k::l,n+1,h=>by rw [Mj];exact Aea l _ (by simp at h;omega)
theorem Anb {α:Type} {m l:List α} (h:m<:+l):m=l.drop (l.length-m.length):=by
 obtain⟨t,rfl⟩:=h
 simp
theorem Anc {α:Type} {l:List α} {i j:Nat} (hi:i<=l.length) (hj:j<=l.length) (h:l.drop i=l.drop j):i=j:=by
 have:=congrArg List.length h
 simp at this;omega
def Zd (l:List Int) (i:Nat):Nat:=l.length-(eat 1 (l.drop i)).length
theorem Vh (l:List Int) (i:Nat):l.drop (Zd l i)=eat 1 (l.drop i):=by
 have h:=(Ad9 (l.drop i) 1).trans (List.drop_suffix i l)
 exact(Anb h).symm
theorem Aj2 (l:List Int) (i:Nat):Zd l i<=l.length:=by unfold Zd;omega
theorem Aj3 (l:List Int) (i:Nat) (h:i<l.length):i<Zd l i:=by
 have h1:=As1 (l.drop i) 1 (by intro e;have:=congrArg List.length e;simp at this;omega) (by omega)
 rw [List.length_drop]at h1
 unfold Zd;omega
theorem Aix {l:List Int} {k:Nat} (h:k<l.length):l.drop k=l.getD k 0::l.drop (k+1):=by
 rw [List.drop_eq_getElem_cons h];simp [List.getD,h]
def Jl (l:List Int):Nat->Nat->List Int
 |0,_=>[]
 |n+1,at_=>if at_<l.length then(at_:Int)::Jl l n (Zd l at_)else []
theorem Alm (l:List Int):∀(n at_:Nat) (x:Int),x∈Jl l n at_↔∃j i:Nat,x=i/\j<n/\eat j (l.drop at_)=l.drop i/\i<l.length
 |0,at_,x=>by simp [Jl]
 |n+1,at_,x=>by
  unfold Jl
  by_cases h:at_<l.length
  ·rw [if_pos h,List.mem_cons,Alm l n]
   constructor
   ·rintro(rfl|⟨j,i,rfl,hj,he,hi⟩)
    ·exact⟨0,at_,rfl,by omega,La _,h⟩
    ·exact⟨1+j,i,rfl,by omega,by rw [Q1,←Vh];exact he,hi⟩
   ·rintro⟨j,i,rfl,hj,he,hi⟩
    cases j with
    |zero=>
     left
     rw [La]at he
     rw [Anc (by omega) (by omega) he]
    |succ j=>
     right
     refine⟨j,i,rfl,by omega,?_,hi⟩
     rw [show j+1=1+j by omega,Q1,←Vh]at he
     exact he
  ·rw [if_neg h]
   simp only [List.not_mem_nil,false_iff]
   rintro⟨j,i,rfl,hj,he,hi⟩
   rw [List.drop_of_length_le (by omega),Q0]at he
   have:=congrArg List.length he
   simp at this;omega
theorem Q2 (l:List Int):∀(n at_ j:Nat),(Jl l n at_)[j]? =if j<n/\eat j (l.drop at_)≠[]then some ((l.length-(eat j (l.drop at_)).length:Nat):Int)else none
 |0,at_,j=>by simp [Jl]
 |n+1,at_,j=>by
  unfold Jl
  by_cases h:at_<l.length
  ·rw [if_pos h]
   cases j with
   |zero=>
    rw [La,if_pos ⟨by omega,by intro e;have:=congrArg List.length e;simp at this;omega⟩]
    simp;omega
   |succ j=>
    rw [List.getElem?_cons_succ,Q2 l n,Vh,←Q1,Nat.add_comm 1 j]
    by_cases hc:j<n/\eat (j+1) (l.drop at_)≠[]
    ·rw [if_pos hc,if_pos ⟨by omega,hc.2⟩]
    ·rw [if_neg hc,if_neg (fun h=>hc ⟨by omega,h.2⟩)]
  ·rw [if_neg h,List.drop_of_length_le (by omega),Q0]
   simp
def Ze (l:List Int) (k:Nat):List Int:=if k<l.length then Jl l (l.getD k 0).toNat (k+1)else []
end Go.Tr
namespace Go.Proofs.YtcakelelfklhdaaGreatDoor
open Go.Vc Go.Lv Go.Ty Go.Tr
def ks (l:List Aj):List Int:=l.map (·.kids)
theorem J8 (l:List Aj):(ks l).length=l.length:=by simp [ks]
theorem Aiy {l:List Aj} {p:Nat} {x:Aj} (h:l[p]? =some x):(ks l).getD p 0=x.kids:=by
 simp [ks,List.getD,h]
theorem Ap4 {l:List Aj} {p:Nat} {x:Aj} (h:l[p]? =some x):(ks l).drop p=x.kids::(ks l).drop (p+1):=by
 rw [Aix (by rw [J8];exact(List.getElem?_eq_some_iff.1 h).1),Aiy h]
def Ap5 (l:List Aj) (i:Int):Int:=if 0<=i/\i<l.length then Zd (ks l) i.toNat else l.length
def R1 (l:List Aj) (i:Int):List Int:=if 0<=i then Ze (ks l) i.toNat else []
theorem Auy (l:List Aj) (i:Int) (hl:l.length<=100000) (K:Int->Prop) (h:K (Ap5 l i)):Sh l i K:=by
 refine Aar _ _ _ (Ag (fun hc=> ?_) fun hc=> ?_)
 ·unfold Ap5 at h
  rw [if_neg (by simp at hc;omega)]at h
  exact h
 ·have hi:0<=i/\i<l.length:=by simp at hc;omega
  unfold Ap5 at h
  rw [if_pos hi]at h
  refine⟨fun i1 Chv n=>∃p d:Nat,i1=p/\Chv=d/\p<=l.length/\d<=1+p*100000/\n=l.length-p/\eat 1 ((ks l).drop i.toNat)=eat d ((ks l).drop p),⟨_,i.toNat,1,by omega,rfl,by omega,by omega,rfl,rfl⟩,?_⟩
  rintro _ _ _ ⟨p,d,rfl,rfl,hp,hd,rfl,he⟩
  refine Ag (fun hc=> ?_) fun hc=> ?_
  ·have hc':0<d/\p<l.length:=by simp at hc;omega
   refine⟨by omega,fun x hx=> ?_⟩
   rw [Int.toNat_natCast]at hx
   rw [Ap4 hx]at he
   obtain⟨e,rfl⟩:∃e,d=e+1:=⟨d-1,by omega⟩
   rw [Mj]at he
   have hlen:((ks l).drop (p+1)).length<=l.length:=by rw [List.length_drop,J8];omega
   have hw:∃q:Nat,(if(l.length:Int)<(if 0>x.kids then 0 else x.kids)then(l.length:Int)else(if 0>x.kids then 0 else x.kids))=q/\q<=l.length/\eat (e+x.kids.toNat) ((ks l).drop (p+1))=eat (e+q) ((ks l).drop (p+1)):=by
    by_cases h0:0>x.kids
    ·rw [if_pos h0]
     exact⟨0,by rw [if_neg (by omega)];rfl,by omega,by rw [show x.kids.toNat=0 by omega]⟩
    ·rw [if_neg h0]
     by_cases h1:(l.length:Int)<x.kids
     ·rw [if_pos h1]
      exact⟨l.length,rfl,by omega,by rw [Aea _ _ (by omega),Aea _ _ (by omega)]⟩
     ·rw [if_neg h1]
      exact⟨x.kids.toNat,by omega,by omega,rfl⟩
   obtain⟨q,hq,hql,hqe⟩:=hw
   rw [hq,A1 (n:=(q:Int)-1) (by omega) (by omega),A1 (n:=(p:Int)+1) (by omega) (by omega),A1 (by omega) (by omega)]
   exact⟨l.length-(p+1),by omega,p+1,e+q,by omega,by omega,by omega,by omega,rfl,he.trans hqe⟩
  ·have hr:eat 1 ((ks l).drop i.toNat)=(ks l).drop p:=by
    rw [he]
    by_cases hd0:d=0
    ·rw [hd0,La]
    ·have:p=l.length:=by simp at hc;omega
     rw [List.drop_of_length_le (by rw [J8];omega),Q0]
   have:Zd (ks l) i.toNat=p:=by unfold Zd;rw [hr,List.length_drop,J8];omega
   rw [this]at h
   exact h
theorem Ap6 (l:List Aj) (i:Int) (hl:l.length<=100000):L7 i l (R1 l i):=by
 refine Zc _ _ _ ⟨fun b pre stop=>pre=[]/\stop=false/\b=(decide (i<0)||decide (i>=(l.length:Int))),Ag (fun hc=>⟨rfl,rfl,by rw [hc];rfl⟩) (fun hc=>⟨rfl,rfl,by rw [hc];rfl⟩),?_⟩
 rintro _ _ _ ⟨rfl,rfl,rfl⟩
 refine Ag (fun hc=>fun _=> ?_) fun hc=>⟨rfl,?_⟩
 ·unfold R1 Ze
  split
  ·rw [if_neg (by rw [J8];simp at hc;omega)]
  ·rfl
 ·have hi:0<=i/\i<l.length:=by simp at hc;omega
  obtain⟨a,rfl⟩:∃a:Nat,i=a:=⟨i.toNat,by omega⟩
  refine⟨by omega,fun x hx=> ?_⟩
  rw [Int.toNat_natCast]at hx
  have hxs:R1 l a=Jl (ks l) x.kids.toNat (a+1):=by
   unfold R1 Ze
   rw [if_pos (by omega),Int.toNat_natCast,if_pos (by rw [J8];omega),Aiy hx]
  rw [hxs]
  refine⟨fun atx x2 pre stop n=>stop=false/\∃p c:Nat,atx=p/\x2=c/\p<=l.length/\c<=p/\c<=x.kids.toNat/\n=x.kids.toNat-c/\pre++Jl (ks l) (x.kids.toNat-c) p=Jl (ks l) x.kids.toNat (a+1),⟨_,rfl,a+1,0,by rw [A1 (by omega) (by omega)];omega,rfl,by omega,by omega,by omega,rfl,by simp⟩,?_⟩
  rintro _ _ pre _ _ ⟨rfl,p,c,rfl,rfl,hp,hcp,hck,rfl,he⟩
  refine Ag (fun hd=> ?_) fun hd=>fun _=> ?_
  ·have Cjs:c<x.kids.toNat:=by simp at hd;omega
   have hs:x.kids.toNat-c=(x.kids.toNat-(c+1))+1:=by omega
   refine⟨fun b Qp Bi8=>(b=true/\(Bi8=false->Qp=Jl (ks l) x.kids.toNat (a+1)))\/(b=false/\Bi8=false/\p<l.length/\Qp=pre++[(p:Int)]),⟨rfl,Ag (fun hc=> ?_) fun hc=> ?_⟩,?_⟩
   ·refine .inl ⟨rfl,fun _=> ?_⟩
    rw [hs,Jl,if_neg (by rw [J8];simp at hc;omega),List.append_nil]at he
    exact he
   ·have hpl:p<l.length:=by simp at hc;omega
    rw [hs,Jl,if_pos (by rw [J8];omega)]at he
    refine⟨by rw [←he];simp,.inr ⟨rfl,rfl,hpl,rfl⟩,.inl ⟨rfl,by simp⟩⟩
   ·rintro b Qp Bi8 (⟨rfl,h⟩|⟨rfl,rfl,hpl,rfl⟩)
    ·exact h
    ·refine⟨rfl,Auy l p hl _ ?_⟩
     rw [hs,Jl,if_pos (by rw [J8];omega)]at he
     unfold Ap5
     rw [if_pos (by omega),Int.toNat_natCast]
     have h1:=Aj3 (ks l) p (by rw [J8];omega)
     have h2:=Aj2 (ks l) p
     rw [J8]at h2
     exact⟨x.kids.toNat-(c+1),by omega,rfl,Zd (ks l) p,c+1,rfl,by rw [A1 (by omega) (by omega)];omega,by omega,by omega,by omega,rfl,by rw [List.append_assoc];exact he⟩
  ·have:x.kids.toNat-c=0:=by simp at hd;omega
   rw [this,Jl,List.append_nil]at he
   exact he
theorem Abx (l:List Int):∀(n p:Nat),p<=l.length->(Jl l n p).length<=l.length-p
 |0,p,_=>by simp [Jl]
 |n+1,p,hp=>by
  unfold Jl
  split
  ·rename_i h
   have h1:=Aj3 l p h
   have h2:=Aj2 l p
   have:=Abx l n (Zd l p) h2
   rw [List.length_cons];omega
  ·simp
theorem Aln (l:List Aj) (i:Int):(R1 l i).length<=l.length:=by
 unfold R1 Ze
 split
 ·split
  ·rename_i h
   have:=Abx (ks l) ((ks l).getD i.toNat 0).toNat (i.toNat+1) (by omega)
   rw [J8]at this;omega
  ·simp
 ·simp
theorem As2 (l:List Aj) (i:Int) (K:Int->List Aj->Prop) (h:K i l):P4 l i K:=Y1 _ _ _ h
def alike (x y:Aj):Bool:=(x.op==y.op)&&(x.name==y.name)&&(x.n==y.n)&&(x.kids==y.kids)
def Qi:List Aj->List Aj->Bool
 |[],[]=>true
 |x::a,y::b=>alike x y&&Qi a b
 |_,_=>false
theorem Aby:∀(a b:List Aj),a.length≠b.length->Qi a b=false
 |[],[],h=>absurd rfl h
 |[],_::_,_=>rfl
 |_::_,[],_=>rfl
 |x::a,y::b,h=>by rw [Qi,Aby a b (by simpa using h),Bool.and_false]
theorem Aiz {a b:List Aj} {k:Nat} {x y:Aj} (hx:a[k]? =some x) (hy:b[k]? =some y):Qi (a.drop k) (b.drop k)=(alike x y&&Qi (a.drop (k+1)) (b.drop (k+1))):=by
 obtain⟨h1,rfl⟩:=List.getElem?_eq_some_iff.1 hx
 obtain⟨h2,rfl⟩:=List.getElem?_eq_some_iff.1 hy
 rw [List.drop_eq_getElem_cons h1,List.drop_eq_getElem_cons h2,Qi]
theorem Ap7 (a b:List Aj) (ha:a.length<=100000) (K:Bool->Prop) (h:K (Qi a b)):Si a b K:=by
 refine Aas _ _ _ (Ag (fun hc=> ?_) fun hc=> ?_)
 ·rw [Aby a b (by simp at hc;omega)]at h
  exact h
 ·have hab:a.length=b.length:=by simp at hc;omega
  refine⟨fun x n=>∃k:Nat,x=k/\k<=a.length/\n=a.length-k/\Qi a b=Qi (a.drop k) (b.drop k),⟨_,0,rfl,by omega,rfl,by simp⟩,?_⟩
  rintro _ _ ⟨k,rfl,hk,rfl,he⟩
  refine Ag (fun hd=> ?_) fun hd=> ?_
  ·have hkl:k<a.length:=by simp at hd;omega
   have ga:=List.getElem?_eq_getElem hkl
   have gb:=List.getElem?_eq_getElem (l:=b) (i:=k) (by omega)
   rw [Aiz ga gb]at he
   have r1:(0:Int)<=k/\(k:Int)<a.length:=by omega
   have r2:(0:Int)<=k/\(k:Int)<b.length:=by omega
   refine⟨fun bb=>bb= !alike a[k] (b[k]'(by omega)),⟨r1,fun x1 h1=>⟨r2,fun x2 h2=> ?_⟩⟩,?_⟩
   ·rw [Int.toNat_natCast]at h1 h2
    rw [ga]at h1;rw [gb]at h2;cases h1;cases h2
    refine Ag (fun hq=> ?_) fun hq=>⟨r1,fun x3 h3=>⟨r2,fun x4 h4=> ?_⟩⟩
    ·simp at hq;simp [alike,hq]
    ·rw [Int.toNat_natCast]at h3 h4
     rw [ga]at h3;rw [gb]at h4;cases h3;cases h4
     refine Ag (fun hq2=> ?_) fun hq2=>⟨r1,fun x3 h3=>⟨r2,fun x4 h4=> ?_⟩⟩
     ·simp at hq2;simp [alike,hq2]
     ·rw [Int.toNat_natCast]at h3 h4
      rw [ga]at h3;rw [gb]at h4;cases h3;cases h4
      refine Ag (fun hq3=> ?_) fun hq3=>⟨r1,fun x3 h3=>⟨r2,fun x4 h4=> ?_⟩⟩
      ·simp at hq3;simp [alike,hq3]
      ·rw [Int.toNat_natCast]at h3 h4
       rw [ga]at h3;rw [gb]at h4;cases h3;cases h4
       simp at hq hq2 hq3
       simp [alike,hq,hq2,hq3,bne]
   ·rintro _ rfl
    refine Ag (fun hq=> ?_) fun hq=> ?_
    ·simp at hq
     rw [he,hq,Bool.false_and]at h
     exact h
    ·simp at hq
     rw [hq,Bool.true_and]at he
     rw [A1 (by omega) (by omega)]
     exact⟨a.length-(k+1),by omega,k+1,by omega,by omega,rfl,he⟩
  ·rw [he,List.drop_of_length_le (by simp at hd;omega),List.drop_of_length_le (by simp at hd;omega)]at h
   exact h
end Go.Proofs.YtcakelelfklhdaaGreatDoor
namespace Go.Proofs.YtcakelelfklhdaaGreatDoor
open Go.Vc Go.Lv Go.Ty
structure Ed where
 T:List Aq->Int->List Aj×Int×Int
 lo:∀toks at_,0<=at_->at_<=(toks.length:Int)->at_<=(T toks at_).2.1
 hi:∀toks at_,0<=at_->at_<=(toks.length:Int)->(T toks at_).2.1<=(toks.length:Int)
 len:∀toks at_,0<=at_->at_<=(toks.length:Int)->((T toks at_).1.length:Int)<=(T toks at_).2.1-at_
 rv:∀toks,toks.length<1000000000->∀at_,0<=at_->at_<=(toks.length:Int)->∀K:Ap->Prop,K ⟨(T toks at_).1,(T toks at_).2.1,(T toks at_).2.2⟩->Ms toks at_ K
abbrev Str:=List UInt8
def sLB:Str:=[123]
def sRB:Str:=[125]
def sLP:Str:=[40]
def sRP:Str:=[41]
def sLS:Str:=[91]
def sRS:Str:=[93]
def As:Str:=[59]
def Bz:Str:=[44]
def Ee:Str:=[58]
def C5:Str:=[33]
def Gt:Str:=[63]
def sEq:Str:=[61]
def Pg:Str:=[118,97,114]
def Ff:Str:=[115,116,97,114,116]
def Kp:Str:=[115,108,101,101,112]
def Kq:Str:=[112,114,105,110,116]
def Ht:Str:=[97,115,115,101,114,116]
def N3:Str:=[115,107,105,112]
def N4:Str:=[115,116,111,112]
def F9:Str:=[119,104,105,108,101]
def sIf:Str:=[105,102]
def Dq:Str:=[101,108,115,101]
def D1:Str:=[115,101,108,101,99,116]
def Bq:Str:=[99,97,115,101]
def Ef:Str:=[119,104,101,110]
def D7:Str:=[97,102,116,101,114]
def Gq:Str:=[114,97,110,100,111,109]
def Ga:Str:=[99,104,97,110]
def Gg:Str:=[112,114,111,99]
def N5:Str:=[109,97,105,110]
abbrev Cur:=Ai
section
variable (M:Ed) (toks:List Aq)
def B6 (at_:Int):Aq:=if at_<(toks.length:Int)then(toks[at_.toNat]?).getD ⟨0,[],0,0⟩else⟨0,[],0,0⟩
def isF (at_:Int) (s:Str):Bool:=((B6 toks at_).kind==3||(B6 toks at_).kind==4)&&((B6 toks at_).text==s)
def Aw (at_:Int):Cur:=⟨[],0,at_,0⟩
def Az (s:Str) (c:Cur):Cur:=if c.e_=0 then(if isF toks c.at_ s then⟨c.l,c.n,c.at_+1,0⟩else⟨c.l,c.n,c.at_,11⟩)else c
def E6 (c d:Cur):Cur:=if c.e_=0 then⟨c.l++d.l,IntKind.i64.wrap (c.n+1),d.at_,d.e_⟩else c
def Cq (c:Cur) (x:Aj):Cur:=⟨⟨x.op,x.name,x.n,c.n,x.at_⟩::c.l,1,c.at_,c.e_⟩
def Dh (c:Cur):Cur:=if c.e_=0 then(if(B6 toks c.at_).kind=1 then⟨c.l,c.n,c.at_+1,0⟩else⟨c.l,c.n,c.at_,11⟩)else c
def Ba (c:Cur):Str:=if c.e_=0 then(if(B6 toks c.at_).kind=1 then(B6 toks c.at_).text else [])else []
def Eg (c:Cur):Cur:=E6 c ⟨(M.T toks c.at_).1,0,(M.T toks c.at_).2.1,(M.T toks c.at_).2.2⟩
def Ez (s:Str) (c:Cur):Bool:=decide (c.e_=0)&&isF toks c.at_ s
def nd (op:Int) (name:Str) (n at_:Int):Aj:=⟨op,name,n,0,(B6 toks at_).at_⟩
def R2 (c:Cur):Cur:=if Ez toks sLS c then Az toks sRS (Eg M toks (Az toks sLS c))else c
def So (at_:Int):Cur:=Cq (R2 M toks (Dh toks (Aw at_))) (nd toks 33 (Ba toks (Aw at_)) 0 at_)
def Ej (g:Cur->Bool) (b:Cur->Cur):Nat->Cur->Cur
 |0,c=>c
 |f+1,c=>if g c then Ej g b f (b c)else c
def fuel:Nat:=toks.length+2
def Ow (stmt:Int->Cur) (at_:Int):Cur:=
 Cq (Az toks sRB (Ej (fun c=>decide (c.e_=0)&& !isF toks c.at_ sRB) (fun c=>E6 c (stmt c.at_)) (fuel toks) (Az toks sLB (Aw at_)))) (nd toks 32 [] 0 at_)
def inC (blk:Int->Cur) (c:Cur):Cur:=E6 c (blk c.at_)
structure Comm where
 c:Cur
 op:Int
 name:Str
def Ox (send recv:Int) (c:Cur):Comm:=if Ez toks C5 c then⟨Eg M toks (Az toks C5 c),send,[]⟩else⟨Dh toks (Az toks Gt c),recv,Ba toks (Az toks Gt c)⟩
def Gi (send recv:Int) (c:Cur):Comm:=if c.e_=0 then Ox M toks send recv (E6 c (So M toks c.at_))else⟨c,0,[]⟩
def Ha (c:Cur):Cur:=if Ez toks Ef c then Az toks Ee (Eg M toks (Az toks Ef c))else c
def Mk (c:Cur):Int:=if Ez toks Ef c then 1 else 0
def Dd (c:Cur):Comm:=if Ez toks D7 c then⟨Eg M toks (Az toks D7 c),36,[]⟩else Gi M toks 35 34 c
def Dy (blk:Int->Cur) (at_:Int):Cur:=
 if isF toks at_ Dq then Cq (inC blk (Az toks Dq (Aw at_))) (nd toks 37 [] 0 at_)
 else Cq (inC blk (Dd M toks (Ha M toks (Az toks Bq (Aw at_)))).c) (nd toks (Dd M toks (Ha M toks (Az toks Bq (Aw at_)))).op (Dd M toks (Ha M toks (Az toks Bq (Aw at_)))).name (Mk toks (Az toks Bq (Aw at_))) at_)
def O5 (c:Cur):Cur:=
 Az toks sRP (if(decide ((Az toks sLP c).e_=0)&& !isF toks (Az toks sLP c).at_ sRP)then
  Ej (Ez toks Bz) (fun c=>Eg M toks (Az toks Bz c)) (fuel toks) (Eg M toks (Az toks sLP c))else Az toks sLP c)
def Vi (at_:Int):Cur:=
 if Ez toks Gq (Az toks sEq (Dh toks (Aw at_)))then
  Cq (Az toks As (Az toks sRP (Eg M toks (Az toks sLP (Az toks Gq (Az toks sEq (Dh toks (Aw at_)))))))) (nd toks 20 (Ba toks (Aw at_)) 0 at_)
 else Cq (Az toks As (Eg M toks (Az toks sEq (Dh toks (Aw at_))))) (nd toks 19 (Ba toks (Aw at_)) 0 at_)
def Agw (s:Str) (op:Int) (at_:Int):Cur:=Cq (Az toks As (Eg M toks (Az toks s (Aw at_)))) (nd toks op [] 0 at_)
def Zf (s:Str) (op:Int) (at_:Int):Cur:=Cq (Az toks As (Az toks s (Aw at_))) (nd toks op [] 0 at_)
def ifC (blk:Int->Cur) (c:Cur):Cur:=if Ez toks Dq c then inC blk (Az toks Dq c)else c
def Ai0 (blk:Int->Cur) (c:Cur):Cur:=Ej (fun c=>decide (c.e_=0)&& !isF toks c.at_ sRB) (fun c=>E6 c (Dy M toks blk c.at_)) (fuel toks) (E6 c (Dy M toks blk c.at_))
def A8 (blk:Int->Cur) (at_:Int):Cur:=
 let s:=(B6 toks at_).text
 if s=Pg then Cq (Az toks As (Eg M toks (Az toks sEq (Dh toks (Az toks Pg (Aw at_)))))) (nd toks 18 (Ba toks (Az toks Pg (Aw at_))) 0 at_)
 else if s=Ff then Cq (Az toks As (O5 M toks (Dh toks (Az toks Ff (Aw at_))))) (nd toks 26 (Ba toks (Az toks Ff (Aw at_))) 0 at_)
 else if s=Kp then Agw M toks Kp 27 at_
 else if s=Kq then Agw M toks Kq 28 at_
 else if s=Ht then Agw M toks Ht 29 at_
 else if s=N3 then Zf toks N3 30 at_
 else if s=N4 then Zf toks N4 31 at_
 else if s=F9 then Cq (inC blk (Eg M toks (Az toks F9 (Aw at_)))) (nd toks 24 [] 0 at_)
 else if s=sIf then Cq (ifC toks blk (inC blk (Eg M toks (Az toks sIf (Aw at_))))) (nd toks 23 [] 0 at_)
 else if s=D1 then Cq (Az toks sRB (Ai0 M toks blk (Az toks sLB (Az toks D1 (Aw at_))))) (nd toks 25 [] 0 at_)
 else⟨[],0,at_,11⟩
def Kh (blk:Int->Cur) (at_:Int):Cur:=
 if(B6 toks at_).kind=1 then
  (if isF toks (at_+1) sEq then Vi M toks at_
   else Cq (Az toks As (Gi M toks 21 22 (Aw at_)).c) (nd toks (Gi M toks 21 22 (Aw at_)).op (Gi M toks 21 22 (Aw at_)).name 0 at_))
 else if(B6 toks at_).kind=3 then A8 M toks blk at_
 else⟨[],0,at_,11⟩
def Eo:Nat->Int->Cur
 |0,at_=>if isF toks at_ sLB then⟨[],0,at_,5⟩else Ow toks Aw at_
 |k+1,at_=>Ow toks (Kh M toks (Eo k)) at_
def Mu (c:Cur):Cur:=if c.e_=0 then(if(B6 toks c.at_).kind=2 then(if(B6 toks c.at_).n<1\/(B6 toks c.at_).n>16 then⟨c.l,c.n,c.at_,6⟩else⟨c.l,c.n,c.at_+1,0⟩)else⟨c.l,c.n,c.at_,11⟩)else c
def R3 (c:Cur):Int:=if(Mu toks c).e_=0 then(B6 toks c.at_).n else 0
def Ji (c:Cur):Cur:=E6 c (Cq (Dh toks (Aw c.at_)) (nd toks 39 (Ba toks (Aw c.at_)) 0 c.at_))
def Nb (c:Cur):Cur:=if Ez toks sLS c then Az toks sRS (Mu toks (Az toks sLS c))else c
def Zg (c:Cur):Int:=if Ez toks sLS c then R3 toks (Az toks sLS c)else 0
def Nc (c:Cur):Cur:=if(decide (c.e_=0)&& !isF toks c.at_ sRP)then Ej (Ez toks Bz) (fun c=>Ji toks (Az toks Bz c)) (fuel toks) (Ji toks c)else c
def Ln (at_:Int):Cur:=
 if isF toks at_ Ga then
  Cq (Az toks As (Nb toks (Dh toks (Az toks Ga (Aw at_))))) (nd toks 38 (Ba toks (Az toks Ga (Aw at_))) (Zg toks (Dh toks (Az toks Ga (Aw at_)))) at_)
 else if isF toks at_ Gg then
  Cq (inC (Eo M toks 24) (Az toks sRP (Nc toks (Az toks sLP (Dh toks (Az toks Gg (Aw at_))))))) (nd toks 40 (Ba toks (Az toks Gg (Aw at_))) 0 at_)
 else Cq (inC (Eo M toks 24) (Az toks N5 (Aw at_))) (nd toks 41 [] 0 at_)
def Mv:Cur:=Ej (fun c=>decide (c.e_=0)&& !decide ((B6 toks c.at_).kind=0)) (fun c=>E6 c (Ln M toks c.at_)) (fuel toks) (Aw 0)
def Fy:Ap:=if(Mv M toks).e_≠0 then⟨[],(Mv M toks).at_,(Mv M toks).e_⟩else⟨(Cq (Mv M toks) ⟨42,[],0,0,0⟩).l,0,0⟩
end
structure Cw (toks:List Aq) (at0:Int) (s q:Nat) (c:Cur):Prop where
 z:0<=at0
 lo:at0<=c.at_
 hi:c.at_<=(toks.length:Int)
 w:c.e_=0->(c.l.length:Int)+s<=c.at_-at0
 b:(c.l.length:Int)<=c.at_-at0+q
section
variable {toks:List Aq} {at0:Int} {s q:Nat} {c d:Cur}
theorem Cw.mono {s' q':Nat} (h:Cw toks at0 s q c) (hs:s'<=s) (hq:q<=q'):Cw toks at0 s' q' c:=
 ⟨h.z,h.lo,h.hi,fun e=>by have:=h.w e;omega,by have:=h.b;omega⟩
theorem Df {at_:Int} (h0:0<=at_) (h1:at_<=(toks.length:Int)) (q:Nat):Cw toks at_ 0 q (Aw at_):=⟨h0,Int.le_refl _,h1,fun _=>by simp [Aw],by simp [Aw]⟩
theorem Agx {at_:Int} (h:(toks.length:Int)<=at_):B6 toks at_=⟨0,[],0,0⟩:=by unfold B6;rw [if_neg (by omega)]
theorem Ane {at_:Int} {s:Str} (h:isF toks at_ s=true):at_<(toks.length:Int):=by
 by_cases hl:at_<(toks.length:Int)
 ·exact hl
 ·unfold isF at h
  rw [Agx (by omega)]at h
  simp at h
theorem Xp {at_:Int} (h:(B6 toks at_).kind≠0):at_<(toks.length:Int):=by
 by_cases hl:at_<(toks.length:Int)
 ·exact hl
 ·rw [Agx (by omega)]at h;exact absurd rfl h
theorem Av (t:Str) (h:Cw toks at0 s q c):Cw toks at0 (s+1) q (Az toks t c):=by
 obtain⟨z,lo,hi,w,b⟩:=h
 unfold Az
 split
 ·rename_i he
  split
  ·rename_i hs
   have:=Ane hs
   have:=w he
   exact⟨z,by dsimp only;omega,by dsimp only;omega,fun _=>by dsimp only;omega,by dsimp only;omega⟩
  ·exact⟨z,lo,hi,fun h=>by simp at h,b⟩
 ·rename_i he
  exact⟨z,lo,hi,fun h=>absurd h he,b⟩
theorem Fq (h:Cw toks at0 s q c):Cw toks at0 (s+1) q (Dh toks c):=by
 obtain⟨z,lo,hi,w,b⟩:=h
 unfold Dh
 split
 ·rename_i he
  split
  ·rename_i hs
   have:=Xp (toks:=toks) (at_:=c.at_) (by omega)
   have:=w he
   exact⟨z,by dsimp only;omega,by dsimp only;omega,fun _=>by dsimp only;omega,by dsimp only;omega⟩
  ·exact⟨z,lo,hi,fun h=>by simp at h,b⟩
 ·rename_i he
  exact⟨z,lo,hi,fun h=>absurd h he,b⟩
theorem Aj4 (h:Cw toks at0 s q c):Cw toks at0 (s+1) q (Mu toks c):=by
 obtain⟨z,lo,hi,w,b⟩:=h
 unfold Mu
 split
 ·rename_i he
  split
  ·rename_i hs
   have:=Xp (toks:=toks) (at_:=c.at_) (by omega)
   have:=w he
   split
   ·exact⟨z,lo,hi,fun h=>by simp at h,b⟩
   ·exact⟨z,by dsimp only;omega,by dsimp only;omega,fun _=>by dsimp only;omega,by dsimp only;omega⟩
  ·exact⟨z,lo,hi,fun h=>by simp at h,b⟩
 ·rename_i he
  exact⟨z,lo,hi,fun h=>absurd h he,b⟩
theorem Kr {q' s':Nat} (h:Cw toks at0 s q c) (hd:c.e_=0->Cw toks c.at_ s' q' d) (hq:q'<=q):Cw toks at0 (s+s') q (E6 c d):=by
 obtain⟨z,lo,hi,w,b⟩:=h
 unfold E6
 split
 ·rename_i he
  obtain⟨z',lo',hi',w',b'⟩:=hd he
  have:=w he
  refine⟨z,by dsimp only;omega,hi',fun e=> ?_,?_⟩
  ·have:=w' e
   simp only [List.length_append];omega
  ·simp only [List.length_append];omega
 ·rename_i he
  exact⟨z,lo,hi,fun h=>absurd h he,b⟩
theorem Dt (M:Ed) (h:Cw toks at0 s q c):Cw toks at0 s q (Eg M toks c):=by
 have h0:0<=c.at_:=Int.le_trans h.z h.lo
 refine Kr (s':=0) (q':=0) h (fun _=>⟨h0,M.lo _ _ h0 h.hi,M.hi _ _ h0 h.hi,fun _=> ?_,?_⟩) (Nat.zero_le _)
 ·have:=M.len _ _ h0 h.hi;simpa using this
 ·have:=M.len _ _ h0 h.hi;simpa using this
theorem Cx {x:Aj} (h:Cw toks at0 (s+1) q c):Cw toks at0 s (q+1) (Cq c x):=by
 obtain⟨z,lo,hi,w,b⟩:=h
 refine⟨z,lo,hi,fun e=> ?_,?_⟩
 ·have:=w e
  simp only [Cq,List.length_cons];omega
 ·simp only [Cq,List.length_cons];omega
theorem Cw.z1 (h:Cw toks at0 s q c):0<=c.at_:=Int.le_trans h.z h.lo
theorem Ai1 {at_ e:Int} (h0:0<=at_) (h1:at_<=(toks.length:Int)) (he:e≠0) (s q:Nat):Cw toks at_ s q ⟨[],0,at_,e⟩:=⟨h0,Int.le_refl _,h1,fun h=>absurd h he,by simp⟩
theorem Aj5 (M:Ed) (h:Cw toks at0 s q c):Cw toks at0 s q (R2 M toks c):=by
 unfold R2
 split
 ·exact(Av _ (Dt M (Av _ h))).mono (by omega) (Nat.le_refl _)
 ·exact h
theorem Anf (M:Ed) {at_:Int} (h0:0<=at_) (h1:at_<=(toks.length:Int)):Cw toks at_ 0 1 (So M toks at_):=
 Cx (Aj5 M (Fq (Df h0 h1 0)))
theorem Ang (M:Ed) (a b:Int) (h:Cw toks at0 s q c):Cw toks at0 (s+1) q (Ox M toks a b c).c:=by
 unfold Ox
 split
 ·exact Dt M (Av _ h)
 ·exact(Fq (Av _ h)).mono (by omega) (Nat.le_refl _)
theorem Aeb (M:Ed) (a b:Int) (h:Cw toks at0 s q c) (hq:1<=q):Cw toks at0 (s+1) q (Gi M toks a b c).c:=by
 unfold Gi
 split
 ·exact Ang M a b (Kr h (fun _=>Anf M h.z1 h.hi) hq)
 ·rename_i he
  exact⟨h.z,h.lo,h.hi,fun h=>absurd h he,h.b⟩
theorem Q3 {g:Cur->Bool} {b:Cur->Cur} (hb:∀c,Cw toks at0 s q c->g c=true->Cw toks at0 s q (b c)):∀(f:Nat) (c:Cur),Cw toks at0 s q c->Cw toks at0 s q (Ej g b f c)
 |0,c,h=>h
 |f+1,c,h=>by
  unfold Ej
  cases hg:g c with
  |true=>rw [if_pos rfl];exact Q3 hb f _ (hb c h hg)
  |false=>rw [if_neg (by simp)];exact h
theorem Agy {stmt:Int->Cur} (hs:∀at_,0<=at_->at_<=(toks.length:Int)->Cw toks at_ 0 q (stmt at_)) {at_:Int} (h0:0<=at_) (h1:at_<=(toks.length:Int)):Cw toks at_ 1 (q+1) (Ow toks stmt at_):=
 Cx (Av _ (Q3 (s:=1) (fun _ h _=>Kr h (fun _=>hs _ h.z1 h.hi) (Nat.le_refl _)) _ _ (Av _ (Df h0 h1 q))))
def Blk (toks:List Aq) (q:Nat) (blk:Int->Cur):Prop:=∀at_,0<=at_->at_<=(toks.length:Int)->Cw toks at_ 1 q (blk at_)
theorem Mw {blk:Int->Cur} {q':Nat} (hb:Blk toks q' blk) (h:Cw toks at0 s q c) (hq:q'<=q):Cw toks at0 (s+1) q (inC blk c):=
 Kr h (fun _=>hb _ h.z1 h.hi) hq
theorem Aj6 (M:Ed) (h:Cw toks at0 s q c):Cw toks at0 s q (Ha M toks c):=by
 unfold Ha
 split
 ·exact(Av _ (Dt M (Av _ h))).mono (by omega) (Nat.le_refl _)
 ·exact h
theorem Agz (M:Ed) (h:Cw toks at0 s q c) (hq:1<=q):Cw toks at0 s q (Dd M toks c).c:=by
 unfold Dd
 split
 ·exact(Dt M (Av _ h)).mono (by omega) (Nat.le_refl _)
 ·exact(Aeb M _ _ h hq).mono (by omega) (Nat.le_refl _)
theorem Vj (M:Ed) {blk:Int->Cur} (hb:Blk toks q blk) (hq:1<=q) {at_:Int} (h0:0<=at_) (h1:at_<=(toks.length:Int)):Cw toks at_ 1 (q+1) (Dy M toks blk at_):=by
 unfold Dy
 split
 ·exact Cx (Mw hb (Av _ (Df h0 h1 q)) (Nat.le_refl _))
 ·exact Cx (Mw hb (Agz M (Aj6 M (Av _ (Df h0 h1 q))) hq) (Nat.le_refl _))
theorem Aj7 (M:Ed) (h:Cw toks at0 s q c):Cw toks at0 s q (O5 M toks c):=by
 unfold O5
 refine(Av (s:=s) _ ?_).mono (by omega) (Nat.le_refl _)
 split
 ·exact Q3 (fun _ h _=>(Dt M (Av _ h)).mono (by omega) (Nat.le_refl _)) _ _ ((Dt M (Av _ h)).mono (by omega) (Nat.le_refl _))
 ·exact(Av _ h).mono (by omega) (Nat.le_refl _)
theorem As3 (M:Ed) {at_:Int} (h0:0<=at_) (h1:at_<=(toks.length:Int)):Cw toks at_ 1 1 (Vi M toks at_):=by
 unfold Vi
 split
 ·exact(Cx (Av _ (Av _ (Dt M (Av _ (Av _ (Av _ (Fq (Df h0 h1 0))))))))).mono (by omega) (Nat.le_refl _)
 ·exact(Cx (Av _ (Dt M (Av _ (Fq (Df h0 h1 0)))))).mono (by omega) (Nat.le_refl _)
theorem Ap8 (M:Ed) {blk:Int->Cur} (hb:Blk toks q blk) (hq:1<=q) {at_:Int} (h0:0<=at_) (h1:at_<=(toks.length:Int)):Cw toks at_ 1 (q+2) (A8 M toks blk at_):=by
 have hf:=Df h0 h1 q
 have h11:=Ai1 (toks:=toks) h0 h1 (e:=11) (by decide) 1 (q+2)
 unfold A8
 dsimp only
 split
 ·exact(Cx (Av _ (Dt M (Av _ (Fq (Av _ hf)))))).mono (by omega) (by omega)
 split
 ·exact(Cx (Av _ (Aj7 M (Fq (Av _ hf))))).mono (by omega) (by omega)
 split
 ·exact(Cx (Av _ (Dt M (Av _ hf)))).mono (by omega) (by omega)
 split
 ·exact(Cx (Av _ (Dt M (Av _ hf)))).mono (by omega) (by omega)
 split
 ·exact(Cx (Av _ (Dt M (Av _ hf)))).mono (by omega) (by omega)
 split
 ·exact(Cx (Av _ (Av _ hf))).mono (by omega) (by omega)
 split
 ·exact(Cx (Av _ (Av _ hf))).mono (by omega) (by omega)
 split
 ·exact(Cx (Mw hb (Dt M (Av _ hf)) (Nat.le_refl _))).mono (by omega) (by omega)
 split
 ·have hi:=Mw hb (Dt M (Av sIf hf)) (Nat.le_refl _)
  refine(Cx (s:=1) (q:=q) ?_).mono (by omega) (by omega)
  unfold ifC
  split
  ·exact(Mw hb (Av _ hi) (Nat.le_refl _)).mono (by omega) (Nat.le_refl _)
  ·exact hi
 split
 ·refine(Cx (s:=2) (q:=q+1) (Av _ ?_)).mono (by omega) (by omega)
  unfold Ai0
  have hf':=(Av sLB (Av D1 hf)).mono (q':=q+1) (Nat.le_refl _) (by omega)
  exact Q3 (s:=2) (fun _ h _=>(Kr h (fun _=>Vj M hb hq h.z1 h.hi) (Nat.le_refl _)).mono (by omega) (Nat.le_refl _)) _ _ ((Kr hf' (fun _=>Vj M hb hq hf'.z1 hf'.hi) (Nat.le_refl _)).mono (by omega) (Nat.le_refl _))
 ·exact h11
theorem Aj8 (M:Ed) {blk:Int->Cur} (hb:Blk toks q blk) (hq:1<=q) {at_:Int} (h0:0<=at_) (h1:at_<=(toks.length:Int)):Cw toks at_ 1 (q+2) (Kh M toks blk at_):=by
 unfold Kh
 split
 ·split
  ·exact(As3 M h0 h1).mono (by omega) (by omega)
  ·exact(Cx (Av _ (Aeb M _ _ (Df h0 h1 q) hq))).mono (by omega) (by omega)
 ·split
  ·exact Ap8 M hb hq h0 h1
  ·exact Ai1 h0 h1 (by decide) _ _
theorem Sp (M:Ed):∀k,Blk toks (3*k+2) (Eo M toks k)
 |0,at_,h0,h1=>by
  unfold Eo
  split
  ·exact Ai1 h0 h1 (by decide) _ _
  ·exact(Agy (fun a h0 h1=>Df h0 h1 1) h0 h1).mono (by omega) (by omega)
 |k+1,at_,h0,h1=>by
  unfold Eo
  exact(Agy (fun a h0 h1=>(Aj8 M (Sp M k) (by omega) h0 h1).mono (by omega) (Nat.le_refl _)) h0 h1).mono (by omega) (by omega)
theorem T9 (h:Cw toks at0 s q c) (hq:1<=q):Cw toks at0 s q (Ji toks c):=
 Kr h (fun _=>Cx (Fq (Df h.z1 h.hi 0))) hq
theorem Ag0 (h:Cw toks at0 s q c) (hq:1<=q):Cw toks at0 s q (Nc toks c):=by
 unfold Nc
 split
 ·exact Q3 (fun _ h _=>(T9 (Av _ h) hq).mono (by omega) (Nat.le_refl _)) _ _ (T9 h hq)
 ·exact h
theorem Ag1 (h:Cw toks at0 s q c):Cw toks at0 s q (Nb toks c):=by
 unfold Nb
 split
 ·exact(Av _ (Aj4 (Av _ h))).mono (by omega) (Nat.le_refl _)
 ·exact h
theorem Aj9 (M:Ed) {at_:Int} (h0:0<=at_) (h1:at_<=(toks.length:Int)):Cw toks at_ 1 100 (Ln M toks at_):=by
 have hf:=Df h0 h1 80
 unfold Ln
 split
 ·exact(Cx (Av _ (Ag1 (Fq (Av _ hf))))).mono (by omega) (by omega)
 split
 ·exact(Cx (Mw (Sp M 24) (Av _ (Ag0 (Av _ (Fq (Av _ hf))) (by omega))) (by omega))).mono (by omega) (by omega)
 ·exact(Cx (Mw (Sp M 24) (Av _ hf) (by omega))).mono (by omega) (by omega)
def LI (toks:List Aq) (g:Cur->Bool) (b:Cur->Cur) (F:Cur) (f:Nat) (c:Cur):Prop:=Ej g b f c=F/\(c.e_=0->(toks.length:Int)+2<=f+c.at_)
theorem LI.start {g:Cur->Bool} {b:Cur->Cur} (h:Cw toks at0 s q c):LI toks g b (Ej g b (fuel toks) c) (fuel toks) c:=⟨rfl,fun _=>by have:=h.z1;unfold fuel;omega⟩
theorem LI.step {g:Cur->Bool} {b:Cur->Cur} {F:Cur} {f:Nat} (h:LI toks g b F f c) (hg:g c=true) (he:c.e_=0) (hh:c.at_<=(toks.length:Int)) (ha:(b c).e_=0->c.at_+1<=(b c).at_):∃f',f'<f/\LI toks g b F f' (b c):=by
 have h2:=h.2 he
 obtain⟨f,rfl⟩:∃f',f=f'+1:=⟨f-1,by omega⟩
 refine⟨f,by omega,?_,fun e=>by have:=ha e;omega⟩
 have:=h.1
 rw [Ej,hg,if_pos rfl]at this
 exact this
theorem LI.stop {g:Cur->Bool} {b:Cur->Cur} {F:Cur} {f:Nat} (h:LI toks g b F f c) (hg:g c=false):c=F:=by
 have:=h.1
 cases f with
 |zero=>exact this
 |succ f=>rw [Ej,hg,if_neg (by simp)]at this;exact this
theorem Aec {s' q':Nat} (h:Cw toks c.at_ (s'+1) q' d) (he:c.e_=0) (hd:(E6 c d).e_=0):c.at_+1<=(E6 c d).at_:=by
 unfold E6 at hd⊢
 rw [if_pos he]at hd⊢
 have:=h.w hd
 dsimp only
 omega
theorem Aka (M:Ed):Cw toks 0 0 100 (Mv M toks):=
 Q3 (fun _ h _=>(Kr h (fun _=>Aj9 M h.z1 h.hi) (Nat.le_refl _)).mono (by omega) (Nat.le_refl _)) _ _ (Df (Int.le_refl _) (by omega) _)
end
end Go.Proofs.YtcakelelfklhdaaGreatDoor
namespace Go.Proofs.YtcakelelfklhdaaGreatDoor
open Go.Vc Go.Lv Go.Ty
section
variable {toks:List Aq} {at0:Int} {s q:Nat} {c d:Cur}
theorem Ml {at_:Int} (h0:0<=at_) (K:Aq->Prop) (h:K (B6 toks at_)):Dp toks at_ K:=by
 refine Adn _ _ _ (Ag (fun hc=> ?_) fun hc=> ?_)
 ·have hlt:at_<(toks.length:Int):=by simpa using hc
  refine⟨⟨h0,hlt⟩,fun x hx=> ?_⟩
  unfold B6 at h
  rw [if_pos hlt,hx]at h;exact h
 ·have hlt:¬at_<(toks.length:Int):=by simpa using hc
  unfold B6 at h
  rw [if_neg hlt]at h;exact h
theorem Ap9 (x:Aq) (t:Str) (K:Bool->Prop) (h:K ((x.kind==3||x.kind==4)&&(x.text==t))):cond (x.kind==3) (K (x.text==t)) (cond (x.kind==4) (K (x.text==t)) (K false)):=by
 refine Ag (fun h3=> ?_) fun h3=>Ag (fun h4=> ?_) fun h4=> ?_
 ·rw [h3]at h;exact h
 ·rw [h3,h4]at h;exact h
 ·rw [h3,h4]at h;exact h
theorem Wb {at_:Int} (h0:0<=at_) (t:Str) (K:Bool->Prop) (h:K (isF toks at_ t)):Cm toks at_ t K:=
 Agf _ _ _ _ (Ml h0 _ (Ap9 _ t K h))
theorem H9 {at_:Int} (K:Cur->Prop) (h:K (Aw at_)):D6 at_ K:=Aau _ _ h
theorem Aed {e at_:Int} (h0:0<=at_) (t:Str) {A B:Prop} (hA:(decide (e=0)&&isF toks at_ t)=true->A) (hB:(decide (e=0)&&isF toks at_ t)=false->B):
 ∃J1:Bool->Prop,(cond (e==0) (Cm toks at_ t (fun x=>J1 x)) (J1 false))/\∀x,J1 x->cond x A B:=by
 refine⟨fun x=>x=(decide (e=0)&&isF toks at_ t),Ag (fun he=> ?_) (fun he=> ?_),?_⟩
 ·have he:e=0:=by simpa using he
  subst he
  exact Wb h0 t _ rfl
 ·have he:¬e=0:=by simpa using he
  show false=_
  rw [decide_eq_false he];rfl
 ·rintro _ rfl
  exact Ag hA hB
theorem Ag2 {e at_:Int} (h0:0<=at_) (t:Str) {A B:Prop} (hA:(decide (e=0)&& !isF toks at_ t)=true->A) (hB:(decide (e=0)&& !isF toks at_ t)=false->B):
 ∃J1:Bool->Prop,(cond (e==0) (Cm toks at_ t (fun x=>J1 (!x))) (J1 false))/\∀x,J1 x->cond x A B:=by
 refine⟨fun x=>x=(decide (e=0)&& !isF toks at_ t),Ag (fun he=> ?_) (fun he=> ?_),?_⟩
 ·have he:e=0:=by simpa using he
  subst he
  exact Wb h0 t _ rfl
 ·have he:¬e=0:=by simpa using he
  show false=_
  rw [decide_eq_false he];rfl
 ·rintro _ rfl
  exact Ag hA hB
theorem B2 (hN:toks.length<1000000) (hc:Cw toks at0 s q c) (t:Str) (K:Cur->Prop) (h:K (Az toks t c)):Ak c toks t K:=by
 have h0:=hc.z1
 have h1:=hc.hi
 refine U6 _ _ _ _ ⟨fun l n a e=>l=c.l/\n=c.n/\a=c.at_/\e=if decide (c.e_=0)&& !isF toks c.at_ t then 11 else c.e_,Ag2 h0 t (fun hA=>⟨rfl,rfl,rfl,by rw [if_pos hA]⟩) (fun hB=>⟨rfl,rfl,rfl,by rw [if_neg (by rw [hB];simp)]⟩),?_⟩
 rintro _ _ _ _ ⟨rfl,rfl,rfl,rfl⟩
 refine⟨fun l n a e=>⟨l,n,a,e⟩=Az toks t c,?_,fun _ _ _ _ he=>by rw [he];exact h⟩
 unfold Az
 by_cases he:c.e_=0
 ·rw [if_pos he]
  cases hi:isF toks c.at_ t with
  |true=>
   rw [decide_eq_true he]
   have:=Ane hi
   refine Em (by rw [he];rfl) ?_
   show _=_
   rw [A1 (by omega) (by omega),he];rfl
  |false=>
   rw [decide_eq_true he]
   exact A7 rfl rfl
 ·rw [if_neg he,decide_eq_false he]
  refine A7 (by simpa using he) ?_
  rfl
theorem Qj (K:Cur->Prop) (hl:c.e_=0->c.l.length+d.l.length<2^32) (h:K (E6 c d)):Dc c d K:=by
 refine U7 _ _ _ (Ag (fun he=> ?_) fun he=> ?_)
 ·have he:¬c.e_=0:=by simpa using he
  unfold E6 at h;rw [if_neg he]at h;exact h
 ·have he:c.e_=0:=by simpa using he
  unfold E6 at h;rw [if_pos he]at h
  have:=hl he
  exact⟨by omega,this,h⟩
theorem D3 (x:Aj) (K:Cur->Prop) (hl:c.l.length<2^31) (h:K (Cq c x)):Ay c x K:=
 Sk _ _ _ ⟨by simp only [List.length_cons,List.length_nil];omega,h⟩
theorem Cw.len (hN:toks.length<1000000) (hc:Cw toks at0 s q c) (hq:q<=1000):c.l.length<2000000:=by
 have:=hc.b;have:=hc.lo;have:=hc.hi;have:=hc.z
 omega
theorem Cw.sum {q' s':Nat} (hN:toks.length<1000000) (hc:Cw toks at0 s q c) (hd:Cw toks c.at_ s' q' d) (hq:q<=1000) (hq':q'<=1000):c.l.length+d.l.length<2^32:=by
 have:=hc.len hN hq;have:=hd.len hN hq'
 omega
theorem Ja (M:Ed) (hN:toks.length<1000000) (hc:Cw toks at0 s q c) (hq:q<=1000) (K:Cur->Prop) (h:K (Eg M toks c)):Bj c toks K:=by
 have h0:=hc.z1
 refine Tv _ _ _ (Ag (fun he=> ?_) fun he=> ?_)
 ·have he:¬c.e_=0:=by simpa using he
  unfold Eg E6 at h;rw [if_neg he]at h;exact h
 ·refine M.rv toks (by omega) _ h0 hc.hi _ (Qj _ (fun _=> ?_) h)
  have h1:=hc.len hN hq
  have h2:=M.len toks _ h0 hc.hi
  have h3:=M.hi toks _ h0 hc.hi
  dsimp only
  omega
theorem Mx (hN:toks.length<1000000) (hc:Cw toks at0 s q c) (K:Cur->Str->Prop) (h:K (Dh toks c) (Ba toks c)):Db c toks K:=by
 have h0:=hc.z1
 have h1:=hc.hi
 refine Tw _ _ _ (Ml h0 _ ⟨fun l n a e=>l=c.l/\n=c.n/\a=c.at_/\e=if c.e_=0/\(B6 toks c.at_).kind≠1 then 11 else c.e_,?_,?_⟩)
 ·refine⟨fun x=>x=decide (c.e_=0/\(B6 toks c.at_).kind≠1),Ag (fun he=> ?_) (fun he=> ?_),?_⟩
  ·have he:c.e_=0:=by simpa using he
   show _=_
   rw [Bool.eq_iff_iff];simp [he]
  ·have he:¬c.e_=0:=by simpa using he
   show false=_
   rw [decide_eq_false (fun h=>he h.1)]
  ·rintro _ rfl
   refine Ag (fun hh=>⟨rfl,rfl,rfl,by rw [if_pos (of_decide_eq_true hh)]⟩) (fun hh=>⟨rfl,rfl,rfl,by rw [if_neg (of_decide_eq_false hh)]⟩)
 ·rintro _ _ _ _ ⟨rfl,rfl,rfl,rfl⟩
  unfold Dh Ba at h
  by_cases he:c.e_=0
  ·rw [if_pos he,if_pos he]at h
   by_cases hk:(B6 toks c.at_).kind=1
   ·rw [if_pos hk,if_pos hk]at h
    have:=Xp (toks:=toks) (at_:=c.at_) (by omega)
    rw [if_neg (fun hh=>hh.2 hk)]
    refine A7 (by simpa using he) ?_
    rw [A1 (by omega) (by omega),he];exact h
   ·rw [if_neg hk,if_neg hk]at h
    rw [if_pos ⟨he,hk⟩];exact h
  ·rw [if_neg he,if_neg he]at h
   rw [if_neg (fun hh=>he hh.1)]
   exact Em (by simpa using he) h
theorem As4 (M:Ed) (hN:toks.length<1000000) {at_:Int} (h0:0<=at_) (h1:at_<=(toks.length:Int)) (K:Cur->Prop) (h:K (So M toks at_)):Uz toks at_ K:=by
 have hf:=Df h0 h1 0
 have hn:=Fq hf
 refine Adh _ _ _ (H9 _ (Mx hN hf _ ⟨fun l n a e=>⟨l,n,a,e⟩=R2 M toks (Dh toks (Aw at_)),Aed hn.z1 sLS (fun hA=> ?_) (fun hB=> ?_),?_⟩))
 ·have e1:=Av sLS hn
  refine B2 hN hn sLS _ (Ja M hN e1 (by omega) _ (B2 hN (Dt M e1) sRS _ ?_))
  unfold R2;rw [if_pos (show Ez toks sLS _=true from hA)]
 ·unfold R2;rw [if_neg (by rw [show Ez toks sLS _=false from hB];simp)]
 ·intro l n a e he
  refine Ml h0 _ ?_
  rw [he]
  exact D3 _ _ (by have:=(Aj5 M hn).len hN (by omega);omega) h
theorem Zh {q':Nat} (hN:toks.length<1000000) {blk:Int->Cur} {deep:Int} (hb:Blk toks q' blk) (hq':q'<=1000) (hB:∀at_,0<=at_->at_<=(toks.length:Int)->∀K:Cur->Prop,K (blk at_)->K5 toks at_ deep K)
 (hc:Cw toks at0 s q c) (hq:q<=1000) (K:Cur->Prop) (h:K (inC blk c)):Es c toks deep K:=by
 refine Xg _ _ _ _ (Ag (fun he=> ?_) fun he=> ?_)
 ·have he:¬c.e_=0:=by simpa using he
  unfold inC E6 at h;rw [if_neg he]at h;exact h
 ·exact hB _ hc.z1 hc.hi _ (Qj _ (fun _=>hc.sum hN (hb _ hc.z1 hc.hi) hq hq') h)
theorem Akb (M:Ed) (hN:toks.length<1000000) (a b:Int) (hc:Cw toks at0 s q c) (h1q:1<=q) (hq:q<=1000) (K:Cur->Int->Str->Prop) (h:K (Gi M toks a b c).c (Gi M toks a b c).op (Gi M toks a b c).name):J7 c toks a b K:=by
 refine Tx _ _ _ _ _ (Ag (fun he=> ?_) fun he=> ?_)
 ·have he:¬c.e_=0:=by simpa using he
  unfold Gi at h;rw [if_neg he]at h;exact h
 ·have he:c.e_=0:=by simpa using he
  unfold Gi at h;rw [if_pos he]at h
  have hr:=Anf M hc.z1 hc.hi
  have ha:=Kr hc (fun _=>hr) h1q
  refine⟨fun l n x e=>⟨l,n,x,e⟩=E6 c (So M toks c.at_),As4 M hN hc.z1 hc.hi _ (Qj _ (fun _=>hc.sum hN hr hq (by omega)) rfl),?_⟩
  intro l n x e hx
  rw [←hx]at h ha
  refine Aed ha.z1 C5 (fun hA=> ?_) (fun hB=> ?_)
  ·unfold Ox at h
   rw [if_pos (show Ez toks C5 ⟨l,n,x,e⟩=true from hA)]at h
   exact B2 hN ha C5 _ (Ja M hN (Av _ ha) hq _ h)
  ·unfold Ox at h
   rw [if_neg (by rw [show Ez toks C5 ⟨l,n,x,e⟩=false from hB];simp)]at h
   exact B2 hN ha Gt _ (Mx hN (Av _ ha) _ h)
theorem Aee {t:Str} (h:(decide (c.e_=0)&&isF toks c.at_ t)=true):Az toks t c=⟨c.l,c.n,c.at_+1,0⟩:=by
 simp only [Bool.and_eq_true,decide_eq_true_eq]at h
 unfold Az
 rw [if_pos h.1,if_pos h.2]
theorem Aqa (M:Ed) (hc:Cw toks at0 s q c) (he:c.e_=0):c.at_<=(Eg M toks c).at_:=by
 unfold Eg E6
 rw [if_pos he]
 exact M.lo _ _ hc.z1 hc.hi
theorem Aqb (M:Ed) (hN:toks.length<1000000) (hc:Cw toks at0 s q c) (hq:q<=1000) (K:Cur->Prop) (h:K (O5 M toks c)):Mb c toks K:=by
 have e1:=Av sLP hc
 refine Tz _ _ _ (B2 hN hc sLP _ ?_)
 unfold O5 at h
 refine⟨fun l n a e=>K (Az toks sRP ⟨l,n,a,e⟩)/\Cw toks at0 s q ⟨l,n,a,e⟩,Ag2 e1.z1 sRP (fun hA=> ?_) (fun hB=> ?_),?_⟩
 ·rw [if_pos hA]at h
  have t1:=(Dt M e1).mono (s':=s) (by omega) (Nat.le_refl _)
  refine Ja M hN e1 hq _ ⟨fun l n a e f=>Cw toks at0 s q ⟨l,n,a,e⟩/\LI toks (Ez toks Bz) (fun c=>Eg M toks (Az toks Bz c)) (Ej (Ez toks Bz) (fun c=>Eg M toks (Az toks Bz c)) (fuel toks) (Eg M toks (Az toks sLP c))) f ⟨l,n,a,e⟩,⟨_,t1,LI.start t1⟩,?_⟩
  rintro l n a e f ⟨hw,hl⟩
  refine Aed hw.z1 Bz (fun hA=> ?_) (fun hB=> ?_)
  ·have e2:=Av Bz hw
   refine B2 hN hw Bz _ (Ja M hN e2 hq _ ?_)
   have hw2:=Dt M e2
   have hst:=hl.step hA (by simp at hA;exact hA.1) hw.hi (fun hd=> ?_)
   ·obtain⟨f',hf',hl'⟩:=hst
    exact⟨f',hf',hw2.mono (by omega) (Nat.le_refl _),hl'⟩
   ·have hs:=Aee (c:=⟨l,n,a,e⟩) hA
    have:=Aqa M e2 (by rw [hs])
    rw [hs]at this⊢
    exact this
  ·rw [←hl.stop hB]at h
   exact⟨h,hw⟩
 ·rw [if_neg (by rw [hB];simp)]at h
  exact⟨h,e1.mono (by omega) (Nat.le_refl _)⟩
 ·rintro l n a e ⟨h,hw⟩
  exact B2 hN hw sRP _ h
end
end Go.Proofs.YtcakelelfklhdaaGreatDoor
namespace Go.Proofs.YtcakelelfklhdaaGreatDoor
open Go.Vc Go.Lv Go.Ty
section
variable {toks:List Aq} {at0:Int} {s q:Nat} {c d:Cur}
theorem As5 (M:Ed) (hN:toks.length<1000000) {at_:Int} (h0:0<=at_) (h1:at_<=(toks.length:Int)) (K:Cur->Prop) (h:K (Vi M toks at_)):U0 toks at_ ⟨0,[],0,0,(B6 toks at_).at_⟩ K:=by
 have hf:=Df h0 h1 0
 have hn:=Fq hf
 have e1:=Av sEq hn
 refine Adi _ _ _ _ (H9 _ (Mx hN hf _ (B2 hN hn sEq _ ?_)))
 refine⟨fun l n a e op nm N kids at'=>nm=Ba toks (Aw at_)/\N=0/\kids=0/\at'=(B6 toks at_).at_/\Cw toks at_ 1 0 ⟨l,n,a,e⟩/\Vi M toks at_=Cq (Az toks As ⟨l,n,a,e⟩) (nd toks op (Ba toks (Aw at_)) 0 at_),Aed e1.z1 Gq (fun hA=> ?_) (fun hB=> ?_),?_⟩
 ·have e2:=Av Gq e1
  have e3:=Av sLP e2
  have e4:=Dt M e3
  have e5:=Av sRP e4
  refine B2 hN e1 Gq _ (B2 hN e2 sLP _ (Ja M hN e3 (by omega) _ (B2 hN e4 sRP _ ⟨rfl,rfl,rfl,rfl,e5.mono (by omega) (by omega),?_⟩)))
  unfold Vi;rw [if_pos (show Ez toks Gq _=true from hA)]
 ·have e4:=Dt M e1
  refine Ja M hN e1 (by omega) _ ⟨rfl,rfl,rfl,rfl,e4.mono (by omega) (by omega),?_⟩
  unfold Vi;rw [if_neg (by rw [show Ez toks Gq _=false from hB];simp)]
 ·rintro l n a e op nm N kids at' ⟨rfl,rfl,rfl,rfl,hw,he⟩
  rw [he]at h
  exact B2 hN hw As _ (D3 _ _ (by have:=(Av As hw).len hN (by omega);omega) h)
def RB (M:Ed) (toks:List Aq) (k:Nat):Prop:=∀at_,0<=at_->at_<=(toks.length:Int)->∀K:Cur->Prop,K (Eo M toks k at_)->K5 toks at_ (25-(k:Int)) K
def RS (M:Ed) (toks:List Aq) (k:Nat):Prop:=∀at_,0<=at_->at_<=(toks.length:Int)->∀K:Cur->Prop,K (Kh M toks (Eo M toks k) at_)->Ma toks at_ (24-(k:Int)) K
theorem Q4 {k:Nat} (hk:k<=24):IntKind.i64.wrap ((24-(k:Int))+1)=25-(k:Int):=by rw [A1 (by omega) (by omega)];omega
theorem Abz (M:Ed) (hN:toks.length<1000000) {k:Nat} (hk:k<=24) (hB:RB M toks k) {at_:Int} (h0:0<=at_) (h1:at_<=(toks.length:Int)) (K:Cur->Prop) (h:K (Dy M toks (Eo M toks k) at_)):Lw toks at_ (24-(k:Int)) K:=by
 have hb:=Sp (toks:=toks) M k
 have hf:=Df h0 h1 200
 refine Xc _ _ _ _ (Ml h0 _ (Wb h0 Dq _ (Ag (fun hA=> ?_) fun hA=> ?_)))
 ·unfold Dy at h;rw [if_pos hA]at h
  have e1:=Av Dq hf
  have i1:=Mw hb e1 (by omega)
  refine H9 _ (B2 hN hf Dq _ ?_)
  rw [Q4 hk]
  exact Zh hN hb (by omega) hB e1 (by omega) _ (D3 _ _ (by have:=i1.len hN (by omega);omega) h)
 ·unfold Dy at h;rw [if_neg (by rw [hA];simp)]at h
  have e1:=Av Bq hf
  refine H9 _ (B2 hN hf Bq _ ?_)
  generalize hc1:Az toks Bq (Aw at_)=c1 at h e1
  have w1:=Aj6 M e1
  refine⟨fun l n a e op nm N kids at'=>op=0/\nm=[]/\N=Mk toks c1/\kids=0/\at'=(B6 toks at_).at_/\⟨l,n,a,e⟩=Ha M toks c1,Aed e1.z1 Ef (fun hA=> ?_) (fun hB=> ?_),?_⟩
  ·have e2:=Av Ef e1
   refine B2 hN e1 Ef _ (Ja M hN e2 (by omega) _ (B2 hN (Dt M e2) Ee _ ⟨rfl,rfl,?_,rfl,rfl,?_⟩))
   ·unfold Mk;rw [if_pos (show Ez toks Ef c1=true from hA)]
   ·unfold Ha;rw [if_pos (show Ez toks Ef c1=true from hA)]
  ·refine⟨rfl,rfl,?_,rfl,rfl,?_⟩
   ·unfold Mk;rw [if_neg (by rw [show Ez toks Ef c1=false from hB];simp)]
   ·unfold Ha;rw [if_neg (by rw [show Ez toks Ef c1=false from hB];simp)]
  ·rintro l n a e _ _ _ _ _ ⟨rfl,rfl,rfl,rfl,rfl,hx⟩
   generalize Ha M toks c1=c2 at h w1 hx
   subst hx
   have a1:=Agz M w1 (by omega)
   refine⟨fun l1 n1 a1 e1 op nm N kids at'=>op=(Dd M toks ⟨l,n,a,e⟩).op/\nm=(Dd M toks ⟨l,n,a,e⟩).name/\N=Mk toks c1/\kids=0/\at'=(B6 toks at_).at_/\⟨l1,n1,a1,e1⟩=(Dd M toks ⟨l,n,a,e⟩).c,Aed w1.z1 D7 (fun hA=> ?_) (fun hB=> ?_),?_⟩
   ·have e2:=Av D7 w1
    refine B2 hN w1 D7 _ (Ja M hN e2 (by omega) _ ?_)
    unfold Dd;rw [if_pos (show Ez toks D7 ⟨l,n,a,e⟩=true from hA)]
    exact⟨rfl,rfl,rfl,rfl,rfl,rfl⟩
   ·refine Akb M hN 35 34 w1 (by omega) (by omega) _ ?_
    unfold Dd;rw [if_neg (by rw [show Ez toks D7 ⟨l,n,a,e⟩=false from hB];simp)]
    exact⟨rfl,rfl,rfl,rfl,rfl,rfl⟩
   ·rintro l1 n1 x1 e1 _ _ _ _ _ ⟨rfl,rfl,rfl,rfl,rfl,hx⟩
    rw [hx,Q4 hk]
    have i1:=Mw hb a1 (by omega)
    exact Zh hN hb (by omega) hB a1 (by omega) _ (D3 _ _ (by have:=i1.len hN (by omega);omega) h)
theorem Ai2 (M:Ed) (hN:toks.length<1000000) (t:Str) (op:Int) {at_:Int} (h0:0<=at_) (h1:at_<=(toks.length:Int)) (K:Cur->Prop) (h:K (Agw M toks t op at_)):
 Ak (Aw at_) toks t (fun x16=>Bj x16 toks (fun x17=>Ak x17 toks [59] (fun x18=>Ay x18 (⟨op,[],0,0,(B6 toks at_).at_⟩:Aj) (fun x19=>K x19)))):=by
 have hf:=Df h0 h1 0
 have e1:=Av t hf
 have e2:=Dt M e1
 have e3:=Av As e2
 exact B2 hN hf t _ (Ja M hN e1 (by omega) _ (B2 hN e2 As _ (D3 _ _ (by have:=e3.len hN (by omega);omega) h)))
theorem Akc (hN:toks.length<1000000) (t:Str) (op:Int) {at_:Int} (h0:0<=at_) (h1:at_<=(toks.length:Int)) (K:Cur->Prop) (h:K (Zf toks t op at_)):
 Ak (Aw at_) toks t (fun x16=>Ak x16 toks [59] (fun x18=>Ay x18 (⟨op,[],0,0,(B6 toks at_).at_⟩:Aj) (fun x19=>K x19))):=by
 have hf:=Df h0 h1 0
 have e1:=Av t hf
 have e3:=Av As e1
 exact B2 hN hf t _ (B2 hN e1 As _ (D3 _ _ (by have:=e3.len hN (by omega);omega) h))
theorem Aqc (M:Ed) (hN:toks.length<1000000) {k:Nat} (hk:k<=24) (hB:RB M toks k):RS M toks k:=by
 intro at_ h0 h1 K h
 have hb:=Sp (toks:=toks) M k
 have hf:=Df h0 h1 200
 refine Aaw _ _ _ _ (Ml h0 _ (H9 _ ⟨fun x=>x=(decide ((B6 toks at_).kind=1)&&isF toks (at_+1) sEq),?_,?_⟩))
 ·refine Ag (fun hc=> ?_) fun hc=> ?_
  ·have hk1:(B6 toks at_).kind=1:=by simpa using hc
   rw [A1 (by omega) (by omega)]
   refine Wb (by omega) sEq _ ?_
   rw [decide_eq_true hk1];rfl
  ·have hk1:¬(B6 toks at_).kind=1:=by simpa using hc
   show false=_
   rw [decide_eq_false hk1];rfl
 rintro _ rfl
 unfold Kh at h
 refine Ag (fun hc=> ?_) fun hc=>Ag (fun h1k=> ?_) fun h1k=>Ag (fun h3=> ?_) fun h3=> ?_
 ·simp only [Bool.and_eq_true,decide_eq_true_eq]at hc
  rw [if_pos hc.1,if_pos hc.2]at h
  exact As5 M hN h0 h1 _ h
 ·have hk1:(B6 toks at_).kind=1:=by simpa using h1k
  rw [hk1]at hc
  rw [if_pos hk1,if_neg (by simpa using hc)]at h
  have c1:=Aeb M 21 22 hf (by omega)
  exact Akb M hN 21 22 hf (by omega) (by omega) _ (B2 hN c1 As _ (D3 _ _ (by have:=(Av As c1).len hN (by omega);omega) h))
 ·have hk1:¬(B6 toks at_).kind=1:=by simpa using h1k
  have hk3:¬(B6 toks at_).kind=3:=by simpa using h3
  rw [if_neg hk1,if_neg hk3]at h
  exact h
 ·have hk1:¬(B6 toks at_).kind=1:=by simpa using h1k
  have hk3:(B6 toks at_).kind=3:=by simpa using h3
  rw [if_neg hk1,if_pos hk3]at h
  clear hc h1k h3
  unfold A8 at h
  dsimp only at h
  refine Ag (fun e=> ?_) fun e=> ?_
  ·rw [if_pos (show(B6 toks at_).text=Pg from eq_of_beq e)]at h
   have e1:=Av Pg hf
   have e2:=Fq e1
   have e3:=Av sEq e2
   have e4:=Dt M e3
   have e5:=Av As e4
   exact B2 hN hf Pg _ (Mx hN e1 _ (B2 hN e2 sEq _ (Ja M hN e3 (by omega) _ (B2 hN e4 As _ (D3 _ _ (by have:=e5.len hN (by omega);omega) h)))))
  rw [if_neg (show¬(B6 toks at_).text=Pg from ne_of_beq_false e)]at h
  refine Ag (fun e=> ?_) fun e=> ?_
  ·rw [if_pos (show(B6 toks at_).text=Ff from eq_of_beq e)]at h
   have e1:=Av Ff hf
   have e2:=Fq e1
   have e3:=Aj7 M e2
   have e5:=Av As e3
   exact B2 hN hf Ff _ (Mx hN e1 _ (Aqb M hN e2 (by omega) _ (B2 hN e3 As _ (D3 _ _ (by have:=e5.len hN (by omega);omega) h))))
  rw [if_neg (show¬(B6 toks at_).text=Ff from ne_of_beq_false e)]at h
  refine Ag (fun e=> ?_) fun e=> ?_
  ·rw [if_pos (show(B6 toks at_).text=Kp from eq_of_beq e)]at h
   exact Ai2 M hN Kp 27 h0 h1 _ h
  rw [if_neg (show¬(B6 toks at_).text=Kp from ne_of_beq_false e)]at h
  refine Ag (fun e=> ?_) fun e=> ?_
  ·rw [if_pos (show(B6 toks at_).text=Kq from eq_of_beq e)]at h
   exact Ai2 M hN Kq 28 h0 h1 _ h
  rw [if_neg (show¬(B6 toks at_).text=Kq from ne_of_beq_false e)]at h
  refine Ag (fun e=> ?_) fun e=> ?_
  ·rw [if_pos (show(B6 toks at_).text=Ht from eq_of_beq e)]at h
   exact Ai2 M hN Ht 29 h0 h1 _ h
  rw [if_neg (show¬(B6 toks at_).text=Ht from ne_of_beq_false e)]at h
  refine Ag (fun e=> ?_) fun e=> ?_
  ·rw [if_pos (show(B6 toks at_).text=N3 from eq_of_beq e)]at h
   exact Akc hN N3 30 h0 h1 _ h
  rw [if_neg (show¬(B6 toks at_).text=N3 from ne_of_beq_false e)]at h
  refine Ag (fun e=> ?_) fun e=> ?_
  ·rw [if_pos (show(B6 toks at_).text=N4 from eq_of_beq e)]at h
   exact Akc hN N4 31 h0 h1 _ h
  rw [if_neg (show¬(B6 toks at_).text=N4 from ne_of_beq_false e)]at h
  refine Ag (fun e=> ?_) fun e=> ?_
  ·rw [if_pos (show(B6 toks at_).text=F9 from eq_of_beq e)]at h
   have e1:=Av F9 hf
   have e2:=Dt M e1
   have e3:=Mw hb e2 (by omega)
   refine B2 hN hf F9 _ (Ja M hN e1 (by omega) _ ?_)
   rw [Q4 hk]
   exact Zh hN hb (by omega) hB e2 (by omega) _ (D3 _ _ (by have:=e3.len hN (by omega);omega) h)
  rw [if_neg (show¬(B6 toks at_).text=F9 from ne_of_beq_false e)]at h
  refine Ag (fun e=> ?_) fun e=> ?_
  ·rw [if_pos (show(B6 toks at_).text=sIf from eq_of_beq e)]at h
   have e1:=Av sIf hf
   have e2:=Dt M e1
   have e3:=Mw hb e2 (by omega)
   refine B2 hN hf sIf _ (Ja M hN e1 (by omega) _ ?_)
   rw [Q4 hk]
   refine Zh hN hb (by omega) hB e2 (by omega) _ ?_
   generalize inC (Eo M toks k) (Eg M toks (Az toks sIf (Aw at_)))=c1 at h e3
   refine⟨fun l n a e=>⟨l,n,a,e⟩=ifC toks (Eo M toks k) c1,Aed e3.z1 Dq (fun hA=> ?_) (fun hB'=> ?_),?_⟩
   ·have e4:=Av Dq e3
    refine B2 hN e3 Dq _ (Zh hN hb (by omega) hB e4 (by omega) _ ?_)
    unfold ifC;rw [if_pos (show Ez toks Dq c1=true from hA)]
   ·unfold ifC;rw [if_neg (by rw [show Ez toks Dq c1=false from hB'];simp)]
   ·intro l n a e hx
    rw [hx]
    refine D3 _ _ ?_ h
    unfold ifC
    split
    ·have:=(Mw hb (Av Dq e3) (by omega)).len hN (by omega);omega
    ·have:=e3.len hN (by omega);omega
  rw [if_neg (show¬(B6 toks at_).text=sIf from ne_of_beq_false e)]at h
  refine Ag (fun e=> ?_) fun e=> ?_
  ·rw [if_pos (show(B6 toks at_).text=D1 from eq_of_beq e)]at h
   have e1:=Av D1 hf
   have e2:=Av sLB e1
   refine B2 hN hf D1 _ (B2 hN e1 sLB _ ?_)
   generalize Az toks sLB (Az toks D1 (Aw at_))=c1 at h e2
   have hcl:∀ {a:Int},0<=a->a<=(toks.length:Int)->Cw toks a 1 (3*k+3) (Dy M toks (Eo M toks k) a):=fun ha hb'=>Vj M hb (by omega) ha hb'
   have a1:=(Kr e2 (fun _=>hcl e2.z1 e2.hi) (by omega)).mono (s':=2) (by omega) (Nat.le_refl _)
   refine⟨fun l n a e=>⟨l,n,a,e⟩=E6 c1 (Dy M toks (Eo M toks k) c1.at_),Ag (fun he=> ?_) (fun he=> ?_),?_⟩
   ·exact Abz M hN hk hB e2.z1 e2.hi _ (Qj _ (fun _=>e2.sum hN (hcl e2.z1 e2.hi) (by omega) (by omega)) rfl)
   ·show c1=_
    unfold E6
    rw [if_neg (by simpa using he)]
   ·intro l n a e hx
    rw [←hx]at a1
    unfold Ai0 at h
    rw [←hx]at h
    generalize hF:Ej (fun c=>decide (c.e_=0)&& !isF toks c.at_ sRB) (fun c=>E6 c (Dy M toks (Eo M toks k) c.at_)) (fuel toks) ⟨l,n,a,e⟩=F at h
    refine⟨fun l n a e f=>Cw toks at_ 2 200 ⟨l,n,a,e⟩/\LI toks (fun c=>decide (c.e_=0)&& !isF toks c.at_ sRB) (fun c=>E6 c (Dy M toks (Eo M toks k) c.at_)) F f ⟨l,n,a,e⟩,⟨_,a1,hF▸LI.start a1⟩,?_⟩
    clear hF
    clear hx a1
    rintro l n a e f ⟨hw,hl⟩
    refine Ag2 hw.z1 sRB (fun hA=> ?_) (fun hB'=> ?_)
    ·have he:e=0:=by simp at hA;exact hA.1
     have hcw:=hcl hw.z1 hw.hi
     obtain⟨f',hf',hl'⟩:=hl.step hA he hw.hi (fun hd=>Aec hcw he hd)
     exact Abz M hN hk hB hw.z1 hw.hi _ (Qj _ (fun _=>hw.sum hN hcw (by omega) (by omega)) ⟨f',hf',(Kr hw (fun _=>hcw) (by omega)).mono (by omega) (Nat.le_refl _),hl'⟩)
    ·rw [←hl.stop hB']at h
     exact B2 hN hw sRB _ (D3 _ _ (by have:=(Av sRB hw).len hN (by omega);omega) h)
  rw [if_neg (show¬(B6 toks at_).text=D1 from ne_of_beq_false e)]at h
  exact h
theorem Anh (hN:toks.length<1000000) {stmt:Int->Cur} {deep:Int} {at_:Int} (h0:0<=at_) (h1:at_<=(toks.length:Int)) (hq:q<=900)
 (hS:isF toks at_ sLB=true->∀a,0<=a->a<=(toks.length:Int)->Cw toks a 1 q (stmt a)/\∀K:Cur->Prop,K (stmt a)->Ma toks a deep K) (K:Cur->Prop) (h:K (Ow toks stmt at_)):
 Ak (Aw at_) toks [123] (fun x3=>
 ∃(I:(List Aj)->Int->Int->Int->Nat->Prop),(∃n1,I x3.l x3.n x3.at_ x3.e_ n1)/\
 ∀(l:List Aj) (n:Int) (Av7:Int) (ex:Int) (n1:Nat),I l n Av7 ex n1->
 ∃(J1:Bool->Prop),
 (cond (ex==0) (Cm toks Av7 [125] (fun x5=>J1 (!x5))) (J1 false))/\
 ∀(x4:Bool),J1 x4->
 cond (x4)
 (Ma toks Av7 deep (fun x6=>Dc (⟨l,n,Av7,ex⟩:Ai) x6 (fun x7=>∃n2,n2<n1/\I x7.l x7.n x7.at_ x7.e_ n2)))
 (Ak (⟨l,n,Av7,ex⟩:Ai) toks [125] (fun x8=>Dp toks at_ (fun x9=>Ay x8 (⟨32,[],0,0,x9.at_⟩:Aj) (fun x10=>K x10))))):=by
 have hf:=Df h0 h1 q
 have e1:=Av sLB hf
 refine B2 hN hf sLB _ ?_
 have Ban:(Az toks sLB (Aw at_)).e_=0->isF toks at_ sLB=true:=by
  unfold Az Aw
  dsimp only
  rw [if_pos rfl]
  split
  ·rename_i hx;exact fun _=>hx
  ·intro hx;cases hx
 unfold Ow at h
 generalize Az toks sLB (Aw at_)=c0 at h e1 Ban
 generalize hF:Ej (fun c=>decide (c.e_=0)&& !isF toks c.at_ sRB) (fun c=>E6 c (stmt c.at_)) (fuel toks) c0=F at h
 refine⟨fun l n a e f=>Cw toks at_ 1 q ⟨l,n,a,e⟩/\(e=0->isF toks at_ sLB=true)/\LI toks (fun c=>decide (c.e_=0)&& !isF toks c.at_ sRB) (fun c=>E6 c (stmt c.at_)) F f ⟨l,n,a,e⟩,⟨_,e1,Ban,hF▸LI.start e1⟩,?_⟩
 clear e1 Ban
 rintro l n a e f ⟨hw,hso,hl⟩
 refine Ag2 hw.z1 sRB (fun hA=> ?_) (fun hB'=> ?_)
 ·have he:e=0:=by simp at hA;exact hA.1
  obtain⟨hcw,hst⟩:=hS (hso he) a hw.z1 hw.hi
  obtain⟨f',hf',hl'⟩:=hl.step hA he hw.hi (fun hd=>Aec hcw he hd)
  exact hst _ (Qj _ (fun _=>hw.sum hN hcw (by omega) (by omega)) ⟨f',hf',(Kr hw (fun _=>hcw) (by omega)).mono (by omega) (Nat.le_refl _),fun _=>hso he,hl'⟩)
 ·rw [←hl.stop hB']at h
  exact B2 hN hw sRB _ (Ml h0 _ (D3 _ _ (by have:=(Av sRB hw).len hN (by omega);omega) h))
theorem Ani (M:Ed) (hN:toks.length<1000000):∀k,k<=24->RB M toks k
 |0,_=>fun at_ h0 h1 K h=>by
  refine Qe _ _ _ _ (H9 _ ⟨fun x=>x=isF toks at_ sLB,Wb h0 sLB _ (Ag (fun hc=> ?_) (fun hc=> ?_)),?_⟩)
  ·show decide _=_
   have hc:isF toks at_ sLB=true:=hc
   rw [hc];decide
  ·show false=_
   have hc:isF toks at_ sLB=false:=hc
   rw [hc]
  ·rintro _ rfl
   unfold Eo at h
   refine Ag (fun hc=> ?_) fun hc=> ?_
   ·rw [if_pos hc]at h;exact h
   ·rw [if_neg (by rw [hc];simp)]at h
    exact Anh (q:=0) hN h0 h1 (by omega) (fun hx=>by rw [hc]at hx;cases hx) K h
 |k+1,hk=>fun at_ h0 h1 K h=>by
  have hd:¬(25-((k+1:Nat):Int))>24:=by omega
  refine Qe _ _ _ _ (H9 _ ⟨fun x=>x=false,Wb h0 sLB _ (Ag (fun hc=> ?_) (fun hc=>rfl)),?_⟩)
  ·show decide _=_
   exact decide_eq_false hd
  ·rintro _ rfl
   unfold Eo at h
   have hS:=Aqc M hN (by omega) (Ani M hN k (by omega))
   refine Anh (q:=3*k+4) hN h0 h1 (by omega) (fun _ a ha hb=>⟨Aj8 M (Sp M k) (by omega) ha hb,fun K hK=> ?_⟩) K h
   have:=hS a ha hb K hK
   rw [show(25-((k+1:Nat):Int))=24-(k:Int) by omega]
   exact this
theorem Anj (M:Ed) (hN:toks.length<1000000) (at_:Int) (h0:0<=at_) (h1:at_<=(toks.length:Int)) (K:Cur->Prop) (h:K (Eo M toks 24 at_)):K5 toks at_ 1 K:=
 Ani M hN 24 (Nat.le_refl _) at_ h0 h1 K h
theorem Aqd (hN:toks.length<1000000) (hc:Cw toks at0 s q c) (K:Cur->Int->Prop) (h:K (Mu toks c) (R3 toks c)):Mc c toks K:=by
 have h0:=hc.z1
 have h1:=hc.hi
 unfold R3 at h
 refine T0 _ _ _ (Ml h0 _ ⟨fun l n a e=>l=c.l/\n=c.n/\a=c.at_/\e=if c.e_=0/\(B6 toks c.at_).kind≠2 then 11 else c.e_,?_,?_⟩)
 ·refine⟨fun x=>x=decide (c.e_=0/\(B6 toks c.at_).kind≠2),Ag (fun he=> ?_) (fun he=> ?_),?_⟩
  ·have he:c.e_=0:=by simpa using he
   show _=_
   rw [Bool.eq_iff_iff];simp [he]
  ·have he:¬c.e_=0:=by simpa using he
   show false=_
   rw [decide_eq_false (fun h=>he h.1)]
  ·rintro _ rfl
   exact Ag (fun hh=>⟨rfl,rfl,rfl,by rw [if_pos (of_decide_eq_true hh)]⟩) (fun hh=>⟨rfl,rfl,rfl,by rw [if_neg (of_decide_eq_false hh)]⟩)
 ·rintro _ _ _ _ ⟨rfl,rfl,rfl,rfl⟩
  generalize hx:B6 toks c.at_=x at h
  refine⟨fun l n a e=>l=c.l/\n=c.n/\a=c.at_/\e=if c.e_=0/\x.kind=2/\(x.n<1\/x.n>16)then 6 else if c.e_=0/\x.kind≠2 then 11 else c.e_,?_,?_⟩
  ·refine⟨fun b=>b=decide (c.e_=0/\x.kind=2/\(x.n<1\/x.n>16)),Ag (fun he=>Ag (fun h1'=> ?_) (fun h1'=> ?_)) (fun he=> ?_),?_⟩
   ·show true=_
    have h1':x.n<1:=by simpa using h1'
    have hh:¬(c.e_=0/\x.kind≠2):=by
     intro hh;rw [if_pos hh]at he;simp at he
    rw [if_neg hh]at he
    have he:c.e_=0:=by simpa using he
    rw [decide_eq_true]
    exact⟨he,by
     apply Classical.byContradiction
     intro hk;exact hh ⟨he,hk⟩,.inl h1'⟩
   ·show _=_
    have h1':¬x.n<1:=by simpa using h1'
    have hh:¬(c.e_=0/\x.kind≠2):=by
     intro hh;rw [if_pos hh]at he;simp at he
    rw [if_neg hh]at he
    have he:c.e_=0:=by simpa using he
    have hk:x.kind=2:=by
     apply Classical.byContradiction
     intro hk;exact hh ⟨he,hk⟩
    rw [Bool.eq_iff_iff];simp [he,hk];omega
   ·show false=_
    rw [decide_eq_false]
    rintro⟨h3,h4,_⟩
    rw [if_neg (fun hh=>hh.2 h4),h3]at he
    simp at he
   ·rintro _ rfl
    exact Ag (fun hh=>⟨rfl,rfl,rfl,by rw [if_pos (of_decide_eq_true hh)]⟩) (fun hh=>⟨rfl,rfl,rfl,by rw [if_neg (of_decide_eq_false hh)]⟩)
  ·rintro _ _ _ _ ⟨rfl,rfl,rfl,rfl⟩
   unfold Mu at h
   rw [hx]at h
   by_cases he:c.e_=0
   ·rw [if_pos he]at h
    by_cases hk:x.kind=2
    ·rw [if_pos hk]at h
     have:=Xp (toks:=toks) (at_:=c.at_) (by rw [hx,hk];decide)
     by_cases hr:x.n<1\/x.n>16
     ·rw [if_pos hr,if_neg (by simp)]at h
      rw [if_pos ⟨he,hk,hr⟩];exact h
     ·rw [if_neg hr,if_pos rfl]at h
      rw [if_neg (fun hh=>hr hh.2.2),if_neg (fun hh=>hh.2 hk)]
      refine A7 (by simpa using he) ?_
      rw [A1 (by omega) (by omega),he];exact h
    ·rw [if_neg hk,if_neg (by simp)]at h
     rw [if_neg (fun hh=>hk hh.2.1),if_pos ⟨he,hk⟩];exact h
   ·rw [if_neg he,if_neg he]at h
    rw [if_neg (fun hh=>he hh.1),if_neg (fun hh=>he hh.1)]
    exact Em (by simpa using he) h
theorem Ag3 (hN:toks.length<1000000) (hc:Cw toks at0 s q c) (hq:q<=1000) (K:Cur->Prop) (h:K (Ji toks c)):H8 c toks K:=by
 refine Sl _ _ _ (Ag (fun he=> ?_) fun he=> ?_)
 ·have he:¬c.e_=0:=by simpa using he
  unfold Ji E6 at h;rw [if_neg he]at h;exact h
 ·have hf:=Df hc.z1 hc.hi 0
  have hn:=Fq hf
  exact H9 _ (Mx hN hf _ (Ml hc.z1 _ (D3 _ _ (by have:=hn.len hN (by omega);omega) (Qj _ (fun _=>hc.sum hN (Cx hn) hq (by omega)) h))))
theorem Aqe (M:Ed) (hN:toks.length<1000000) {at_:Int} (h0:0<=at_) (h1:at_<=(toks.length:Int)) (K:Cur->Prop) (h:K (Ln M toks at_)):Sj toks at_ K:=by
 have hf:=Df h0 h1 200
 have hb:=Sp (toks:=toks) M 24
 unfold Ln at h
 refine Aax _ _ _ (Ml h0 _ (Wb h0 Ga _ (Ag (fun hA=> ?_) fun hA=>Wb h0 Gg _ (Ag (fun hP=> ?_) fun hP=> ?_))))
 ·rw [if_pos hA]at h
  have e1:=Av Ga hf
  have e2:=Fq e1
  refine H9 _ (B2 hN hf Ga _ (Mx hN e1 _ ?_))
  generalize Ba toks (Az toks Ga (Aw at_))=nm at h
  generalize Dh toks (Az toks Ga (Aw at_))=c1 at h e2
  refine⟨fun l n a e op nm' N kids at'=>op=38/\nm'=nm/\N=Zg toks c1/\kids=0/\at'=(B6 toks at_).at_/\⟨l,n,a,e⟩=Nb toks c1,Aed e2.z1 sLS (fun hA=> ?_) (fun hB=> ?_),?_⟩
  ·have e3:=Av sLS e2
   refine B2 hN e2 sLS _ (Aqd hN e3 _ (B2 hN (Aj4 e3) sRS _ ⟨rfl,rfl,?_,rfl,rfl,?_⟩))
   ·unfold Zg;rw [if_pos (show Ez toks sLS c1=true from hA)]
   ·unfold Nb;rw [if_pos (show Ez toks sLS c1=true from hA)]
  ·refine⟨rfl,rfl,?_,rfl,rfl,?_⟩
   ·unfold Zg;rw [if_neg (by rw [show Ez toks sLS c1=false from hB];simp)]
   ·unfold Nb;rw [if_neg (by rw [show Ez toks sLS c1=false from hB];simp)]
  ·rintro l n a e _ _ _ _ _ ⟨rfl,rfl,rfl,rfl,rfl,hx⟩
   rw [hx]
   have e3:=Ag1 e2
   exact B2 hN e3 As _ (D3 _ _ (by have:=(Av As e3).len hN (by omega);omega) h)
 ·rw [if_neg (by rw [hA];simp),if_pos hP]at h
  have e1:=Av Gg hf
  have e2:=Fq e1
  have e3:=Av sLP e2
  refine H9 _ (B2 hN hf Gg _ (Mx hN e1 _ (B2 hN e2 sLP _ ?_)))
  generalize Ba toks (Az toks Gg (Aw at_))=nm at h
  generalize Az toks sLP (Dh toks (Az toks Gg (Aw at_)))=c1 at h e3
  have hpw:∀ {c:Cur},Cw toks at_ 3 200 c->Cw toks at_ 3 200 (Ji toks c):=fun hw=>T9 hw (by omega)
  refine⟨fun l n a e=>⟨l,n,a,e⟩=Nc toks c1,Ag2 e3.z1 sRP (fun hA=> ?_) (fun hB=> ?_),?_⟩
  ·have p1:=hpw e3
   refine Ag3 hN e3 (by omega) _ ?_
   unfold Nc
   rw [if_pos hA]
   refine⟨fun l n a e f=>Cw toks at_ 3 200 ⟨l,n,a,e⟩/\LI toks (Ez toks Bz) (fun c=>Ji toks (Az toks Bz c)) (Ej (Ez toks Bz) (fun c=>Ji toks (Az toks Bz c)) (fuel toks) (Ji toks c1)) f ⟨l,n,a,e⟩,⟨_,p1,LI.start p1⟩,?_⟩
   rintro l n a e f ⟨hw,hl⟩
   refine Aed hw.z1 Bz (fun hA=> ?_) (fun hB=> ?_)
   ·have e4:=Av Bz hw
    have hs:=Aee (c:=⟨l,n,a,e⟩) hA
    have he:e=0:=by simp at hA;exact hA.1
    have hpp:Cw toks a 0 0 (Aw a):=Df hw.z1 hw.hi 0
    obtain⟨f',hf',hl'⟩:=hl.step hA he hw.hi (fun hd=>by
     rw [hs]at hd⊢
     have e5:Cw toks a 1 200 ⟨[],n,a+1,0⟩:=by
      have:=Av Bz (Df hw.z1 hw.hi 200)
      have hs':=Aee (toks:=toks) (t:=Bz) (c:=Aw a) (by subst he;exact hA)
      rw [hs']at this
      exact⟨this.z,this.lo,this.hi,this.w,this.b⟩
     have e6:=Cx (x:=nd toks 39 (Ba toks (Aw (a+1))) 0 (a+1)) (Fq (Df (toks:=toks) (at_:=a+1) (by have:=e5.z1;exact this) e5.hi 0))
     unfold Ji E6 at hd⊢
     rw [if_pos rfl]at hd⊢
     have:=e6.lo
     dsimp only at this⊢
     omega)
    exact B2 hN hw Bz _ (Ag3 hN e4 (by omega) _ ⟨f',hf',(T9 e4 (by omega)).mono (by omega) (Nat.le_refl _),hl'⟩)
   ·exact hl.stop hB
  ·unfold Nc
   rw [if_neg (by rw [hB];simp)]
  ·intro l n a e hx
   rw [hx]
   have e4:=Ag0 e3 (by omega)
   have e5:=Av sRP e4
   have e6:=Mw hb e5 (by omega)
   exact B2 hN e4 sRP _ (Zh hN hb (by omega) (Anj M hN) e5 (by omega) _ (D3 _ _ (by have:=e6.len hN (by omega);omega) h))
 ·rw [if_neg (by rw [hA];simp),if_neg (by rw [hP];simp)]at h
  have e1:=Av N5 hf
  have e2:=Mw hb e1 (by omega)
  exact H9 _ (B2 hN hf N5 _ (Zh hN hb (by omega) (Anj M hN) e1 (by omega) _ (D3 _ _ (by have:=e2.len hN (by omega);omega) h)))
theorem Aqf (M:Ed) (hN:toks.length<1000000) (K:Ap->Prop) (h:K (Fy M toks)):Oq toks K:=by
 have hf:=Df (toks:=toks) (at_:=0) (Int.le_refl _) (by omega) 100
 refine Aay _ _ (H9 _ ⟨fun l n a e f=>Cw toks 0 0 100 ⟨l,n,a,e⟩/\LI toks (fun c=>decide (c.e_=0)&& !decide ((B6 toks c.at_).kind=0)) (fun c=>E6 c (Ln M toks c.at_)) (Mv M toks) f ⟨l,n,a,e⟩,⟨_,hf,LI.start hf⟩,?_⟩)
 rintro l n a e f ⟨hw,hl⟩
 refine⟨fun x=>x=(decide (e=0)&& !decide ((B6 toks a).kind=0)),Ag (fun he=> ?_) (fun he=> ?_),?_⟩
 ·have he:e=0:=by simpa using he
  subst he
  refine Ml hw.z1 _ ?_
  show _=_
  rw [Bool.eq_iff_iff];simp
 ·have he:¬e=0:=by simpa using he
  show false=_
  rw [decide_eq_false he];rfl
 ·rintro _ rfl
  refine Ag (fun hA=> ?_) fun hB=> ?_
  ·have he:e=0:=by simp at hA;exact hA.1
   have hcw:=Aj9 M hw.z1 hw.hi
   obtain⟨f',hf',hl'⟩:=hl.step hA he hw.hi (fun hd=>Aec hcw he hd)
   exact Aqe M hN hw.z1 hw.hi _ (Qj _ (fun _=>hw.sum hN hcw (by omega) (by omega)) ⟨f',hf',(Kr hw (fun _=>hcw) (by omega)).mono (by omega) (Nat.le_refl _),hl'⟩)
  ·have hst:=hl.stop hB
   unfold Fy at h
   rw [←hst]at h
   refine Ag (fun he=> ?_) fun he=> ?_
   ·rw [if_pos (by simpa using he)]at h;exact h
   ·rw [if_neg (by simpa using he)]at h
    exact D3 _ _ (by have:=hw.len hN (by omega);omega) h
end
end Go.Proofs.YtcakelelfklhdaaGreatDoor
namespace Go.Proofs.YtcakelelfklhdaaGreatDoor
open Go.Vc Go.Lv Go.Ty Go.Tk Go.Tm
def gT (t:Tok):Aq:=⟨t.kind,t.text,t.n,t.at_⟩
def tT (t:Aq):Tok:=⟨t.kind,t.text,t.n,t.at_⟩
def gN (x:Nd):Aj:=⟨x.op,x.name,x.n,x.kids,x.at_⟩
theorem Ank (toks:List Aq):(toks.map tT).map gT=toks:=by
 rw [List.map_map]
 exact List.map_id _
theorem Ua {K K':Value->World->Prop} (h:∀v w',K v w'->K' v w'):∀e w',Ret K e w'->Ret K' e w'
 | .returned _,w',hk=>h _ w' hk
 | .panicked _,_,hk=>hk.elim
 | .outgrown,_,hk=>hk.elim
theorem Aqg (s:List UInt8) (hs:s.length<2^40) (at_:Int) (K:Nx->Prop) (h:K ⟨gT (Ct s at_).1,(Ct s at_).2.1,(Ct s at_).2.2⟩):Yv s at_ K:=fun _ w _=>
 (Aiu s hs at_ w).mono (Ua fun _ _ ⟨hv,he⟩=>⟨_,h,⟨_,hv,Agd ⟨gT (Ct s at_).1,(Ct s at_).2.1,(Ct s at_).2.2⟩⟩,Am.Azt he⟩)
theorem Avu (s:List UInt8) (K:Int->Prop) (h:K (Jg s)):Age s K:=fun _ w _=>
 (Ags s w).mono (Ua fun _ _ ⟨hv,he⟩=>⟨_,h,hv,Am.Azt he⟩)
theorem Aqh (op:Int) (K:Int->Prop) (h:K (B4 op:Nat)):V8 op K:=fun _ w _=>
 (Agt op w).mono (Ua fun _ _ ⟨hv,he⟩=>⟨_,h,hv,Am.Azt he⟩)
theorem As6 (s:List UInt8) (K:Dm->Prop) (h:K ⟨(Ly s).1.map gT,(Ly s).2.1,(Ly s).2.2⟩):U1 s K:=by
 refine Ado _ _ (Ag (fun hx=> ?_) fun hx=> ?_)
 ·have:Ly s=([],0,5):=by unfold Ly;rw [if_pos (by simp at hx;omega)]
  rw [this]at h;exact h
 ·have hs:s.length<=65536:=by simp at hx;omega
  have Awn:Ly s=Fa s (s.length+1) 0 []:=by unfold Ly;rw [if_neg (by omega)]
  rw [Awn]at h
  refine⟨fun atx out _ E _ _ n=>∃(acc:List Tok) (k:Nat),atx=k/\E=0/\out=acc.map gT/\acc.length<=k/\k<=s.length/\s.length<n+k/\Fa s (s.length+1) 0 []=Fa s n k acc,⟨s.length+1,[],0,rfl,rfl,rfl,Nat.zero_le _,Nat.zero_le _,by omega,rfl⟩,?_⟩
  rintro _ _ at0 _ at1 e1 n ⟨acc,k,rfl,rfl,rfl,Cjt,hk,hf,heq⟩
  rw [heq]at h
  obtain⟨f,rfl⟩:∃f',n=f'+1:=⟨n-1,by omega⟩
  refine Aqg s (by omega) k _ ?_
  have Bkr:=Abv s k hk
  have Azg:Fa s (f+1) k acc=if(Ct s k).2.2≠0 then(([]:List Tok),((Ct s k).2.1:Int),(Ct s k).2.2)else if(Ct s k).1.kind=0 then(acc++[(Ct s k).1],(Ct s k).1.at_,0)else Fa s f (Ct s k).2.1 (acc++[(Ct s k).1]):=rfl
  generalize Ct s k=x at*
  obtain⟨t,nx,e⟩:=x
  dsimp only at Bkr Azg⊢
  refine Ag (fun he=> ?_) fun he=> ?_
  ·rw [Azg,if_pos (by simpa using he)]at h;exact h
  ·have he:e=0:=by simpa using he
   subst he
   rw [if_neg (fun h=>h rfl)]at Azg
   refine⟨by simp only [List.length_map,List.length_cons,List.length_nil];omega,Ag (fun hk0=> ?_) fun hk0=> ?_⟩
   ·rw [Azg,if_pos (show t.kind=0 by simpa [gT] using hk0)]at h
    simpa [gT] using h
   ·have hk0:t.kind≠0:=by simpa [gT] using hk0
    rw [if_neg hk0]at Azg
    obtain⟨h1,h2⟩:=Bkr rfl hk0
    exact⟨f,by omega,acc++[t],nx,rfl,rfl,by simp,by simp;omega,h2,by omega,heq.trans Azg⟩
def gR (r:Res):Ap:=⟨r.l.map gN,(r.at_:Int),r.e⟩
theorem Asj (toks:List Tok) (p:Nat):B6 (toks.map gT) (p:Int)=gT (T toks p):=by
 unfold B6 T
 rw [List.length_map,Int.toNat_natCast]
 by_cases h:p<toks.length
 ·rw [if_pos (by omega),List.getElem?_map,List.getD_eq_getElem?_getD,List.getElem?_eq_getElem h];rfl
 ·rw [if_neg (by omega),List.getD_eq_getElem?_getD,List.getElem?_eq_none (by omega)];rfl
theorem Aef (toks:List Tok) (p:Nat) (K:Aq->Prop) (h:K (gT (T toks p))):Dp (toks.map gT) p K:=Ml (by omega) _ (by rw [Asj];exact h)
section
variable (toks:List Tok) (hN:toks.length<2^30)
include hN
theorem As7 (r1 rl:Nat->Nat->Option Res)
 (hr1:∀p d r,r1 p d=some r->d<=24->∀K:Ap->Prop,K (gR r)->Kn (toks.map gT) p d K)
 (hrl:∀p d r,rl p d=some r->d<=24->∀K:Ap->Prop,K (gR r)->Fl (toks.map gT) p 1 d K)
 (hk1:∀p d r,r1 p d=some r->Ok toks p r) (hkl:∀p d r,rl p d=some r->Ok toks p r)
 (p d:Nat) (r:Res) (h:B9 toks r1 rl p d=some r) (hd:d<=24) (K:Ap->Prop) (hK:K (gR r)):Kn (toks.map gT) p d K:=by
 refine Ad7 _ _ _ _ (Aef toks p _ ?_)
 have hlt:(T toks p).kind≠0->p<toks.length:=T5
 unfold B9 at h
 generalize T toks p=t at h hlt⊢
 obtain⟨tk,tx,tn,ta⟩:=t
 dsimp only [gT]at h hlt⊢
 have hp1:p<toks.length->IntKind.i64.wrap ((p:Int)+1)=((p+1:Nat):Int):=fun hp=>by rw [A1 (by omega) (by omega)];omega
 have hd1:IntKind.i64.wrap ((d:Int)+1)=((d+1:Nat):Int):=by rw [A1 (by omega) (by omega)];omega
 refine Ag (fun h2=> ?_) fun h2=> ?_
 ·have h2:tk=2:=by simpa using h2
  rw [if_pos h2]at h
  cases h
  rw [hp1 (hlt (by omega))]
  exact hK
 have h2:tk≠2:=by simpa using h2
 rw [if_neg h2]at h
 refine Ag (fun h3=> ?_) fun h3=> ?_
 ·have h3:tk=1:=by simpa using h3
  rw [if_pos h3]at h
  cases h
  rw [hp1 (hlt (by omega))]
  exact hK
 have h3:tk≠1:=by simpa using h3
 rw [if_neg h3]at h
 refine⟨fun b=>b= !decide (tk=4/\(tx=[45]\/tx=[33]\/tx=[40])),?_,?_⟩
 ·refine Ag (fun h4=> ?_) fun h4=> ?_
  ·have h4:tk≠4:=by simpa using h4
   show true=_
   rw [decide_eq_false (fun c=>h4 c.1)];rfl
  ·have h4:tk=4:=by simpa using h4
   refine Ag (fun h5=>Ag (fun h6=> ?_) fun h6=> ?_) fun h5=> ?_
   ·show _=_
    have h5:tx≠[45]:=by simpa using h5
    have h6:tx≠[33]:=by simpa using h6
    rw [Bool.eq_iff_iff];simp [h4,h5,h6]
   ·show false=_
    have h6:tx=[33]:=by simpa using h6
    rw [decide_eq_true ⟨h4,.inr (.inl h6)⟩];rfl
   ·show false=_
    have h5:tx=[45]:=by simpa using h5
    rw [decide_eq_true ⟨h4,.inl h5⟩];rfl
 rintro _ rfl
 refine Ag (fun hc=> ?_) fun hc=> ?_
 ·have hc:¬(tk=4/\(tx=[45]\/tx=[33]\/tx=[40])):=by simpa only [Bool.not_eq_true',decide_eq_false_iff_not] using hc
  rw [if_neg (fun c=>hc ⟨c.1,c.2.elim .inl (fun e=> .inr (.inl e))⟩),if_neg (fun c=>hc ⟨c.1,.inr (.inr c.2)⟩)]at h
  cases h
  exact hK
 have hc:tk=4/\(tx=[45]\/tx=[33]\/tx=[40]):=by simpa only [Bool.not_eq_false',decide_eq_true_eq] using hc
 have hp:=hlt (by omega)
 rw [hp1 hp,hd1]
 by_cases h40:tx=[40]
 ·subst h40
  rw [if_neg (fun c=>by simp at c),if_pos ⟨hc.1,rfl⟩]at h
  refine Ag (fun h24=> ?_) fun h24=> ?_
  ·have h24:d=24:=by have:(d:Int)=24:=by simpa using h24
                     omega
   rw [if_pos h24]at h
   cases h
   exact hK
  ·have h24:d≠24:=by
    intro e;subst e;simp at h24
   rw [if_neg h24]at h
   obtain⟨x,hx,rfl⟩:=Option.map_eq_some_iff.1 h
   refine Em (by simp) (hrl _ _ _ hx (by omega) _ ?_)
   have hk:=hkl _ _ _ hx
   refine Ag (fun he=> ?_) fun he=> ?_
   ·have he:x.e≠0:=by simpa [gR] using he
    rw [if_pos he]at hK;exact hK
   ·have he:x.e=0:=by simpa [gR] using he
    rw [if_neg (fun c=>c he)]at hK
    refine Aef toks x.at_ _ ?_
    refine⟨fun b=>b= !decide ((T toks x.at_).kind=4/\(T toks x.at_).text=[41]),Ag (fun h4=> ?_) (fun h4=> ?_),?_⟩
    ·have h4:(T toks x.at_).kind≠4:=by simpa [gT] using h4
     show true=_
     rw [decide_eq_false (fun c=>h4 c.1)];rfl
    ·have h4:(T toks x.at_).kind=4:=by simpa [gT] using h4
     show _=_
     rw [Bool.eq_iff_iff];simp [h4,gT]
    ·rintro _ rfl
     refine Ag (fun hq=> ?_) fun hq=> ?_
     ·rw [if_neg (by simpa only [Bool.not_eq_true',decide_eq_false_iff_not] using hq)]at hK;exact hK
     ·have hq:(T toks x.at_).kind=4/\(T toks x.at_).text=[41]:=by simpa only [Bool.not_eq_false',decide_eq_true_eq] using hq
      rw [if_pos hq]at hK
      have:=(hk.1 he).2.1
      have hw:IntKind.i64.wrap ((gR x).at_+1)=((x.at_+1:Nat):Int):=by
       show IntKind.i64.wrap ((x.at_:Int)+1)=_
       rw [A1 (by omega) (by omega)];omega
      rw [hw]
      exact hK
 ·have hs:tx=[45]\/tx=[33]:=by
   rcases hc.2 with e|e|e
   ·exact .inl e
   ·exact .inr e
   ·exact absurd e h40
  rw [if_pos ⟨hc.1,hs⟩]at h
  refine Ag (fun h24=> ?_) fun h24=> ?_
  ·have h24:d=24:=by have:(d:Int)=24:=by simpa using h24
                     omega
   rw [if_pos h24]at h
   cases h
   exact hK
  ·have h24:d≠24:=by
    intro e;subst e;simp at h24
   rw [if_neg h24]at h
   obtain⟨x,hx,rfl⟩:=Option.map_eq_some_iff.1 h
   have hk:=hk1 _ _ _ hx
   refine A7 (by simpa using h40) (hr1 _ _ _ hx (by omega) _ ?_)
   refine Ag (fun he=> ?_) fun he=> ?_
   ·have he:x.e≠0:=by simpa [gR] using he
    rw [if_neg he]at hK;exact hK
   ·have he:x.e=0:=by simpa [gR] using he
    rw [if_pos he]at hK
    refine⟨fun op=>op=if tx=[33]then 4 else 3,Ag (fun h5=> ?_) (fun h5=> ?_),?_⟩
    ·show(4:Int)=_
     rw [if_pos (by simpa using h5)]
    ·show(3:Int)=_
     rw [if_neg (by simpa using h5)]
    ·rintro _ rfl
     have:=hk.1 he
     exact⟨by simp only [List.length_cons,List.length_nil,gR,List.length_map];omega,hK⟩
theorem As8 (f:Nat)
 (ih1:∀f',f'<=f->∀p d r,R toks f' (.one p d)=some r->d<=24->∀K:Ap->Prop,K (gR r)->Kn (toks.map gT) p d K)
 (ihl:∀f',f'<=f->∀(n:Nat) p d r,1<=n->n<=6->R toks f' (.lev n p d)=some r->d<=24->∀K:Ap->Prop,K (gR r)->Fl (toks.map gT) p n d K)
 (n p d:Nat) (r:Res) (h1:1<=n) (h6:n<=6) (h:R toks (f+1) (.lev n p d)=some r) (hd:d<=24) (K:Ap->Prop) (hK:K (gR r)):Fl (toks.map gT) p n d K:=by
 refine Y6 _ _ _ _ _ ?_
 rw [R]at h
 refine Ag (fun h66=> ?_) fun h66=> ?_
 ·have h66:n=6:=by have:(n:Int)=6:=by simpa using h66
                   omega
  rw [if_pos h66]at h
  exact ih1 f (Nat.le_refl _) _ _ _ h hd _ hK
 ·have h66:n≠6:=by
   intro e;subst e;simp at h66
  rw [if_neg h66]at h
  obtain⟨x0,hx0,hr0⟩:=Option.bind_eq_some_iff.1 h
  have hn1:IntKind.i64.wrap ((n:Int)+1)=((n+1:Nat):Int):=by rw [A1 (by omega) (by omega)];omega
  rw [hn1]
  refine ihl f (Nat.le_refl _) (n+1) p d x0 (by omega) (by omega) hx0 hd _ ?_
  have Bzs:=(Ap0 toks f).2.1 _ _ _ _ hx0
  refine⟨fun L At E _ _ _ n1=>∃x,n1<=f/\R toks n1 (.loop n 0 d x)=some r/\L=x.l.map gN/\At=(x.at_:Int)/\E=x.e/\(x.e=0->x.at_<=toks.length/\x.l.length<=x.at_),⟨f,x0,Nat.le_refl _,hr0,rfl,rfl,rfl,fun he=>by have:=Bzs.1 he;omega⟩,?_⟩
  clear hr0 Bzs hx0
  rintro _ _ _ L1 At1 E1 n1 ⟨x,hf1,hr,rfl,rfl,rfl,hxo⟩
  obtain⟨g,rfl⟩:∃g,n1=g+1:=by
   cases n1 with
   |zero=>simp [R]at hr
   |succ g=>exact⟨g,rfl⟩
  rw [R]at hr
  refine Ag (fun he=> ?_) fun he=> ?_
  ·have he:x.e=0:=by simpa using he
   obtain⟨hxN,hxl⟩:=hxo he
   rw [if_neg (fun c=>c he)]at hr
   refine Aef toks x.at_ _ (Avu _ _ ?_)
   have Beq:∀y,join toks x y=⟨⟨Jg (T toks x.at_).text,[],0,2,(T toks x.at_).at_⟩::x.l++y.l,y.at_,0⟩:=fun _=>rfl
   have Bc3:Cp toks x.at_=if(T toks x.at_).kind=4 then B4 (Jg (T toks x.at_).text)else 0:=rfl
   have Chw:=Ad2 (toks:=toks) (p:=x.at_)
   have hlv:=Am9 (T toks x.at_).text
   generalize T toks x.at_=t at Beq Bc3 hlv⊢
   obtain⟨tk,tx,tn,ta⟩:=t
   dsimp only [gT]at Beq Bc3 hlv⊢
   refine⟨fun b=>b=decide (Cp toks x.at_=0\/Cp toks x.at_≠n),?_,?_⟩
   ·refine Ag (fun h4=> ?_) fun h4=>Ag (fun h0=> ?_) fun h0=> ?_
    ·have h4:tk≠4:=by simpa using h4
     show true=_
     rw [Bc3,if_neg h4];simp
    ·have h4:tk=4:=by simpa using h4
     have h0:Jg tx=0:=by simpa using h0
     show true=_
     rw [Bc3,if_pos h4]
     rcases hlv with h|h
     ·rw [h.2];simp
     ·exact absurd h0 h.1
    ·have h4:tk=4:=by simpa using h4
     have h0:Jg tx≠0:=by simpa using h0
     refine Aqh _ _ ?_
     show _=_
     rw [Bc3,if_pos h4,Bool.eq_iff_iff]
     simp only [bne_iff_ne,ne_eq,decide_eq_true_eq]
     rcases hlv with h|h
     ·exact absurd h.1 h0
     ·constructor
      ·intro hh;right;intro e;exact hh (by rw [e])
      ·rintro(hh|hh)
       ·omega
       ·intro e;apply hh;omega
   ·rintro _ rfl
    refine Ag (fun hc=> ?_) fun hc=> ?_
    ·rw [if_pos (of_decide_eq_true hc)]at hr
     cases hr
     exact hK
    ·have hc:=of_decide_eq_false hc
     rw [if_neg hc]at hr
     simp only [not_or,Classical.not_not]at hc
     have hlt:=Chw hc.1
     obtain⟨y,hy,hr⟩:=Option.bind_eq_some_iff.1 hr
     have hyk:=(Ap0 toks g).2.1 _ _ _ _ hy
     have hx1:IntKind.i64.wrap ((x.at_:Int)+1)=((x.at_+1:Nat):Int):=by rw [A1 (by omega) (by omega)];omega
     rw [hx1]
     refine ihl g (by omega) (n+1) _ d y (by omega) (by omega) hy hd _ ?_
     refine Ag (fun hye=> ?_) fun hye=> ?_
     ·have hye:y.e≠0:=by simpa [gR] using hye
      rw [if_pos hye]at hr
      cases hr
      exact hK
     ·have hye:y.e=0:=by simpa [gR] using hye
      rw [if_neg (fun c=>c hye)]at hr
      have hyk:=hyk.1 hye
      refine⟨by simp only [List.length_cons,List.length_nil,List.length_map];omega,fun L2 At2 E2=>L2=(join toks x y).l.map gN/\At2=(y.at_:Int)/\E2=0,⟨by simp only [List.length_cons,List.length_nil,List.length_append,List.length_map,gR];omega,?_,rfl,rfl⟩,?_⟩
      ·rw [Beq];simp [gR,gN]
      ·rintro _ _ _ ⟨rfl,rfl,rfl⟩
       have hja:(join toks x y).at_=y.at_:=rfl
       have hje:(join toks x y).e=0:=rfl
       refine Ag (fun h3=> ?_) fun h3=> ?_
       ·have h3:n=3:=by have:(n:Int)=3:=by simpa using h3
                        omega
        rw [if_pos h3]at hr
        cases hr
        exact hK
       ·have h3:n≠3:=by
         intro e;subst e;simp at h3
        rw [if_neg h3]at hr
        refine⟨g,by omega,join toks x y,by omega,hr,rfl,rfl,rfl,fun _=>⟨by rw [hja];omega,?_⟩⟩
        rw [hja,Beq]
        simp only [List.cons_append,List.length_cons,List.length_append]
        omega
  ·have he:x.e≠0:=by simpa using he
   rw [if_pos he]at hr
   cases hr
   exact hK
theorem Aqi:∀f,∀f1,f1<=f->
 (∀p d r,R toks f1 (.one p d)=some r->d<=24->∀K:Ap->Prop,K (gR r)->Kn (toks.map gT) p d K)/\
 (∀(n:Nat) p d r,1<=n->n<=6->R toks f1 (.lev n p d)=some r->d<=24->∀K:Ap->Prop,K (gR r)->Fl (toks.map gT) p n d K):=by
 intro f
 induction f with
 |zero=>
  intro f1 hf
  obtain rfl:f1=0:=by omega
  exact⟨fun _ _ _ h=>by simp [R]at h,fun _ _ _ _ _ _ h=>by simp [R]at h⟩
 |succ f ih=>
  intro f1 hf
  by_cases hle:f1<=f
  ·exact ih f1 hle
  ·obtain rfl:f1=f+1:=by omega
   refine⟨fun p d r h hd K hK=> ?_,fun n p d r h1 h6 h hd K hK=>As8 toks hN f (fun f' hf'=>(ih f' hf').1) (fun f' hf'=>(ih f' hf').2) n p d r h1 h6 h hd K hK⟩
   simp only [R]at h
   exact As7 toks hN _ _ (ih f (Nat.le_refl _)).1 (fun p d r h hd K hK=>(ih f (Nat.le_refl _)).2 1 p d r (by omega) (by omega) h hd K hK) (fun p d r h=>(Ap0 toks f).1 p d r h) (fun p d r h=>(Ap0 toks f).2.1 1 p d r h) p d r h hd K hK
theorem Anl (at_:Int) (h0:0<=at_) (K:Ap->Prop) (hK:K (gR (Dx toks at_))):Ms (toks.map gT) at_ K:=by
 refine Zb _ _ _ (A7 (by simp;omega) ?_)
 have hP:=Gf toks at_ (by omega)
 generalize Dx toks at_=r at hP hK
 obtain⟨p,rfl⟩:∃p:Nat,at_=p:=⟨at_.toNat,by omega⟩
 obtain⟨g,hg⟩:=(P_R toks _).2.1 1 _ _ _ (by omega) (by omega) hP
 exact(Aqi toks hN g g (Nat.le_refl _)).2 1 p 0 r (by omega) (by omega) hg (by omega) _ hK
end
theorem As9 {toks:List Tok} {r1 rl:Nat->Nat->Option Res} (h1:∀p d r,r1 p d=some r->p<=toks.length->p<=r.at_/\r.at_<=toks.length) (hl:∀p d r,rl p d=some r->p<=toks.length->p<=r.at_/\r.at_<=toks.length) {p d:Nat} {r:Res}
 (h:B9 toks r1 rl p d=some r) (hp:p<=toks.length):p<=r.at_/\r.at_<=toks.length:=by
 unfold B9 at h
 split at h
 ·rename_i c
  have:=T5 (toks:=toks) (p:=p) (by rw [c];decide)
  cases h;exact⟨by simp,by simp;omega⟩
 split at h
 ·rename_i c
  have:=T5 (toks:=toks) (p:=p) (by rw [c];decide)
  cases h;exact⟨by simp,by simp;omega⟩
 split at h
 ·rename_i c
  have:=T5 (toks:=toks) (p:=p) (by rw [c.1];decide)
  split at h
  ·cases h;exact⟨Nat.le_refl _,hp⟩
  ·obtain⟨x,hx,rfl⟩:=Option.map_eq_some_iff.1 h
   have hk:=h1 _ _ _ hx (by omega)
   split
   ·exact⟨by dsimp only;omega,by dsimp only;omega⟩
   ·exact⟨by omega,by omega⟩
 split at h
 ·rename_i c
  have:=T5 (toks:=toks) (p:=p) (by rw [c.1];decide)
  split at h
  ·cases h;exact⟨Nat.le_refl _,hp⟩
  ·obtain⟨x,hx,rfl⟩:=Option.map_eq_some_iff.1 h
   have hk:=hl _ _ _ hx (by omega)
   split
   ·exact⟨by omega,by omega⟩
   ·split
    ·rename_i c
     have:=T5 (toks:=toks) (p:=x.at_) (by rw [c.1];decide)
     exact⟨by dsimp only;omega,by dsimp only;omega⟩
    ·exact⟨by dsimp only;omega,by dsimp only;omega⟩
 ·cases h;exact⟨Nat.le_refl _,hp⟩
theorem Ata (toks:List Tok):∀(f:Nat),(∀p d r,P toks f (.one p d)=some r->p<=toks.length->p<=r.at_/\r.at_<=toks.length)/\(∀n p d r,P toks f (.lev n p d)=some r->p<=toks.length->p<=r.at_/\r.at_<=toks.length)/\
 (∀n m d x r,P toks f (.loop n m d x)=some r->x.at_<=toks.length->x.at_<=r.at_/\r.at_<=toks.length):=by
 intro f
 induction f with
 |zero=>exact⟨fun _ _ _ h=>by simp [P]at h,fun _ _ _ _ h=>by simp [P]at h,fun _ _ _ _ _ h=>by simp [P]at h⟩
 |succ f ih=>
  obtain⟨ih1,ih2,ih3⟩:=ih
  refine⟨fun p d r h hp=> ?_,fun n p d r h hp=> ?_,fun n m d x r h hp=> ?_⟩
  ·simp only [P]at h
   exact As9 (fun p d r h=>ih1 p d r h) (fun p d r h=>ih2 1 p d r h) h hp
  ·rw [P]at h
   obtain⟨x,hx,hr⟩:=Option.bind_eq_some_iff.1 h
   have h1:=ih1 _ _ _ hx hp
   have h2:=ih3 _ _ _ _ _ hr h1.2
   omega
  ·rw [P]at h
   split at h
   ·cases h;exact⟨Nat.le_refl _,hp⟩
   split at h
   ·cases h;exact⟨Nat.le_refl _,hp⟩
   ·rename_i c
    obtain⟨y,hy,hr⟩:=Option.bind_eq_some_iff.1 h
    have:=Ad2 (toks:=toks) (p:=x.at_) (fun e=>c (.inl e))
    have h1:=ih2 _ _ _ _ hy (by omega)
    split at hr
    ·cases hr;omega
    ·have h2:=ih3 _ _ _ _ _ hr h1.2
     have:(join toks x y).at_=y.at_:=rfl
     omega
def TM:Ed where
 T toks at_:=((Dx (toks.map tT) at_).l.map gN,((Dx (toks.map tT) at_).at_:Int),(Dx (toks.map tT) at_).e)
 lo toks at_ h0 h1:=by
  have:=((Ata (toks.map tT) _).2.1 _ _ _ _ (Gf (toks.map tT) at_ (by omega)) (by rw [List.length_map];omega)).1
  dsimp only;omega
 hi toks at_ h0 h1:=by
  have:=((Ata (toks.map tT) _).2.1 _ _ _ _ (Gf (toks.map tT) at_ (by omega)) (by rw [List.length_map];omega)).2
  rw [List.length_map]at this
  dsimp only;omega
 len toks at_ h0 h1:=by
  have hb:=((Ata (toks.map tT) _).2.1 _ _ _ _ (Gf (toks.map tT) at_ (by omega)) (by rw [List.length_map];omega)).1
  have hk:=(Aux (toks.map tT) _).2.1 _ _ _ _ (Gf (toks.map tT) at_ (by omega))
  dsimp only
  rw [List.length_map]
  by_cases he:(Dx (toks.map tT) at_).e=0
  ·have:=(hk.1 he).2.2
   omega
  ·rw [hk.2 he]
   simp only [List.length_nil]
   omega
 rv toks hN at_ h0 _ K hK:=by
  have:=Anl (toks.map tT) (by rw [List.length_map];omega) at_ h0 K hK
  rwa [Ank]at this
end Go.Proofs.YtcakelelfklhdaaGreatDoor
namespace Go.Proofs.YtcakelelfklhdaaGreatDoor
open Go.Vc Go.Lv Go.Ty Go.Tk Go.Tm
theorem Sq (s:List UInt8):∀(f k:Nat) (acc:List Tok),k<=s.length->s.length<f+k->(Fa s f k acc).2.2=0->(Fa s f k acc).1≠[]/\(Fa s f k acc).1.length<=acc.length+f
 |0,k,acc,hk,hf,_=>by omega
 |f+1,k,acc,hk,hf,h=>by
  unfold Fa at h⊢
  have Bkr:=Abv s k hk
  split at h
  ·rename_i he;exact absurd h he
  ·rename_i he
   have he:(Ct s k).2.2=0:=Classical.not_not.1 he
   rw [if_neg (by rw [he];simp)]
   split at h
   ·rename_i hk0
    rw [if_pos hk0]
    exact⟨by simp,by simp⟩
   ·rename_i hk0
    rw [if_neg hk0]
    obtain⟨h1,h2⟩:=Bkr he hk0
    have:=Sq s f (Ct s k).2.1 (acc++[(Ct s k).1]) h2 (by omega) h
    refine⟨this.1,?_⟩
    have h3:=this.2
    simp only [List.length_append,List.length_cons,List.length_nil]at h3
    omega
theorem Aqj (s:List UInt8) (h:(Ly s).2.2=0):(Ly s).1≠[]/\(Ly s).1.length<=65537:=by
 unfold Ly at h⊢
 split at h
 ·cases h
 ·rename_i hl
  rw [if_neg hl]
  have:=Sq s (s.length+1) 0 [] (Nat.zero_le _) (by omega) h
  refine⟨this.1,?_⟩
  have h2:=this.2
  simp only [List.length_nil]at h2
  omega
def Gu (s:List UInt8):List Aq:=(Ly s).1.map gT
def Asl (toks:List Aq) (a:Int):Int:=if(toks.length:Int)-1<a then(toks.length:Int)-1 else a
def atF (toks:List Aq) (a:Int):Int:=((toks[(Asl toks a).toNat]?).getD ⟨0,[],0,0⟩).at_
def J9 (s:List UInt8):Ap:=
 if(Ly s).2.2≠0 then⟨[],(Ly s).2.1,(Ly s).2.2⟩
 else if(Fy TM (Gu s)).e_≠0 then⟨[],atF (Gu s) (Fy TM (Gu s)).at_,(Fy TM (Gu s)).e_⟩
 else⟨(Fy TM (Gu s)).l,0,0⟩
theorem Atb (M:Ed) (toks:List Aq) (h:(Fy M toks).e_≠0):(Fy M toks).l=[]:=by
 unfold Fy at h⊢
 split
 ·rfl
 ·rename_i c;rw [if_neg c]at h;exact absurd rfl h
theorem Atc (M:Ed) (toks:List Aq) (h:(Fy M toks).e_=0):(Fy M toks).at_=0:=by
 unfold Fy at h⊢
 split
 ·rename_i c;rw [if_pos c]at h;exact absurd h c
 ·rfl
theorem Aqk (M:Ed) (toks:List Aq):0<=(Fy M toks).at_/\(Fy M toks).at_<=(toks.length:Int):=by
 have:=Aka (toks:=toks) M
 unfold Fy
 split
 ·exact⟨this.z1,this.hi⟩
 ·exact⟨Int.le_refl _,by dsimp only;omega⟩
theorem Aql {toks:List Aq} {a:Int} (h:toks≠[]) (h0:0<=a) (P:Int->Prop) (hP:P (atF toks a)) (hN:toks.length<1000000):
 ((0:Int)<=(if(IntKind.i64.wrap ((toks.length:Int)-1))<a then IntKind.i64.wrap ((toks.length:Int)-1)else a)/\(if(IntKind.i64.wrap ((toks.length:Int)-1))<a then IntKind.i64.wrap ((toks.length:Int)-1)else a)<(toks.length:Int))/\
 ∀x,toks[(if(IntKind.i64.wrap ((toks.length:Int)-1))<a then IntKind.i64.wrap ((toks.length:Int)-1)else a).toNat]? =some x->P x.at_:=by
 have hl:=List.length_pos_iff.2 h
 have hw:IntKind.i64.wrap ((toks.length:Int)-1)=(toks.length:Int)-1:=A1 (by omega) (by omega)
 rw [hw]
 unfold atF Asl at hP
 refine⟨by split<;>omega,fun x hx=> ?_⟩
 rw [hx]at hP
 exact hP
theorem Aeg (s:List UInt8) (K:Ap->Prop) (h:K (J9 s)):Md s K:=by
 refine Aaz _ _ (As6 s _ ?_)
 unfold J9 at h
 refine Ag (fun he=> ?_) fun he=> ?_
 ·rw [if_pos (by simpa using he)]at h;exact h
 ·have he:(Ly s).2.2=0:=by simpa using he
  rw [if_neg (fun c=>c he)]at h
  obtain⟨hne,hlen⟩:=Aqj s he
  have hN:(Gu s).length<1000000:=by unfold Gu;rw [List.length_map];omega
  have hne:Gu s≠[]:=by unfold Gu;simpa using hne
  show Oq (Gu s) _
  refine Aqf TM hN _ ?_
  refine⟨fun L A E=>K ⟨L,A,E⟩,Ag (fun hu=> ?_) (fun hu=> ?_),fun _ _ _ h=>h⟩
  ·have hu:(Fy TM (Gu s)).e_≠0:=by simpa using hu
   rw [if_pos hu]at h
   refine Aql hne (Aqk TM _).1 (fun a=>K ⟨(Fy TM (Gu s)).l,a,(Fy TM (Gu s)).e_⟩) ?_ hN
   rw [Atb TM _ hu];exact h
  ·have hu:(Fy TM (Gu s)).e_=0:=by simpa using hu
   rw [if_neg (fun c=>c hu)]at h
   show K ⟨_,_,_⟩
   rw [Atc TM _ hu,hu];exact h
end Go.Proofs.YtcakelelfklhdaaGreatDoor
namespace Go.Proofs.YtcakelelfklhdaaGreatDoor
open Go.Vc Go.Lv Go.Ty Go.Tk Go.Tm
def wr (n:Nat):Int:=IntKind.i64.wrap (n:Int)
theorem Qk {n:Nat} (h:n<2^40):wr n=n:=A1 (by omega) (by omega)
inductive OkN:UInt8->Aj->List UInt8->Prop
 |num (n a:Int):0<=n->n<=999999999999999999->OkN 69 ⟨1,[],n,0,a⟩ []
 |name (s:Str) (a:Int):Tk.Ba s=true->OkN 69 ⟨2,s,0,0,a⟩ []
 |un (op a:Int):op=3\/op=4->OkN 69 ⟨op,[],0,1,a⟩ [69]
 |bin (op a:Int):5<=op->op<=17->OkN 69 ⟨op,[],0,2,a⟩ [69,69]
 |set (op:Int) (s:Str) (a:Int):op=18\/op=19\/op=20->Tk.Ba s=true->OkN 83 ⟨op,s,0,1,a⟩ [69]
 |send (a:Int):OkN 83 ⟨21,[],0,2,a⟩ [82,69]
 |recv (s:Str) (a:Int):Tk.Ba s=true->OkN 83 ⟨22,s,0,1,a⟩ [82]
 |if2 (a:Int):OkN 83 ⟨23,[],0,2,a⟩ [69,66]
 |if3 (a:Int):OkN 83 ⟨23,[],0,3,a⟩ [69,66,66]
 |Bfc (a:Int):OkN 83 ⟨24,[],0,2,a⟩ [69,66]
 |sel (k:Nat) (a:Int):1<=k->OkN 83 ⟨25,[],0,wr k,a⟩ (List.replicate k 67)
 |start (s:Str) (k:Nat) (a:Int):Tk.Ba s=true->OkN 83 ⟨26,s,0,wr k,a⟩ (List.replicate k 69)
 |one (op a:Int):op=27\/op=28\/op=29->OkN 83 ⟨op,[],0,1,a⟩ [69]
 |none (op a:Int):op=30\/op=31->OkN 83 ⟨op,[],0,0,a⟩ []
 |els (a:Int):OkN 67 ⟨37,[],0,1,a⟩ [66]
 |clause (op:Int) (s:Str) (a:Int) (w:Bool) (ds:List UInt8):(op=34/\Tk.Ba s=true/\ds=[82,66])\/(op=35/\s=[]/\ds=[82,69,66])\/(op=36/\s=[]/\ds=[69,66])->
  OkN 67 ⟨op,s,(if w then 1 else 0),wr ((if w then [69]else [])++ds).length,a⟩ ((if w then [69]else [])++ds)
 |Bbh (s:Str) (a:Int):Tk.Ba s=true->OkN 82 ⟨33,s,0,0,a⟩ []
 |Bbi (s:Str) (a:Int):Tk.Ba s=true->OkN 82 ⟨33,s,0,1,a⟩ [69]
 |block (k:Nat) (a:Int):OkN 66 ⟨32,[],0,wr k,a⟩ (List.replicate k 83)
 |param (s:Str) (a:Int):Tk.Ba s=true->OkN 80 ⟨39,s,0,0,a⟩ []
 |unit (k:Nat) (a:Int):OkN 85 ⟨42,[],0,wr k,a⟩ (List.replicate k 68)
 |chan (s:Str) (n a:Int):Tk.Ba s=true->0<=n->n<=16->OkN 68 ⟨38,s,n,0,a⟩ []
 |main (a:Int):OkN 68 ⟨41,[],0,1,a⟩ [66]
 |proc (s:Str) (k:Nat) (a:Int):Tk.Ba s=true->OkN 68 ⟨40,s,0,wr (k+1),a⟩ (List.replicate k 80++[66])
theorem Gb {s:Str} (h:Tk.Ba s=true):s.length<=16:=by
 cases s with
 |nil=>simp
 |cons c l=>
  rw [Mg]at h
  exact of_decide_eq_true (Bool.and_eq_true_iff.1 h).1
theorem Avv (s:Str) (hs:s.length<2^62) (K:Bool->Prop) (h:K (Tk.Ba s)):Yu s K:=fun _ w _=>
 (Aiw s hs w).mono (Ua fun _ _ ⟨hv,he⟩=>⟨_,h,hv,Am.Azt he⟩)
theorem Anm (x:Aj) (k:Int) (hs:x.name.length<2^62) (K:Bool->Prop) (h:K (Tk.Ba x.name&&(x.n==0&&x.kids==k))):Yt x k K:=by
 refine Aat _ _ _ (Avv _ hs _ (Ag (fun h1=>Ag (fun h2=> ?_) fun h2=> ?_) fun h1=> ?_))
 ·rw [h1,h2]at h;exact h
 ·rw [h1,h2]at h;exact h
 ·rw [h1]at h;exact h
section
variable {l:List Aj}
end
end Go.Proofs.YtcakelelfklhdaaGreatDoor
namespace Go.Proofs.YtcakelelfklhdaaGreatDoor
open Go.Vc Go.Lv Go.Ty Go.Tk Go.Tm
inductive Fo where
 |nil
 |cons (x:Aj) (ks rs:Fo)
def Fo.flat:Fo->List Aj
 | .nil=>[]
 | .cons x ks rs=>x::(ks.flat++rs.flat)
inductive WfF:List UInt8->Fo->Prop
 |nil:WfF [] .nil
 |cons {c:UInt8} {x:Aj} {ds cs:List UInt8} {a b:Fo} :OkN c x ds->WfF ds a->WfF cs b->WfF (c::cs) (.cons x a b)
inductive Ck where
 |sp (c:UInt8)
 |tk (v:Str)
def Ck.tx:Ck->Str
 | .sp c=>[c]
 | .tk v=>v
def tx (l:List Ck):Str:=l.flatMap Ck.tx
theorem Cr (a b:List Ck):tx (a++b)=tx a++tx b:=by simp [tx]
theorem Cj (a:Ck) (b:List Ck):tx (a::b)=a.tx++tx b:=by simp [tx]
def Xi:Nat->Nat->Str->Str
 |0,_,acc=>acc
 |f+1,n,acc=>if n<10 then UInt8.ofNat (48+n)::acc else Xi f (n/10) (UInt8.ofNat (48+n%10)::acc)
def Lg (n:Int):Str:=Xi 20 n.toNat []
def sgO (op:Int):Str:=if op=3 then [45]else if op=4 then [33]else sgs.getD (op-5).toNat []
structure R where
 x:Aj
 tm:List Ck
 st:Nat->List Ck
 nd:Nat
 nb:Nat
 fl:List Aj
 ht:Nat
def R0:R:=⟨⟨0,[],0,0,0⟩,[],fun _=>[],0,0,[],0⟩
def Br (r:R) (n:Nat):List Ck:=if B4 r.x.op<n then .tk sLP::(r.tm++[.tk sRP])else r.tm
def Di (r:R) (n:Nat):Nat:=if B4 r.x.op<n then r.nd+1 else r.nd
def Cc (op:Int):Nat:=if B4 op=3 then 4 else B4 op
def sps:Ck:= .sp 32
def Atd (x:Aj) (ks:List R):List Ck:=match ks with|[]=>[.tk x.name]|k::_=> .tk x.name::.tk sLS::(k.tm++[.tk sRS])
def tmN (x:Aj) (ks:List R):List Ck:=
 if x.op=1 then [.tk (Lg x.n)]
 else if x.op=2\/x.op=39 then [.tk x.name]
 else if x.op=33 then Atd x ks
 else if x.op=3\/x.op=4 then .tk (sgO x.op)::Br (ks.getD 0 R0) 6
 else Br (ks.getD 0 R0) (Cc x.op)++(sps::.tk (sgO x.op)::sps::Br (ks.getD 1 R0) (B4 x.op+1))
def ndN (x:Aj) (ks:List R):Nat:=
 if x.op=3\/x.op=4 then Di (ks.getD 0 R0) 6+1
 else if 5<=x.op/\x.op<=17 then max (Di (ks.getD 0 R0) (Cc x.op)) (Di (ks.getD 1 R0) (B4 x.op+1))
 else(ks.map R.nd).foldr max 0
def nbN (x:Aj) (ks:List R):Nat:=(ks.map R.nb).foldr max 0+(if x.op=32 then 1 else 0)
def line (d:Nat) (cs:List Ck):List Ck:=List.replicate d (.sp 9)++(cs++[.sp 10])
def Bs:List (List Ck)->List Ck
 |[]=>[]
 |[a]=>a
 |a::b::l=>a++(.tk Bz::sps::Bs (b::l))
def Bf (d:Nat) (ks:List R):List Ck:=ks.flatMap fun k=>k.st d
def Bd (d:Nat) (front:List Ck) (r:R):List Ck:=line d (front++[sps,.tk sLB])++(r.st (d+1)++line d [.tk sRB])
def kd (ks:List R) (i:Nat):R:=ks.getD i R0
def D8 (x:Aj) (ks:List R):List Ck:= .tk Bq::sps::(if x.n=1 then .tk Ef::sps::((kd ks 0).tm++[.tk Ee,sps])else [])
def stN (x:Aj) (ks:List R) (d:Nat):List Ck:=
 if x.op=18 then line d (.tk Pg::sps::.tk x.name::sps::.tk sEq::sps::((kd ks 0).tm++[.tk As]))
 else if x.op=19 then line d (.tk x.name::sps::.tk sEq::sps::((kd ks 0).tm++[.tk As]))
 else if x.op=20 then line d (.tk x.name::sps::.tk sEq::sps::.tk Gq::.tk sLP::((kd ks 0).tm++[.tk sRP,.tk As]))
 else if x.op=21 then line d ((kd ks 0).tm++(sps::.tk C5::sps::((kd ks 1).tm++[.tk As])))
 else if x.op=22 then line d ((kd ks 0).tm++[sps,.tk Gt,sps,.tk x.name,.tk As])
 else if x.op=23 then line d (.tk sIf::sps::((kd ks 0).tm++[sps,.tk sLB]))++((kd ks 1).st (d+1)++(if ks.length=3 then line d [.tk sRB,sps,.tk Dq,sps,.tk sLB]++((kd ks 2).st (d+1)++line d [.tk sRB])else line d [.tk sRB]))
 else if x.op=24 then Bd d (.tk F9::sps::(kd ks 0).tm) (kd ks 1)
 else if x.op=25 then line d [.tk D1,sps,.tk sLB]++(Bf (d+1) ks++line d [.tk sRB])
 else if x.op=26 then line d (.tk Ff::sps::.tk x.name::.tk sLP::(Bs (ks.map R.tm)++[.tk sRP,.tk As]))
 else if x.op=27 then line d (.tk Kp::sps::((kd ks 0).tm++[.tk As]))
 else if x.op=28 then line d (.tk Kq::sps::((kd ks 0).tm++[.tk As]))
 else if x.op=29 then line d (.tk Ht::sps::((kd ks 0).tm++[.tk As]))
 else if x.op=30 then line d [.tk N3,.tk As]
 else if x.op=31 then line d [.tk N4,.tk As]
 else if x.op=32 then Bf d ks
 else if x.op=34 then Bd d (D8 x ks++((kd ks x.n.toNat).tm++[sps,.tk Gt,sps,.tk x.name])) (kd ks (x.n.toNat+1))
 else if x.op=35 then Bd d (D8 x ks++((kd ks x.n.toNat).tm++(sps::.tk C5::sps::(kd ks (x.n.toNat+1)).tm))) (kd ks (x.n.toNat+2))
 else if x.op=36 then Bd d (D8 x ks++(.tk D7::sps::(kd ks x.n.toNat).tm)) (kd ks (x.n.toNat+1))
 else if x.op=37 then Bd d [.tk Dq] (kd ks 0)
 else if x.op=38 then line d (.tk Ga::sps::.tk x.name::(if 0<x.n then [.tk sLS,.tk (Lg x.n),.tk sRS,.tk As]else [.tk As]))
 else if x.op=40 then Bd d (.tk Gg::sps::.tk x.name::.tk sLP::(Bs ((ks.take (ks.length-1)).map R.tm)++[.tk sRP])) (kd ks (ks.length-1))
 else if x.op=41 then Bd d [.tk N5] (kd ks 0)
 else if x.op=42 then Bf d ks
 else []
def htN (ks:List R):Nat:=(ks.map fun k=>k.ht+1).foldr max 0
def Ar (x:Aj) (ks:List R):R:=⟨x,tmN x ks,stN x ks,ndN x ks,nbN x ks,x::ks.flatMap R.fl,htN ks⟩
def Fz:Fo->List R
 | .nil=>[]
 | .cons x ks rs=>Ar x (Fz ks)::Fz rs
theorem Ub:∀f:Fo,f.flat=(Fz f).flatMap R.fl
 | .nil=>rfl
 | .cons x ks rs=>by
  rw [Fo.flat,Ub ks,Ub rs,Fz,List.flatMap_cons]
  rfl
def F2 {α β:Type} (Q:α->β->Prop):List α->List β->Prop
 |[],[]=>True
 |a::l,b::m=>Q a b/\F2 Q l m
 |_,_=>False
theorem F2.len {α β:Type} {Q:α->β->Prop} :∀ {l:List α} {m:List β},F2 Q l m->l.length=m.length
 |[],[],_=>rfl
 |_::_,_::_,⟨_,h⟩=>by simp [F2.len h]
theorem F2.rep {α β:Type} {Q:α->β->Prop} {a:α} :∀ {k:Nat} {m:List β},F2 Q (List.replicate k a) m->m.length=k/\∀b∈m,Q a b
 |0,[],_=>⟨rfl,by simp⟩
 |k+1,b::m,⟨h1,h2⟩=>by
  obtain⟨h3,h4⟩:=F2.rep h2
  refine⟨by simp [h3],fun c hc=> ?_⟩
  rcases List.mem_cons.1 hc with rfl|hc
  ·exact h1
  ·exact h4 c hc
theorem F2.split {α β:Type} {Q:α->β->Prop} :∀ {l l':List α} {m:List β},F2 Q (l++l') m->∃a b,m=a++b/\F2 Q l a/\F2 Q l' b
 |[],_,m,h=>⟨[],m,rfl,trivial,h⟩
 |_::_,_,_::_,⟨h1,h2⟩=>by
  obtain⟨a,b,rfl,h3,h4⟩:=F2.split h2
  exact⟨_::a,b,rfl,⟨h1,h3⟩,h4⟩
theorem F2.one {α β:Type} {Q:α->β->Prop} {a:α} :∀ {m:List β},F2 Q [a] m->∃b,m=[b]/\Q a b
 |[b],h=>⟨b,rfl,h.1⟩
theorem F2.two {α β:Type} {Q:α->β->Prop} {a a':α} :∀ {m:List β},F2 Q [a,a'] m->∃b b',m=[b,b']/\Q a b/\Q a' b'
 |[b,b'],h=>⟨b,b',rfl,h.1,h.2.1⟩
theorem F2.three {α β:Type} {Q:α->β->Prop} {a a' a'':α} :∀ {m:List β},F2 Q [a,a',a''] m->∃b b' b'',m=[b,b',b'']/\Q a b/\Q a' b'/\Q a'' b''
 |[b,b',b''],h=>⟨b,b',b'',rfl,h.1,h.2.1,h.2.2.1⟩
theorem F2.nil {α β:Type} {Q:α->β->Prop} :∀ {m:List β},F2 Q ([]:List α) m->m=[]
 |[],_=>rfl
theorem Vk (Q:UInt8->R->Prop) (h:∀c x ds ks,OkN c x ds->F2 Q ds ks->Q c (Ar x ks)) {cs:List UInt8} {f:Fo} (hf:WfF cs f):F2 Q cs (Fz f):=by
 induction hf with
 |nil=>trivial
 |cons ho _ _ ih1 ih2=>exact⟨h _ _ _ _ ho ih1,ih2⟩
end Go.Proofs.YtcakelelfklhdaaGreatDoor
namespace Go.Proofs.YtcakelelfklhdaaGreatDoor
open Go.Vc Go.Lv Go.Ty Go.Tr Go.Tk Go.Tm
def plc:Nat->List R->List Int
 |_,[]=>[]
 |p,r::rs=>(p:Int)::plc (p+r.fl.length) rs
def Vl (r:R):Prop:=0<r.fl.length/\∀post:List Int,eat 1 (r.fl.map (·.kids)++post)=post
theorem Ag4:∀(rs:List R),(∀r∈rs,Vl r)->∀post:List Int,eat rs.length ((rs.flatMap R.fl).map (·.kids)++post)=post
 |[],_,post=>by simp [La]
 |r::rs,h,post=>by
  rw [List.flatMap_cons,List.map_append,List.append_assoc,List.length_cons,Nat.add_comm,Q1,(h r (by simp)).2]
  exact Ag4 rs (fun q hq=>h q (by simp [hq])) post
theorem Alo {x:Aj} {rs:List R} (hk:x.kids=(rs.length:Int)) (h:∀r∈rs,Vl r):Vl (Ar x rs):=by
 refine⟨by simp [Ar],fun post=> ?_⟩
 show eat 1 (x.kids::((rs.flatMap R.fl).map (·.kids))++post)=post
 rw [List.cons_append,Ap3,hk,Int.toNat_natCast]
 exact Ag4 rs h post
theorem Ab0 (L:List Aj):∀(rs:List R) (p:Nat) (post:List Aj),(∀r∈rs,Vl r)->L.drop p=rs.flatMap R.fl++post->Jl (ks L) rs.length p=plc p rs
 |[],p,post,_,_=>by
  apply List.ext_getElem? ;intro j
  rw [Q2];simp [plc]
 |r::rs,p,post,h,hd=>by
  have hr:=h r (by simp)
  have hlen:r.fl.length<=(L.drop p).length:=by rw [hd,List.flatMap_cons];simp only [List.length_append];omega
  rw [List.length_drop]at hlen
  have h0:=hr.1
  have hks:(ks L).drop p=r.fl.map (·.kids)++((rs.flatMap R.fl).map (·.kids)++post.map (·.kids)):=by
   show(L.map (·.kids)).drop p=_
   rw [←List.map_drop,hd,List.flatMap_cons];simp
  have hd2:L.drop (p+r.fl.length)=rs.flatMap R.fl++post:=by
   rw [←List.drop_drop,hd,List.flatMap_cons,List.append_assoc,List.drop_left]
  have Chx:(ks L).drop (p+r.fl.length)=(rs.flatMap R.fl).map (·.kids)++post.map (·.kids):=by
   show(L.map (·.kids)).drop _=_
   rw [←List.map_drop,hd2];simp
  have e1:eat 1 ((ks L).drop p)=(ks L).drop (p+r.fl.length):=by rw [hks,hr.2,Chx]
  have ih:=Ab0 L rs (p+r.fl.length) post (fun q hq=>h q (by simp [hq])) hd2
  have hkl:(ks L).length=L.length:=J8 L
  apply List.ext_getElem?
  intro j
  rw [Q2,plc]
  cases j with
  |zero=>
   rw [List.getElem?_cons_zero,La,if_pos ⟨by simp,fun e=>by
    have:=congrArg List.length e
    rw [List.length_drop,hkl]at this;simp at this;omega⟩,List.length_drop,hkl,show L.length-(L.length-p)=p by omega]
  |succ j=>
   rw [List.getElem?_cons_succ,←ih,Q2,Nat.add_comm j 1,Q1,e1]
   simp only [List.length_cons,Nat.add_comm 1 j,Nat.add_lt_add_iff_right]
theorem Dr {L:List Aj} {x:Aj} {rs:List R} {i:Nat} {post:List Aj} (hk:x.kids=(rs.length:Int)) (h:∀r∈rs,Vl r) (hd:L.drop i=(Ar x rs).fl++post):R1 L i=plc (i+1) rs:=by
 have hi:i<L.length:=by
  have:=congrArg List.length hd
  rw [List.length_drop]at this;simp [Ar]at this;omega
 have hx:L[i]? =some x:=by
  have:(L.drop i)[0]? =some x:=by rw [hd];rfl
  rwa [List.getElem?_drop,Nat.add_zero]at this
 unfold R1 Ze
 rw [if_pos (by omega),Int.toNat_natCast,if_pos (by rw [J8];exact hi),Aiy hx,hk,Int.toNat_natCast]
 refine Ab0 L rs (i+1) post h ?_
 rw [←List.drop_drop,hd];rfl
end Go.Proofs.YtcakelelfklhdaaGreatDoor
set_option linter.unusedVariables false
namespace Go.Proofs.YtcakelelfklhdaaGreatDoor
open Go.Shelf Go.RowKit Go.Proofs Go.Vc
variable {P:Program} {ρ:Ren}
set_option maxHeartbeats 1000000 in
set_option maxRecDepth 100000 in
theorem Ag5 (L:Lays.n240 P ρ) (X:Builder.X72 P ρ) (b:Nat) (w:World) (h0:w.cell? ⟨b,1,none⟩=some (.pointer (some ⟨b,1,none⟩))):
 Calls P (ρ.f 240) #[.pointer (some ⟨b,1,none⟩)] w fun e w'=>e= .returned (.tuple #[])/\w'=w:=by
 obtain⟨j,hj,_⟩:=Option.map_eq_some_iff.1 X.sizeBuilder
 have mixed:=L.mixed
 have t72:=L.t72;have a72:=L.a72;have z72:=L.z72;have v72:=L.v72;have u72:=run_underlying L.t72
 have t70:=L.t70;have a70:=L.a70;have z70:=L.z70;have v70:=L.v70;have u70:=run_underlying L.t70
 have t9:=L.t9;have a9:=L.a9;have z9:=L.z9;have v9:=L.v9;have u9:=run_underlying L.t9
 have t4:=L.t4;have a4:=L.a4;have z4:=L.z4;have v4:=L.v4;have u4:=run_underlying L.t4
 have t164:=L.t164;have a164:=L.a164;have z164:=L.z164;have v164:=L.v164;have Chy:=run_underlying L.t164
 go_enter L.f240,Body.n240_ntmps ρ
 go_wp2
 rw [Lib.run_neq_ptr_same w _ L.t70 hj]
 go_wp2
 go_end0
 exact⟨rfl,rfl⟩
set_option maxHeartbeats 1000000 in
set_option maxRecDepth 100000 in
theorem Aeh (L:Lays.n240 P ρ) (X:Builder.X72 P ρ) (b:Nat) (w:World) {T:TypeId} (h0:w.cell? ⟨b,1,none⟩=some (.pointer none)) (hsh:w.shape? b=some (T,4)) (hfz:w.frozen? ⟨b,1,none⟩=false)
 (Bzt:liesAt P P.depth T (4/P.cellsOf T) 1 (ρ.t 72) 1=true):
 Calls P (ρ.f 240) #[.pointer (some ⟨b,1,none⟩)] w fun e w'=>e= .returned (.tuple #[])/\w'=w.setCell ⟨b,1,none⟩ (.pointer (some ⟨b,1,none⟩)):=by
 obtain⟨j,hj,hjs⟩:=Option.map_eq_some_iff.1 X.sizeBuilder
 have mixed:=L.mixed
 have t72:=L.t72;have a72:=L.a72;have z72:=L.z72;have v72:=L.v72;have u72:=run_underlying L.t72
 have t70:=L.t70;have a70:=L.a70;have z70:=L.z70;have v70:=L.v70;have u70:=run_underlying L.t70
 have t9:=L.t9;have a9:=L.a9;have z9:=L.z9;have v9:=L.v9;have u9:=run_underlying L.t9
 have t4:=L.t4;have a4:=L.a4;have z4:=L.z4;have v4:=L.v4;have u4:=run_underlying L.t4
 have t164:=L.t164;have a164:=L.a164;have z164:=L.z164;have v164:=L.v164;have Chy:=run_underlying L.t164
 go_enter L.f240,Body.n240_ntmps ρ
 go_wp2
 rw [Lib.run_to_unsafe w ⟨b,1,none⟩ L.t70 L.t164 hj (by rw [hjs];decide) hsh (by show 1<4;omega)]
 simp only [Result.andThen]
 rw [Oper.upon_value]
 go_wp2
 rw [run_callFunc_extern L.f276 (by kernel_rfl) (by kernel_rfl) (by kernel_rfl) (e:=Extern.AbiNoEscape.same) (by kernel_rfl)]
 rw [Lib.run_noEscape]
 simp only [Result.andThen]
 rw [Oper.upon_value]
 go_wp2
 rw [Lib.run_from_unsafe w ⟨b,1,none⟩ L.t164 L.t70 hj hsh Bzt]
 simp only [Result.andThen]
 rw [Oper.upon_value]
 go_wp2
 go_end0
 exact⟨rfl,rfl⟩
theorem Ano (w:World) (g n:Nat):Am [g] w (w.drew.freeze ⟨g,0,none⟩ n):=by
 unfold World.freeze
 split
 ·exact⟨rfl,rfl,rfl,Nat.le_refl _,fun _ _ _=>rfl⟩
 ·refine⟨rfl,rfl,rfl,by simp,fun k hk hm=> ?_⟩
  have hne:¬g=k:=fun e=>hm (by simp [e])
  simp only [Array.getElem?_modify]
  rw [if_neg hne]
  rfl
theorem Aqm (w:World) (o:Obj):Am [] w (w.drew.alloc o):=by
 refine⟨rfl,rfl,rfl,?_,fun k hk _=>Lib.alloc_old w.drew _ k hk⟩
 show w.heap.size<=(w.heap.push o).size
 rw [Array.size_push];omega
set_option maxHeartbeats 2000000 in
set_option maxRecDepth 100000 in
theorem Alp (L:Lays.n169 P ρ) (X:Builder.Extra P ρ) (b g cap:Nat) (T:TypeId) (c0 p d:Value) (cur:Array Value) (l:List UInt8) (w:World) (hbk:w.heap[b]? =some (.cells #[c0,p,.slice (some ⟨g,0,none⟩) l.length cap,d] T (0,0)))
 (hbg:w.heap[g]? =some (.cells cur (ρ.t 5) (0,0))) (hnc:l.length<=cap) (hcm:cap<=maxLen) (hcs:cur.size=cap*1) (Bzu:cur.toList.take (l.length*1)=Lib.byteCells l) (h0:l≠[]):
 Calls P (ρ.f 169) #[.pointer (some ⟨b,1,none⟩)] w fun e w'=>e= .returned (.string ⟨l.toArray⟩)/\Am [g] w w':=by
 have hl0:l.length≠0:=by simpa using h0
 have Ba0:w.ownsRow 0 (ρ.t 5) 1 (.slice (some ⟨g,0,none⟩) l.length cap) l.length (Lib.byteCells l):=⟨by rw [Lib.byteCells_length,Nat.mul_one],.inr ⟨g,cap,cur,rfl,Nat.zero_le _,hbg,hnc,hcm,hcs,Bzu⟩⟩
 have c1:w.drew.cell? ⟨b,2,none⟩=some (.slice (some ⟨g,0,none⟩) l.length cap):=by
  have:w.drew.heap[b]? =some (.cells #[c0,p,.slice (some ⟨g,0,none⟩) l.length cap,d] T (0,0)):=hbk
  rw [Lib.cell_of_heap this];rfl
 have hSD:(Builtin.unsafeSliceData_ #[(ρ.t 37)] (ρ.t 127) #[.slice (some ⟨g,0,none⟩) l.length cap]).run P w.drew= .ok (.pointer (some ⟨g,0,none⟩)) w.drew:=
  Lib.run_unsafeSliceData_row _ _ _ _ _ _ (by omega)
 have hUS:(Builtin.unsafeString_ #[(ρ.t 127),(ρ.t 3)] (ρ.t 9) #[.pointer (some ⟨g,0,none⟩),.int .i64 l.length]).run P w.drew= .ok (.string ⟨l.toArray⟩) (w.drew.freeze ⟨g,0,none⟩ l.length):=by
  refine Lib.run_unsafeString_row w.drew (ρ.t 127) (ρ.t 3) (ρ.t 9) (ρ.t 5) L.t127 X.cellsByte g cur.size (by have hg':w.drew.heap[g]? =some (.cells cur (ρ.t 5) (0,0)):=hbg;simp [World.shape?,hg']) l h0 (by omega) (by unfold maxLen at hcm;omega) ?_
  intro j x hx
  have:=Ba0.cells (g:=g) rfl j (.int .u8 x.toNat) (by simp [Lib.byteCells,hx])
  exact this
 have mixed:=L.mixed
 have t72:=L.t72;have a72:=L.a72;have z72:=L.z72;have v72:=L.v72;have u72:=run_underlying L.t72
 have t70:=L.t70;have a70:=L.a70;have z70:=L.z70;have v70:=L.v70;have u70:=run_underlying L.t70
 have t37:=L.t37;have a37:=L.a37;have z37:=L.z37;have v37:=L.v37;have u37:=run_underlying L.t37
 have t127:=L.t127;have a127:=L.a127;have z127:=L.z127;have v127:=L.v127;have Bm3:=run_underlying L.t127
 have t3:=L.t3;have a3:=L.a3;have z3:=L.z3;have v3:=L.v3;have u3:=run_underlying L.t3
 have t9:=L.t9;have a9:=L.a9;have z9:=L.z9;have v9:=L.v9;have u9:=run_underlying L.t9
 have t5:=X.t5;have a5:=X.a5;have z5:=X.z5;have v5:=X.v5;have u5:=run_underlying X.t5
 go_enter L.f169,Body.n169_ntmps ρ
 go_wp2
 go_region_o
 all_goals (go_wp2;go_ret;exact⟨rfl,Ano w g _⟩)
set_option maxHeartbeats 2000000 in
set_option maxRecDepth 100000 in
theorem Anp (L:Lays.n169 P ρ) (X:Builder.Extra P ρ) (b:Nat) (T:TypeId) (c0 p d:Value) (w:World) (hbk:w.heap[b]? =some (.cells #[c0,p,.slice none 0 0,d] T (0,0))):
 Calls P (ρ.f 169) #[.pointer (some ⟨b,1,none⟩)] w fun e w'=>e= .returned (.string ⟨#[]⟩)/\Am [] w w':=by
 have hUS:=Any.unsafeString_none L X
 have c1:w.drew.cell? ⟨b,2,none⟩=some (.slice none 0 0):=by
  have:w.drew.heap[b]? =some (.cells #[c0,p,.slice none 0 0,d] T (0,0)):=hbk
  rw [Lib.cell_of_heap this];rfl
 have hSD:(Builtin.unsafeSliceData_ #[(ρ.t 37)] (ρ.t 127) #[.slice none 0 0]).run P w.drew= .ok (.pointer none) w.drew:=rfl
 have mixed:=L.mixed
 have t72:=L.t72;have a72:=L.a72;have z72:=L.z72;have v72:=L.v72;have u72:=run_underlying L.t72
 have t70:=L.t70;have a70:=L.a70;have z70:=L.z70;have v70:=L.v70;have u70:=run_underlying L.t70
 have t37:=L.t37;have a37:=L.a37;have z37:=L.z37;have v37:=L.v37;have u37:=run_underlying L.t37
 have t127:=L.t127;have a127:=L.a127;have z127:=L.z127;have v127:=L.v127;have Bm3:=run_underlying L.t127
 have t3:=L.t3;have a3:=L.a3;have z3:=L.z3;have v3:=L.v3;have u3:=run_underlying L.t3
 have t9:=L.t9;have a9:=L.a9;have z9:=L.z9;have v9:=L.v9;have u9:=run_underlying L.t9
 have t5:=X.t5;have a5:=X.a5;have z5:=X.z5;have v5:=X.v5;have u5:=run_underlying X.t5
 go_enter L.f169,Body.n169_ntmps ρ
 go_wp2
 go_region_o
 all_goals (go_wp2;go_ret;exact⟨rfl,⟨rfl,rfl,rfl,Nat.le_refl _,fun _ _ _=>rfl⟩⟩)
set_option maxHeartbeats 2000000 in
set_option maxRecDepth 100000 in
theorem Ag6 (L:Lays.n169 P ρ) (X:Builder.Extra P ρ) (b g:Nat) (T:TypeId) (c0 p d:Value) (cur:Array Value) (w:World) (hbk:w.heap[b]? =some (.cells #[c0,p,.slice (some ⟨g,0,none⟩) 0 0,d] T (0,0))) (hg:w.heap[g]? =some (.cells cur (ρ.t 5) (0,0))):
 Calls P (ρ.f 169) #[.pointer (some ⟨b,1,none⟩)] w fun e w'=>e= .returned (.string ⟨#[]⟩)/\Am [] w w':=by
 have hUS:=Any.unsafeString_none L X
 have hlt:b<w.heap.size:=(Array.getElem?_eq_some_iff.1 hbk).1
 have c1:w.drew.cell? ⟨b,2,none⟩=some (.slice (some ⟨g,0,none⟩) 0 0):=by
  have:w.drew.heap[b]? =some (.cells #[c0,p,.slice (some ⟨g,0,none⟩) 0 0,d] T (0,0)):=hbk
  rw [Lib.cell_of_heap this];rfl
 have hSD:(Builtin.unsafeSliceData_ #[(ρ.t 37)] (ρ.t 127) #[.slice (some ⟨g,0,none⟩) 0 0]).run P w.drew= .ok (.pointer (some ⟨w.drew.heap.size,0,none⟩)) (w.drew.alloc (.view ⟨g,0,none⟩ (ρ.t 5))):=
  Lib.run_unsafeSliceData_zero w.drew _ _ (ρ.t 5) L.t127 ⟨g,0,none⟩ 0 ((ρ.t 5),cur.size) (by have hg':w.drew.heap[g]? =some (.cells cur (ρ.t 5) (0,0)):=hg;simp [World.shape?,hg'])
 have c2:(w.drew.alloc (.view ⟨g,0,none⟩ (ρ.t 5))).cell? ⟨b,2,none⟩=some (.slice (some ⟨g,0,none⟩) 0 0):=by
  have:(w.drew.alloc (.view ⟨g,0,none⟩ (ρ.t 5))).heap[b]? =_:=(Lib.alloc_old w.drew _ b hlt).trans hbk
  rw [Lib.cell_of_heap this];rfl
 have c3:(w.alloc (.view ⟨g,0,none⟩ (ρ.t 5))).drew.cell? ⟨b,2,none⟩=some (.slice (some ⟨g,0,none⟩) 0 0):=c2
 have c0':w.cell? ⟨b,2,none⟩=some (.slice (some ⟨g,0,none⟩) 0 0):=c1
 have mixed:=L.mixed
 have t72:=L.t72;have a72:=L.a72;have z72:=L.z72;have v72:=L.v72;have u72:=run_underlying L.t72
 have t70:=L.t70;have a70:=L.a70;have z70:=L.z70;have v70:=L.v70;have u70:=run_underlying L.t70
 have t37:=L.t37;have a37:=L.a37;have z37:=L.z37;have v37:=L.v37;have u37:=run_underlying L.t37
 have t127:=L.t127;have a127:=L.a127;have z127:=L.z127;have v127:=L.v127;have Bm3:=run_underlying L.t127
 have t3:=L.t3;have a3:=L.a3;have z3:=L.z3;have v3:=L.v3;have u3:=run_underlying L.t3
 have t9:=L.t9;have a9:=L.a9;have z9:=L.z9;have v9:=L.v9;have u9:=run_underlying L.t9
 have t5:=X.t5;have a5:=X.a5;have z5:=X.z5;have v5:=X.v5;have u5:=run_underlying X.t5
 go_enter L.f169,Body.n169_ntmps ρ
 go_wp2
 go_region_o
 all_goals (go_wp2;go_ret;exact⟨rfl,Aqm w _⟩)
set_option maxHeartbeats 2000000 in
set_option maxRecDepth 100000 in
theorem Alq (L:Lays.n169 P ρ) (X:Builder.Extra P ρ) (b g cap:Nat) (T:TypeId) (c0 p d:Value) (w:World) (hc0:cap≠0) (hbk:w.heap[b]? =some (.cells #[c0,p,.slice (some ⟨g,0,none⟩) 0 cap,d] T (0,0))):
 Calls P (ρ.f 169) #[.pointer (some ⟨b,1,none⟩)] w fun e w'=>e= .returned (.string ⟨#[]⟩)/\Am [] w w':=by
 have hUS:=Any.unsafeString_none L X
 have c1:w.drew.cell? ⟨b,2,none⟩=some (.slice (some ⟨g,0,none⟩) 0 cap):=by
  have:w.drew.heap[b]? =some (.cells #[c0,p,.slice (some ⟨g,0,none⟩) 0 cap,d] T (0,0)):=hbk
  rw [Lib.cell_of_heap this];rfl
 have hSD:(Builtin.unsafeSliceData_ #[(ρ.t 37)] (ρ.t 127) #[.slice (some ⟨g,0,none⟩) 0 cap]).run P w.drew= .ok (.pointer (some ⟨g,0,none⟩)) w.drew:=
  Lib.run_unsafeSliceData_row _ _ _ _ _ _ hc0
 clear hc0
 have mixed:=L.mixed
 have t72:=L.t72;have a72:=L.a72;have z72:=L.z72;have v72:=L.v72;have u72:=run_underlying L.t72
 have t70:=L.t70;have a70:=L.a70;have z70:=L.z70;have v70:=L.v70;have u70:=run_underlying L.t70
 have t37:=L.t37;have a37:=L.a37;have z37:=L.z37;have v37:=L.v37;have u37:=run_underlying L.t37
 have t127:=L.t127;have a127:=L.a127;have z127:=L.z127;have v127:=L.v127;have Bm3:=run_underlying L.t127
 have t3:=L.t3;have a3:=L.a3;have z3:=L.z3;have v3:=L.v3;have u3:=run_underlying L.t3
 have t9:=L.t9;have a9:=L.a9;have z9:=L.z9;have v9:=L.v9;have u9:=run_underlying L.t9
 have t5:=X.t5;have a5:=X.a5;have z5:=X.z5;have v5:=X.v5;have u5:=run_underlying X.t5
 go_enter L.f169,Body.n169_ntmps ρ
 go_wp2
 go_region_o
 all_goals (go_wp2;go_ret;exact⟨rfl,⟨rfl,rfl,rfl,Nat.le_refl _,fun _ _ _=>rfl⟩⟩)
end Go.Proofs.YtcakelelfklhdaaGreatDoor
