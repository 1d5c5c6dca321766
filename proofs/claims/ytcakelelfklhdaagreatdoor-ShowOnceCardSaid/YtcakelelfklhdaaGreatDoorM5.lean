/- A part of the proof: conditions of the code, contracts, the plain law. -/
import Derived.Test.YtcakelelfklhdaaGreatDoorM2
import Derived.Test.YtcakelelfklhdaaGreatDoorMapL
namespace Go.Proofs.YtcakelelfklhdaaGreatDoor
open Go.Vc Go.Lv Go.Ty
set_option maxRecDepth 10000
def Adj (toks:List Aq) (atx:Int) (deep:Int) (K:Ai->Prop):Prop:=
 Dp toks atx (fun x=>
 D6 atx (fun x1=>
 ∃(J:Bool->Prop),
 (cond (x.kind==1)
 (Cm toks (IntKind.i64.wrap (atx+1)) [61] (fun x3=>
 J x3))
 (J false))/\
 ∀(x2:Bool),J x2->
 cond (x2)
 (U0 toks atx (⟨0,[],0,0,x.at_⟩:Aj) (fun x4=>
 K x4))
 (cond (x.kind==1)
 (J7 x1 toks 21 22 (fun r r1 r2=>
 Ak r toks [59] (fun x5=>
 Ay x5 (⟨r1,r2,0,0,x.at_⟩:Aj) (fun x6=>
 K x6))))
 (cond (x.kind !=3)
 (K (⟨x1.l,x1.n,x1.at_,11⟩:Ai))
 (cond (x.text==[118,97,114])
 (Ak x1 toks [118,97,114] (fun x7=>
 Db x7 toks (fun r3 r4=>
 Ak r3 toks [61] (fun x8=>
 Bj x8 toks (fun x9=>
 Ak x9 toks [59] (fun x10=>
 Ay x10 (⟨18,r4,0,0,x.at_⟩:Aj) (fun x11=>
 K x11)))))))
 (cond (x.text==[115,116,97,114,116])
 (Ak x1 toks [115,116,97,114,116] (fun x12=>
 Db x12 toks (fun r5 r6=>
 Mb r5 toks (fun x13=>
 Ak x13 toks [59] (fun x14=>
 Ay x14 (⟨26,r6,0,0,x.at_⟩:Aj) (fun x15=>
 K x15))))))
 (cond (x.text==[115,108,101,101,112])
 (Ak x1 toks [115,108,101,101,112] (fun x16=>
 Bj x16 toks (fun x17=>
 Ak x17 toks [59] (fun x18=>
 Ay x18 (⟨27,[],0,0,x.at_⟩:Aj) (fun x19=>
 K x19)))))
 (cond (x.text==[112,114,105,110,116])
 (Ak x1 toks [112,114,105,110,116] (fun x20=>
 Bj x20 toks (fun x21=>
 Ak x21 toks [59] (fun x22=>
 Ay x22 (⟨28,[],0,0,x.at_⟩:Aj) (fun x23=>
 K x23)))))
 (cond (x.text==[97,115,115,101,114,116])
 (Ak x1 toks [97,115,115,101,114,116] (fun x24=>
 Bj x24 toks (fun x25=>
 Ak x25 toks [59] (fun x26=>
 Ay x26 (⟨29,[],0,0,x.at_⟩:Aj) (fun x27=>
 K x27)))))
 (cond (x.text==[115,107,105,112])
 (Ak x1 toks [115,107,105,112] (fun x28=>
 Ak x28 toks [59] (fun x29=>
 Ay x29 (⟨30,[],0,0,x.at_⟩:Aj) (fun x30=>
 K x30))))
 (cond (x.text==[115,116,111,112])
 (Ak x1 toks [115,116,111,112] (fun x31=>
 Ak x31 toks [59] (fun x32=>
 Ay x32 (⟨31,[],0,0,x.at_⟩:Aj) (fun x33=>
 K x33))))
 (cond (x.text==[119,104,105,108,101])
 (Ak x1 toks [119,104,105,108,101] (fun x34=>
 Bj x34 toks (fun x35=>
 Es x35 toks (IntKind.i64.wrap (deep+1)) (fun x36=>
 Ay x36 (⟨24,[],0,0,x.at_⟩:Aj) (fun x37=>
 K x37)))))
 (cond (x.text==[105,102])
 (Ak x1 toks [105,102] (fun x38=>
 Bj x38 toks (fun x39=>
 Es x39 toks (IntKind.i64.wrap (deep+1)) (fun x40=>
 ∃(J1:(List Aj)->Int->Int->Int->Prop),
 (∃(J2:Bool->Prop),
 (cond (x40.e_==0)
 (Cm toks x40.at_ [101,108,115,101] (fun x42=>
 J2 x42))
 (J2 false))/\
 ∀(x41:Bool),J2 x41->
 cond (x41)
 (Ak x40 toks [101,108,115,101] (fun x43=>
 Es x43 toks (IntKind.i64.wrap (deep+1)) (fun x44=>
 J1 x44.l x44.n x44.at_ x44.e_)))
 (J1 x40.l x40.n x40.at_ x40.e_))/\
 ∀(l:List Aj) (n:Int) (Av7:Int) (ex:Int),J1 l n Av7 ex->
 Ay (⟨l,n,Av7,ex⟩:Ai) (⟨23,[],0,0,x.at_⟩:Aj) (fun x45=>
 K x45)))))
 (cond (x.text==[115,101,108,101,99,116])
 (Ak x1 toks [115,101,108,101,99,116] (fun x46=>
 Ak x46 toks [123] (fun x47=>
 ∃(J3:(List Aj)->Int->Int->Int->Prop),
 (cond (x47.e_==0)
 (Lw toks x47.at_ deep (fun x48=>
 Dc x47 x48 (fun x49=>
 J3 x49.l x49.n x49.at_ x49.e_)))
 (J3 x47.l x47.n x47.at_ x47.e_))/\
 ∀(l1:List Aj) (n1:Int) (Aw5:Int) (ex1:Int),J3 l1 n1 Aw5 ex1->
 ∃(I:(List Aj)->Int->Int->Int->Nat->Prop),(∃n3,I l1 n1 Aw5 ex1 n3)/\
 ∀(l2:List Aj) (n2:Int) (Aw8:Int) (ex2:Int) (n3:Nat),I l2 n2 Aw8 ex2 n3->
 ∃(J4:Bool->Prop),
 (cond (ex2==0)
 (Cm toks Aw8 [125] (fun x51=>
 J4 (!x51)))
 (J4 false))/\
 ∀(x50:Bool),J4 x50->
 cond (x50)
 (Lw toks Aw8 deep (fun x52=>
 Dc (⟨l2,n2,Aw8,ex2⟩:Ai) x52 (fun x53=>
 ∃n4,n4<n3/\I x53.l x53.n x53.at_ x53.e_ n4)))
 (Ak (⟨l2,n2,Aw8,ex2⟩:Ai) toks [125] (fun x54=>
 Ay x54 (⟨25,[],0,0,x.at_⟩:Aj) (fun x55=>
 K x55))))))
 (K (⟨x1.l,x1.n,x1.at_,11⟩:Ai))))))))))))))))
set_option maxHeartbeats 4000000 in
theorem Aaw (toks:List Aq) (atx:Int) (deep:Int) (K:Ai->Prop) (h:Adj toks atx deep K):Ma toks atx deep K:=by
 intro m w hm Av4 Av5 Av1 Av2
 have o:=Mem.start hm.lt
 refine Aft Av4 toks.length Av5 atx deep _ _ ?_
 intro b w1 hb hw1
 obtain⟨st,o⟩:=o.dB hb hw1
 refine Aa (h _ w1 (o.mn hm) _ _ Av1 (Av2.st st)) ?_
 rintro _ w2 ⟨x,h,⟨cs,rfl,f⟩,ke⟩
 obtain⟨st1,o⟩:=o.dE ke
 obtain rfl:=Dk f
 refine⟨_,_,_,_,rfl,?_⟩
 intro b1 w3 hb1 hw3
 obtain⟨st2,o⟩:=o.dB hb1 hw3
 refine⟨o.wr 0 rfl rfl,fun w4 hw4=> ?_⟩
 obtain⟨st3,o⟩:=o.dSs 0 hw4 rfl
 refine⟨_,(o.at 0 rfl).cell rfl,?_⟩
 intro b2 w5 hb2 hw5
 obtain⟨st4,o⟩:=o.dB hb2 hw5
 refine⟨o.wr 0 rfl rfl,fun w6 hw6=> ?_⟩
 obtain⟨st5,o⟩:=o.dSs 0 hw6 rfl
 refine Aa (h _ w6 (o.mn hm)) ?_
 rintro _ w7 ⟨x1,h,⟨cs1,rfl,f1⟩,ke1⟩
 obtain⟨st6,o⟩:=o.dE ke1
 obtain⟨a,c,rfl,⟨le,f2⟩⟩:=Af f1
 refine⟨_,_,_,_,_,_,rfl,?_⟩
 intro b3 w8 hb3 hw8
 obtain⟨st7,o⟩:=o.dB hb3 hw8
 refine⟨o.wr 0 rfl rfl,fun w9 hw9=> ?_⟩
 obtain⟨st8,o⟩:=o.dSs 0 hw9 rfl
 obtain⟨J,h,h2⟩:=h
 refine⟨fun x2 w10=>J x2/\MT w m w9 w10 [.box b3 [.slice a x1.l.length c,.q x1.n,.q x1.at_,.q x1.e_],.box b2 [.q 0,.s [],.q 0,.q 0,.q x.at_],.box b1 [.q x.kind,.s x.text,.q x.n,.q x.at_],.box b [.slice none 0 0,.q 0,.q 0,.q 0]],?_,?_⟩
 refine⟨_,(o.at 2 rfl).cell rfl,?_⟩
 refine Ad (fun h=> ?_) (fun h=> ?_) h
 have sT:=(((((((st.trans st1).trans st2).trans st3).trans st4).trans st5).trans st6).trans st7).trans st8
 refine Aa (h _ w9 (o.mn hm) _ _ Av1 (Av2.st sT)) ?_
 rintro _ w11 ⟨x3,h,rfl,ke2⟩
 obtain⟨Awf,o⟩:=o.dE ke2
 refine⟨_,rfl,?_⟩
 exact⟨h,o,Awf⟩
 exact⟨h,o,Step.refl _ _⟩
 rintro _ x2 w10 ⟨hJ,o,st9⟩
 have h:=h2 x2 hJ
 refine Ad (fun h=> ?_) (fun h=> ?_) h
 refine⟨_,_,_,_,_,(o.at 1 rfl).whole,?_⟩
 have sT1:=((((((((st.trans st1).trans st2).trans st3).trans st4).trans st5).trans st6).trans st7).trans st8).trans st9
 refine Aa (h _ w10 (o.mn hm) _ _ Av1 (Av2.st sT1) _ (Bu (⟨0,[],0,0,x.at_⟩:Aj))) ?_
 rintro _ w12 ⟨x4,h,⟨cs2,rfl,f3⟩,ke3⟩
 obtain⟨Awi,o⟩:=o.dE ke3
 obtain⟨a1,c1,rfl,⟨le1,f4⟩⟩:=Af f3
 refine⟨_,_,_,_,_,_,rfl,?_⟩
 refine⟨o.wr 3 rfl rfl,fun w13 Ayn=> ?_⟩
 obtain⟨Awr,o⟩:=o.dSs 3 Ayn rfl
 refine⟨_,_,_,_,_,_,(o.at 3 rfl).whole,?_⟩
 exact⟨x4,h,⟨_,rfl,(Ac x4 ⟨le1,(f4.st (Awr.trans Mem.Awg))⟩)⟩,o.done⟩
 refine⟨_,(o.at 2 rfl).cell rfl,?_⟩
 refine Ad (fun h=> ?_) (fun h=> ?_) h
 refine⟨_,_,_,_,_,_,(o.at 0 rfl).whole,?_⟩
 have sT2:=(st7.trans st8).trans st9
 have sT3:=((((((((st.trans st1).trans st2).trans st3).trans st4).trans st5).trans st6).trans st7).trans st8).trans st9
 refine Aa (h _ w10 (o.mn hm) _ (Ac x1 ⟨le,(f2.st sT2)⟩) _ _ Av1 (Av2.st sT3)) ?_
 rintro _ w14 ⟨r,r1,r2,h,⟨cs3,rfl,f5⟩,ke4⟩
 obtain⟨Awj,o⟩:=o.dE ke4
 obtain⟨a2,c2,rfl,⟨le2,f6⟩⟩:=Af f5
 refine⟨_,_,_,_,_,_,_,_,rfl,?_⟩
 refine⟨o.wr 0 rfl rfl,fun w15 Ax7=> ?_⟩
 obtain⟨Aws,o⟩:=o.dSs 0 Ax7 rfl
 refine⟨o.wr 1 rfl rfl,fun w16 Azr=> ?_⟩
 obtain⟨Awt,o⟩:=o.dS 1 Azr rfl
 refine⟨o.wr 1 rfl rfl,fun w17 Ayo=> ?_⟩
 obtain⟨Awu,o⟩:=o.dS 1 Ayo rfl
 intro w18 Azm
 obtain⟨Aw7,o⟩:=o.dD Azm
 have ox:=o
 refine⟨fun u=>Am [] w18 u,Am.refl _ _,?_⟩
 refine⟨_,_,_,_,_,_,fun u hu=>((ox.at 0 rfl).Av8 hu (by simp)).whole,?_⟩
 refine⟨_,_,_,_,_,fun u hu=>((ox.at 1 rfl).Av8 hu (by simp)).whole,?_⟩
 have sT4:=((Aws.trans Awt).trans Awu).trans Aw7
 have sT5:=((((sT3.trans Awj).trans Aws).trans Awt).trans Awu).trans Aw7
 refine Aa (h _ w18 (o.mn hm) _ (Ac r ⟨le2,(f6.st sT4)⟩) _ _ Av1 (Av2.st sT5)) ?_
 rintro _ w19 ⟨x5,h,⟨cs4,rfl,f7⟩,ke5⟩
 obtain⟨Axf,o⟩:=o.dE ke5
 obtain⟨a3,c3,rfl,⟨le3,f8⟩⟩:=Af f7
 refine⟨_,_,_,_,_,_,rfl,?_⟩
 refine⟨(ke5.mono (by simp)),?_⟩
 refine Aa (h _ w19 (o.mn hm) _ (Ac x5 ⟨le3,f8⟩) _ (Bu (⟨r1,r2,0,0,x.at_⟩:Aj))) ?_
 rintro _ w20 ⟨x6,h,⟨cs5,rfl,f9⟩,ke6⟩
 obtain⟨Axe,o⟩:=o.dE ke6
 obtain⟨a4,c4,rfl,⟨le4,f10⟩⟩:=Af f9
 refine⟨_,_,_,_,_,_,rfl,?_⟩
 refine⟨o.wr 3 rfl rfl,fun w21 Beb=> ?_⟩
 obtain⟨Axg,o⟩:=o.dSs 3 Beb rfl
 refine⟨_,_,_,_,_,_,(o.at 3 rfl).whole,?_⟩
 exact⟨x6,h,⟨_,rfl,(Ac x6 ⟨le4,(f10.st (Axg.trans Mem.Awg))⟩)⟩,o.done⟩
 refine⟨_,(o.at 2 rfl).cell rfl,?_⟩
 refine Ad (fun h=> ?_) (fun h=> ?_) h
 refine⟨o.wr 0 rfl rfl,fun w22 Azx=> ?_⟩
 obtain⟨Axu,o⟩:=o.dS 0 Azx rfl
 refine⟨_,_,_,_,_,_,(o.at 0 rfl).whole,?_⟩
 refine⟨o.wr 3 rfl rfl,fun w23 Bip=> ?_⟩
 obtain⟨Axv,o⟩:=o.dSs 3 Bip rfl
 refine⟨_,_,_,_,_,_,(o.at 3 rfl).whole,?_⟩
 exact⟨(⟨x1.l,x1.n,x1.at_,11⟩:Ai),h,⟨_,rfl,(Ac (⟨x1.l,x1.n,x1.at_,11⟩:Ai) ⟨le,(f2.st (st7.trans (st8.trans (st9.trans (Axu.trans (Axv.trans Mem.Awg))))))⟩)⟩,o.done⟩
 refine⟨_,(o.at 2 rfl).cell rfl,?_⟩
 refine Ad (fun h=> ?_) (fun h=> ?_) h
 refine⟨o.wr 1 rfl rfl,fun w24 Bea=> ?_⟩
 obtain⟨Ayp,o⟩:=o.dS 1 Bea rfl
 refine⟨_,_,_,_,_,_,(o.at 0 rfl).whole,?_⟩
 have sT6:=((st7.trans st8).trans st9).trans Ayp
 have sT7:=(((((((((st.trans st1).trans st2).trans st3).trans st4).trans st5).trans st6).trans st7).trans st8).trans st9).trans Ayp
 refine Aa (h _ w24 (o.mn hm) _ (Ac x1 ⟨le,(f2.st sT6)⟩) _ _ Av1 (Av2.st sT7)) ?_
 rintro _ w25 ⟨x7,h,⟨cs6,rfl,f11⟩,ke7⟩
 obtain⟨Ayc,o⟩:=o.dE ke7
 obtain⟨a5,c5,rfl,⟨le5,f12⟩⟩:=Af f11
 refine⟨_,_,_,_,_,_,rfl,?_⟩
 have sT8:=sT7.trans Ayc
 refine Aa (h _ w25 (o.mn hm) _ (Ac x7 ⟨le5,f12⟩) _ _ Av1 (Av2.st sT8)) ?_
 rintro _ w26 ⟨r3,r4,h,⟨cs7,rfl,f13⟩,ke8⟩
 obtain⟨Ax8,o⟩:=o.dE ke8
 obtain⟨a6,c6,rfl,⟨le6,f14⟩⟩:=Af f13
 refine⟨_,_,_,_,_,_,_,rfl,?_⟩
 refine⟨o.wr 0 rfl rfl,fun w27 Bir=> ?_⟩
 obtain⟨Azo,o⟩:=o.dSs 0 Bir rfl
 refine⟨o.wr 1 rfl rfl,fun w28 Bcv=> ?_⟩
 obtain⟨Ayd,o⟩:=o.dS 1 Bcv rfl
 intro w29 Ce4
 obtain⟨Ay8,o⟩:=o.dD Ce4
 have ox1:=o
 refine⟨fun u=>Am [] w29 u,Am.refl _ _,?_⟩
 refine⟨_,_,_,_,_,_,fun u hu=>((ox1.at 0 rfl).Av8 hu (by simp)).whole,?_⟩
 refine⟨_,_,_,_,_,fun u hu=>((ox1.at 1 rfl).Av8 hu (by simp)).whole,?_⟩
 have sT9:=(Azo.trans Ayd).trans Ay8
 have Ay7:=(((sT8.trans Ax8).trans Azo).trans Ayd).trans Ay8
 refine Aa (h _ w29 (o.mn hm) _ (Ac r3 ⟨le6,(f14.st sT9)⟩) _ _ Av1 (Av2.st Ay7)) ?_
 rintro _ w30 ⟨x8,h,⟨cs8,rfl,f15⟩,ke9⟩
 obtain⟨Ayv,o⟩:=o.dE ke9
 obtain⟨a7,c7,rfl,⟨le7,f16⟩⟩:=Af f15
 refine⟨_,_,_,_,_,_,rfl,?_⟩
 refine⟨(ke9.mono (by simp)),?_⟩
 have Azn:=Ay7.trans Ayv
 refine Aa (h _ w30 (o.mn hm) _ (Ac x8 ⟨le7,f16⟩) _ _ Av1 (Av2.st Azn)) ?_
 rintro _ w31 ⟨x9,h,⟨cs9,rfl,f17⟩,Bad⟩
 obtain⟨Ayw,o⟩:=o.dE Bad
 obtain⟨a8,c8,rfl,⟨le8,f18⟩⟩:=Af f17
 refine⟨_,_,_,_,_,_,rfl,?_⟩
 refine⟨((ke9.mono (by simp)).trans (Bad.mono (by simp))),?_⟩
 have Azw:=Azn.trans Ayw
 refine Aa (h _ w31 (o.mn hm) _ (Ac x9 ⟨le8,f18⟩) _ _ Av1 (Av2.st Azw)) ?_
 rintro _ w32 ⟨x10,h,⟨Bl1,rfl,f19⟩,Bcj⟩
 obtain⟨Bae,o⟩:=o.dE Bcj
 obtain⟨a9,c9,rfl,⟨le9,f20⟩⟩:=Af f19
 refine⟨_,_,_,_,_,_,rfl,?_⟩
 refine⟨(((ke9.mono (by simp)).trans (Bad.mono (by simp))).trans (Bcj.mono (by simp))),?_⟩
 refine Aa (h _ w32 (o.mn hm) _ (Ac x10 ⟨le9,f20⟩) _ (Bu (⟨18,r4,0,0,x.at_⟩:Aj))) ?_
 rintro _ w33 ⟨x11,h,⟨Bl2,rfl,f21⟩,Bdr⟩
 obtain⟨Baf,o⟩:=o.dE Bdr
 obtain⟨a10,c10,rfl,⟨Ba8,f22⟩⟩:=Af f21
 refine⟨_,_,_,_,_,_,rfl,?_⟩
 refine⟨o.wr 3 rfl rfl,fun w34 Be0=> ?_⟩
 obtain⟨Azz,o⟩:=o.dSs 3 Be0 rfl
 refine⟨_,_,_,_,_,_,(o.at 3 rfl).whole,?_⟩
 exact⟨x11,h,⟨_,rfl,(Ac x11 ⟨Ba8,(f22.st (Azz.trans Mem.Awg))⟩)⟩,o.done⟩
 refine Ad (fun h=> ?_) (fun h=> ?_) h
 refine⟨o.wr 1 rfl rfl,fun w35 Biq=> ?_⟩
 obtain⟨Ayx,o⟩:=o.dS 1 Biq rfl
 refine⟨_,_,_,_,_,_,(o.at 0 rfl).whole,?_⟩
 have Ba5:=((st7.trans st8).trans st9).trans Ayx
 have Bas:=(((((((((st.trans st1).trans st2).trans st3).trans st4).trans st5).trans st6).trans st7).trans st8).trans st9).trans Ayx
 refine Aa (h _ w35 (o.mn hm) _ (Ac x1 ⟨le,(f2.st Ba5)⟩) _ _ Av1 (Av2.st Bas)) ?_
 rintro _ w36 ⟨x12,h,⟨Bl7,rfl,f23⟩,Bds⟩
 obtain⟨Bcn,o⟩:=o.dE Bds
 obtain⟨a11,c11,rfl,⟨Be3,f24⟩⟩:=Af f23
 refine⟨_,_,_,_,_,_,rfl,?_⟩
 have Azy:=Bas.trans Bcn
 refine Aa (h _ w36 (o.mn hm) _ (Ac x12 ⟨Be3,f24⟩) _ _ Av1 (Av2.st Azy)) ?_
 rintro _ w37 ⟨r5,r6,h,⟨Bmc,rfl,f25⟩,Bdt⟩
 obtain⟨Ay9,o⟩:=o.dE Bdt
 obtain⟨a12,c12,rfl,⟨Bcr,f26⟩⟩:=Af f25
 refine⟨_,_,_,_,_,_,_,rfl,?_⟩
 refine⟨o.wr 0 rfl rfl,fun w38 Bh9=> ?_⟩
 obtain⟨Bag,o⟩:=o.dSs 0 Bh9 rfl
 refine⟨o.wr 1 rfl rfl,fun w39 Bmp=> ?_⟩
 obtain⟨Az1,o⟩:=o.dS 1 Bmp rfl
 intro w40 Be6
 obtain⟨Bah,o⟩:=o.dD Be6
 have ox2:=o
 refine⟨fun u=>Am [] w40 u,Am.refl _ _,?_⟩
 refine⟨_,_,_,_,_,_,fun u hu=>((ox2.at 0 rfl).Av8 hu (by simp)).whole,?_⟩
 refine⟨_,_,_,_,_,fun u hu=>((ox2.at 1 rfl).Av8 hu (by simp)).whole,?_⟩
 have Bck:=(Bag.trans Az1).trans Bah
 have Az0:=(((Azy.trans Ay9).trans Bag).trans Az1).trans Bah
 refine Aa (h _ w40 (o.mn hm) _ (Ac r5 ⟨Bcr,(f26.st Bck)⟩) _ _ Av1 (Av2.st Az0)) ?_
 rintro _ w41 ⟨x13,h,⟨Bmf,rfl,f27⟩,Ba6⟩
 obtain⟨Bcm,o⟩:=o.dE Ba6
 obtain⟨a13,c13,rfl,⟨Bd4,f28⟩⟩:=Af f27
 refine⟨_,_,_,_,_,_,rfl,?_⟩
 refine⟨(Ba6.mono (by simp)),?_⟩
 have Bcl:=Az0.trans Bcm
 refine Aa (h _ w41 (o.mn hm) _ (Ac x13 ⟨Bd4,f28⟩) _ _ Av1 (Av2.st Bcl)) ?_
 rintro _ w42 ⟨x14,h,⟨Ce5,rfl,f29⟩,Ba7⟩
 obtain⟨Bat,o⟩:=o.dE Ba7
 obtain⟨a14,c14,rfl,⟨Bd7,f30⟩⟩:=Af f29
 refine⟨_,_,_,_,_,_,rfl,?_⟩
 refine⟨((Ba6.mono (by simp)).trans (Ba7.mono (by simp))),?_⟩
 refine Aa (h _ w42 (o.mn hm) _ (Ac x14 ⟨Bd7,f30⟩) _ (Bu (⟨26,r6,0,0,x.at_⟩:Aj))) ?_
 rintro _ w43 ⟨x15,h,⟨Ce6,rfl,f31⟩,Bdv⟩
 obtain⟨Be1,o⟩:=o.dE Bdv
 obtain⟨a15,c15,rfl,⟨Bcs,f32⟩⟩:=Af f31
 refine⟨_,_,_,_,_,_,rfl,?_⟩
 refine⟨o.wr 3 rfl rfl,fun w44 Ce7=> ?_⟩
 obtain⟨Bh7,o⟩:=o.dSs 3 Ce7 rfl
 refine⟨_,_,_,_,_,_,(o.at 3 rfl).whole,?_⟩
 exact⟨x15,h,⟨_,rfl,(Ac x15 ⟨Bcs,(f32.st (Bh7.trans Mem.Awg))⟩)⟩,o.done⟩
 refine Ad (fun h=> ?_) (fun h=> ?_) h
 refine⟨o.wr 1 rfl rfl,fun w45 Bl5=> ?_⟩
 obtain⟨Bcp,o⟩:=o.dS 1 Bl5 rfl
 intro w46 Bmq
 obtain⟨Bdx,o⟩:=o.dD Bmq
 have ox3:=o
 refine⟨fun u=>Am [] w46 u,Am.refl _ _,?_⟩
 refine⟨_,_,_,_,_,_,fun u hu=>((ox3.at 0 rfl).Av8 hu (by simp)).whole,?_⟩
 refine⟨_,_,_,_,_,fun u hu=>((ox3.at 1 rfl).Av8 hu (by simp)).whole,?_⟩
 have Bey:=(((st7.trans st8).trans st9).trans Bcp).trans Bdx
 have Bdu:=((((((((((st.trans st1).trans st2).trans st3).trans st4).trans st5).trans st6).trans st7).trans st8).trans st9).trans Bcp).trans Bdx
 refine Aa (h _ w46 (o.mn hm) _ (Ac x1 ⟨le,(f2.st Bey)⟩) _ _ Av1 (Av2.st Bdu)) ?_
 rintro _ w47 ⟨x16,h,⟨Ce8,rfl,f33⟩,Bco⟩
 obtain⟨Bdy,o⟩:=o.dE Bco
 obtain⟨a16,c16,rfl,⟨Big,f34⟩⟩:=Af f33
 refine⟨_,_,_,_,_,_,rfl,?_⟩
 refine⟨(Bco.mono (by simp)),?_⟩
 have Bez:=Bdu.trans Bdy
 refine Aa (h _ w47 (o.mn hm) _ (Ac x16 ⟨Big,f34⟩) _ _ Av1 (Av2.st Bez)) ?_
 rintro _ w48 ⟨x17,h,⟨Ce9,rfl,f35⟩,Ba9⟩
 obtain⟨Be4,o⟩:=o.dE Ba9
 obtain⟨a17,c17,rfl,⟨Bii,f36⟩⟩:=Af f35
 refine⟨_,_,_,_,_,_,rfl,?_⟩
 refine⟨((Bco.mono (by simp)).trans (Ba9.mono (by simp))),?_⟩
 have Bh6:=Bez.trans Be4
 refine Aa (h _ w48 (o.mn hm) _ (Ac x17 ⟨Bii,f36⟩) _ _ Av1 (Av2.st Bh6)) ?_
 rintro _ w49 ⟨x18,h,⟨Cfa,rfl,f37⟩,Be5⟩
 obtain⟨Bx7,o⟩:=o.dE Be5
 obtain⟨a18,c18,rfl,⟨Bik,f38⟩⟩:=Af f37
 refine⟨_,_,_,_,_,_,rfl,?_⟩
 refine⟨(((Bco.mono (by simp)).trans (Ba9.mono (by simp))).trans (Be5.mono (by simp))),?_⟩
 refine Aa (h _ w49 (o.mn hm) _ (Ac x18 ⟨Bik,f38⟩) _ (Bu (⟨27,[],0,0,x.at_⟩:Aj))) ?_
 rintro _ w50 ⟨x19,h,⟨Cfb,rfl,f39⟩,Bd1⟩
 obtain⟨Bia,o⟩:=o.dE Bd1
 obtain⟨a19,c19,rfl,⟨Bim,f40⟩⟩:=Af f39
 refine⟨_,_,_,_,_,_,rfl,?_⟩
 refine⟨o.wr 3 rfl rfl,fun w51 Bmr=> ?_⟩
 obtain⟨Bdz,o⟩:=o.dSs 3 Bmr rfl
 refine⟨_,_,_,_,_,_,(o.at 3 rfl).whole,?_⟩
 exact⟨x19,h,⟨_,rfl,(Ac x19 ⟨Bim,(f40.st (Bdz.trans Mem.Awg))⟩)⟩,o.done⟩
 refine Ad (fun h=> ?_) (fun h=> ?_) h
 refine⟨o.wr 1 rfl rfl,fun w52 Bms=> ?_⟩
 obtain⟨Bd2,o⟩:=o.dS 1 Bms rfl
 intro w53 Be8
 obtain⟨Be7,o⟩:=o.dD Be8
 have ox4:=o
 refine⟨fun u=>Am [] w53 u,Am.refl _ _,?_⟩
 refine⟨_,_,_,_,_,_,fun u hu=>((ox4.at 0 rfl).Av8 hu (by simp)).whole,?_⟩
 refine⟨_,_,_,_,_,fun u hu=>((ox4.at 1 rfl).Av8 hu (by simp)).whole,?_⟩
 have Be2:=(((st7.trans st8).trans st9).trans Bd2).trans Be7
 have Bdw:=((((((((((st.trans st1).trans st2).trans st3).trans st4).trans st5).trans st6).trans st7).trans st8).trans st9).trans Bd2).trans Be7
 refine Aa (h _ w53 (o.mn hm) _ (Ac x1 ⟨le,(f2.st Be2)⟩) _ _ Av1 (Av2.st Bdw)) ?_
 rintro _ w54 ⟨x20,h,⟨Cfc,rfl,f41⟩,Bba⟩
 obtain⟨Bd3,o⟩:=o.dE Bba
 obtain⟨a20,c20,rfl,⟨Bmt,f42⟩⟩:=Af f41
 refine⟨_,_,_,_,_,_,rfl,?_⟩
 refine⟨(Bba.mono (by simp)),?_⟩
 have Bcq:=Bdw.trans Bd3
 refine Aa (h _ w54 (o.mn hm) _ (Ac x20 ⟨Bmt,f42⟩) _ _ Av1 (Av2.st Bcq)) ?_
 rintro _ w55 ⟨x21,h,⟨Cfd,rfl,f43⟩,Bd6⟩
 obtain⟨Bd5,o⟩:=o.dE Bd6
 obtain⟨a21,c21,rfl,⟨Bmu,f44⟩⟩:=Af f43
 refine⟨_,_,_,_,_,_,rfl,?_⟩
 refine⟨((Bba.mono (by simp)).trans (Bd6.mono (by simp))),?_⟩
 have Bd0:=Bcq.trans Bd5
 refine Aa (h _ w55 (o.mn hm) _ (Ac x21 ⟨Bmu,f44⟩) _ _ Av1 (Av2.st Bd0)) ?_
 rintro _ w56 ⟨x22,h,⟨Cir,rfl,f45⟩,Bau⟩
 obtain⟨Bx9,o⟩:=o.dE Bau
 obtain⟨a22,c22,rfl,⟨Bmv,f46⟩⟩:=Af f45
 refine⟨_,_,_,_,_,_,rfl,?_⟩
 refine⟨(((Bba.mono (by simp)).trans (Bd6.mono (by simp))).trans (Bau.mono (by simp))),?_⟩
 refine Aa (h _ w56 (o.mn hm) _ (Ac x22 ⟨Bmv,f46⟩) _ (Bu (⟨28,[],0,0,x.at_⟩:Aj))) ?_
 rintro _ w57 ⟨x23,h,⟨Cis,rfl,f47⟩,Bd8⟩
 obtain⟨Bj7,o⟩:=o.dE Bd8
 obtain⟨a23,c23,rfl,⟨Bmw,f48⟩⟩:=Af f47
 refine⟨_,_,_,_,_,_,rfl,?_⟩
 refine⟨o.wr 3 rfl rfl,fun w58 Be9=> ?_⟩
 obtain⟨Bib,o⟩:=o.dSs 3 Be9 rfl
 refine⟨_,_,_,_,_,_,(o.at 3 rfl).whole,?_⟩
 exact⟨x23,h,⟨_,rfl,(Ac x23 ⟨Bmw,(f48.st (Bib.trans Mem.Awg))⟩)⟩,o.done⟩
 refine Ad (fun h=> ?_) (fun h=> ?_) h
 refine⟨o.wr 1 rfl rfl,fun w59 Cfe=> ?_⟩
 obtain⟨Bic,o⟩:=o.dS 1 Cfe rfl
 intro w60 Bkj
 obtain⟨Bid,o⟩:=o.dD Bkj
 have ox5:=o
 refine⟨fun u=>Am [] w60 u,Am.refl _ _,?_⟩
 refine⟨_,_,_,_,_,_,fun u hu=>((ox5.at 0 rfl).Av8 hu (by simp)).whole,?_⟩
 refine⟨_,_,_,_,_,fun u hu=>((ox5.at 1 rfl).Av8 hu (by simp)).whole,?_⟩
 have Bj4:=(((st7.trans st8).trans st9).trans Bic).trans Bid
 have Bj5:=((((((((((st.trans st1).trans st2).trans st3).trans st4).trans st5).trans st6).trans st7).trans st8).trans st9).trans Bic).trans Bid
 refine Aa (h _ w60 (o.mn hm) _ (Ac x1 ⟨le,(f2.st Bj4)⟩) _ _ Av1 (Av2.st Bj5)) ?_
 rintro _ w61 ⟨x24,h,⟨Cit,rfl,f49⟩,Bbb⟩
 obtain⟨Bya,o⟩:=o.dE Bbb
 obtain⟨a24,c24,rfl,⟨Bmx,f50⟩⟩:=Af f49
 refine⟨_,_,_,_,_,_,rfl,?_⟩
 refine⟨(Bbb.mono (by simp)),?_⟩
 have Bj6:=Bj5.trans Bya
 refine Aa (h _ w61 (o.mn hm) _ (Ac x24 ⟨Bmx,f50⟩) _ _ Av1 (Av2.st Bj6)) ?_
 rintro _ w62 ⟨x25,h,⟨Ciu,rfl,f51⟩,Bd9⟩
 obtain⟨Bl8,o⟩:=o.dE Bd9
 obtain⟨a25,c25,rfl,⟨Cff,f52⟩⟩:=Af f51
 refine⟨_,_,_,_,_,_,rfl,?_⟩
 refine⟨((Bbb.mono (by simp)).trans (Bd9.mono (by simp))),?_⟩
 have Bj8:=Bj6.trans Bl8
 refine Aa (h _ w62 (o.mn hm) _ (Ac x25 ⟨Cff,f52⟩) _ _ Av1 (Av2.st Bj8)) ?_
 rintro _ w63 ⟨x26,h,⟨Civ,rfl,f53⟩,Bkb⟩
 obtain⟨Bma,o⟩:=o.dE Bkb
 obtain⟨a26,c26,rfl,⟨Cfg,f54⟩⟩:=Af f53
 refine⟨_,_,_,_,_,_,rfl,?_⟩
 refine⟨(((Bbb.mono (by simp)).trans (Bd9.mono (by simp))).trans (Bkb.mono (by simp))),?_⟩
 refine Aa (h _ w63 (o.mn hm) _ (Ac x26 ⟨Cfg,f54⟩) _ (Bu (⟨29,[],0,0,x.at_⟩:Aj))) ?_
 rintro _ w64 ⟨x27,h,⟨Ciw,rfl,f55⟩,Bme⟩
 obtain⟨Bmb,o⟩:=o.dE Bme
 obtain⟨a27,c27,rfl,⟨Cfh,f56⟩⟩:=Af f55
 refine⟨_,_,_,_,_,_,rfl,?_⟩
 refine⟨o.wr 3 rfl rfl,fun w65 Cfi=> ?_⟩
 obtain⟨Byd,o⟩:=o.dSs 3 Cfi rfl
 refine⟨_,_,_,_,_,_,(o.at 3 rfl).whole,?_⟩
 exact⟨x27,h,⟨_,rfl,(Ac x27 ⟨Cfh,(f56.st (Byd.trans Mem.Awg))⟩)⟩,o.done⟩
 refine Ad (fun h=> ?_) (fun h=> ?_) h
 refine⟨o.wr 1 rfl rfl,fun w66 Cfj=> ?_⟩
 obtain⟨Bkc,o⟩:=o.dS 1 Cfj rfl
 intro w67 Cfk
 obtain⟨Bif,o⟩:=o.dD Cfk
 have ox6:=o
 refine⟨fun u=>Am [] w67 u,Am.refl _ _,?_⟩
 refine⟨_,_,_,_,_,_,fun u hu=>((ox6.at 0 rfl).Av8 hu (by simp)).whole,?_⟩
 refine⟨_,_,_,_,_,fun u hu=>((ox6.at 1 rfl).Av8 hu (by simp)).whole,?_⟩
 have Bka:=(((st7.trans st8).trans st9).trans Bkc).trans Bif
 have Bie:=((((((((((st.trans st1).trans st2).trans st3).trans st4).trans st5).trans st6).trans st7).trans st8).trans st9).trans Bkc).trans Bif
 refine Aa (h _ w67 (o.mn hm) _ (Ac x1 ⟨le,(f2.st Bka)⟩) _ _ Av1 (Av2.st Bie)) ?_
 rintro _ w68 ⟨x28,h,⟨Cix,rfl,f57⟩,Bih⟩
 obtain⟨Bkd,o⟩:=o.dE Bih
 obtain⟨a28,c28,rfl,⟨Cfl,f58⟩⟩:=Af f57
 refine⟨_,_,_,_,_,_,rfl,?_⟩
 refine⟨(Bih.mono (by simp)),?_⟩
 have Bke:=Bie.trans Bkd
 refine Aa (h _ w68 (o.mn hm) _ (Ac x28 ⟨Cfl,f58⟩) _ _ Av1 (Av2.st Bke)) ?_
 rintro _ w69 ⟨x29,h,⟨Ciy,rfl,f59⟩,Bkh⟩
 obtain⟨Cd8,o⟩:=o.dE Bkh
 obtain⟨a29,c29,rfl,⟨Cfm,f60⟩⟩:=Af f59
 refine⟨_,_,_,_,_,_,rfl,?_⟩
 refine⟨((Bih.mono (by simp)).trans (Bkh.mono (by simp))),?_⟩
 refine Aa (h _ w69 (o.mn hm) _ (Ac x29 ⟨Cfm,f60⟩) _ (Bu (⟨30,[],0,0,x.at_⟩:Aj))) ?_
 rintro _ w70 ⟨x30,h,⟨Ciz,rfl,f61⟩,Bmk⟩
 obtain⟨Byg,o⟩:=o.dE Bmk
 obtain⟨a30,c30,rfl,⟨Cfn,f62⟩⟩:=Af f61
 refine⟨_,_,_,_,_,_,rfl,?_⟩
 refine⟨o.wr 3 rfl rfl,fun w71 Cfo=> ?_⟩
 obtain⟨Bkf,o⟩:=o.dSs 3 Cfo rfl
 refine⟨_,_,_,_,_,_,(o.at 3 rfl).whole,?_⟩
 exact⟨x30,h,⟨_,rfl,(Ac x30 ⟨Cfn,(f62.st (Bkf.trans Mem.Awg))⟩)⟩,o.done⟩
 refine Ad (fun h=> ?_) (fun h=> ?_) h
 refine⟨o.wr 1 rfl rfl,fun w72 Cfp=> ?_⟩
 obtain⟨Bij,o⟩:=o.dS 1 Cfp rfl
 intro w73 Cfq
 obtain⟨Bmh,o⟩:=o.dD Cfq
 have ox7:=o
 refine⟨fun u=>Am [] w73 u,Am.refl _ _,?_⟩
 refine⟨_,_,_,_,_,_,fun u hu=>((ox7.at 0 rfl).Av8 hu (by simp)).whole,?_⟩
 refine⟨_,_,_,_,_,fun u hu=>((ox7.at 1 rfl).Av8 hu (by simp)).whole,?_⟩
 have Bkg:=(((st7.trans st8).trans st9).trans Bij).trans Bmh
 have Bil:=((((((((((st.trans st1).trans st2).trans st3).trans st4).trans st5).trans st6).trans st7).trans st8).trans st9).trans Bij).trans Bmh
 refine Aa (h _ w73 (o.mn hm) _ (Ac x1 ⟨le,(f2.st Bkg)⟩) _ _ Av1 (Av2.st Bil)) ?_
 rintro _ w74 ⟨x31,h,⟨Ci0,rfl,f63⟩,Bio⟩
 obtain⟨Bki,o⟩:=o.dE Bio
 obtain⟨a31,c31,rfl,⟨Cfr,f64⟩⟩:=Af f63
 refine⟨_,_,_,_,_,_,rfl,?_⟩
 refine⟨(Bio.mono (by simp)),?_⟩
 have Bkl:=Bil.trans Bki
 refine Aa (h _ w74 (o.mn hm) _ (Ac x31 ⟨Cfr,f64⟩) _ _ Av1 (Av2.st Bkl)) ?_
 rintro _ w75 ⟨x32,h,⟨Ci1,rfl,f65⟩,Byk⟩
 obtain⟨Bmj,o⟩:=o.dE Byk
 obtain⟨a32,c32,rfl,⟨Cfs,f66⟩⟩:=Af f65
 refine⟨_,_,_,_,_,_,rfl,?_⟩
 refine⟨((Bio.mono (by simp)).trans (Byk.mono (by simp))),?_⟩
 refine Aa (h _ w75 (o.mn hm) _ (Ac x32 ⟨Cfs,f66⟩) _ (Bu (⟨31,[],0,0,x.at_⟩:Aj))) ?_
 rintro _ w76 ⟨x33,h,⟨Ci2,rfl,f67⟩,Cft⟩
 obtain⟨Cet,o⟩:=o.dE Cft
 obtain⟨a33,c33,rfl,⟨Cfu,f68⟩⟩:=Af f67
 refine⟨_,_,_,_,_,_,rfl,?_⟩
 refine⟨o.wr 3 rfl rfl,fun w77 Cfv=> ?_⟩
 obtain⟨Bkk,o⟩:=o.dSs 3 Cfv rfl
 refine⟨_,_,_,_,_,_,(o.at 3 rfl).whole,?_⟩
 exact⟨x33,h,⟨_,rfl,(Ac x33 ⟨Cfu,(f68.st (Bkk.trans Mem.Awg))⟩)⟩,o.done⟩
 refine Ad (fun h=> ?_) (fun h=> ?_) h
 refine⟨o.wr 1 rfl rfl,fun w78 Cfw=> ?_⟩
 obtain⟨Bin,o⟩:=o.dS 1 Cfw rfl
 intro w79 Cfx
 obtain⟨Bmm,o⟩:=o.dD Cfx
 have ox8:=o
 refine⟨fun u=>Am [] w79 u,Am.refl _ _,?_⟩
 refine⟨_,_,_,_,_,_,fun u hu=>((ox8.at 0 rfl).Av8 hu (by simp)).whole,?_⟩
 refine⟨_,_,_,_,_,fun u hu=>((ox8.at 1 rfl).Av8 hu (by simp)).whole,?_⟩
 have Cfy:=(((st7.trans st8).trans st9).trans Bin).trans Bmm
 have Byl:=((((((((((st.trans st1).trans st2).trans st3).trans st4).trans st5).trans st6).trans st7).trans st8).trans st9).trans Bin).trans Bmm
 refine Aa (h _ w79 (o.mn hm) _ (Ac x1 ⟨le,(f2.st Cfy)⟩) _ _ Av1 (Av2.st Byl)) ?_
 rintro _ w80 ⟨x34,h,⟨Ci3,rfl,f69⟩,Bko⟩
 obtain⟨Cfz,o⟩:=o.dE Bko
 obtain⟨a34,c34,rfl,⟨Cf0,f70⟩⟩:=Af f69
 refine⟨_,_,_,_,_,_,rfl,?_⟩
 refine⟨(Bko.mono (by simp)),?_⟩
 have Bym:=Byl.trans Cfz
 refine Aa (h _ w80 (o.mn hm) _ (Ac x34 ⟨Cf0,f70⟩) _ _ Av1 (Av2.st Bym)) ?_
 rintro _ w81 ⟨x35,h,⟨Ci4,rfl,f71⟩,Bmy⟩
 obtain⟨Cf1,o⟩:=o.dE Bmy
 obtain⟨a35,c35,rfl,⟨Cf2,f72⟩⟩:=Af f71
 refine⟨_,_,_,_,_,_,rfl,?_⟩
 refine⟨((Bko.mono (by simp)).trans (Bmy.mono (by simp))),?_⟩
 have Cf3:=Bym.trans Cf1
 refine Aa (h _ w81 (o.mn hm) _ (Ac x35 ⟨Cf2,f72⟩) _ _ Av1 (Av2.st Cf3)) ?_
 rintro _ w82 ⟨x36,h,⟨Ci5,rfl,f73⟩,Byn⟩
 obtain⟨Ci6,o⟩:=o.dE Byn
 obtain⟨a36,c36,rfl,⟨Cf4,f74⟩⟩:=Af f73
 refine⟨_,_,_,_,_,_,rfl,?_⟩
 refine⟨(((Bko.mono (by simp)).trans (Bmy.mono (by simp))).trans (Byn.mono (by simp))),?_⟩
 refine Aa (h _ w82 (o.mn hm) _ (Ac x36 ⟨Cf4,f74⟩) _ (Bu (⟨24,[],0,0,x.at_⟩:Aj))) ?_
 rintro _ w83 ⟨x37,h,⟨Ci7,rfl,f75⟩,Cf5⟩
 obtain⟨Ci8,o⟩:=o.dE Cf5
 obtain⟨a37,c37,rfl,⟨Cf6,f76⟩⟩:=Af f75
 refine⟨_,_,_,_,_,_,rfl,?_⟩
 refine⟨o.wr 3 rfl rfl,fun w84 Cf7=> ?_⟩
 obtain⟨Cf8,o⟩:=o.dSs 3 Cf7 rfl
 refine⟨_,_,_,_,_,_,(o.at 3 rfl).whole,?_⟩
 exact⟨x37,h,⟨_,rfl,(Ac x37 ⟨Cf6,(f76.st (Cf8.trans Mem.Awg))⟩)⟩,o.done⟩
 refine Ad (fun h=> ?_) (fun h=> ?_) h
 refine⟨o.wr 1 rfl rfl,fun w85 Cf9=> ?_⟩
 obtain⟨Byo,o⟩:=o.dS 1 Cf9 rfl
 refine⟨_,_,_,_,_,_,(o.at 0 rfl).whole,?_⟩
 have Cga:=((st7.trans st8).trans st9).trans Byo
 have Byp:=(((((((((st.trans st1).trans st2).trans st3).trans st4).trans st5).trans st6).trans st7).trans st8).trans st9).trans Byo
 refine Aa (h _ w85 (o.mn hm) _ (Ac x1 ⟨le,(f2.st Cga)⟩) _ _ Av1 (Av2.st Byp)) ?_
 rintro _ w86 ⟨x38,h,⟨Ci9,rfl,f77⟩,Cgb⟩
 obtain⟨Cgc,o⟩:=o.dE Cgb
 obtain⟨a38,c38,rfl,⟨Cgd,f78⟩⟩:=Af f77
 refine⟨_,_,_,_,_,_,rfl,?_⟩
 have Byq:=Byp.trans Cgc
 refine Aa (h _ w86 (o.mn hm) _ (Ac x38 ⟨Cgd,f78⟩) _ _ Av1 (Av2.st Byq)) ?_
 rintro _ w87 ⟨x39,h,⟨Cja,rfl,f79⟩,Cge⟩
 obtain⟨Cgf,o⟩:=o.dE Cge
 obtain⟨a39,c39,rfl,⟨Cgg,f80⟩⟩:=Af f79
 refine⟨_,_,_,_,_,_,rfl,?_⟩
 have Bmz:=Byq.trans Cgf
 refine Aa (h _ w87 (o.mn hm) _ (Ac x39 ⟨Cgg,f80⟩) _ _ Av1 (Av2.st Bmz)) ?_
 rintro _ w88 ⟨x40,h,⟨Cjb,rfl,f81⟩,Cgh⟩
 obtain⟨Byr,o⟩:=o.dE Cgh
 obtain⟨a40,c40,rfl,⟨Bys,f82⟩⟩:=Af f81
 refine⟨_,_,_,_,_,_,rfl,?_⟩
 refine⟨o.wr 0 rfl rfl,fun w89 Cgi=> ?_⟩
 obtain⟨Bkp,o⟩:=o.dSs 0 Cgi rfl
 obtain⟨J1,h,h2⟩:=h
 refine⟨fun w90=>∃(l:List Aj) (n:Int) (Av7:Int) (ex:Int) (a41:Option Addr) (c41:Nat),J1 l n Av7 ex/\(l.length<=c41/\SlR A4 (ms [.box b3 [.slice a41 l.length c41,.q n,.q Av7,.q ex],.box b2 [.q 23,.s [],.q 0,.q 0,.q x.at_],.box b1 [.q x.kind,.s x.text,.q x.n,.q x.at_],.box b [.slice none 0 0,.q 0,.q 0,.q 0]] m) w90 a41 l)/\MS w m w89 [.box b3 [.slice a40 x40.l.length c40,.q x40.n,.q x40.at_,.q x40.e_],.box b2 [.q 23,.s [],.q 0,.q 0,.q x.at_],.box b1 [.q x.kind,.s x.text,.q x.n,.q x.at_],.box b [.slice none 0 0,.q 0,.q 0,.q 0]] w90 [.box b3 [.slice a41 l.length c41,.q n,.q Av7,.q ex],.box b2 [.q 23,.s [],.q 0,.q 0,.q x.at_],.box b1 [.q x.kind,.s x.text,.q x.n,.q x.at_],.box b [.slice none 0 0,.q 0,.q 0,.q 0]],?_,?_⟩
 obtain⟨J2,h,h2⟩:=h
 refine⟨fun x41 w91=>J2 x41/\MT w m w89 w91 [.box b3 [.slice a40 x40.l.length c40,.q x40.n,.q x40.at_,.q x40.e_],.box b2 [.q 23,.s [],.q 0,.q 0,.q x.at_],.box b1 [.q x.kind,.s x.text,.q x.n,.q x.at_],.box b [.slice none 0 0,.q 0,.q 0,.q 0]],?_,?_⟩
 refine⟨_,(o.at 0 rfl).cell rfl,?_⟩
 refine Ad (fun h=> ?_) (fun h=> ?_) h
 refine⟨_,(o.at 0 rfl).cell rfl,?_⟩
 have Cgj:=(Bmz.trans Byr).trans Bkp
 refine Aa (h _ w89 (o.mn hm) _ _ Av1 (Av2.st Cgj)) ?_
 rintro _ w92 ⟨x42,h,rfl,Cgk⟩
 obtain⟨Cgl,o⟩:=o.dE Cgk
 refine⟨_,rfl,?_⟩
 exact⟨h,o,Cgl⟩
 exact⟨h,o,Step.refl _ _⟩
 rintro _ x41 w91 ⟨hJ,o,Bis⟩
 have h:=h2 x41 hJ
 refine Ad (fun h=> ?_) (fun h=> ?_) h
 refine⟨_,_,_,_,_,_,(o.at 0 rfl).whole,?_⟩
 have Byt:=((Bmz.trans Byr).trans Bkp).trans Bis
 refine Aa (h _ w91 (o.mn hm) _ (Ac x40 ⟨Bys,(f82.st (Bkp.trans Bis))⟩) _ _ Av1 (Av2.st Byt)) ?_
 rintro _ w93 ⟨x43,h,⟨Cjc,rfl,f84⟩,Cgm⟩
 obtain⟨Byu,o⟩:=o.dE Cgm
 obtain⟨a42,c42,rfl,⟨Cgn,f85⟩⟩:=Af f84
 refine⟨_,_,_,_,_,_,rfl,?_⟩
 have Cgo:=Byt.trans Byu
 refine Aa (h _ w93 (o.mn hm) _ (Ac x43 ⟨Cgn,f85⟩) _ _ Av1 (Av2.st Cgo)) ?_
 rintro _ w94 ⟨x44,h,⟨Cjd,rfl,f86⟩,Cgp⟩
 obtain⟨Cgq,o⟩:=o.dE Cgp
 obtain⟨a43,c43,rfl,⟨Cgr,f87⟩⟩:=Af f86
 refine⟨_,_,_,_,_,_,rfl,?_⟩
 refine⟨o.wr 0 rfl rfl,fun w95 Cgs=> ?_⟩
 obtain⟨Byv,o⟩:=o.dSs 0 Cgs rfl
 have Cgt:=((Bis.trans Byu).trans Cgq).trans Byv
 exact⟨x44.l,x44.n,x44.at_,x44.e_,a43,c43,h,⟨Cgr,(f87.st Byv)⟩,o,Cgt⟩
 exact⟨x40.l,x40.n,x40.at_,x40.e_,a40,c40,h,⟨Bys,(f82.st (Bkp.trans Bis))⟩,o,Bis⟩
 rintro _ w90 ⟨l,n,Av7,ex,a41,c41,hJ,⟨Cgu,f83⟩,o,Cje⟩
 have h:=h2 l n Av7 ex hJ
 refine⟨_,_,_,_,_,_,(o.at 0 rfl).whole,?_⟩
 refine⟨_,_,_,_,_,(o.at 1 rfl).whole,?_⟩
 refine Aa (h _ w90 (o.mn hm) _ (Ac (⟨l,n,Av7,ex⟩:Ai) ⟨Cgu,f83⟩) _ (Bu (⟨23,[],0,0,x.at_⟩:Aj))) ?_
 rintro _ w96 ⟨x45,h,⟨Cjf,rfl,f88⟩,Cgv⟩
 obtain⟨Cjg,o⟩:=o.dE Cgv
 obtain⟨a44,c44,rfl,⟨Cgw,f89⟩⟩:=Af f88
 refine⟨_,_,_,_,_,_,rfl,?_⟩
 refine⟨o.wr 3 rfl rfl,fun w97 Cgx=> ?_⟩
 obtain⟨Cgy,o⟩:=o.dSs 3 Cgx rfl
 refine⟨_,_,_,_,_,_,(o.at 3 rfl).whole,?_⟩
 exact⟨x45,h,⟨_,rfl,(Ac x45 ⟨Cgw,(f89.st (Cgy.trans Mem.Awg))⟩)⟩,o.done⟩
 refine Ad (fun h=> ?_) (fun h=> ?_) h
 refine⟨o.wr 1 rfl rfl,fun w98 Cgz=> ?_⟩
 obtain⟨Byw,o⟩:=o.dS 1 Cgz rfl
 refine⟨_,_,_,_,_,_,(o.at 0 rfl).whole,?_⟩
 have Cg0:=((st7.trans st8).trans st9).trans Byw
 have Byx:=(((((((((st.trans st1).trans st2).trans st3).trans st4).trans st5).trans st6).trans st7).trans st8).trans st9).trans Byw
 refine Aa (h _ w98 (o.mn hm) _ (Ac x1 ⟨le,(f2.st Cg0)⟩) _ _ Av1 (Av2.st Byx)) ?_
 rintro _ w99 ⟨x46,h,⟨Cjh,rfl,f90⟩,Cg1⟩
 obtain⟨Cg2,o⟩:=o.dE Cg1
 obtain⟨a45,c45,rfl,⟨Cg3,f91⟩⟩:=Af f90
 refine⟨_,_,_,_,_,_,rfl,?_⟩
 have Bit:=Byx.trans Cg2
 refine Aa (h _ w99 (o.mn hm) _ (Ac x46 ⟨Cg3,f91⟩) _ _ Av1 (Av2.st Bit)) ?_
 rintro _ Blc ⟨x47,h,⟨Cji,rfl,f92⟩,Cg4⟩
 obtain⟨Bkq,o⟩:=o.dE Cg4
 obtain⟨a46,c46,rfl,⟨Byy,f93⟩⟩:=Af f92
 refine⟨_,_,_,_,_,_,rfl,?_⟩
 refine⟨o.wr 0 rfl rfl,fun Bes Byz=> ?_⟩
 obtain⟨Bax,o⟩:=o.dSs 0 Byz rfl
 obtain⟨J3,h,h2⟩:=h
 refine⟨fun Bch=>∃(l1:List Aj) (n1:Int) (Aw5:Int) (ex1:Int) (a47:Option Addr) (c47:Nat),J3 l1 n1 Aw5 ex1/\(l1.length<=c47/\SlR A4 (ms [.box b3 [.slice a47 l1.length c47,.q n1,.q Aw5,.q ex1],.box b2 [.q 25,.s [],.q 0,.q 0,.q x.at_],.box b1 [.q x.kind,.s x.text,.q x.n,.q x.at_],.box b [.slice none 0 0,.q 0,.q 0,.q 0]] m) Bch a47 l1)/\MS w m Bes [.box b3 [.slice a46 x47.l.length c46,.q x47.n,.q x47.at_,.q x47.e_],.box b2 [.q 25,.s [],.q 0,.q 0,.q x.at_],.box b1 [.q x.kind,.s x.text,.q x.n,.q x.at_],.box b [.slice none 0 0,.q 0,.q 0,.q 0]] Bch [.box b3 [.slice a47 l1.length c47,.q n1,.q Aw5,.q ex1],.box b2 [.q 25,.s [],.q 0,.q 0,.q x.at_],.box b1 [.q x.kind,.s x.text,.q x.n,.q x.at_],.box b [.slice none 0 0,.q 0,.q 0,.q 0]],?_,?_⟩
 refine⟨_,(o.at 0 rfl).cell rfl,?_⟩
 refine Ad (fun h=> ?_) (fun h=> ?_) h
 intro Bhr By0
 obtain⟨Biu,o⟩:=o.dD By0
 have ox9:=o
 refine⟨fun u=>Am [] Bhr u,Am.refl _ _,?_⟩
 refine⟨_,_,_,_,_,_,fun u hu=>((ox9.at 0 rfl).Av8 hu (by simp)).whole,?_⟩
 refine⟨_,fun u hu=>((ox9.at 0 rfl).Av8 hu (by simp)).cell rfl,?_⟩
 have Cg5:=((Bit.trans Bkq).trans Bax).trans Biu
 refine Aa (h _ Bhr (o.mn hm) _ _ Av1 (Av2.st Cg5)) ?_
 rintro _ Bju ⟨x48,h,⟨Cjj,rfl,f95⟩,By1⟩
 obtain⟨Bkx,o⟩:=o.dE By1
 obtain⟨a48,c48,rfl,⟨Cg6,f96⟩⟩:=Af f95
 refine⟨_,_,_,_,_,_,rfl,?_⟩
 refine⟨(By1.mono (by simp)),?_⟩
 have Cg7:=(Bax.trans Biu).trans Bkx
 refine Aa (h _ Bju (o.mn hm) _ (Ac x47 ⟨Byy,(f93.st Cg7)⟩) _ (Ac x48 ⟨Cg6,f96⟩)) ?_
 rintro _ Bld ⟨x49,h,⟨Cjk,rfl,f97⟩,Cg8⟩
 obtain⟨By2,o⟩:=o.dE Cg8
 obtain⟨a49,c49,rfl,⟨Cg9,f98⟩⟩:=Af f97
 refine⟨_,_,_,_,_,_,rfl,?_⟩
 refine⟨o.wr 0 rfl rfl,fun Ble By3=> ?_⟩
 obtain⟨Bky,o⟩:=o.dSs 0 By3 rfl
 have Cha:=((Biu.trans Bkx).trans By2).trans Bky
 exact⟨x49.l,x49.n,x49.at_,x49.e_,a49,c49,h,⟨Cg9,(f98.st Bky)⟩,o,Cha⟩
 exact⟨x47.l,x47.n,x47.at_,x47.e_,a46,c46,h,⟨Byy,(f93.st Bax)⟩,o,Step.refl _ _⟩
 rintro _ Bch ⟨l1,n1,Aw5,ex1,a47,c47,hJ,⟨Chb,f94⟩,o,Biv⟩
 have h:=h2 l1 n1 Aw5 ex1 hJ
 obtain⟨I,⟨n5,h⟩,h2⟩:=h
 obtain⟨Z,hZ⟩:∃Z:World->Nat->Prop,Z=fun Ayb n3=>∃(l2:List Aj) (n2:Int) (Aw8:Int) (ex2:Int) (a50:Option Addr) (c50:Nat),I l2 n2 Aw8 ex2 n3/\(l2.length<=c50/\SlR A4 (ms [.box b3 [.slice a50 l2.length c50,.q n2,.q Aw8,.q ex2],.box b2 [.q 25,.s [],.q 0,.q 0,.q x.at_],.box b1 [.q x.kind,.s x.text,.q x.n,.q x.at_],.box b [.slice none 0 0,.q 0,.q 0,.q 0]] m) Ayb a50 l2)/\MS w m Bch [.box b3 [.slice a47 l1.length c47,.q n1,.q Aw5,.q ex1],.box b2 [.q 25,.s [],.q 0,.q 0,.q x.at_],.box b1 [.q x.kind,.s x.text,.q x.n,.q x.at_],.box b [.slice none 0 0,.q 0,.q 0,.q 0]] Ayb [.box b3 [.slice a50 l2.length c50,.q n2,.q Aw8,.q ex2],.box b2 [.q 25,.s [],.q 0,.q 0,.q x.at_],.box b1 [.q x.kind,.s x.text,.q x.n,.q x.at_],.box b [.slice none 0 0,.q 0,.q 0,.q 0]]:=⟨_,rfl⟩
 refine⟨fun Ayb=>∃n3,Z Ayb n3,fun Ayb=>Awb (Z Ayb),⟨n5,?_⟩,?_⟩
 rw [hZ];exact⟨l1,n1,Aw5,ex1,a47,c47,h,⟨Chb,f94⟩,o,Step.refl _ _⟩
 intro _ Ayb hIZ
 obtain⟨n3,Biw⟩:∃n3,n3=Awb (Z Ayb):=⟨_,rfl⟩
 have hIZ:=C2 hIZ
 rw [←Biw,hZ]at hIZ
 obtain⟨l2,n2,Aw8,ex2,a50,c50,h,⟨By4,f99⟩,o,Bej⟩:=hIZ
 have h:=h2 l2 n2 Aw8 ex2 n3 h
 obtain⟨J4,h,h2⟩:=h
 refine⟨fun x50 Bjv=>J4 x50/\MT w m Ayb Bjv [.box b3 [.slice a50 l2.length c50,.q n2,.q Aw8,.q ex2],.box b2 [.q 25,.s [],.q 0,.q 0,.q x.at_],.box b1 [.q x.kind,.s x.text,.q x.n,.q x.at_],.box b [.slice none 0 0,.q 0,.q 0,.q 0]],?_,?_⟩
 refine⟨_,(o.at 0 rfl).cell rfl,?_⟩
 refine Ad (fun h=> ?_) (fun h=> ?_) h
 refine⟨_,(o.at 0 rfl).cell rfl,?_⟩
 have Chc:=(((Bit.trans Bkq).trans Bax).trans Biv).trans Bej
 refine Aa (h _ Ayb (o.mn hm) _ _ Av1 (Av2.st Chc)) ?_
 rintro _ Bjw ⟨x51,h,rfl,Chd⟩
 obtain⟨By5,o⟩:=o.dE Chd
 refine⟨_,rfl,?_⟩
 exact⟨h,o,By5⟩
 exact⟨h,o,Step.refl _ _⟩
 rintro _ x50 Bjv ⟨hJ,o,Bcw⟩
 have h:=h2 x50 hJ
 refine Ad (fun h=> ?_) (fun h=> ?_) h
 intro Bet By6
 obtain⟨Bix,o⟩:=o.dD By6
 have By7:=o
 refine⟨fun u=>Am [] Bet u,Am.refl _ _,?_⟩
 refine⟨_,_,_,_,_,_,fun u hu=>((By7.at 0 rfl).Av8 hu (by simp)).whole,?_⟩
 refine⟨_,fun u hu=>((By7.at 0 rfl).Av8 hu (by simp)).cell rfl,?_⟩
 have Che:=(((((Bit.trans Bkq).trans Bax).trans Biv).trans Bej).trans Bcw).trans Bix
 refine Aa (h _ Bet (o.mn hm) _ _ Av1 (Av2.st Che)) ?_
 rintro _ Bjx ⟨x52,h,⟨Cjl,rfl,f100⟩,By8⟩
 obtain⟨Bkz,o⟩:=o.dE By8
 obtain⟨a51,c51,rfl,⟨Chf,f101⟩⟩:=Af f100
 refine⟨_,_,_,_,_,_,rfl,?_⟩
 refine⟨(By8.mono (by simp)),?_⟩
 have Chg:=(Bcw.trans Bix).trans Bkz
 refine Aa (h _ Bjx (o.mn hm) _ (Ac (⟨l2,n2,Aw8,ex2⟩:Ai) ⟨By4,(f99.st Chg)⟩) _ (Ac x52 ⟨Chf,f101⟩)) ?_
 rintro _ Blf ⟨x53,h,⟨Cjm,rfl,f102⟩,Chh⟩
 obtain⟨By9,o⟩:=o.dE Chh
 obtain⟨a52,c52,rfl,⟨Chi,f103⟩⟩:=Af f102
 refine⟨_,_,_,_,_,_,rfl,?_⟩
 refine⟨o.wr 0 rfl rfl,fun Bhs Bza=> ?_⟩
 obtain⟨Bk0,o⟩:=o.dSs 0 Bza rfl
 obtain⟨n4,hl,h⟩:=h
 have Chj:=((((Bej.trans Bcw).trans Bix).trans Bkz).trans By9).trans Bk0
 exact B8 Biw (show Z Bhs n4 from(by rw [hZ];exact⟨x53.l,x53.n,x53.at_,x53.e_,a52,c52,h,⟨Chi,(f103.st Bk0)⟩,o,Chj⟩)) hl
 intro Beu Bzb
 obtain⟨Bk1,o⟩:=o.dD Bzb
 have Bzc:=o
 refine⟨fun u=>Am [] Beu u,Am.refl _ _,?_⟩
 refine⟨_,_,_,_,_,_,fun u hu=>((Bzc.at 0 rfl).Av8 hu (by simp)).whole,?_⟩
 refine⟨_,_,_,_,_,fun u hu=>((Bzc.at 1 rfl).Av8 hu (by simp)).whole,?_⟩
 have Chk:=(((((Bit.trans Bkq).trans Bax).trans Biv).trans Bej).trans Bcw).trans Bk1
 refine Aa (h _ Beu (o.mn hm) _ (Ac (⟨l2,n2,Aw8,ex2⟩:Ai) ⟨By4,(f99.st (Bcw.trans Bk1))⟩) _ _ Av1 (Av2.st Chk)) ?_
 rintro _ Bjy ⟨x54,h,⟨Cjn,rfl,f104⟩,Bzd⟩
 obtain⟨Cib,o⟩:=o.dE Bzd
 obtain⟨a53,c53,rfl,⟨Chl,f105⟩⟩:=Af f104
 refine⟨_,_,_,_,_,_,rfl,?_⟩
 refine⟨(Bzd.mono (by simp)),?_⟩
 refine Aa (h _ Bjy (o.mn hm) _ (Ac x54 ⟨Chl,f105⟩) _ (Bu (⟨25,[],0,0,x.at_⟩:Aj))) ?_
 rintro _ Blg ⟨x55,h,⟨Cjo,rfl,f106⟩,Chm⟩
 obtain⟨Cic,o⟩:=o.dE Chm
 obtain⟨a54,c54,rfl,⟨Chn,f107⟩⟩:=Af f106
 refine⟨_,_,_,_,_,_,rfl,?_⟩
 refine⟨o.wr 3 rfl rfl,fun Bjz Bze=> ?_⟩
 obtain⟨Bzf,o⟩:=o.dSs 3 Bze rfl
 refine⟨_,_,_,_,_,_,(o.at 3 rfl).whole,?_⟩
 exact⟨x55,h,⟨_,rfl,(Ac x55 ⟨Chn,(f107.st (Bzf.trans Mem.Awg))⟩)⟩,o.done⟩
 refine⟨o.wr 0 rfl rfl,fun Bht Bzg=> ?_⟩
 obtain⟨Bzh,o⟩:=o.dS 0 Bzg rfl
 refine⟨_,_,_,_,_,_,(o.at 0 rfl).whole,?_⟩
 refine⟨o.wr 3 rfl rfl,fun Bj0 Bzi=> ?_⟩
 obtain⟨Bzj,o⟩:=o.dSs 3 Bzi rfl
 refine⟨_,_,_,_,_,_,(o.at 3 rfl).whole,?_⟩
 exact⟨(⟨x1.l,x1.n,x1.at_,11⟩:Ai),h,⟨_,rfl,(Ac (⟨x1.l,x1.n,x1.at_,11⟩:Ai) ⟨le,(f2.st (st7.trans (st8.trans (st9.trans (Bzh.trans (Bzj.trans Mem.Awg))))))⟩)⟩,o.done⟩
def Adk (toks:List Aq) (atx:Int) (K:Ai->Prop):Prop:=
 Dp toks atx (fun x=>
 Cm toks atx [99,104,97,110] (fun x1=>
 cond (x1)
 (D6 atx (fun x2=>
 Ak x2 toks [99,104,97,110] (fun x3=>
 Db x3 toks (fun r r1=>
 ∃(J:(List Aj)->Int->Int->Int->Int->(List UInt8)->Int->Int->Int->Prop),
 (∃(J1:Bool->Prop),
 (cond (r.e_==0)
 (Cm toks r.at_ [91] (fun x5=>
 J1 x5))
 (J1 false))/\
 ∀(x4:Bool),J1 x4->
 cond (x4)
 (Ak r toks [91] (fun x6=>
 Mc x6 toks (fun r2 r3=>
 Ak r2 toks [93] (fun x7=>
 J x7.l x7.n x7.at_ x7.e_ 38 r1 r3 0 x.at_))))
 (J r.l r.n r.at_ r.e_ 38 r1 0 0 x.at_))/\
 ∀(l:List Aj) (n:Int) (Av7:Int) (ex:Int) (Op:Int) (Na:List UInt8) (N:Int) (Ki:Int) (At:Int),J l n Av7 ex Op Na N Ki At->
 Ak (⟨l,n,Av7,ex⟩:Ai) toks [59] (fun x8=>
 Ay x8 (⟨Op,Na,N,Ki,At⟩:Aj) (fun x9=>
 K x9))))))
 (Cm toks atx [112,114,111,99] (fun x10=>
 cond (x10)
 (D6 atx (fun x11=>
 Ak x11 toks [112,114,111,99] (fun x12=>
 Db x12 toks (fun r4 r5=>
 Ak r4 toks [40] (fun x13=>
 ∃(J2:(List Aj)->Int->Int->Int->Prop),
 (∃(J3:Bool->Prop),
 (cond (x13.e_==0)
 (Cm toks x13.at_ [41] (fun x15=>
 J3 (!x15)))
 (J3 false))/\
 ∀(x14:Bool),J3 x14->
 cond (x14)
 (H8 x13 toks (fun x16=>
 ∃(I:(List Aj)->Int->Int->Int->Nat->Prop),(∃n3,I x16.l x16.n x16.at_ x16.e_ n3)/\
 ∀(l2:List Aj) (n2:Int) (Aw8:Int) (ex2:Int) (n3:Nat),I l2 n2 Aw8 ex2 n3->
 ∃(J4:Bool->Prop),
 (cond (ex2==0)
 (Cm toks Aw8 [44] (fun x18=>
 J4 x18))
 (J4 false))/\
 ∀(x17:Bool),J4 x17->
 cond (x17)
 (Ak (⟨l2,n2,Aw8,ex2⟩:Ai) toks [44] (fun x19=>
 H8 x19 toks (fun x20=>
 ∃n4,n4<n3/\I x20.l x20.n x20.at_ x20.e_ n4)))
 (J2 l2 n2 Aw8 ex2)))
 (J2 x13.l x13.n x13.at_ x13.e_))/\
 ∀(l1:List Aj) (n1:Int) (Aw5:Int) (ex1:Int),J2 l1 n1 Aw5 ex1->
 Ak (⟨l1,n1,Aw5,ex1⟩:Ai) toks [41] (fun x21=>
 Es x21 toks 1 (fun x22=>
 Ay x22 (⟨40,r5,0,0,x.at_⟩:Aj) (fun x23=>
 K x23))))))))
 (D6 atx (fun x24=>
 Ak x24 toks [109,97,105,110] (fun x25=>
 Es x25 toks 1 (fun x26=>
 Ay x26 (⟨41,[],0,0,x.at_⟩:Aj) (fun x27=>
 K x27)))))))))
set_option maxHeartbeats 4000000 in
theorem Aax (toks:List Aq) (atx:Int) (K:Ai->Prop) (h:Adk toks atx K):Sj toks atx K:=by
 intro m w hm Av4 Av5 Av1 Av2
 have o:=Mem.start hm.lt
 refine Afv Av4 toks.length Av5 atx _ _ ?_
 intro b w1 hb hw1
 obtain⟨st,o⟩:=o.dB hb hw1
 refine Aa (h _ w1 (o.mn hm) _ _ Av1 (Av2.st st)) ?_
 rintro _ w2 ⟨x,h,⟨cs,rfl,f⟩,ke⟩
 obtain⟨st1,o⟩:=o.dE ke
 obtain rfl:=Dk f
 refine⟨_,_,_,_,rfl,?_⟩
 intro b1 w3 hb1 hw3
 obtain⟨st2,o⟩:=o.dB hb1 hw3
 refine⟨o.wr 0 rfl rfl,fun w4 hw4=> ?_⟩
 obtain⟨st3,o⟩:=o.dSs 0 hw4 rfl
 have sT:=((st.trans st1).trans st2).trans st3
 refine Aa (h _ w4 (o.mn hm) _ _ Av1 (Av2.st sT)) ?_
 rintro _ w5 ⟨x1,h,rfl,ke1⟩
 obtain⟨st4,o⟩:=o.dE ke1
 refine⟨_,rfl,?_⟩
 refine Ad (fun h=> ?_) (fun h=> ?_) h
 refine⟨o.wr 0 rfl rfl,fun w6 hw6=> ?_⟩
 obtain⟨st5,o⟩:=o.dS 0 hw6 rfl
 refine Aa (h _ w6 (o.mn hm)) ?_
 rintro _ w7 ⟨x2,h,⟨cs1,rfl,f1⟩,ke2⟩
 obtain⟨st6,o⟩:=o.dE ke2
 obtain⟨a,c,rfl,⟨le,f2⟩⟩:=Af f1
 refine⟨_,_,_,_,_,_,rfl,?_⟩
 have sT1:=((sT.trans st4).trans st5).trans st6
 refine Aa (h _ w7 (o.mn hm) _ (Ac x2 ⟨le,f2⟩) _ _ Av1 (Av2.st sT1)) ?_
 rintro _ w8 ⟨x3,h,⟨cs2,rfl,f3⟩,ke3⟩
 obtain⟨st7,o⟩:=o.dE ke3
 obtain⟨a1,c1,rfl,⟨le1,f4⟩⟩:=Af f3
 refine⟨_,_,_,_,_,_,rfl,?_⟩
 have sT2:=sT1.trans st7
 refine Aa (h _ w8 (o.mn hm) _ (Ac x3 ⟨le1,f4⟩) _ _ Av1 (Av2.st sT2)) ?_
 rintro _ w9 ⟨r,r1,h,⟨cs3,rfl,f5⟩,ke4⟩
 obtain⟨st8,o⟩:=o.dE ke4
 obtain⟨a2,c2,rfl,⟨le2,f6⟩⟩:=Af f5
 refine⟨_,_,_,_,_,_,_,rfl,?_⟩
 intro b2 w10 hb2 Azs
 obtain⟨st9,o⟩:=o.dB hb2 Azs
 refine⟨o.wr 0 rfl rfl,fun w11 Ax6=> ?_⟩
 obtain⟨Awf,o⟩:=o.dSs 0 Ax6 rfl
 refine⟨o.wr 1 rfl rfl,fun w12 Axz=> ?_⟩
 obtain⟨Awi,o⟩:=o.dS 1 Axz rfl
 obtain⟨J,h,h2⟩:=h
 refine⟨fun w13=>∃(l:List Aj) (n:Int) (Av7:Int) (ex:Int) (Op:Int) (Na:List UInt8) (N:Int) (Ki:Int) (At:Int) (a3:Option Addr) (c3:Nat),J l n Av7 ex Op Na N Ki At/\(l.length<=c3/\SlR A4 (ms [.box b2 [.slice a3 l.length c3,.q n,.q Av7,.q ex],.box b1 [.q Op,.s Na,.q N,.q Ki,.q At],.box b [.slice none 0 0,.q 0,.q 0,.q 0]] m) w13 a3 l)/\MS w m w12 [.box b2 [.slice a2 r.l.length c2,.q r.n,.q r.at_,.q r.e_],.box b1 [.q 38,.s r1,.q 0,.q 0,.q x.at_],.box b [.slice none 0 0,.q 0,.q 0,.q 0]] w13 [.box b2 [.slice a3 l.length c3,.q n,.q Av7,.q ex],.box b1 [.q Op,.s Na,.q N,.q Ki,.q At],.box b [.slice none 0 0,.q 0,.q 0,.q 0]],?_,?_⟩
 obtain⟨J1,h,h2⟩:=h
 refine⟨fun x4 w14=>J1 x4/\MT w m w12 w14 [.box b2 [.slice a2 r.l.length c2,.q r.n,.q r.at_,.q r.e_],.box b1 [.q 38,.s r1,.q 0,.q 0,.q x.at_],.box b [.slice none 0 0,.q 0,.q 0,.q 0]],?_,?_⟩
 refine⟨_,(o.at 0 rfl).cell rfl,?_⟩
 refine Ad (fun h=> ?_) (fun h=> ?_) h
 refine⟨_,(o.at 0 rfl).cell rfl,?_⟩
 have sT3:=(((sT2.trans st8).trans st9).trans Awf).trans Awi
 refine Aa (h _ w12 (o.mn hm) _ _ Av1 (Av2.st sT3)) ?_
 rintro _ w15 ⟨x5,h,rfl,ke5⟩
 obtain⟨Aws,o⟩:=o.dE ke5
 refine⟨_,rfl,?_⟩
 exact⟨h,o,Aws⟩
 exact⟨h,o,Step.refl _ _⟩
 rintro _ x4 w14 ⟨hJ,o,Awj⟩
 have h:=h2 x4 hJ
 refine Ad (fun h=> ?_) (fun h=> ?_) h
 refine⟨_,_,_,_,_,_,(o.at 0 rfl).whole,?_⟩
 have sT4:=((st9.trans Awf).trans Awi).trans Awj
 have sT5:=((((sT2.trans st8).trans st9).trans Awf).trans Awi).trans Awj
 refine Aa (h _ w14 (o.mn hm) _ (Ac r ⟨le2,(f6.st sT4)⟩) _ _ Av1 (Av2.st sT5)) ?_
 rintro _ w16 ⟨x6,h,⟨cs4,rfl,f8⟩,ke6⟩
 obtain⟨Awt,o⟩:=o.dE ke6
 obtain⟨a4,c4,rfl,⟨le4,f9⟩⟩:=Af f8
 refine⟨_,_,_,_,_,_,rfl,?_⟩
 have sT6:=sT5.trans Awt
 refine Aa (h _ w16 (o.mn hm) _ (Ac x6 ⟨le4,f9⟩) _ _ Av1 (Av2.st sT6)) ?_
 rintro _ w17 ⟨r2,r3,h,⟨cs5,rfl,f10⟩,ke7⟩
 obtain⟨Awu,o⟩:=o.dE ke7
 obtain⟨a5,c5,rfl,⟨le5,f11⟩⟩:=Af f10
 refine⟨_,_,_,_,_,_,_,rfl,?_⟩
 refine⟨o.wr 0 rfl rfl,fun w18 Azm=> ?_⟩
 obtain⟨Aw7,o⟩:=o.dSs 0 Azm rfl
 refine⟨o.wr 1 rfl rfl,fun w19 Bcu=> ?_⟩
 obtain⟨Axf,o⟩:=o.dS 1 Bcu rfl
 refine⟨_,_,_,_,_,_,(o.at 0 rfl).whole,?_⟩
 have sT7:=((sT6.trans Awu).trans Aw7).trans Axf
 refine Aa (h _ w19 (o.mn hm) _ (Ac r2 ⟨le5,(f11.st (Aw7.trans Axf))⟩) _ _ Av1 (Av2.st sT7)) ?_
 rintro _ w20 ⟨x7,h,⟨cs6,rfl,f12⟩,ke8⟩
 obtain⟨Axe,o⟩:=o.dE ke8
 obtain⟨a6,c6,rfl,⟨le6,f13⟩⟩:=Af f12
 refine⟨_,_,_,_,_,_,rfl,?_⟩
 refine⟨o.wr 0 rfl rfl,fun w21 Beb=> ?_⟩
 obtain⟨Axg,o⟩:=o.dSs 0 Beb rfl
 have sT8:=(((((Awj.trans Awt).trans Awu).trans Aw7).trans Axf).trans Axe).trans Axg
 exact⟨x7.l,x7.n,x7.at_,x7.e_,38,r1,r3,0,x.at_,a6,c6,h,⟨le6,(f13.st Axg)⟩,o,sT8⟩
 have sT9:=((st9.trans Awf).trans Awi).trans Awj
 exact⟨r.l,r.n,r.at_,r.e_,38,r1,0,0,x.at_,a2,c2,h,⟨le2,(f6.st sT9)⟩,o,Awj⟩
 rintro _ w13 ⟨l,n,Av7,ex,Op,Na,N,Ki,At,a3,c3,hJ,⟨le3,f7⟩,o,Awr⟩
 have h:=h2 l n Av7 ex Op Na N Ki At hJ
 intro w22 Azx
 obtain⟨Axu,o⟩:=o.dD Azx
 have ox:=o
 refine⟨fun u=>Am [] w22 u,Am.refl _ _,?_⟩
 refine⟨_,_,_,_,_,_,fun u hu=>((ox.at 0 rfl).Av8 hu (by simp)).whole,?_⟩
 refine⟨_,_,_,_,_,fun u hu=>((ox.at 1 rfl).Av8 hu (by simp)).whole,?_⟩
 have Ay7:=(((((sT2.trans st8).trans st9).trans Awf).trans Awi).trans Awr).trans Axu
 refine Aa (h _ w22 (o.mn hm) _ (Ac (⟨l,n,Av7,ex⟩:Ai) ⟨le3,(f7.st Axu)⟩) _ _ Av1 (Av2.st Ay7)) ?_
 rintro _ w23 ⟨x8,h,⟨cs7,rfl,f14⟩,ke9⟩
 obtain⟨Axv,o⟩:=o.dE ke9
 obtain⟨a7,c7,rfl,⟨le7,f15⟩⟩:=Af f14
 refine⟨_,_,_,_,_,_,rfl,?_⟩
 refine⟨(ke9.mono (by simp)),?_⟩
 refine Aa (h _ w23 (o.mn hm) _ (Ac x8 ⟨le7,f15⟩) _ (Bu (⟨Op,Na,N,Ki,At⟩:Aj))) ?_
 rintro _ w24 ⟨x9,h,⟨cs8,rfl,f16⟩,Bad⟩
 obtain⟨Ayp,o⟩:=o.dE Bad
 obtain⟨a8,c8,rfl,⟨le8,f17⟩⟩:=Af f16
 refine⟨_,_,_,_,_,_,rfl,?_⟩
 refine⟨o.wr 2 rfl rfl,fun w25 Azp=> ?_⟩
 obtain⟨Ayc,o⟩:=o.dSs 2 Azp rfl
 refine⟨_,_,_,_,_,_,(o.at 2 rfl).whole,?_⟩
 exact⟨x9,h,⟨_,rfl,(Ac x9 ⟨le8,(f17.st (Ayc.trans Mem.Awg))⟩)⟩,o.done⟩
 have Azn:=sT.trans st4
 refine Aa (h _ w5 (o.mn hm) _ _ Av1 (Av2.st Azn)) ?_
 rintro _ w26 ⟨x10,h,rfl,Bcj⟩
 obtain⟨Ax8,o⟩:=o.dE Bcj
 refine⟨_,rfl,?_⟩
 refine Ad (fun h=> ?_) (fun h=> ?_) h
 refine⟨o.wr 0 rfl rfl,fun w27 Bir=> ?_⟩
 obtain⟨Azo,o⟩:=o.dS 0 Bir rfl
 refine Aa (h _ w27 (o.mn hm)) ?_
 rintro _ w28 ⟨x11,h,⟨cs9,rfl,f18⟩,Bdr⟩
 obtain⟨Ayd,o⟩:=o.dE Bdr
 obtain⟨a9,c9,rfl,⟨le9,f19⟩⟩:=Af f18
 refine⟨_,_,_,_,_,_,rfl,?_⟩
 have Azw:=((Azn.trans Ax8).trans Azo).trans Ayd
 refine Aa (h _ w28 (o.mn hm) _ (Ac x11 ⟨le9,f19⟩) _ _ Av1 (Av2.st Azw)) ?_
 rintro _ w29 ⟨x12,h,⟨Bl1,rfl,f20⟩,Bds⟩
 obtain⟨Ay8,o⟩:=o.dE Bds
 obtain⟨a10,c10,rfl,⟨Ba8,f21⟩⟩:=Af f20
 refine⟨_,_,_,_,_,_,rfl,?_⟩
 have Ba5:=Azw.trans Ay8
 refine Aa (h _ w29 (o.mn hm) _ (Ac x12 ⟨Ba8,f21⟩) _ _ Av1 (Av2.st Ba5)) ?_
 rintro _ w30 ⟨r4,r5,h,⟨Bl2,rfl,f22⟩,Bdt⟩
 obtain⟨Ayv,o⟩:=o.dE Bdt
 obtain⟨a11,c11,rfl,⟨Be3,f23⟩⟩:=Af f22
 refine⟨_,_,_,_,_,_,_,rfl,?_⟩
 intro b3 w31 hb3 Bmn
 obtain⟨Ayw,o⟩:=o.dB hb3 Bmn
 refine⟨o.wr 0 rfl rfl,fun w32 Cho=> ?_⟩
 obtain⟨Bae,o⟩:=o.dSs 0 Cho rfl
 refine⟨o.wr 1 rfl rfl,fun w33 Bmo=> ?_⟩
 obtain⟨Baf,o⟩:=o.dS 1 Bmo rfl
 refine⟨_,_,_,_,_,_,(o.at 0 rfl).whole,?_⟩
 have Bas:=(Ayw.trans Bae).trans Baf
 have Azy:=(((Ba5.trans Ayv).trans Ayw).trans Bae).trans Baf
 refine Aa (h _ w33 (o.mn hm) _ (Ac r4 ⟨Be3,(f23.st Bas)⟩) _ _ Av1 (Av2.st Azy)) ?_
 rintro _ w34 ⟨x13,h,⟨Bl7,rfl,f24⟩,Ba6⟩
 obtain⟨Azz,o⟩:=o.dE Ba6
 obtain⟨a12,c12,rfl,⟨Bcr,f25⟩⟩:=Af f24
 refine⟨_,_,_,_,_,_,rfl,?_⟩
 refine⟨o.wr 0 rfl rfl,fun w35 Biq=> ?_⟩
 obtain⟨Ayx,o⟩:=o.dSs 0 Biq rfl
 obtain⟨J2,h,h2⟩:=h
 refine⟨fun w36=>∃(l1:List Aj) (n1:Int) (Aw5:Int) (ex1:Int) (a13:Option Addr) (c13:Nat),J2 l1 n1 Aw5 ex1/\(l1.length<=c13/\SlR A4 (ms [.box b3 [.slice a13 l1.length c13,.q n1,.q Aw5,.q ex1],.box b1 [.q 40,.s r5,.q 0,.q 0,.q x.at_],.box b [.slice none 0 0,.q 0,.q 0,.q 0]] m) w36 a13 l1)/\MS w m w35 [.box b3 [.slice a12 x13.l.length c12,.q x13.n,.q x13.at_,.q x13.e_],.box b1 [.q 40,.s r5,.q 0,.q 0,.q x.at_],.box b [.slice none 0 0,.q 0,.q 0,.q 0]] w36 [.box b3 [.slice a13 l1.length c13,.q n1,.q Aw5,.q ex1],.box b1 [.q 40,.s r5,.q 0,.q 0,.q x.at_],.box b [.slice none 0 0,.q 0,.q 0,.q 0]],?_,?_⟩
 obtain⟨J3,h,h2⟩:=h
 refine⟨fun x14 w37=>J3 x14/\MT w m w35 w37 [.box b3 [.slice a12 x13.l.length c12,.q x13.n,.q x13.at_,.q x13.e_],.box b1 [.q 40,.s r5,.q 0,.q 0,.q x.at_],.box b [.slice none 0 0,.q 0,.q 0,.q 0]],?_,?_⟩
 refine⟨_,(o.at 0 rfl).cell rfl,?_⟩
 refine Ad (fun h=> ?_) (fun h=> ?_) h
 refine⟨_,(o.at 0 rfl).cell rfl,?_⟩
 have Bck:=(Azy.trans Azz).trans Ayx
 refine Aa (h _ w35 (o.mn hm) _ _ Av1 (Av2.st Bck)) ?_
 rintro _ w38 ⟨x15,h,rfl,Ba7⟩
 obtain⟨Bag,o⟩:=o.dE Ba7
 refine⟨_,rfl,?_⟩
 exact⟨h,o,Bag⟩
 exact⟨h,o,Step.refl _ _⟩
 rintro _ x14 w37 ⟨hJ,o,Ay9⟩
 have h:=h2 x14 hJ
 refine Ad (fun h=> ?_) (fun h=> ?_) h
 refine⟨_,_,_,_,_,_,(o.at 0 rfl).whole,?_⟩
 have Az0:=((Azy.trans Azz).trans Ayx).trans Ay9
 refine Aa (h _ w37 (o.mn hm) _ (Ac x13 ⟨Bcr,(f25.st (Ayx.trans Ay9))⟩) _ _ Av1 (Av2.st Az0)) ?_
 rintro _ w39 ⟨x16,h,⟨Bmc,rfl,f27⟩,Bdv⟩
 obtain⟨Az1,o⟩:=o.dE Bdv
 obtain⟨a14,c14,rfl,⟨Bd7,f28⟩⟩:=Af f27
 refine⟨_,_,_,_,_,_,rfl,?_⟩
 refine⟨o.wr 0 rfl rfl,fun w40 Be6=> ?_⟩
 obtain⟨Bah,o⟩:=o.dSs 0 Be6 rfl
 obtain⟨I,⟨n5,h⟩,h2⟩:=h
 obtain⟨Z,hZ⟩:∃Z:World->Nat->Prop,Z=fun w41 n3=>∃(l2:List Aj) (n2:Int) (Aw8:Int) (ex2:Int) (a15:Option Addr) (c15:Nat),I l2 n2 Aw8 ex2 n3/\(l2.length<=c15/\SlR A4 (ms [.box b3 [.slice a15 l2.length c15,.q n2,.q Aw8,.q ex2],.box b1 [.q 40,.s r5,.q 0,.q 0,.q x.at_],.box b [.slice none 0 0,.q 0,.q 0,.q 0]] m) w41 a15 l2)/\MS w m w40 [.box b3 [.slice a14 x16.l.length c14,.q x16.n,.q x16.at_,.q x16.e_],.box b1 [.q 40,.s r5,.q 0,.q 0,.q x.at_],.box b [.slice none 0 0,.q 0,.q 0,.q 0]] w41 [.box b3 [.slice a15 l2.length c15,.q n2,.q Aw8,.q ex2],.box b1 [.q 40,.s r5,.q 0,.q 0,.q x.at_],.box b [.slice none 0 0,.q 0,.q 0,.q 0]]:=⟨_,rfl⟩
 refine⟨fun w41=>∃n3,Z w41 n3,fun w41=>Awb (Z w41),⟨n5,?_⟩,?_⟩
 rw [hZ];exact⟨x16.l,x16.n,x16.at_,x16.e_,a14,c14,h,⟨Bd7,(f28.st Bah)⟩,o,Step.refl _ _⟩
 intro _ w41 hIZ
 obtain⟨n3,Biw⟩:∃n3,n3=Awb (Z w41):=⟨_,rfl⟩
 have hIZ:=C2 hIZ
 rw [←Biw,hZ]at hIZ
 obtain⟨l2,n2,Aw8,ex2,a15,c15,h,⟨Bcs,f29⟩,o,Bcm⟩:=hIZ
 have h:=h2 l2 n2 Aw8 ex2 n3 h
 obtain⟨J4,h,h2⟩:=h
 refine⟨fun x17 w42=>J4 x17/\MT w m w41 w42 [.box b3 [.slice a15 l2.length c15,.q n2,.q Aw8,.q ex2],.box b1 [.q 40,.s r5,.q 0,.q 0,.q x.at_],.box b [.slice none 0 0,.q 0,.q 0,.q 0]],?_,?_⟩
 refine⟨_,(o.at 0 rfl).cell rfl,?_⟩
 refine Ad (fun h=> ?_) (fun h=> ?_) h
 refine⟨_,(o.at 0 rfl).cell rfl,?_⟩
 have Bcl:=((Az0.trans Az1).trans Bah).trans Bcm
 refine Aa (h _ w41 (o.mn hm) _ _ Av1 (Av2.st Bcl)) ?_
 rintro _ w43 ⟨x18,h,rfl,Bco⟩
 obtain⟨Be1,o⟩:=o.dE Bco
 refine⟨_,rfl,?_⟩
 exact⟨h,o,Be1⟩
 exact⟨h,o,Step.refl _ _⟩
 rintro _ x17 w42 ⟨hJ,o,Bat⟩
 have h:=h2 x17 hJ
 refine Ad (fun h=> ?_) (fun h=> ?_) h
 refine⟨_,_,_,_,_,_,(o.at 0 rfl).whole,?_⟩
 have Bey:=(((Az0.trans Az1).trans Bah).trans Bcm).trans Bat
 refine Aa (h _ w42 (o.mn hm) _ (Ac (⟨l2,n2,Aw8,ex2⟩:Ai) ⟨Bcs,(f29.st Bat)⟩) _ _ Av1 (Av2.st Bey)) ?_
 rintro _ w44 ⟨x19,h,⟨Bmf,rfl,f30⟩,Ba9⟩
 obtain⟨Bh7,o⟩:=o.dE Ba9
 obtain⟨a16,c16,rfl,⟨Big,f31⟩⟩:=Af f30
 refine⟨_,_,_,_,_,_,rfl,?_⟩
 have Bdu:=Bey.trans Bh7
 refine Aa (h _ w44 (o.mn hm) _ (Ac x19 ⟨Big,f31⟩) _ _ Av1 (Av2.st Bdu)) ?_
 rintro _ w45 ⟨x20,h,⟨Ce5,rfl,f32⟩,Be5⟩
 obtain⟨Bcp,o⟩:=o.dE Be5
 obtain⟨a17,c17,rfl,⟨Bii,f33⟩⟩:=Af f32
 refine⟨_,_,_,_,_,_,rfl,?_⟩
 refine⟨o.wr 0 rfl rfl,fun w46 Bmq=> ?_⟩
 obtain⟨Bdx,o⟩:=o.dSs 0 Bmq rfl
 obtain⟨n4,hl,h⟩:=h
 have Bez:=(((Bcm.trans Bat).trans Bh7).trans Bcp).trans Bdx
 exact B8 Biw (show Z w46 n4 from(by rw [hZ];exact⟨x20.l,x20.n,x20.at_,x20.e_,a17,c17,h,⟨Bii,(f33.st Bdx)⟩,o,Bez⟩)) hl
 have Bh6:=(((Ay9.trans Az1).trans Bah).trans Bcm).trans Bat
 exact⟨l2,n2,Aw8,ex2,a15,c15,h,⟨Bcs,(f29.st Bat)⟩,o,Bh6⟩
 exact⟨x13.l,x13.n,x13.at_,x13.e_,a12,c12,h,⟨Bcr,(f25.st (Ayx.trans Ay9))⟩,o,Ay9⟩
 rintro _ w36 ⟨l1,n1,Aw5,ex1,a13,c13,hJ,⟨Bd4,f26⟩,o,Bcn⟩
 have h:=h2 l1 n1 Aw5 ex1 hJ
 intro w47 Bj9
 obtain⟨Bdy,o⟩:=o.dD Bj9
 have ox1:=o
 refine⟨fun u=>Am [] w47 u,Am.refl _ _,?_⟩
 refine⟨_,_,_,_,_,_,fun u hu=>((ox1.at 0 rfl).Av8 hu (by simp)).whole,?_⟩
 refine⟨_,_,_,_,_,fun u hu=>((ox1.at 1 rfl).Av8 hu (by simp)).whole,?_⟩
 have Be2:=(((Azy.trans Azz).trans Ayx).trans Bcn).trans Bdy
 refine Aa (h _ w47 (o.mn hm) _ (Ac (⟨l1,n1,Aw5,ex1⟩:Ai) ⟨Bd4,(f26.st Bdy)⟩) _ _ Av1 (Av2.st Be2)) ?_
 rintro _ w48 ⟨x21,h,⟨Ce6,rfl,f34⟩,Bd1⟩
 obtain⟨Be4,o⟩:=o.dE Bd1
 obtain⟨a18,c18,rfl,⟨Bik,f35⟩⟩:=Af f34
 refine⟨_,_,_,_,_,_,rfl,?_⟩
 refine⟨(Bd1.mono (by simp)),?_⟩
 have Bdw:=Be2.trans Be4
 refine Aa (h _ w48 (o.mn hm) _ (Ac x21 ⟨Bik,f35⟩) _ _ Av1 (Av2.st Bdw)) ?_
 rintro _ w49 ⟨x22,h,⟨Ce8,rfl,f36⟩,Bba⟩
 obtain⟨Bx7,o⟩:=o.dE Bba
 obtain⟨a19,c19,rfl,⟨Bim,f37⟩⟩:=Af f36
 refine⟨_,_,_,_,_,_,rfl,?_⟩
 refine⟨((Bd1.mono (by simp)).trans (Bba.mono (by simp))),?_⟩
 refine Aa (h _ w49 (o.mn hm) _ (Ac x22 ⟨Bim,f37⟩) _ (Bu (⟨40,r5,0,0,x.at_⟩:Aj))) ?_
 rintro _ w50 ⟨x23,h,⟨Ce9,rfl,f38⟩,Bd6⟩
 obtain⟨Bia,o⟩:=o.dE Bd6
 obtain⟨a20,c20,rfl,⟨Bmt,f39⟩⟩:=Af f38
 refine⟨_,_,_,_,_,_,rfl,?_⟩
 refine⟨o.wr 2 rfl rfl,fun w51 Bmr=> ?_⟩
 obtain⟨Bdz,o⟩:=o.dSs 2 Bmr rfl
 refine⟨_,_,_,_,_,_,(o.at 2 rfl).whole,?_⟩
 exact⟨x23,h,⟨_,rfl,(Ac x23 ⟨Bmt,(f39.st (Bdz.trans Mem.Awg))⟩)⟩,o.done⟩
 refine⟨o.wr 0 rfl rfl,fun w52 Bms=> ?_⟩
 obtain⟨Bd2,o⟩:=o.dS 0 Bms rfl
 intro w53 Be8
 obtain⟨Be7,o⟩:=o.dD Be8
 have ox2:=o
 refine⟨fun u=>Am [] w53 u,Am.refl _ _,?_⟩
 refine⟨_,_,_,_,_,fun u hu=>((ox2.at 0 rfl).Av8 hu (by simp)).whole,?_⟩
 refine Aa (h _ w53 (o.mn hm)) ?_
 rintro _ w54 ⟨x24,h,⟨Cfa,rfl,f40⟩,Bau⟩
 obtain⟨Bd3,o⟩:=o.dE Bau
 obtain⟨a21,c21,rfl,⟨Bmu,f41⟩⟩:=Af f40
 refine⟨_,_,_,_,_,_,rfl,?_⟩
 refine⟨(Bau.mono (by simp)),?_⟩
 have Bcq:=(((Azn.trans Ax8).trans Bd2).trans Be7).trans Bd3
 refine Aa (h _ w54 (o.mn hm) _ (Ac x24 ⟨Bmu,f41⟩) _ _ Av1 (Av2.st Bcq)) ?_
 rintro _ w55 ⟨x25,h,⟨Cfb,rfl,f42⟩,Bd8⟩
 obtain⟨Bd5,o⟩:=o.dE Bd8
 obtain⟨a22,c22,rfl,⟨Bmv,f43⟩⟩:=Af f42
 refine⟨_,_,_,_,_,_,rfl,?_⟩
 refine⟨((Bau.mono (by simp)).trans (Bd8.mono (by simp))),?_⟩
 have Bd0:=Bcq.trans Bd5
 refine Aa (h _ w55 (o.mn hm) _ (Ac x25 ⟨Bmv,f43⟩) _ _ Av1 (Av2.st Bd0)) ?_
 rintro _ w56 ⟨x26,h,⟨Cfc,rfl,f44⟩,Bbb⟩
 obtain⟨Bx9,o⟩:=o.dE Bbb
 obtain⟨a23,c23,rfl,⟨Bmw,f45⟩⟩:=Af f44
 refine⟨_,_,_,_,_,_,rfl,?_⟩
 refine⟨(((Bau.mono (by simp)).trans (Bd8.mono (by simp))).trans (Bbb.mono (by simp))),?_⟩
 refine Aa (h _ w56 (o.mn hm) _ (Ac x26 ⟨Bmw,f45⟩) _ (Bu (⟨41,[],0,0,x.at_⟩:Aj))) ?_
 rintro _ w57 ⟨x27,h,⟨Cfd,rfl,f46⟩,Bd9⟩
 obtain⟨Bj7,o⟩:=o.dE Bd9
 obtain⟨a24,c24,rfl,⟨Bmx,f47⟩⟩:=Af f46
 refine⟨_,_,_,_,_,_,rfl,?_⟩
 refine⟨o.wr 1 rfl rfl,fun w58 Be9=> ?_⟩
 obtain⟨Bib,o⟩:=o.dSs 1 Be9 rfl
 refine⟨_,_,_,_,_,_,(o.at 1 rfl).whole,?_⟩
 exact⟨x27,h,⟨_,rfl,(Ac x27 ⟨Bmx,(f47.st (Bib.trans Mem.Awg))⟩)⟩,o.done⟩
def Adl (toks:List Aq) (K:Ap->Prop):Prop:=
 D6 0 (fun x=>
 ∃(I:(List Aj)->Int->Int->Int->Nat->Prop),(∃n1,I x.l x.n x.at_ x.e_ n1)/\
 ∀(l:List Aj) (n:Int) (atx:Int) (ex:Int) (n1:Nat),I l n atx ex n1->
 ∃(J:Bool->Prop),
 (cond (ex==0)
 (Dp toks atx (fun x2=>
 J (x2.kind !=0)))
 (J false))/\
 ∀(x1:Bool),J x1->
 cond (x1)
 (Sj toks atx (fun x3=>
 Dc (⟨l,n,atx,ex⟩:Ai) x3 (fun x4=>
 ∃n2,n2<n1/\I x4.l x4.n x4.at_ x4.e_ n2)))
 (cond (ex !=0)
 (K (⟨[],atx,ex⟩:Ap))
 (Ay (⟨l,n,atx,ex⟩:Ai) (⟨42,[],0,0,0⟩:Aj) (fun x5=>
 K (⟨x5.l,0,0⟩:Ap)))))
theorem Aay (toks:List Aq) (K:Ap->Prop) (h:Adl toks K):Oq toks K:=by
 intro m w hm Av4 Av5 Av1 Av2
 have o:=Mem.start hm.lt
 refine Afx Av4 toks.length Av5 _ _ ?_
 intro b w1 hb hw1
 obtain⟨st,o⟩:=o.dB hb hw1
 refine Aa (h _ w1 (o.mn hm)) ?_
 rintro _ w2 ⟨x,h,⟨cs,rfl,f⟩,ke⟩
 obtain⟨st1,o⟩:=o.dE ke
 obtain⟨a,c,rfl,⟨le,f1⟩⟩:=Af f
 refine⟨_,_,_,_,_,_,rfl,?_⟩
 intro b1 w3 hb1 hw3
 obtain⟨st2,o⟩:=o.dB hb1 hw3
 refine⟨o.wr 0 rfl rfl,fun w4 hw4=> ?_⟩
 obtain⟨st3,o⟩:=o.dSs 0 hw4 rfl
 obtain⟨I,⟨n3,h⟩,h2⟩:=h
 obtain⟨Z,hZ⟩:∃Z:World->Nat->Prop,Z=fun w5 n1=>∃(l:List Aj) (n:Int) (atx:Int) (ex:Int) (a1:Option Addr) (c1:Nat),I l n atx ex n1/\(l.length<=c1/\SlR A4 (ms [.box b1 [.slice a1 l.length c1,.q n,.q atx,.q ex],.box b [.slice none 0 0,.q 0,.q 0]] m) w5 a1 l)/\MS w m w4 [.box b1 [.slice a x.l.length c,.q x.n,.q x.at_,.q x.e_],.box b [.slice none 0 0,.q 0,.q 0]] w5 [.box b1 [.slice a1 l.length c1,.q n,.q atx,.q ex],.box b [.slice none 0 0,.q 0,.q 0]]:=⟨_,rfl⟩
 refine⟨fun w5=>∃n1,Z w5 n1,fun w5=>Awb (Z w5),⟨n3,?_⟩,?_⟩
 rw [hZ];exact⟨x.l,x.n,x.at_,x.e_,a,c,h,⟨le,(f1.st (st2.trans st3))⟩,o,Step.refl _ _⟩
 intro _ w5 hIZ
 obtain⟨n1,Bct⟩:∃n1,n1=Awb (Z w5):=⟨_,rfl⟩
 have hIZ:=C2 hIZ
 rw [←Bct,hZ]at hIZ
 obtain⟨l,n,atx,ex,a1,c1,h,⟨le1,f2⟩,o,st4⟩:=hIZ
 have h:=h2 l n atx ex n1 h
 obtain⟨J,h,h2⟩:=h
 refine⟨fun x1 w6=>J x1/\MT w m w5 w6 [.box b1 [.slice a1 l.length c1,.q n,.q atx,.q ex],.box b [.slice none 0 0,.q 0,.q 0]],?_,?_⟩
 refine⟨_,(o.at 0 rfl).cell rfl,?_⟩
 refine Ad (fun h=> ?_) (fun h=> ?_) h
 refine⟨_,(o.at 0 rfl).cell rfl,?_⟩
 have sT:=(((st.trans st1).trans st2).trans st3).trans st4
 refine Aa (h _ w5 (o.mn hm) _ _ Av1 (Av2.st sT)) ?_
 rintro _ w7 ⟨x2,h,⟨cs1,rfl,f3⟩,ke1⟩
 obtain⟨st6,o⟩:=o.dE ke1
 obtain rfl:=Dk f3
 refine⟨_,_,_,_,rfl,?_⟩
 exact⟨h,o,st6⟩
 exact⟨h,o,Step.refl _ _⟩
 rintro _ x1 w6 ⟨hJ,o,st5⟩
 have h:=h2 x1 hJ
 refine Ad (fun h=> ?_) (fun h=> ?_) h
 intro w8 hw8
 obtain⟨st7,o⟩:=o.dD hw8
 have ox:=o
 refine⟨fun u=>Am [] w8 u,Am.refl _ _,?_⟩
 refine⟨_,_,_,_,_,_,fun u hu=>((ox.at 0 rfl).Av8 hu (by simp)).whole,?_⟩
 refine⟨_,fun u hu=>((ox.at 0 rfl).Av8 hu (by simp)).cell rfl,?_⟩
 have sT1:=(((((st.trans st1).trans st2).trans st3).trans st4).trans st5).trans st7
 refine Aa (h _ w8 (o.mn hm) _ _ Av1 (Av2.st sT1)) ?_
 rintro _ w9 ⟨x3,h,⟨cs2,rfl,f4⟩,ke2⟩
 obtain⟨st8,o⟩:=o.dE ke2
 obtain⟨a2,c2,rfl,⟨le2,f5⟩⟩:=Af f4
 refine⟨_,_,_,_,_,_,rfl,?_⟩
 refine⟨(ke2.mono (by simp)),?_⟩
 have sT2:=(st5.trans st7).trans st8
 refine Aa (h _ w9 (o.mn hm) _ (Ac (⟨l,n,atx,ex⟩:Ai) ⟨le1,(f2.st sT2)⟩) _ (Ac x3 ⟨le2,f5⟩)) ?_
 rintro _ w10 ⟨x4,h,⟨cs3,rfl,f6⟩,ke3⟩
 obtain⟨st9,o⟩:=o.dE ke3
 obtain⟨a3,c3,rfl,⟨le3,f7⟩⟩:=Af f6
 refine⟨_,_,_,_,_,_,rfl,?_⟩
 refine⟨o.wr 0 rfl rfl,fun w11 Ax6=> ?_⟩
 obtain⟨Awf,o⟩:=o.dSs 0 Ax6 rfl
 obtain⟨n2,hl,h⟩:=h
 have sT3:=((((st4.trans st5).trans st7).trans st8).trans st9).trans Awf
 exact B8 Bct (show Z w11 n2 from(by rw [hZ];exact⟨x4.l,x4.n,x4.at_,x4.e_,a3,c3,h,⟨le3,(f7.st Awf)⟩,o,sT3⟩)) hl
 refine⟨_,(o.at 0 rfl).cell rfl,?_⟩
 refine Ad (fun h=> ?_) (fun h=> ?_) h
 refine⟨_,(o.at 0 rfl).cell rfl,?_⟩
 refine⟨_,(o.at 0 rfl).cell rfl,?_⟩
 refine⟨o.wr 1 rfl rfl,fun w12 Axz=> ?_⟩
 obtain⟨Awi,o⟩:=o.dSs 1 Axz rfl
 refine⟨_,_,_,_,_,(o.at 1 rfl).whole,?_⟩
 exact⟨(⟨[],atx,ex⟩:Ap),h,⟨_,rfl,(Bw (⟨[],atx,ex⟩:Ap) ⟨(Nat.le_refl _),(SlR.nil _ _ _ _)⟩)⟩,o.done⟩
 refine⟨_,_,_,_,_,_,(o.at 0 rfl).whole,?_⟩
 refine Aa (h _ w6 (o.mn hm) _ (Ac (⟨l,n,atx,ex⟩:Ai) ⟨le1,(f2.st st5)⟩) _ (Bu (⟨42,[],0,0,0⟩:Aj))) ?_
 rintro _ w13 ⟨x5,h,⟨cs4,rfl,f8⟩,ke4⟩
 obtain⟨Awr,o⟩:=o.dE ke4
 obtain⟨a4,c4,rfl,⟨le4,f9⟩⟩:=Af f8
 refine⟨_,_,_,_,_,_,rfl,?_⟩
 refine⟨o.wr 1 rfl rfl,fun w14 Azq=> ?_⟩
 obtain⟨Awj,o⟩:=o.dSs 1 Azq rfl
 refine⟨_,_,_,_,_,(o.at 1 rfl).whole,?_⟩
 exact⟨(⟨x5.l,0,0⟩:Ap),h,⟨_,rfl,(Bw (⟨x5.l,0,0⟩:Ap) ⟨le4,(f9.st (Awj.trans Mem.Awg))⟩)⟩,o.done⟩
def Adm (sx:List UInt8) (K:Ap->Prop):Prop:=
 U1 sx (fun x=>
 cond (x.e_ !=0)
 (K (⟨[],x.at_,x.e_⟩:Ap))
 (Oq x.l (fun x1=>
 ∃(J:(List Aj)->Int->Int->Prop),
 (cond (x1.e_ !=0)
 (((0:Int)<=(if(IntKind.i64.wrap ((x.l.length:Int)-1))<x1.at_ then IntKind.i64.wrap ((x.l.length:Int)-1)else x1.at_)/\(if(IntKind.i64.wrap ((x.l.length:Int)-1))<x1.at_ then IntKind.i64.wrap ((x.l.length:Int)-1)else x1.at_)<(x.l.length:Int))/\
 ∀x2,x.l[(if(IntKind.i64.wrap ((x.l.length:Int)-1))<x1.at_ then IntKind.i64.wrap ((x.l.length:Int)-1)else x1.at_).toNat]? =some x2->
 J x1.l x2.at_ x1.e_)
 (J x1.l x1.at_ x1.e_))/\
 ∀(L:List Aj) (At:Int) (E:Int),J L At E->
 K (⟨L,At,E⟩:Ap))))
theorem Aaz (sx:List UInt8) (K:Ap->Prop) (h:Adm sx K):Md sx K:=by
 intro m w hm
 have o:=Mem.start hm.lt
 refine Afz sx _ _ ?_
 intro b w1 hb hw1
 obtain⟨st,o⟩:=o.dB hb hw1
 refine Aa (h _ w1 (o.mn hm)) ?_
 rintro _ w2 ⟨x,h,⟨cs,rfl,f⟩,ke⟩
 obtain⟨st1,o⟩:=o.dE ke
 obtain⟨a,c,rfl,⟨le,f1⟩⟩:=Aam f
 refine⟨_,_,_,_,_,rfl,?_⟩
 intro b1 w3 hb1 hw3
 obtain⟨st2,o⟩:=o.dB hb1 hw3
 refine⟨o.wr 0 rfl rfl,fun w4 hw4=> ?_⟩
 obtain⟨st3,o⟩:=o.dSs 0 hw4 rfl
 refine⟨_,(o.at 0 rfl).cell rfl,?_⟩
 refine Ad (fun h=> ?_) (fun h=> ?_) h
 refine⟨_,(o.at 0 rfl).cell rfl,?_⟩
 refine⟨_,(o.at 0 rfl).cell rfl,?_⟩
 refine⟨o.wr 1 rfl rfl,fun w5 hw5=> ?_⟩
 obtain⟨st4,o⟩:=o.dSs 1 hw5 rfl
 refine⟨_,_,_,_,_,(o.at 1 rfl).whole,?_⟩
 exact⟨(⟨[],x.at_,x.e_⟩:Ap),h,⟨_,rfl,(Bw (⟨[],x.at_,x.e_⟩:Ap) ⟨(Nat.le_refl _),(SlR.nil _ _ _ _)⟩)⟩,o.done⟩
 refine⟨_,_,_,(o.at 0 rfl).cell rfl,?_⟩
 refine Aa (h _ w4 (o.mn hm) _ _ le (f1.st (st2.trans st3))) ?_
 rintro _ w6 ⟨x1,h,⟨cs1,rfl,f2⟩,ke1⟩
 obtain⟨st5,o⟩:=o.dE ke1
 obtain⟨a1,c1,rfl,⟨le1,f3⟩⟩:=Dw f2
 refine⟨_,_,_,_,_,rfl,?_⟩
 intro b2 w7 hb2 hw7
 obtain⟨st6,o⟩:=o.dB hb2 hw7
 refine⟨o.wr 0 rfl rfl,fun w8 hw8=> ?_⟩
 obtain⟨st7,o⟩:=o.dSs 0 hw8 rfl
 obtain⟨J,h,h2⟩:=h
 refine⟨fun w9=>∃(L:List Aj) (At:Int) (E:Int) (a2:Option Addr) (c2:Nat),J L At E/\(L.length<=c2/\SlR A4 (ms [.box b2 [.slice a2 L.length c2,.q At,.q E],.box b1 [.slice a x.l.length c,.q x.at_,.q x.e_],.box b [.slice none 0 0,.q 0,.q 0]] m) w9 a2 L)/\MS w m w8 [.box b2 [.slice a1 x1.l.length c1,.q x1.at_,.q x1.e_],.box b1 [.slice a x.l.length c,.q x.at_,.q x.e_],.box b [.slice none 0 0,.q 0,.q 0]] w9 [.box b2 [.slice a2 L.length c2,.q At,.q E],.box b1 [.slice a x.l.length c,.q x.at_,.q x.e_],.box b [.slice none 0 0,.q 0,.q 0]],?_,?_⟩
 refine⟨_,(o.at 0 rfl).cell rfl,?_⟩
 refine Ad (fun h=> ?_) (fun h=> ?_) h
 refine⟨_,_,_,(o.at 1 rfl).cell rfl,?_⟩
 refine⟨_,(o.at 0 rfl).cell rfl,?_⟩
 refine⟨_,_,_,(o.at 1 rfl).cell rfl,?_⟩
 obtain⟨hi,h⟩:=h
 have sT:=(((st2.trans st3).trans st5).trans st6).trans st7
 obtain⟨p,x2,cs2,hp,he,hc,hr⟩:=(f1.st sT).elem hi
 obtain rfl:=Dk hr
 have h:=h x2 he
 refine⟨hi,An hp ?_⟩
 refine⟨_,hc.2 3 (Nat.le_of_ble_eq_true rfl),?_⟩
 refine⟨o.wr 0 rfl rfl,fun w10 Azs=> ?_⟩
 obtain⟨st9,o⟩:=o.dS 0 Azs rfl
 have sT1:=(st6.trans st7).trans st9
 exact⟨x1.l,x2.at_,x1.e_,a1,c1,h,⟨le1,(f3.st sT1)⟩,o,st9⟩
 exact⟨x1.l,x1.at_,x1.e_,a1,c1,h,⟨le1,(f3.st (st6.trans st7))⟩,o,Step.refl _ _⟩
 rintro _ w9 ⟨L,At,E,a2,c2,hJ,⟨le2,f4⟩,o,st8⟩
 have h:=h2 L At E hJ
 refine⟨_,_,_,_,_,(o.at 0 rfl).whole,?_⟩
 refine⟨o.wr 2 rfl rfl,fun w11 Ax6=> ?_⟩
 obtain⟨Awf,o⟩:=o.dSs 2 Ax6 rfl
 refine⟨_,_,_,_,_,(o.at 2 rfl).whole,?_⟩
 exact⟨(⟨L,At,E⟩:Ap),h,⟨_,rfl,(Bw (⟨L,At,E⟩:Ap) ⟨le2,(f4.st (Awf.trans Mem.Awg))⟩)⟩,o.done⟩
def Xd (cq:Ai) (toks:List Aq) (sx:List UInt8) (K:Ai->Prop):Prop:=
 ∃(J:(List Aj)->Int->Int->Int->Prop),
 (∃(J1:Bool->Prop),
 (cond (cq.e_==0)
 (Cm toks cq.at_ sx (fun x1=>
 J1 (!x1)))
 (J1 false))/\
 ∀(x:Bool),J1 x->
 cond (x)
 (J cq.l cq.n cq.at_ 11)
 (J cq.l cq.n cq.at_ cq.e_))/\
 ∀(l:List Aj) (n:Int) (atx:Int) (ex:Int),J l n atx ex->
 ∃(J2:(List Aj)->Int->Int->Int->Prop),
 (cond (ex==0)
 (J2 l n (IntKind.i64.wrap (atx+1)) ex)
 (J2 l n atx ex))/\
 ∀(l1:List Aj) (n1:Int) (Av7:Int) (ex1:Int),J2 l1 n1 Av7 ex1->
 K (⟨l1,n1,Av7,ex1⟩:Ai)
theorem U6 (cq:Ai) (toks:List Aq) (sx:List UInt8) (K:Ai->Prop) (h:Xd cq toks sx K):Ak cq toks sx K:=by
 intro m w hm Awv Ax3 Av4 Av5 Av1 Av2
 obtain⟨a,c,rfl,⟨le,f⟩⟩:=Af Ax3
 have o:=Mem.start hm.lt
 refine Ym _ _ _ _ _ _ Av4 toks.length Av5 sx _ _ ?_
 intro b w1 hb hw1
 obtain⟨st,o⟩:=o.dB hb hw1
 intro b1 w2 hb1 hw2
 obtain⟨st1,o⟩:=o.dB hb1 hw2
 obtain⟨J,h,h2⟩:=h
 refine⟨fun w3=>∃(l:List Aj) (n:Int) (atx:Int) (ex:Int) (a1:Option Addr) (c1:Nat),J l n atx ex/\(l.length<=c1/\SlR A4 (ms [.box b1 [.slice none 0 0,.q 0,.q 0,.q 0],.box b [.slice a1 l.length c1,.q n,.q atx,.q ex]] m) w3 a1 l)/\MS w m w2 [.box b1 [.slice none 0 0,.q 0,.q 0,.q 0],.box b [.slice a cq.l.length c,.q cq.n,.q cq.at_,.q cq.e_]] w3 [.box b1 [.slice none 0 0,.q 0,.q 0,.q 0],.box b [.slice a1 l.length c1,.q n,.q atx,.q ex]],?_,?_⟩
 obtain⟨J1,h,h2⟩:=h
 refine⟨fun x w4=>J1 x/\MT w m w2 w4 [.box b1 [.slice none 0 0,.q 0,.q 0,.q 0],.box b [.slice a cq.l.length c,.q cq.n,.q cq.at_,.q cq.e_]],?_,?_⟩
 refine⟨_,(o.at 1 rfl).cell rfl,?_⟩
 refine Ad (fun h=> ?_) (fun h=> ?_) h
 refine⟨_,(o.at 1 rfl).cell rfl,?_⟩
 refine Aa (h _ w2 (o.mn hm) _ _ Av1 (Av2.st (st.trans st1))) ?_
 rintro _ w5 ⟨x1,h,rfl,ke⟩
 obtain⟨st4,o⟩:=o.dE ke
 refine⟨_,rfl,?_⟩
 exact⟨h,o,st4⟩
 exact⟨h,o,Step.refl _ _⟩
 rintro _ x w4 ⟨hJ,o,st3⟩
 have h:=h2 x hJ
 refine Ad (fun h=> ?_) (fun h=> ?_) h
 refine⟨o.wr 1 rfl rfl,fun w6 hw6=> ?_⟩
 obtain⟨st5,o⟩:=o.dS 1 hw6 rfl
 have sT:=((st.trans st1).trans st3).trans st5
 exact⟨cq.l,cq.n,cq.at_,11,a,c,h,⟨le,(f.st sT)⟩,o,(st3.trans st5)⟩
 have sT1:=(st.trans st1).trans st3
 exact⟨cq.l,cq.n,cq.at_,cq.e_,a,c,h,⟨le,(f.st sT1)⟩,o,st3⟩
 rintro _ w3 ⟨l,n,atx,ex,a1,c1,hJ,⟨le1,f1⟩,o,st2⟩
 have h:=h2 l n atx ex hJ
 obtain⟨J2,h,h2⟩:=h
 refine⟨fun w7=>∃(l1:List Aj) (n1:Int) (Av7:Int) (ex1:Int) (a2:Option Addr) (c2:Nat),J2 l1 n1 Av7 ex1/\(l1.length<=c2/\SlR A4 (ms [.box b1 [.slice none 0 0,.q 0,.q 0,.q 0],.box b [.slice a2 l1.length c2,.q n1,.q Av7,.q ex1]] m) w7 a2 l1)/\MS w m w3 [.box b1 [.slice none 0 0,.q 0,.q 0,.q 0],.box b [.slice a1 l.length c1,.q n,.q atx,.q ex]] w7 [.box b1 [.slice none 0 0,.q 0,.q 0,.q 0],.box b [.slice a2 l1.length c2,.q n1,.q Av7,.q ex1]],?_,?_⟩
 refine⟨_,(o.at 1 rfl).cell rfl,?_⟩
 refine Ad (fun h=> ?_) (fun h=> ?_) h
 refine⟨_,(o.at 1 rfl).cell rfl,?_⟩
 refine⟨o.wr 1 rfl rfl,fun w8 hw8=> ?_⟩
 obtain⟨st7,o⟩:=o.dS 1 hw8 rfl
 exact⟨l,n,(IntKind.i64.wrap (atx+1)),ex,a1,c1,h,⟨le1,(f1.st st7)⟩,o,st7⟩
 exact⟨l,n,atx,ex,a1,c1,h,⟨le1,f1⟩,o,Step.refl _ _⟩
 rintro _ w7 ⟨l1,n1,Av7,ex1,a2,c2,hJ,⟨le2,f2⟩,o,st6⟩
 have h:=h2 l1 n1 Av7 ex1 hJ
 refine⟨_,_,_,_,_,_,(o.at 1 rfl).whole,?_⟩
 refine⟨o.wr 0 rfl rfl,fun w9 hw9=> ?_⟩
 obtain⟨st8,o⟩:=o.dSs 0 hw9 rfl
 refine⟨_,_,_,_,_,_,(o.at 0 rfl).whole,?_⟩
 exact⟨(⟨l1,n1,Av7,ex1⟩:Ai),h,⟨_,rfl,(Ac (⟨l1,n1,Av7,ex1⟩:Ai) ⟨le2,(f2.st (st8.trans Mem.Awg))⟩)⟩,o.done⟩
def Xf (cq:Ai) (d:Ai) (K:Ai->Prop):Prop:=
 cond (cq.e_ !=0)
 (K cq)
 (0+cq.l.length<2^32/\
 cq.l.length+d.l.length<2^32/\
 K (⟨(cq.l++d.l),IntKind.i64.wrap (cq.n+1),d.at_,d.e_⟩:Ai))
theorem U7 (cq:Ai) (d:Ai) (K:Ai->Prop) (h:Xf cq d K):Dc cq d K:=by
 intro m w hm Awv Ax3 dcs f_d
 obtain⟨a,c,rfl,⟨le,f⟩⟩:=Af Ax3
 obtain⟨a1,c1,rfl,⟨le1,f1⟩⟩:=Af f_d
 have o:=Mem.start hm.lt
 refine Yo _ _ _ _ _ _ _ _ _ _ _ _ _ _ ?_
 intro b w1 hb hw1
 obtain⟨st,o⟩:=o.dB hb hw1
 intro b1 w2 hb1 hw2
 obtain⟨st1,o⟩:=o.dB hb1 hw2
 intro b2 w3 hb2 hw3
 obtain⟨st2,o⟩:=o.dB hb2 hw3
 refine⟨_,(o.at 2 rfl).cell rfl,?_⟩
 refine Ad (fun h=> ?_) (fun h=> ?_) h
 refine⟨_,_,_,_,_,_,(o.at 2 rfl).whole,?_⟩
 refine⟨o.wr 0 rfl rfl,fun w4 hw4=> ?_⟩
 obtain⟨st3,o⟩:=o.dSs 0 hw4 rfl
 refine⟨_,_,_,_,_,_,(o.at 0 rfl).whole,?_⟩
 exact⟨cq,h,⟨_,rfl,(Ac cq ⟨le,(f.st (st.trans (st1.trans (st2.trans (st3.trans Mem.Awg)))))⟩)⟩,o.done⟩
 intro w5 hw5
 obtain⟨st4,o⟩:=o.dD hw5
 have ox:=o
 refine⟨fun u=>Am [] w5 u,Am.refl _ _,?_⟩
 refine⟨_,_,_,fun u hu=>((ox.at 2 rfl).Av8 hu (by simp)).cell rfl,?_⟩
 refine⟨_,_,_,fun u hu=>((ox.at 1 rfl).Av8 hu (by simp)).cell rfl,?_⟩
 refine⟨_,fun u hu=>((ox.at 2 rfl).Av8 hu (by simp)).cell rfl,?_⟩
 refine⟨_,fun u hu=>((ox.at 1 rfl).Av8 hu (by simp)).cell rfl,?_⟩
 refine⟨_,fun u hu=>((ox.at 1 rfl).Av8 hu (by simp)).cell rfl,?_⟩
 intro b3 w6 hb3 hw6
 have el:El A4 (ms [.box b2 [.slice none 0 0,.q 0,.q 0,.q 0],.box b1 [.slice a1 d.l.length c1,.q d.n,.q d.at_,.q d.e_],.box b [.slice a cq.l.length c,.q cq.n,.q cq.at_,.q cq.e_]] m) w5 [] ([]:List Value):=(El.nil _ _ _)
 have st5:=o.xL hb3 hw6 5 0
 have o:=o.lit hb3 hw6 5 0 (by decide) rfl
 refine⟨((Be hw6).mono (by simp)),?_⟩
 obtain⟨lt,h⟩:=h
 have sT:=(((st.trans st1).trans st2).trans st4).trans st5
 obtain⟨xs,hx,el1⟩:=SlR.cells (f.st sT)
 have el2:=((el.st st5)).app el1
 refine Fh Abt (o.rowAt 0 rfl) hx el1.len el1.one (by first|(simp;done)|simpa using lt) (by decide) (Nat.zero_le _) fun a2 c2 w7 hr hg hat=> ?_
 have ln:0+cq.l.length=cq.l.length:=(by first|(simp;done)|(simp;omega))
 rw [ln]at hr⊢
 refine⟨_,_,_,rfl,?_⟩
 have st6:=o.xA 0 rfl hr hg hat
 have o:=o.app 0 rfl hr hg hat
 refine⟨(Nw ((Be hw6).mono (by simp)) hg (Qz hb3 (Am.refl _ _))),?_⟩
 obtain⟨lt1,h⟩:=h
 have sT1:=sT.trans st6
 obtain⟨xs1,hx1,el3⟩:=SlR.cells (f1.st sT1)
 have el4:=((el2.st st6)).app el3
 refine Fh Abt (o.rowAt 0 rfl) hx1 el3.len el3.one (by first|(simp;done)|simpa using lt1) (by decide) (Nat.zero_le _) fun a3 c3 w8 hr1 hg1 Bbc=> ?_
 have ln1:cq.l.length+d.l.length=(cq.l++d.l).length:=(by first|(simp;done)|(simp;omega))
 rw [ln1]at hr1⊢
 refine⟨_,_,_,rfl,?_⟩
 have st7:=o.xA 0 rfl hr1 hg1 Bbc
 have o:=o.app 0 rfl hr1 hg1 Bbc
 refine⟨(Nw (Nw ((Be hw6).mono (by simp)) hg (Qz hb3 (Am.refl _ _))) hg1 (Alb (Qz hb3 (Am.refl _ _)) hat ((Be hw6).mono (by simp)))),?_⟩
 refine⟨o.wr 1 rfl rfl,fun w9 hw9=> ?_⟩
 obtain⟨st8,o⟩:=o.dSs 1 hw9 rfl
 refine⟨_,_,_,_,_,_,(o.at 1 rfl).whole,?_⟩
 have le2:=(o.rowAt 0 rfl).cap
 have st9:=o.xX 0
 have sT2:=(st7.trans st8).trans st9
 have f2:=o.freeze (c:=A4) (l:=(cq.l++d.l)) 0 rfl (fun b hb=>by simp at hb) (el4.st sT2)
 have o:=o.erase 0
 exact⟨(⟨(cq.l++d.l),IntKind.i64.wrap (cq.n+1),d.at_,d.e_⟩:Ai),h,⟨_,rfl,(Ac (⟨(cq.l++d.l),IntKind.i64.wrap (cq.n+1),d.at_,d.e_⟩:Ai) ⟨le2,(f2.st Mem.Awg)⟩)⟩,o.done⟩
def Tu (cq:Ai) (xq:Aj) (K:Ai->Prop):Prop:=
 [(⟨xq.op,xq.name,xq.n,cq.n,xq.at_⟩:Aj)].length+cq.l.length<2^32/\
 K (⟨([(⟨xq.op,xq.name,xq.n,cq.n,xq.at_⟩:Aj)]++cq.l),1,cq.at_,cq.e_⟩:Ai)
theorem Sk (cq:Ai) (xq:Aj) (K:Ai->Prop) (h:Tu cq xq K):Ay cq xq K:=by
 intro m w hm Awv Ax3 Axs Ayy
 obtain⟨a,c,rfl,⟨le,f⟩⟩:=Af Ax3
 obtain rfl:=Bv Ayy
 have o:=Mem.start hm.lt
 refine Ut _ _ _ _ _ _ _ _ _ _ _ _ _ ?_
 intro b w1 hb hw1
 obtain⟨st,o⟩:=o.dB hb hw1
 intro b1 w2 hb1 hw2
 obtain⟨st1,o⟩:=o.dB hb1 hw2
 intro b2 w3 hb2 hw3
 obtain⟨st2,o⟩:=o.dB hb2 hw3
 refine⟨_,(o.at 2 rfl).cell rfl,?_⟩
 refine⟨o.wr 1 rfl rfl,fun w4 hw4=> ?_⟩
 obtain⟨st3,o⟩:=o.dS 1 hw4 rfl
 refine⟨_,_,_,_,_,(o.at 1 rfl).whole,?_⟩
 intro b3 w5 hb3 hw5
 have el:El A4 (ms [.box b2 [.slice none 0 0,.q 0,.q 0,.q 0],.box b1 [.q xq.op,.s xq.name,.q xq.n,.q cq.n,.q xq.at_],.box b [.slice a cq.l.length c,.q cq.n,.q cq.at_,.q cq.e_]] m) w4 [(⟨xq.op,xq.name,xq.n,cq.n,xq.at_⟩:Aj)] ([.q xq.op,.s xq.name,.q xq.n,.q cq.n,.q xq.at_]:List Value):=(El.cons (cs:=[.q xq.op,.s xq.name,.q xq.n,.q cq.n,.q xq.at_]) (Bu (⟨xq.op,xq.name,xq.n,cq.n,xq.at_⟩:Aj)) (El.nil _ _ _))
 have st4:=o.xL hb3 hw5 5 1
 have o:=o.lit hb3 hw5 5 1 (by decide) rfl
 refine⟨_,_,_,(o.at 3 rfl).cell rfl,?_⟩
 obtain⟨lt,h⟩:=h
 have sT:=(((st.trans st1).trans st2).trans st3).trans st4
 obtain⟨xs,hx,el1⟩:=SlR.cells (f.st sT)
 have el2:=((el.st st4)).app el1
 refine Fh Abt (o.rowAt 0 rfl) hx el1.len el1.one (by first|(simp;done)|simpa using lt) (by decide) (Nat.zero_le _) fun a1 c1 w6 hr hg hat=> ?_
 have ln:1+cq.l.length=([(⟨xq.op,xq.name,xq.n,cq.n,xq.at_⟩:Aj)]++cq.l).length:=(by first|(simp;done)|(simp;omega))
 rw [ln]at hr⊢
 refine⟨_,_,_,rfl,?_⟩
 have st5:=o.xA 0 rfl hr hg hat
 have o:=o.app 0 rfl hr hg hat
 refine⟨o.wr 3 rfl rfl,fun w7 hw7=> ?_⟩
 obtain⟨st6,o⟩:=o.dS 3 hw7 rfl
 refine⟨o.wr 3 rfl rfl,fun w8 hw8=> ?_⟩
 obtain⟨st7,o⟩:=o.dS 3 hw8 rfl
 refine⟨_,_,_,_,_,_,(o.at 3 rfl).whole,?_⟩
 refine⟨o.wr 1 rfl rfl,fun w9 hw9=> ?_⟩
 obtain⟨st8,o⟩:=o.dSs 1 hw9 rfl
 refine⟨_,_,_,_,_,_,(o.at 1 rfl).whole,?_⟩
 have le1:=(o.rowAt 0 rfl).cap
 have st9:=o.xX 0
 have sT1:=(((st5.trans st6).trans st7).trans st8).trans st9
 have f1:=o.freeze (c:=A4) (l:=([(⟨xq.op,xq.name,xq.n,cq.n,xq.at_⟩:Aj)]++cq.l)) 0 rfl (fun b hb=>by simp at hb) (el2.st sT1)
 have o:=o.erase 0
 exact⟨(⟨([(⟨xq.op,xq.name,xq.n,cq.n,xq.at_⟩:Aj)]++cq.l),1,cq.at_,cq.e_⟩:Ai),h,⟨_,rfl,(Ac (⟨([(⟨xq.op,xq.name,xq.n,cq.n,xq.at_⟩:Aj)]++cq.l),1,cq.at_,cq.e_⟩:Ai) ⟨le1,(f1.st Mem.Awg)⟩)⟩,o.done⟩
def U8 (cq:Ai) (toks:List Aq) (K:Ai->Prop):Prop:=
 cond (cq.e_ !=0)
 (K cq)
 (Ms toks cq.at_ (fun x=>
 Dc cq (⟨x.l,0,x.at_,x.e_⟩:Ai) (fun x1=>
 K x1)))
theorem Tv (cq:Ai) (toks:List Aq) (K:Ai->Prop) (h:U8 cq toks K):Bj cq toks K:=by
 intro m w hm Awv Ax3 Av4 Av5 Av1 Av2
 obtain⟨a,c,rfl,⟨le,f⟩⟩:=Af Ax3
 have o:=Mem.start hm.lt
 refine Wo _ _ _ _ _ _ Av4 toks.length Av5 _ _ ?_
 intro b w1 hb hw1
 obtain⟨st,o⟩:=o.dB hb hw1
 intro b1 w2 hb1 hw2
 obtain⟨st1,o⟩:=o.dB hb1 hw2
 refine⟨_,(o.at 1 rfl).cell rfl,?_⟩
 refine Ad (fun h=> ?_) (fun h=> ?_) h
 refine⟨_,_,_,_,_,_,(o.at 1 rfl).whole,?_⟩
 refine⟨o.wr 0 rfl rfl,fun w3 hw3=> ?_⟩
 obtain⟨st2,o⟩:=o.dSs 0 hw3 rfl
 refine⟨_,_,_,_,_,_,(o.at 0 rfl).whole,?_⟩
 exact⟨cq,h,⟨_,rfl,(Ac cq ⟨le,(f.st (st.trans (st1.trans (st2.trans Mem.Awg))))⟩)⟩,o.done⟩
 refine⟨_,(o.at 1 rfl).cell rfl,?_⟩
 refine Aa (h _ w2 (o.mn hm) _ _ Av1 (Av2.st (st.trans st1))) ?_
 rintro _ w4 ⟨x,h,⟨cs,rfl,f1⟩,ke⟩
 obtain⟨st3,o⟩:=o.dE ke
 obtain⟨a1,c1,rfl,⟨le1,f2⟩⟩:=Dw f1
 refine⟨_,_,_,_,_,rfl,?_⟩
 intro b2 w5 hb2 hw5
 obtain⟨st4,o⟩:=o.dB hb2 hw5
 refine⟨o.wr 0 rfl rfl,fun w6 hw6=> ?_⟩
 obtain⟨st5,o⟩:=o.dSs 0 hw6 rfl
 refine⟨_,_,_,_,_,_,(o.at 2 rfl).whole,?_⟩
 refine⟨_,_,_,(o.at 0 rfl).cell rfl,?_⟩
 refine⟨_,(o.at 0 rfl).cell rfl,?_⟩
 refine⟨_,(o.at 0 rfl).cell rfl,?_⟩
 have sT:=(((st.trans st1).trans st3).trans st4).trans st5
 refine Aa (h _ w6 (o.mn hm) _ (Ac cq ⟨le,(f.st sT)⟩) _ (Ac (⟨x.l,0,x.at_,x.e_⟩:Ai) ⟨le1,(f2.st (st4.trans st5))⟩)) ?_
 rintro _ w7 ⟨x1,h,⟨cs1,rfl,f3⟩,ke1⟩
 obtain⟨st6,o⟩:=o.dE ke1
 obtain⟨a2,c2,rfl,⟨le2,f4⟩⟩:=Af f3
 refine⟨_,_,_,_,_,_,rfl,?_⟩
 refine⟨o.wr 1 rfl rfl,fun w8 hw8=> ?_⟩
 obtain⟨st7,o⟩:=o.dSs 1 hw8 rfl
 refine⟨_,_,_,_,_,_,(o.at 1 rfl).whole,?_⟩
 exact⟨x1,h,⟨_,rfl,(Ac x1 ⟨le2,(f4.st (st7.trans Mem.Awg))⟩)⟩,o.done⟩
def U9 (cq:Ai) (toks:List Aq) (K:Ai->(List UInt8)->Prop):Prop:=
 Dp toks cq.at_ (fun x=>
 ∃(J:(List Aj)->Int->Int->Int->Prop),
 (∃(J1:Bool->Prop),
 (cond (cq.e_==0)
 (J1 (x.kind !=1))
 (J1 false))/\
 ∀(x1:Bool),J1 x1->
 cond (x1)
 (J cq.l cq.n cq.at_ 11)
 (J cq.l cq.n cq.at_ cq.e_))/\
 ∀(l:List Aj) (n:Int) (atx:Int) (ex:Int),J l n atx ex->
 cond (ex !=0)
 (K (⟨l,n,atx,ex⟩:Ai) [])
 (K (⟨l,n,IntKind.i64.wrap (atx+1),ex⟩:Ai) x.text))
theorem Tw (cq:Ai) (toks:List Aq) (K:Ai->(List UInt8)->Prop) (h:U9 cq toks K):Db cq toks K:=by
 intro m w hm Awv Ax3 Av4 Av5 Av1 Av2
 obtain⟨a,c,rfl,⟨le,f⟩⟩:=Af Ax3
 have o:=Mem.start hm.lt
 refine Wq _ _ _ _ _ _ Av4 toks.length Av5 _ _ ?_
 intro b w1 hb hw1
 obtain⟨st,o⟩:=o.dB hb hw1
 intro b1 w2 hb1 hw2
 obtain⟨st1,o⟩:=o.dB hb1 hw2
 refine⟨_,(o.at 1 rfl).cell rfl,?_⟩
 refine Aa (h _ w2 (o.mn hm) _ _ Av1 (Av2.st (st.trans st1))) ?_
 rintro _ w3 ⟨x,h,⟨cs,rfl,f1⟩,ke⟩
 obtain⟨st2,o⟩:=o.dE ke
 obtain rfl:=Dk f1
 refine⟨_,_,_,_,rfl,?_⟩
 intro b2 w4 hb2 hw4
 obtain⟨st3,o⟩:=o.dB hb2 hw4
 refine⟨o.wr 0 rfl rfl,fun w5 hw5=> ?_⟩
 obtain⟨st4,o⟩:=o.dSs 0 hw5 rfl
 obtain⟨J,h,h2⟩:=h
 refine⟨fun w6=>∃(l:List Aj) (n:Int) (atx:Int) (ex:Int) (a1:Option Addr) (c1:Nat),J l n atx ex/\(l.length<=c1/\SlR A4 (ms [.box b2 [.q x.kind,.s x.text,.q x.n,.q x.at_],.box b1 [.slice none 0 0,.q 0,.q 0,.q 0],.box b [.slice a1 l.length c1,.q n,.q atx,.q ex]] m) w6 a1 l)/\MS w m w5 [.box b2 [.q x.kind,.s x.text,.q x.n,.q x.at_],.box b1 [.slice none 0 0,.q 0,.q 0,.q 0],.box b [.slice a cq.l.length c,.q cq.n,.q cq.at_,.q cq.e_]] w6 [.box b2 [.q x.kind,.s x.text,.q x.n,.q x.at_],.box b1 [.slice none 0 0,.q 0,.q 0,.q 0],.box b [.slice a1 l.length c1,.q n,.q atx,.q ex]],?_,?_⟩
 obtain⟨J1,h,h2⟩:=h
 refine⟨fun x1 w7=>J1 x1/\MT w m w5 w7 [.box b2 [.q x.kind,.s x.text,.q x.n,.q x.at_],.box b1 [.slice none 0 0,.q 0,.q 0,.q 0],.box b [.slice a cq.l.length c,.q cq.n,.q cq.at_,.q cq.e_]],?_,?_⟩
 refine⟨_,(o.at 2 rfl).cell rfl,?_⟩
 refine Ad (fun h=> ?_) (fun h=> ?_) h
 refine⟨_,(o.at 0 rfl).cell rfl,?_⟩
 exact⟨h,o,Step.refl _ _⟩
 exact⟨h,o,Step.refl _ _⟩
 rintro _ x1 w7 ⟨hJ,o,st6⟩
 have h:=h2 x1 hJ
 refine Ad (fun h=> ?_) (fun h=> ?_) h
 refine⟨o.wr 2 rfl rfl,fun w8 hw8=> ?_⟩
 obtain⟨st7,o⟩:=o.dS 2 hw8 rfl
 have sT:=(((((st.trans st1).trans st2).trans st3).trans st4).trans st6).trans st7
 exact⟨cq.l,cq.n,cq.at_,11,a,c,h,⟨le,(f.st sT)⟩,o,(st6.trans st7)⟩
 have sT1:=((((st.trans st1).trans st2).trans st3).trans st4).trans st6
 exact⟨cq.l,cq.n,cq.at_,cq.e_,a,c,h,⟨le,(f.st sT1)⟩,o,st6⟩
 rintro _ w6 ⟨l,n,atx,ex,a1,c1,hJ,⟨le1,f2⟩,o,st5⟩
 have h:=h2 l n atx ex hJ
 refine⟨_,(o.at 2 rfl).cell rfl,?_⟩
 refine Ad (fun h=> ?_) (fun h=> ?_) h
 refine⟨_,_,_,_,_,_,(o.at 2 rfl).whole,?_⟩
 refine⟨o.wr 1 rfl rfl,fun w9 hw9=> ?_⟩
 obtain⟨st8,o⟩:=o.dSs 1 hw9 rfl
 refine⟨_,_,_,_,_,_,(o.at 1 rfl).whole,?_⟩
 exact⟨(⟨l,n,atx,ex⟩:Ai),[],h,⟨_,rfl,(Ac (⟨l,n,atx,ex⟩:Ai) ⟨le1,(f2.st (st8.trans Mem.Awg))⟩)⟩,o.done⟩
 refine⟨_,(o.at 2 rfl).cell rfl,?_⟩
 refine⟨o.wr 2 rfl rfl,fun w10 Azs=> ?_⟩
 obtain⟨st9,o⟩:=o.dS 2 Azs rfl
 intro w11 Ax6
 obtain⟨Awf,o⟩:=o.dD Ax6
 have ox:=o
 refine⟨fun u=>Am [b1] w11 u,Am.refl _ _,?_⟩
 refine⟨_,_,_,_,_,_,fun u hu=>((ox.at 2 rfl).Av8 hu (fun h=>by (simp only [List.mem_cons,List.not_mem_nil,or_false]at h;rcases h with h;exact ox.neq 2 1 rfl rfl (by decide) h))).whole,?_⟩
 refine⟨_,fun u hu=>((ox.at 0 rfl).Av8 hu (fun h=>by (simp only [List.mem_cons,List.not_mem_nil,or_false]at h;rcases h with h;exact ox.neq 0 1 rfl rfl (by decide) h))).cell rfl,?_⟩
 refine⟨o.wr 1 rfl rfl,fun w12 Axz=> ?_⟩
 obtain⟨Awi,o⟩:=o.dSs 1 Axz rfl
 refine⟨(Am.mono (Nu Axz) (by simp)),?_⟩
 refine⟨_,_,_,_,_,_,(o.at 1 rfl).whole,?_⟩
 exact⟨(⟨l,n,IntKind.i64.wrap (atx+1),ex⟩:Ai),x.text,h,⟨_,rfl,(Ac (⟨l,n,IntKind.i64.wrap (atx+1),ex⟩:Ai) ⟨le1,(f2.st (st9.trans (Awf.trans (Awi.trans Mem.Awg))))⟩)⟩,o.done⟩
def Y5 (cq:Ai) (toks:List Aq) (deep:Int) (K:Ai->Prop):Prop:=
 cond (cq.e_ !=0)
 (K cq)
 (K5 toks cq.at_ deep (fun x=>
 Dc cq x (fun x1=>
 K x1)))
theorem Xg (cq:Ai) (toks:List Aq) (deep:Int) (K:Ai->Prop) (h:Y5 cq toks deep K):Es cq toks deep K:=by
 intro m w hm Awv Ax3 Av4 Av5 Av1 Av2
 obtain⟨a,c,rfl,⟨le,f⟩⟩:=Af Ax3
 have o:=Mem.start hm.lt
 refine Aaj _ _ _ _ _ _ Av4 toks.length Av5 deep _ _ ?_
 intro b w1 hb hw1
 obtain⟨st,o⟩:=o.dB hb hw1
 intro b1 w2 hb1 hw2
 obtain⟨st1,o⟩:=o.dB hb1 hw2
 refine⟨_,(o.at 1 rfl).cell rfl,?_⟩
 refine Ad (fun h=> ?_) (fun h=> ?_) h
 refine⟨_,_,_,_,_,_,(o.at 1 rfl).whole,?_⟩
 refine⟨o.wr 0 rfl rfl,fun w3 hw3=> ?_⟩
 obtain⟨st2,o⟩:=o.dSs 0 hw3 rfl
 refine⟨_,_,_,_,_,_,(o.at 0 rfl).whole,?_⟩
 exact⟨cq,h,⟨_,rfl,(Ac cq ⟨le,(f.st (st.trans (st1.trans (st2.trans Mem.Awg))))⟩)⟩,o.done⟩
 intro w4 hw4
 obtain⟨st3,o⟩:=o.dD hw4
 have ox:=o
 refine⟨fun u=>Am [] w4 u,Am.refl _ _,?_⟩
 refine⟨_,_,_,_,_,_,fun u hu=>((ox.at 1 rfl).Av8 hu (by simp)).whole,?_⟩
 refine⟨_,fun u hu=>((ox.at 1 rfl).Av8 hu (by simp)).cell rfl,?_⟩
 have sT:=(st.trans st1).trans st3
 refine Aa (h _ w4 (o.mn hm) _ _ Av1 (Av2.st sT)) ?_
 rintro _ w5 ⟨x,h,⟨cs,rfl,f1⟩,ke⟩
 obtain⟨st4,o⟩:=o.dE ke
 obtain⟨a1,c1,rfl,⟨le1,f2⟩⟩:=Af f1
 refine⟨_,_,_,_,_,_,rfl,?_⟩
 refine⟨(ke.mono (by simp)),?_⟩
 have sT1:=sT.trans st4
 refine Aa (h _ w5 (o.mn hm) _ (Ac cq ⟨le,(f.st sT1)⟩) _ (Ac x ⟨le1,f2⟩)) ?_
 rintro _ w6 ⟨x1,h,⟨cs1,rfl,f3⟩,ke1⟩
 obtain⟨st5,o⟩:=o.dE ke1
 obtain⟨a2,c2,rfl,⟨le2,f4⟩⟩:=Af f3
 refine⟨_,_,_,_,_,_,rfl,?_⟩
 refine⟨o.wr 0 rfl rfl,fun w7 hw7=> ?_⟩
 obtain⟨st6,o⟩:=o.dSs 0 hw7 rfl
 refine⟨_,_,_,_,_,_,(o.at 0 rfl).whole,?_⟩
 exact⟨x1,h,⟨_,rfl,(Ac x1 ⟨le2,(f4.st (st6.trans Mem.Awg))⟩)⟩,o.done⟩
def Va (cq:Ai) (toks:List Aq) (send:Int) (recv:Int) (K:Ai->Int->(List UInt8)->Prop):Prop:=
 cond (cq.e_ !=0)
 (K cq 0 [])
 (∃(J:(List Aj)->Int->Int->Int->Prop),
 (Uz toks cq.at_ (fun x=>
 Dc cq x (fun x1=>
 J x1.l x1.n x1.at_ x1.e_)))/\
 ∀(l:List Aj) (n:Int) (atx:Int) (ex:Int),J l n atx ex->
 ∃(J1:Bool->Prop),
 (cond (ex==0)
 (Cm toks atx [33] (fun x3=>
 J1 x3))
 (J1 false))/\
 ∀(x2:Bool),J1 x2->
 cond (x2)
 (Ak (⟨l,n,atx,ex⟩:Ai) toks [33] (fun x4=>
 Bj x4 toks (fun x5=>
 K x5 send [])))
 (Ak (⟨l,n,atx,ex⟩:Ai) toks [63] (fun x6=>
 Db x6 toks (fun r r1=>
 K r recv r1))))
theorem Tx (cq:Ai) (toks:List Aq) (send:Int) (recv:Int) (K:Ai->Int->(List UInt8)->Prop) (h:Va cq toks send recv K):J7 cq toks send recv K:=by
 intro m w hm Awv Ax3 Av4 Av5 Av1 Av2
 obtain⟨a,c,rfl,⟨le,f⟩⟩:=Af Ax3
 have o:=Mem.start hm.lt
 refine Ws _ _ _ _ _ _ Av4 toks.length Av5 send recv _ _ ?_
 intro b w1 hb hw1
 obtain⟨st,o⟩:=o.dB hb hw1
 intro b1 w2 hb1 hw2
 obtain⟨st1,o⟩:=o.dB hb1 hw2
 refine⟨_,(o.at 1 rfl).cell rfl,?_⟩
 refine Ad (fun h=> ?_) (fun h=> ?_) h
 refine⟨_,_,_,_,_,_,(o.at 1 rfl).whole,?_⟩
 refine⟨o.wr 0 rfl rfl,fun w3 hw3=> ?_⟩
 obtain⟨st2,o⟩:=o.dSs 0 hw3 rfl
 refine⟨_,_,_,_,_,_,(o.at 0 rfl).whole,?_⟩
 exact⟨cq,0,[],h,⟨_,rfl,(Ac cq ⟨le,(f.st (st.trans (st1.trans (st2.trans Mem.Awg))))⟩)⟩,o.done⟩
 obtain⟨J,h,h2⟩:=h
 refine⟨fun w4=>∃(l:List Aj) (n:Int) (atx:Int) (ex:Int) (a1:Option Addr) (c1:Nat),J l n atx ex/\(l.length<=c1/\SlR A4 (ms [.box b1 [.slice none 0 0,.q 0,.q 0,.q 0],.box b [.slice a1 l.length c1,.q n,.q atx,.q ex]] m) w4 a1 l)/\MS w m w2 [.box b1 [.slice none 0 0,.q 0,.q 0,.q 0],.box b [.slice a cq.l.length c,.q cq.n,.q cq.at_,.q cq.e_]] w4 [.box b1 [.slice none 0 0,.q 0,.q 0,.q 0],.box b [.slice a1 l.length c1,.q n,.q atx,.q ex]],?_,?_⟩
 intro w5 hw5
 obtain⟨st4,o⟩:=o.dD hw5
 have ox:=o
 refine⟨fun u=>Am [] w5 u,Am.refl _ _,?_⟩
 refine⟨_,_,_,_,_,_,fun u hu=>((ox.at 1 rfl).Av8 hu (by simp)).whole,?_⟩
 refine⟨_,fun u hu=>((ox.at 1 rfl).Av8 hu (by simp)).cell rfl,?_⟩
 have sT:=(st.trans st1).trans st4
 refine Aa (h _ w5 (o.mn hm) _ _ Av1 (Av2.st sT)) ?_
 rintro _ w6 ⟨x,h,⟨cs,rfl,f2⟩,ke⟩
 obtain⟨st5,o⟩:=o.dE ke
 obtain⟨a2,c2,rfl,⟨le2,f3⟩⟩:=Af f2
 refine⟨_,_,_,_,_,_,rfl,?_⟩
 refine⟨(ke.mono (by simp)),?_⟩
 have sT1:=sT.trans st5
 refine Aa (h _ w6 (o.mn hm) _ (Ac cq ⟨le,(f.st sT1)⟩) _ (Ac x ⟨le2,f3⟩)) ?_
 rintro _ w7 ⟨x1,h,⟨cs1,rfl,f4⟩,ke1⟩
 obtain⟨st6,o⟩:=o.dE ke1
 obtain⟨a3,c3,rfl,⟨le3,f5⟩⟩:=Af f4
 refine⟨_,_,_,_,_,_,rfl,?_⟩
 refine⟨o.wr 1 rfl rfl,fun w8 hw8=> ?_⟩
 obtain⟨st7,o⟩:=o.dSs 1 hw8 rfl
 have sT2:=((st4.trans st5).trans st6).trans st7
 exact⟨x1.l,x1.n,x1.at_,x1.e_,a3,c3,h,⟨le3,(f5.st st7)⟩,o,sT2⟩
 rintro _ w4 ⟨l,n,atx,ex,a1,c1,hJ,⟨le1,f1⟩,o,st3⟩
 have h:=h2 l n atx ex hJ
 obtain⟨J1,h,h2⟩:=h
 refine⟨fun x2 w9=>J1 x2/\MT w m w4 w9 [.box b1 [.slice none 0 0,.q 0,.q 0,.q 0],.box b [.slice a1 l.length c1,.q n,.q atx,.q ex]],?_,?_⟩
 refine⟨_,(o.at 1 rfl).cell rfl,?_⟩
 refine Ad (fun h=> ?_) (fun h=> ?_) h
 refine⟨_,(o.at 1 rfl).cell rfl,?_⟩
 have sT3:=(st.trans st1).trans st3
 refine Aa (h _ w4 (o.mn hm) _ _ Av1 (Av2.st sT3)) ?_
 rintro _ w10 ⟨x3,h,rfl,ke2⟩
 obtain⟨st9,o⟩:=o.dE ke2
 refine⟨_,rfl,?_⟩
 exact⟨h,o,st9⟩
 exact⟨h,o,Step.refl _ _⟩
 rintro _ x2 w9 ⟨hJ,o,st8⟩
 have h:=h2 x2 hJ
 refine Ad (fun h=> ?_) (fun h=> ?_) h
 refine⟨_,_,_,_,_,_,(o.at 1 rfl).whole,?_⟩
 have sT4:=((st.trans st1).trans st3).trans st8
 refine Aa (h _ w9 (o.mn hm) _ (Ac (⟨l,n,atx,ex⟩:Ai) ⟨le1,(f1.st st8)⟩) _ _ Av1 (Av2.st sT4)) ?_
 rintro _ w11 ⟨x4,h,⟨cs2,rfl,f6⟩,ke3⟩
 obtain⟨Awf,o⟩:=o.dE ke3
 obtain⟨a4,c4,rfl,⟨le4,f7⟩⟩:=Af f6
 refine⟨_,_,_,_,_,_,rfl,?_⟩
 have sT5:=sT4.trans Awf
 refine Aa (h _ w11 (o.mn hm) _ (Ac x4 ⟨le4,f7⟩) _ _ Av1 (Av2.st sT5)) ?_
 rintro _ w12 ⟨x5,h,⟨cs3,rfl,f8⟩,ke4⟩
 obtain⟨Awi,o⟩:=o.dE ke4
 obtain⟨a5,c5,rfl,⟨le5,f9⟩⟩:=Af f8
 refine⟨_,_,_,_,_,_,rfl,?_⟩
 refine⟨o.wr 0 rfl rfl,fun w13 Ayn=> ?_⟩
 obtain⟨Awr,o⟩:=o.dSs 0 Ayn rfl
 refine⟨_,_,_,_,_,_,(o.at 0 rfl).whole,?_⟩
 exact⟨x5,send,[],h,⟨_,rfl,(Ac x5 ⟨le5,(f9.st (Awr.trans Mem.Awg))⟩)⟩,o.done⟩
 refine⟨_,_,_,_,_,_,(o.at 1 rfl).whole,?_⟩
 have sT6:=((st.trans st1).trans st3).trans st8
 refine Aa (h _ w9 (o.mn hm) _ (Ac (⟨l,n,atx,ex⟩:Ai) ⟨le1,(f1.st st8)⟩) _ _ Av1 (Av2.st sT6)) ?_
 rintro _ w14 ⟨x6,h,⟨cs4,rfl,f10⟩,ke5⟩
 obtain⟨Awj,o⟩:=o.dE ke5
 obtain⟨a6,c6,rfl,⟨le6,f11⟩⟩:=Af f10
 refine⟨_,_,_,_,_,_,rfl,?_⟩
 have sT7:=sT6.trans Awj
 refine Aa (h _ w14 (o.mn hm) _ (Ac x6 ⟨le6,f11⟩) _ _ Av1 (Av2.st sT7)) ?_
 rintro _ w15 ⟨r,r1,h,⟨cs5,rfl,f12⟩,ke6⟩
 obtain⟨Aws,o⟩:=o.dE ke6
 obtain⟨a7,c7,rfl,⟨le7,f13⟩⟩:=Af f12
 refine⟨_,_,_,_,_,_,_,rfl,?_⟩
 refine⟨o.wr 1 rfl rfl,fun w16 Azr=> ?_⟩
 obtain⟨Awt,o⟩:=o.dSs 1 Azr rfl
 refine⟨_,_,_,_,_,_,(o.at 1 rfl).whole,?_⟩
 refine⟨o.wr 0 rfl rfl,fun w17 Ayo=> ?_⟩
 obtain⟨Awu,o⟩:=o.dSs 0 Ayo rfl
 refine⟨_,_,_,_,_,_,(o.at 0 rfl).whole,?_⟩
 exact⟨r,recv,r1,h,⟨_,rfl,(Ac r ⟨le7,(f13.st (Awt.trans (Awu.trans Mem.Awg)))⟩)⟩,o.done⟩
def Vb (cq:Ai) (toks:List Aq) (K:Ai->Prop):Prop:=
 Ak cq toks [40] (fun x=>
 ∃(J:(List Aj)->Int->Int->Int->Prop),
 (∃(J1:Bool->Prop),
 (cond (x.e_==0)
 (Cm toks x.at_ [41] (fun x2=>
 J1 (!x2)))
 (J1 false))/\
 ∀(x1:Bool),J1 x1->
 cond (x1)
 (Bj x toks (fun x3=>
 ∃(I:(List Aj)->Int->Int->Int->Nat->Prop),(∃n2,I x3.l x3.n x3.at_ x3.e_ n2)/\
 ∀(l1:List Aj) (n1:Int) (Av7:Int) (ex1:Int) (n2:Nat),I l1 n1 Av7 ex1 n2->
 ∃(J2:Bool->Prop),
 (cond (ex1==0)
 (Cm toks Av7 [44] (fun x5=>
 J2 x5))
 (J2 false))/\
 ∀(x4:Bool),J2 x4->
 cond (x4)
 (Ak (⟨l1,n1,Av7,ex1⟩:Ai) toks [44] (fun x6=>
 Bj x6 toks (fun x7=>
 ∃n3,n3<n2/\I x7.l x7.n x7.at_ x7.e_ n3)))
 (J l1 n1 Av7 ex1)))
 (J x.l x.n x.at_ x.e_))/\
 ∀(l:List Aj) (n:Int) (atx:Int) (ex:Int),J l n atx ex->
 Ak (⟨l,n,atx,ex⟩:Ai) toks [41] (fun x8=>
 K x8))
theorem Tz (cq:Ai) (toks:List Aq) (K:Ai->Prop) (h:Vb cq toks K):Mb cq toks K:=by
 intro m w hm Awv Ax3 Av4 Av5 Av1 Av2
 obtain⟨a,c,rfl,⟨le,f⟩⟩:=Af Ax3
 have o:=Mem.start hm.lt
 refine Wu _ _ _ _ _ _ Av4 toks.length Av5 _ _ ?_
 intro b w1 hb hw1
 obtain⟨st,o⟩:=o.dB hb hw1
 intro b1 w2 hb1 hw2
 obtain⟨st1,o⟩:=o.dB hb1 hw2
 refine⟨_,_,_,_,_,_,(o.at 1 rfl).whole,?_⟩
 refine Aa (h _ w2 (o.mn hm) _ (Ac cq ⟨le,(f.st (st.trans st1))⟩) _ _ Av1 (Av2.st (st.trans st1))) ?_
 rintro _ w3 ⟨x,h,⟨cs,rfl,f1⟩,ke⟩
 obtain⟨st2,o⟩:=o.dE ke
 obtain⟨a1,c1,rfl,⟨le1,f2⟩⟩:=Af f1
 refine⟨_,_,_,_,_,_,rfl,?_⟩
 refine⟨o.wr 1 rfl rfl,fun w4 hw4=> ?_⟩
 obtain⟨st3,o⟩:=o.dSs 1 hw4 rfl
 obtain⟨J,h,h2⟩:=h
 refine⟨fun w5=>∃(l:List Aj) (n:Int) (atx:Int) (ex:Int) (a2:Option Addr) (c2:Nat),J l n atx ex/\(l.length<=c2/\SlR A4 (ms [.box b1 [.slice none 0 0,.q 0,.q 0,.q 0],.box b [.slice a2 l.length c2,.q n,.q atx,.q ex]] m) w5 a2 l)/\MS w m w4 [.box b1 [.slice none 0 0,.q 0,.q 0,.q 0],.box b [.slice a1 x.l.length c1,.q x.n,.q x.at_,.q x.e_]] w5 [.box b1 [.slice none 0 0,.q 0,.q 0,.q 0],.box b [.slice a2 l.length c2,.q n,.q atx,.q ex]],?_,?_⟩
 obtain⟨J1,h,h2⟩:=h
 refine⟨fun x1 w6=>J1 x1/\MT w m w4 w6 [.box b1 [.slice none 0 0,.q 0,.q 0,.q 0],.box b [.slice a1 x.l.length c1,.q x.n,.q x.at_,.q x.e_]],?_,?_⟩
 refine⟨_,(o.at 1 rfl).cell rfl,?_⟩
 refine Ad (fun h=> ?_) (fun h=> ?_) h
 refine⟨_,(o.at 1 rfl).cell rfl,?_⟩
 have sT:=((st.trans st1).trans st2).trans st3
 refine Aa (h _ w4 (o.mn hm) _ _ Av1 (Av2.st sT)) ?_
 rintro _ w7 ⟨x2,h,rfl,ke1⟩
 obtain⟨st6,o⟩:=o.dE ke1
 refine⟨_,rfl,?_⟩
 exact⟨h,o,st6⟩
 exact⟨h,o,Step.refl _ _⟩
 rintro _ x1 w6 ⟨hJ,o,st5⟩
 have h:=h2 x1 hJ
 refine Ad (fun h=> ?_) (fun h=> ?_) h
 refine⟨_,_,_,_,_,_,(o.at 1 rfl).whole,?_⟩
 have sT1:=(((st.trans st1).trans st2).trans st3).trans st5
 refine Aa (h _ w6 (o.mn hm) _ (Ac x ⟨le1,(f2.st (st3.trans st5))⟩) _ _ Av1 (Av2.st sT1)) ?_
 rintro _ w8 ⟨x3,h,⟨cs1,rfl,f4⟩,ke2⟩
 obtain⟨st7,o⟩:=o.dE ke2
 obtain⟨a3,c3,rfl,⟨le3,f5⟩⟩:=Af f4
 refine⟨_,_,_,_,_,_,rfl,?_⟩
 refine⟨o.wr 1 rfl rfl,fun w9 hw9=> ?_⟩
 obtain⟨st8,o⟩:=o.dSs 1 hw9 rfl
 obtain⟨I,⟨n4,h⟩,h2⟩:=h
 obtain⟨Z,hZ⟩:∃Z:World->Nat->Prop,Z=fun w10 n2=>∃(l1:List Aj) (n1:Int) (Av7:Int) (ex1:Int) (a4:Option Addr) (c4:Nat),I l1 n1 Av7 ex1 n2/\(l1.length<=c4/\SlR A4 (ms [.box b1 [.slice none 0 0,.q 0,.q 0,.q 0],.box b [.slice a4 l1.length c4,.q n1,.q Av7,.q ex1]] m) w10 a4 l1)/\MS w m w9 [.box b1 [.slice none 0 0,.q 0,.q 0,.q 0],.box b [.slice a3 x3.l.length c3,.q x3.n,.q x3.at_,.q x3.e_]] w10 [.box b1 [.slice none 0 0,.q 0,.q 0,.q 0],.box b [.slice a4 l1.length c4,.q n1,.q Av7,.q ex1]]:=⟨_,rfl⟩
 refine⟨fun w10=>∃n2,Z w10 n2,fun w10=>Awb (Z w10),⟨n4,?_⟩,?_⟩
 rw [hZ];exact⟨x3.l,x3.n,x3.at_,x3.e_,a3,c3,h,⟨le3,(f5.st st8)⟩,o,Step.refl _ _⟩
 intro _ w10 hIZ
 obtain⟨n2,Bzk⟩:∃n2,n2=Awb (Z w10):=⟨_,rfl⟩
 have hIZ:=C2 hIZ
 rw [←Bzk,hZ]at hIZ
 obtain⟨l1,n1,Av7,ex1,a4,c4,h,⟨le4,f6⟩,o,st9⟩:=hIZ
 have h:=h2 l1 n1 Av7 ex1 n2 h
 obtain⟨J2,h,h2⟩:=h
 refine⟨fun x4 w11=>J2 x4/\MT w m w10 w11 [.box b1 [.slice none 0 0,.q 0,.q 0,.q 0],.box b [.slice a4 l1.length c4,.q n1,.q Av7,.q ex1]],?_,?_⟩
 refine⟨_,(o.at 1 rfl).cell rfl,?_⟩
 refine Ad (fun h=> ?_) (fun h=> ?_) h
 refine⟨_,(o.at 1 rfl).cell rfl,?_⟩
 have sT2:=((sT1.trans st7).trans st8).trans st9
 refine Aa (h _ w10 (o.mn hm) _ _ Av1 (Av2.st sT2)) ?_
 rintro _ w12 ⟨x5,h,rfl,ke3⟩
 obtain⟨Awi,o⟩:=o.dE ke3
 refine⟨_,rfl,?_⟩
 exact⟨h,o,Awi⟩
 exact⟨h,o,Step.refl _ _⟩
 rintro _ x4 w11 ⟨hJ,o,Awf⟩
 have h:=h2 x4 hJ
 refine Ad (fun h=> ?_) (fun h=> ?_) h
 refine⟨_,_,_,_,_,_,(o.at 1 rfl).whole,?_⟩
 have sT3:=(((sT1.trans st7).trans st8).trans st9).trans Awf
 refine Aa (h _ w11 (o.mn hm) _ (Ac (⟨l1,n1,Av7,ex1⟩:Ai) ⟨le4,(f6.st Awf)⟩) _ _ Av1 (Av2.st sT3)) ?_
 rintro _ w13 ⟨x6,h,⟨cs2,rfl,f7⟩,ke4⟩
 obtain⟨Awr,o⟩:=o.dE ke4
 obtain⟨a5,c5,rfl,⟨le5,f8⟩⟩:=Af f7
 refine⟨_,_,_,_,_,_,rfl,?_⟩
 have sT4:=sT3.trans Awr
 refine Aa (h _ w13 (o.mn hm) _ (Ac x6 ⟨le5,f8⟩) _ _ Av1 (Av2.st sT4)) ?_
 rintro _ w14 ⟨x7,h,⟨cs3,rfl,f9⟩,ke5⟩
 obtain⟨Awj,o⟩:=o.dE ke5
 obtain⟨a6,c6,rfl,⟨le6,f10⟩⟩:=Af f9
 refine⟨_,_,_,_,_,_,rfl,?_⟩
 refine⟨o.wr 1 rfl rfl,fun w15 Ax7=> ?_⟩
 obtain⟨Aws,o⟩:=o.dSs 1 Ax7 rfl
 obtain⟨n3,hl,h⟩:=h
 have sT5:=(((st9.trans Awf).trans Awr).trans Awj).trans Aws
 exact B8 Bzk (show Z w15 n3 from(by rw [hZ];exact⟨x7.l,x7.n,x7.at_,x7.e_,a6,c6,h,⟨le6,(f10.st Aws)⟩,o,sT5⟩)) hl
 have sT6:=(((st5.trans st7).trans st8).trans st9).trans Awf
 exact⟨l1,n1,Av7,ex1,a4,c4,h,⟨le4,(f6.st Awf)⟩,o,sT6⟩
 exact⟨x.l,x.n,x.at_,x.e_,a1,c1,h,⟨le1,(f2.st (st3.trans st5))⟩,o,st5⟩
 rintro _ w5 ⟨l,n,atx,ex,a2,c2,hJ,⟨le2,f3⟩,o,st4⟩
 have h:=h2 l n atx ex hJ
 refine⟨_,_,_,_,_,_,(o.at 1 rfl).whole,?_⟩
 have sT7:=(((st.trans st1).trans st2).trans st3).trans st4
 refine Aa (h _ w5 (o.mn hm) _ (Ac (⟨l,n,atx,ex⟩:Ai) ⟨le2,f3⟩) _ _ Av1 (Av2.st sT7)) ?_
 rintro _ w16 ⟨x8,h,⟨cs4,rfl,f11⟩,ke6⟩
 obtain⟨Awt,o⟩:=o.dE ke6
 obtain⟨a7,c7,rfl,⟨le7,f12⟩⟩:=Af f11
 refine⟨_,_,_,_,_,_,rfl,?_⟩
 refine⟨o.wr 0 rfl rfl,fun w17 Ayo=> ?_⟩
 obtain⟨Awu,o⟩:=o.dSs 0 Ayo rfl
 refine⟨_,_,_,_,_,_,(o.at 0 rfl).whole,?_⟩
 exact⟨x8,h,⟨_,rfl,(Ac x8 ⟨le7,(f12.st (Awu.trans Mem.Awg))⟩)⟩,o.done⟩
def Vd (cq:Ai) (toks:List Aq) (K:Ai->Int->Prop):Prop:=
 Dp toks cq.at_ (fun x=>
 ∃(J:(List Aj)->Int->Int->Int->Prop),
 (∃(J1:Bool->Prop),
 (cond (cq.e_==0)
 (J1 (x.kind !=2))
 (J1 false))/\
 ∀(x1:Bool),J1 x1->
 cond (x1)
 (J cq.l cq.n cq.at_ 11)
 (J cq.l cq.n cq.at_ cq.e_))/\
 ∀(l:List Aj) (n:Int) (atx:Int) (ex:Int),J l n atx ex->
 ∃(J2:(List Aj)->Int->Int->Int->Prop),
 (∃(J3:Bool->Prop),
 (cond (ex==0)
 (cond (decide (x.n<1))
 (J3 true)
 (J3 (decide (x.n>16))))
 (J3 false))/\
 ∀(x2:Bool),J3 x2->
 cond (x2)
 (J2 l n atx 6)
 (J2 l n atx ex))/\
 ∀(l1:List Aj) (n1:Int) (Av7:Int) (ex1:Int),J2 l1 n1 Av7 ex1->
 cond (ex1 !=0)
 (K (⟨l1,n1,Av7,ex1⟩:Ai) 0)
 (K (⟨l1,n1,IntKind.i64.wrap (Av7+1),ex1⟩:Ai) x.n))
theorem T0 (cq:Ai) (toks:List Aq) (K:Ai->Int->Prop) (h:Vd cq toks K):Mc cq toks K:=by
 intro m w hm Awv Ax3 Av4 Av5 Av1 Av2
 obtain⟨a,c,rfl,⟨le,f⟩⟩:=Af Ax3
 have o:=Mem.start hm.lt
 refine Ww _ _ _ _ _ _ Av4 toks.length Av5 _ _ ?_
 intro b w1 hb hw1
 obtain⟨st,o⟩:=o.dB hb hw1
 intro b1 w2 hb1 hw2
 obtain⟨st1,o⟩:=o.dB hb1 hw2
 refine⟨_,(o.at 1 rfl).cell rfl,?_⟩
 refine Aa (h _ w2 (o.mn hm) _ _ Av1 (Av2.st (st.trans st1))) ?_
 rintro _ w3 ⟨x,h,⟨cs,rfl,f1⟩,ke⟩
 obtain⟨st2,o⟩:=o.dE ke
 obtain rfl:=Dk f1
 refine⟨_,_,_,_,rfl,?_⟩
 intro b2 w4 hb2 hw4
 obtain⟨st3,o⟩:=o.dB hb2 hw4
 refine⟨o.wr 0 rfl rfl,fun w5 hw5=> ?_⟩
 obtain⟨st4,o⟩:=o.dSs 0 hw5 rfl
 obtain⟨J,h,h2⟩:=h
 refine⟨fun w6=>∃(l:List Aj) (n:Int) (atx:Int) (ex:Int) (a1:Option Addr) (c1:Nat),J l n atx ex/\(l.length<=c1/\SlR A4 (ms [.box b2 [.q x.kind,.s x.text,.q x.n,.q x.at_],.box b1 [.slice none 0 0,.q 0,.q 0,.q 0],.box b [.slice a1 l.length c1,.q n,.q atx,.q ex]] m) w6 a1 l)/\MS w m w5 [.box b2 [.q x.kind,.s x.text,.q x.n,.q x.at_],.box b1 [.slice none 0 0,.q 0,.q 0,.q 0],.box b [.slice a cq.l.length c,.q cq.n,.q cq.at_,.q cq.e_]] w6 [.box b2 [.q x.kind,.s x.text,.q x.n,.q x.at_],.box b1 [.slice none 0 0,.q 0,.q 0,.q 0],.box b [.slice a1 l.length c1,.q n,.q atx,.q ex]],?_,?_⟩
 obtain⟨J1,h,h2⟩:=h
 refine⟨fun x1 w7=>J1 x1/\MT w m w5 w7 [.box b2 [.q x.kind,.s x.text,.q x.n,.q x.at_],.box b1 [.slice none 0 0,.q 0,.q 0,.q 0],.box b [.slice a cq.l.length c,.q cq.n,.q cq.at_,.q cq.e_]],?_,?_⟩
 refine⟨_,(o.at 2 rfl).cell rfl,?_⟩
 refine Ad (fun h=> ?_) (fun h=> ?_) h
 refine⟨_,(o.at 0 rfl).cell rfl,?_⟩
 exact⟨h,o,Step.refl _ _⟩
 exact⟨h,o,Step.refl _ _⟩
 rintro _ x1 w7 ⟨hJ,o,st6⟩
 have h:=h2 x1 hJ
 refine Ad (fun h=> ?_) (fun h=> ?_) h
 refine⟨o.wr 2 rfl rfl,fun w8 hw8=> ?_⟩
 obtain⟨st7,o⟩:=o.dS 2 hw8 rfl
 have sT:=(((((st.trans st1).trans st2).trans st3).trans st4).trans st6).trans st7
 exact⟨cq.l,cq.n,cq.at_,11,a,c,h,⟨le,(f.st sT)⟩,o,(st6.trans st7)⟩
 have sT1:=((((st.trans st1).trans st2).trans st3).trans st4).trans st6
 exact⟨cq.l,cq.n,cq.at_,cq.e_,a,c,h,⟨le,(f.st sT1)⟩,o,st6⟩
 rintro _ w6 ⟨l,n,atx,ex,a1,c1,hJ,⟨le1,f2⟩,o,st5⟩
 have h:=h2 l n atx ex hJ
 obtain⟨J2,h,h2⟩:=h
 refine⟨fun w9=>∃(l1:List Aj) (n1:Int) (Av7:Int) (ex1:Int) (a2:Option Addr) (c2:Nat),J2 l1 n1 Av7 ex1/\(l1.length<=c2/\SlR A4 (ms [.box b2 [.q x.kind,.s x.text,.q x.n,.q x.at_],.box b1 [.slice none 0 0,.q 0,.q 0,.q 0],.box b [.slice a2 l1.length c2,.q n1,.q Av7,.q ex1]] m) w9 a2 l1)/\MS w m w6 [.box b2 [.q x.kind,.s x.text,.q x.n,.q x.at_],.box b1 [.slice none 0 0,.q 0,.q 0,.q 0],.box b [.slice a1 l.length c1,.q n,.q atx,.q ex]] w9 [.box b2 [.q x.kind,.s x.text,.q x.n,.q x.at_],.box b1 [.slice none 0 0,.q 0,.q 0,.q 0],.box b [.slice a2 l1.length c2,.q n1,.q Av7,.q ex1]],?_,?_⟩
 obtain⟨J3,h,h2⟩:=h
 refine⟨fun x2 w10=>J3 x2/\MT w m w6 w10 [.box b2 [.q x.kind,.s x.text,.q x.n,.q x.at_],.box b1 [.slice none 0 0,.q 0,.q 0,.q 0],.box b [.slice a1 l.length c1,.q n,.q atx,.q ex]],?_,?_⟩
 refine⟨_,(o.at 2 rfl).cell rfl,?_⟩
 refine Ad (fun h=> ?_) (fun h=> ?_) h
 refine⟨_,(o.at 0 rfl).cell rfl,?_⟩
 refine Ad (fun h=> ?_) (fun h=> ?_) h
 exact⟨h,o,Step.refl _ _⟩
 refine⟨_,(o.at 0 rfl).cell rfl,?_⟩
 exact⟨h,o,Step.refl _ _⟩
 exact⟨h,o,Step.refl _ _⟩
 rintro _ x2 w10 ⟨hJ,o,st9⟩
 have h:=h2 x2 hJ
 refine Ad (fun h=> ?_) (fun h=> ?_) h
 refine⟨o.wr 2 rfl rfl,fun w11 Ax6=> ?_⟩
 obtain⟨Awf,o⟩:=o.dS 2 Ax6 rfl
 exact⟨l,n,atx,6,a1,c1,h,⟨le1,(f2.st (st9.trans Awf))⟩,o,(st9.trans Awf)⟩
 exact⟨l,n,atx,ex,a1,c1,h,⟨le1,(f2.st st9)⟩,o,st9⟩
 rintro _ w9 ⟨l1,n1,Av7,ex1,a2,c2,hJ,⟨le2,f3⟩,o,st8⟩
 have h:=h2 l1 n1 Av7 ex1 hJ
 refine⟨_,(o.at 2 rfl).cell rfl,?_⟩
 refine Ad (fun h=> ?_) (fun h=> ?_) h
 refine⟨_,_,_,_,_,_,(o.at 2 rfl).whole,?_⟩
 refine⟨o.wr 1 rfl rfl,fun w12 Axz=> ?_⟩
 obtain⟨Awi,o⟩:=o.dSs 1 Axz rfl
 refine⟨_,_,_,_,_,_,(o.at 1 rfl).whole,?_⟩
 exact⟨(⟨l1,n1,Av7,ex1⟩:Ai),0,h,⟨_,rfl,(Ac (⟨l1,n1,Av7,ex1⟩:Ai) ⟨le2,(f3.st (Awi.trans Mem.Awg))⟩)⟩,o.done⟩
 refine⟨_,(o.at 2 rfl).cell rfl,?_⟩
 refine⟨o.wr 2 rfl rfl,fun w13 Ayn=> ?_⟩
 obtain⟨Awr,o⟩:=o.dS 2 Ayn rfl
 intro w14 Azq
 obtain⟨Awj,o⟩:=o.dD Azq
 have ox:=o
 refine⟨fun u=>Am [b1] w14 u,Am.refl _ _,?_⟩
 refine⟨_,_,_,_,_,_,fun u hu=>((ox.at 2 rfl).Av8 hu (fun h=>by (simp only [List.mem_cons,List.not_mem_nil,or_false]at h;rcases h with h;exact ox.neq 2 1 rfl rfl (by decide) h))).whole,?_⟩
 refine⟨_,fun u hu=>((ox.at 0 rfl).Av8 hu (fun h=>by (simp only [List.mem_cons,List.not_mem_nil,or_false]at h;rcases h with h;exact ox.neq 0 1 rfl rfl (by decide) h))).cell rfl,?_⟩
 refine⟨o.wr 1 rfl rfl,fun w15 Ax7=> ?_⟩
 obtain⟨Aws,o⟩:=o.dSs 1 Ax7 rfl
 refine⟨(Am.mono (Nu Ax7) (by simp)),?_⟩
 refine⟨_,_,_,_,_,_,(o.at 1 rfl).whole,?_⟩
 exact⟨(⟨l1,n1,IntKind.i64.wrap (Av7+1),ex1⟩:Ai),x.n,h,⟨_,rfl,(Ac (⟨l1,n1,IntKind.i64.wrap (Av7+1),ex1⟩:Ai) ⟨le2,(f3.st (Awr.trans (Awj.trans (Aws.trans Mem.Awg))))⟩)⟩,o.done⟩
def T1 (cq:Ai) (toks:List Aq) (K:Ai->Prop):Prop:=
 cond (cq.e_ !=0)
 (K cq)
 (D6 cq.at_ (fun x=>
 Db x toks (fun r r1=>
 Dp toks cq.at_ (fun x1=>
 Ay r (⟨39,r1,0,0,x1.at_⟩:Aj) (fun x2=>
 Dc cq x2 (fun x3=>
 K x3))))))
theorem Sl (cq:Ai) (toks:List Aq) (K:Ai->Prop) (h:T1 cq toks K):H8 cq toks K:=by
 intro m w hm Awv Ax3 Av4 Av5 Av1 Av2
 obtain⟨a,c,rfl,⟨le,f⟩⟩:=Af Ax3
 have o:=Mem.start hm.lt
 refine Uv _ _ _ _ _ _ Av4 toks.length Av5 _ _ ?_
 intro b w1 hb hw1
 obtain⟨st,o⟩:=o.dB hb hw1
 intro b1 w2 hb1 hw2
 obtain⟨st1,o⟩:=o.dB hb1 hw2
 refine⟨_,(o.at 1 rfl).cell rfl,?_⟩
 refine Ad (fun h=> ?_) (fun h=> ?_) h
 refine⟨_,_,_,_,_,_,(o.at 1 rfl).whole,?_⟩
 refine⟨o.wr 0 rfl rfl,fun w3 hw3=> ?_⟩
 obtain⟨st2,o⟩:=o.dSs 0 hw3 rfl
 refine⟨_,_,_,_,_,_,(o.at 0 rfl).whole,?_⟩
 exact⟨cq,h,⟨_,rfl,(Ac cq ⟨le,(f.st (st.trans (st1.trans (st2.trans Mem.Awg))))⟩)⟩,o.done⟩
 refine⟨_,(o.at 1 rfl).cell rfl,?_⟩
 refine Aa (h _ w2 (o.mn hm)) ?_
 rintro _ w4 ⟨x,h,⟨cs,rfl,f1⟩,ke⟩
 obtain⟨st3,o⟩:=o.dE ke
 obtain⟨a1,c1,rfl,⟨le1,f2⟩⟩:=Af f1
 refine⟨_,_,_,_,_,_,rfl,?_⟩
 have sT:=(st.trans st1).trans st3
 refine Aa (h _ w4 (o.mn hm) _ (Ac x ⟨le1,f2⟩) _ _ Av1 (Av2.st sT)) ?_
 rintro _ w5 ⟨r,r1,h,⟨cs1,rfl,f3⟩,ke1⟩
 obtain⟨st4,o⟩:=o.dE ke1
 obtain⟨a2,c2,rfl,⟨le2,f4⟩⟩:=Af f3
 refine⟨_,_,_,_,_,_,_,rfl,?_⟩
 intro b2 w6 hb2 hw6
 obtain⟨st5,o⟩:=o.dB hb2 hw6
 refine⟨o.wr 0 rfl rfl,fun w7 hw7=> ?_⟩
 obtain⟨st6,o⟩:=o.dSs 0 hw7 rfl
 intro w8 hw8
 obtain⟨st7,o⟩:=o.dD hw8
 have ox:=o
 refine⟨fun u=>Am [] w8 u,Am.refl _ _,?_⟩
 refine⟨_,_,_,_,_,_,fun u hu=>((ox.at 2 rfl).Av8 hu (by simp)).whole,?_⟩
 refine⟨_,_,_,_,_,_,fun u hu=>((ox.at 0 rfl).Av8 hu (by simp)).whole,?_⟩
 refine⟨_,fun u hu=>((ox.at 2 rfl).Av8 hu (by simp)).cell rfl,?_⟩
 have sT1:=(((sT.trans st4).trans st5).trans st6).trans st7
 refine Aa (h _ w8 (o.mn hm) _ _ Av1 (Av2.st sT1)) ?_
 rintro _ w9 ⟨x1,h,⟨cs2,rfl,f5⟩,ke2⟩
 obtain⟨st8,o⟩:=o.dE ke2
 obtain rfl:=Dk f5
 refine⟨_,_,_,_,rfl,?_⟩
 refine⟨(ke2.mono (by simp)),?_⟩
 have sT2:=((st5.trans st6).trans st7).trans st8
 refine Aa (h _ w9 (o.mn hm) _ (Ac r ⟨le2,(f4.st sT2)⟩) _ (Bu (⟨39,r1,0,0,x1.at_⟩:Aj))) ?_
 rintro _ w10 ⟨x2,h,⟨cs3,rfl,f6⟩,ke3⟩
 obtain⟨st9,o⟩:=o.dE ke3
 obtain⟨a3,c3,rfl,⟨le3,f7⟩⟩:=Af f6
 refine⟨_,_,_,_,_,_,rfl,?_⟩
 refine⟨((ke2.mono (by simp)).trans (ke3.mono (by simp))),?_⟩
 have sT3:=(sT1.trans st8).trans st9
 refine Aa (h _ w10 (o.mn hm) _ (Ac cq ⟨le,(f.st sT3)⟩) _ (Ac x2 ⟨le3,f7⟩)) ?_
 rintro _ w11 ⟨x3,h,⟨cs4,rfl,f8⟩,ke4⟩
 obtain⟨Awf,o⟩:=o.dE ke4
 obtain⟨a4,c4,rfl,⟨le4,f9⟩⟩:=Af f8
 refine⟨_,_,_,_,_,_,rfl,?_⟩
 refine⟨o.wr 1 rfl rfl,fun w12 Axz=> ?_⟩
 obtain⟨Awi,o⟩:=o.dSs 1 Axz rfl
 refine⟨_,_,_,_,_,_,(o.at 1 rfl).whole,?_⟩
 exact⟨x3,h,⟨_,rfl,(Ac x3 ⟨le4,(f9.st (Awi.trans Mem.Awg))⟩)⟩,o.done⟩
def Agi (toks:List Aq) (atx:Int) (K:Aq->Prop):Prop:=
 cond (decide (atx<(toks.length:Int)))
 (((0:Int)<=atx/\atx<(toks.length:Int))/\
 ∀x,toks[atx.toNat]? =some x->
 K x)
 (K (⟨0,[],0,0⟩:Aq))
theorem Adn (toks:List Aq) (atx:Int) (K:Aq->Prop) (h:Agi toks atx K):Dp toks atx K:=by
 intro m w hm Av4 Av5 Av1 Av2
 have o:=Mem.start hm.lt
 refine Aie Av4 toks.length Av5 atx _ _ ?_
 intro b w1 hb hw1
 obtain⟨st,o⟩:=o.dB hb hw1
 refine Ad (fun h=> ?_) (fun h=> ?_) h
 obtain⟨hi,h⟩:=h
 obtain⟨p,x,cs,hp,he,hc,hr⟩:=(Av2.st st).elem hi
 obtain rfl:=Dk hr
 have h:=h x he
 refine⟨hi,An hp ?_⟩
 refine⟨_,_,_,_,hc.2,?_⟩
 refine⟨o.wr 0 rfl rfl,fun w2 hw2=> ?_⟩
 obtain⟨st1,o⟩:=o.dSs 0 hw2 rfl
 refine⟨_,_,_,_,(o.at 0 rfl).whole,?_⟩
 exact⟨x,h,⟨_,rfl,(Ux x)⟩,o.done⟩
 refine⟨o.wr 0 rfl rfl,fun w3 hw3=> ?_⟩
 obtain⟨st2,o⟩:=o.dSs 0 hw3 rfl
 refine⟨_,_,_,_,(o.at 0 rfl).whole,?_⟩
 exact⟨(⟨0,[],0,0⟩:Aq),h,⟨_,rfl,(Ux (⟨0,[],0,0⟩:Aq))⟩,o.done⟩
def Agj (sx:List UInt8) (K:Dm->Prop):Prop:=
 cond (decide ((sx.length:Int)>65536))
 (K (⟨[],0,5⟩:Dm))
 (∃(I:Int->(List Aq)->Int->Int->Int->Int->Nat->Prop),(∃n,I 0 [] 0 0 0 0 n)/\
 ∀(atx:Int) (L:List Aq) (At:Int) (E:Int) (At1:Int) (E1:Int) (n:Nat),I atx L At E At1 E1 n->
 Yv sx atx (fun x=>
 cond (x.e_ !=0)
 (K (⟨[],x.next,x.e_⟩:Dm))
 (L.length+[x.t].length<2^32/\
 cond (x.t.kind==0)
 (K (⟨(L++[x.t]),x.t.at_,E⟩:Dm))
 (∃n1,n1<n/\I x.next (L++[x.t]) x.t.at_ E At1 E1 n1))))
theorem Ado (sx:List UInt8) (K:Dm->Prop) (h:Agj sx K):U1 sx K:=by
 intro m w hm
 have o:=Mem.start hm.lt
 refine Aig sx _ _ ?_
 intro b w1 hb hw1
 obtain⟨st,o⟩:=o.dB hb hw1
 refine Ad (fun h=> ?_) (fun h=> ?_) h
 refine⟨o.wr 0 rfl rfl,fun w2 hw2=> ?_⟩
 obtain⟨st1,o⟩:=o.dSs 0 hw2 rfl
 refine⟨_,_,_,_,_,(o.at 0 rfl).whole,?_⟩
 exact⟨(⟨[],0,5⟩:Dm),h,⟨_,rfl,(Ol (⟨[],0,5⟩:Dm) ⟨(Nat.le_refl _),(SlR.nil _ _ _ _)⟩)⟩,o.done⟩
 intro b1 w3 hb1 hw3
 obtain⟨st2,o⟩:=o.dB hb1 hw3
 have st3:=o.xN 57 4
 have o:=o.Bac 57 4
 obtain⟨I,⟨n2,h⟩,h2⟩:=h
 obtain⟨Z,hZ⟩:∃Z:Int->World->Nat->Prop,Z=fun atx w4 n=>∃(L:List Aq) (At:Int) (E:Int) (At1:Int) (E1:Int) (xs:List Value) (a:Option Addr) (c:Nat),I atx L At E At1 E1 n/\El Ci (ms [.row 57 4 a L.length c xs,.box b1 [.slice a L.length c,.q At,.q E],.box b [.slice none 0 0,.q At1,.q E1]] m) w4 L xs/\MS w m w3 [.row 57 4 none 0 0 [],.box b1 [.slice none 0 0,.q 0,.q 0],.box b [.slice none 0 0,.q 0,.q 0]] w4 [.row 57 4 a L.length c xs,.box b1 [.slice a L.length c,.q At,.q E],.box b [.slice none 0 0,.q At1,.q E1]]:=⟨_,rfl⟩
 refine⟨fun atx w4=>∃n,Z atx w4 n,fun atx w4=>Awb (Z atx w4),⟨n2,?_⟩,?_⟩
 rw [hZ];exact⟨[],0,0,0,0,[],none,0,h,(El.nil _ _ _),o,Step.refl _ _⟩
 intro _ atx w4 hIZ
 obtain⟨n,hnn⟩:∃n,n=Awb (Z atx w4):=⟨_,rfl⟩
 have hIZ:=C2 hIZ
 rw [←hnn,hZ]at hIZ
 obtain⟨L,At,E,At1,E1,xs,a,c,h,el,o,st4⟩:=hIZ
 have h:=h2 atx L At E At1 E1 n h
 refine Aa (h _ w4 (o.mn hm)) ?_
 rintro _ w5 ⟨x,h,⟨cs,rfl,f⟩,ke⟩
 obtain⟨st5,o⟩:=o.dE ke
 obtain rfl:=Adb f
 refine⟨_,_,_,_,_,_,rfl,?_⟩
 intro b2 w6 hb2 hw6
 obtain⟨st6,o⟩:=o.dB hb2 hw6
 refine⟨o.wr 0 rfl rfl,fun w7 hw7=> ?_⟩
 obtain⟨st7,o⟩:=o.dSs 0 hw7 rfl
 refine⟨_,(o.at 0 rfl).cell rfl,?_⟩
 refine Ad (fun h=> ?_) (fun h=> ?_) h
 refine⟨_,(o.at 0 rfl).cell rfl,?_⟩
 refine⟨_,(o.at 0 rfl).cell rfl,?_⟩
 refine⟨o.wr 3 rfl rfl,fun w8 hw8=> ?_⟩
 obtain⟨st8,o⟩:=o.dSs 3 hw8 rfl
 refine⟨_,_,_,_,_,(o.at 3 rfl).whole,?_⟩
 exact⟨(⟨[],x.next,x.e_⟩:Dm),h,⟨_,rfl,(Ol (⟨[],x.next,x.e_⟩:Dm) ⟨(Nat.le_refl _),(SlR.nil _ _ _ _)⟩)⟩,o.done⟩
 refine⟨_,_,_,(o.at 2 rfl).cell rfl,?_⟩
 refine⟨_,_,_,_,(o.at 0 rfl).cells (m:=[.q x.t.kind,.s x.t.text,.q x.t.n,.q x.t.at_]) 0 (fun j hj=>by match j,hj with|0,_=>rfl|1,_=>rfl|2,_=>rfl|3,_=>rfl),?_⟩
 intro b3 w9 hb3 hw9
 have el1:El Ci (ms [.box b2 [.q x.t.kind,.s x.t.text,.q x.t.n,.q x.t.at_,.q x.next,.q x.e_],.row 57 4 a L.length c xs,.box b1 [.slice a L.length c,.q At,.q E],.box b [.slice none 0 0,.q At1,.q E1]] m) w7 [x.t] ([.q x.t.kind,.s x.t.text,.q x.t.n,.q x.t.at_]:List Value):=(El.cons (cs:=[.q x.t.kind,.s x.t.text,.q x.t.n,.q x.t.at_]) (Ux x.t) (El.nil _ _ _))
 have st9:=o.xL hb3 hw9 4 1
 have o:=o.lit hb3 hw9 4 1 (by decide) rfl
 obtain⟨lt,h⟩:=h
 have sT:=((st5.trans st6).trans st7).trans st9
 have el3:=((el.st sT)).app (el1.st st9)
 refine Fh Auv (o.rowAt 2 rfl) (o.rowAt 0 rfl).sl (el1.st st9).len (el1.st st9).one (by first|(simp;done)|simpa using lt) (by decide) (Nat.zero_le _) fun a1 c1 w10 hr hg hat=> ?_
 have ln:L.length+1=(L++[x.t]).length:=(by first|(simp;done)|(simp;omega))
 rw [ln]at hr⊢
 refine⟨_,_,_,rfl,?_⟩
 have Awf:=o.xA 2 rfl hr hg hat
 have o:=o.app 2 rfl hr hg hat
 refine⟨o.wr 3 rfl rfl,fun w11 Ax6=> ?_⟩
 obtain⟨Awi,o⟩:=o.dS 3 Ax6 rfl
 refine⟨_,(o.at 1 rfl).cell rfl,?_⟩
 refine⟨o.wr 3 rfl rfl,fun w12 Axz=> ?_⟩
 obtain⟨Awr,o⟩:=o.dS 3 Axz rfl
 refine⟨_,(o.at 1 rfl).cell rfl,?_⟩
 refine Ad (fun h=> ?_) (fun h=> ?_) h
 refine⟨_,_,_,_,_,(o.at 3 rfl).whole,?_⟩
 refine⟨o.wr 4 rfl rfl,fun w13 Ayn=> ?_⟩
 obtain⟨Awj,o⟩:=o.dSs 4 Ayn rfl
 refine⟨_,_,_,_,_,(o.at 4 rfl).whole,?_⟩
 have le:=(o.rowAt 2 rfl).cap
 have Aws:=o.xX 2
 have sT1:=(((Awf.trans Awi).trans Awr).trans Awj).trans Aws
 have f1:=o.freeze (c:=Ci) (l:=(L++[x.t])) 2 rfl (fun b hb=>by simp at hb) (el3.st sT1)
 have o:=o.erase 2
 exact⟨(⟨(L++[x.t]),x.t.at_,E⟩:Dm),h,⟨_,rfl,(Ol (⟨(L++[x.t]),x.t.at_,E⟩:Dm) ⟨le,(f1.st Mem.Awg)⟩)⟩,o.done⟩
 refine⟨_,(o.at 1 rfl).cell rfl,?_⟩
 obtain⟨Awt,o⟩:=o.dX 0
 obtain⟨Awu,o⟩:=o.dX 0
 obtain⟨n1,hl,h⟩:=h
 have sT2:=(((Awf.trans Awi).trans Awr).trans Awt).trans Awu
 have sT3:=((((((((st4.trans st5).trans st6).trans st7).trans st9).trans Awf).trans Awi).trans Awr).trans Awt).trans Awu
 exact B8 hnn (show Z _ w12 n1 from(by rw [hZ];exact⟨(L++[x.t]),x.t.at_,E,At1,E1,(xs++([.q x.t.kind,.s x.t.text,.q x.t.n,.q x.t.at_]:List Value)),a1,c1,h,(el3.st sT2),o,sT3⟩)) hl
def Aa0 (toks:List Aq) (atx:Int) (n:Int) (deep:Int) (K:Ap->Prop):Prop:=
 cond (n==6)
 (Kn toks atx deep (fun x=>
 K x))
 (Fl toks atx (IntKind.i64.wrap (n+1)) deep (fun x1=>
 ∃(I:(List Aj)->Int->Int->(List Aj)->Int->Int->Nat->Prop),(∃n1,I x1.l x1.at_ x1.e_ [] 0 0 n1)/\
 ∀(L:List Aj) (At:Int) (E:Int) (L1:List Aj) (At1:Int) (E1:Int) (n1:Nat),I L At E L1 At1 E1 n1->
 cond (E==0)
 (Dp toks At (fun x2=>
 Age x2.text (fun op=>
 ∃(J:Bool->Prop),
 (cond (x2.kind !=4)
 (J true)
 (cond (op==0)
 (J true)
 (V8 op (fun x4=>
 J (x4 !=n)))))/\
 ∀(x3:Bool),J x3->
 cond (x3)
 (K (⟨L,At,E⟩:Ap))
 (Fl toks (IntKind.i64.wrap (At+1)) (IntKind.i64.wrap (n+1)) deep (fun x5=>
 cond (x5.e_ !=0)
 (K x5)
 (([(⟨op,[],0,2,x2.at_⟩:Aj)]).length+L.length<2^32/\
 ∃(J1:(List Aj)->Int->Int->Prop),
 (([(⟨op,[],0,2,x2.at_⟩:Aj)]++L).length+x5.l.length<2^32/\
 J1 (([(⟨op,[],0,2,x2.at_⟩:Aj)]++L)++x5.l) x5.at_ 0)/\
 ∀(L2:List Aj) (At2:Int) (E2:Int),J1 L2 At2 E2->
 cond (n==3)
 (K (⟨L2,At2,E2⟩:Ap))
 (∃n2,n2<n1/\I L2 At2 E2 L1 At1 E1 n2)))))))
 (K (⟨L,At,E⟩:Ap))))
set_option maxHeartbeats 4000000 in
theorem Y6 (toks:List Aq) (atx:Int) (n:Int) (deep:Int) (K:Ap->Prop) (h:Aa0 toks atx n deep K):Fl toks atx n deep K:=by
 intro m w hm Av4 Av5 Av1 Av2
 have o:=Mem.start hm.lt
 refine Ac8 Av4 toks.length Av5 atx n deep _ _ ?_
 intro b w1 hb hw1
 obtain⟨st,o⟩:=o.dB hb hw1
 refine Ad (fun h=> ?_) (fun h=> ?_) h
 refine Aa (h _ w1 (o.mn hm) _ _ Av1 (Av2.st st)) ?_
 rintro _ w2 ⟨x,h,⟨cs,rfl,f⟩,ke⟩
 obtain⟨st1,o⟩:=o.dE ke
 obtain⟨a,c,rfl,⟨le,f1⟩⟩:=Dw f
 refine⟨_,_,_,_,_,rfl,?_⟩
 refine⟨o.wr 0 rfl rfl,fun w3 hw3=> ?_⟩
 obtain⟨st2,o⟩:=o.dSs 0 hw3 rfl
 refine⟨_,_,_,_,_,(o.at 0 rfl).whole,?_⟩
 exact⟨x,h,⟨_,rfl,(Bw x ⟨le,(f1.st (st2.trans Mem.Awg))⟩)⟩,o.done⟩
 refine Aa (h _ w1 (o.mn hm) _ _ Av1 (Av2.st st)) ?_
 rintro _ w4 ⟨x1,h,⟨cs1,rfl,f2⟩,ke1⟩
 obtain⟨st3,o⟩:=o.dE ke1
 obtain⟨a1,c1,rfl,⟨le1,f3⟩⟩:=Dw f2
 refine⟨_,_,_,_,_,rfl,?_⟩
 intro b1 w5 hb1 hw5
 obtain⟨st4,o⟩:=o.dB hb1 hw5
 refine⟨o.wr 0 rfl rfl,fun w6 hw6=> ?_⟩
 obtain⟨st5,o⟩:=o.dSs 0 hw6 rfl
 have st6:=o.xN 59 5
 have o:=o.Bac 59 5
 obtain⟨I,⟨n3,h⟩,h2⟩:=h
 obtain⟨Z,hZ⟩:∃Z:World->Nat->Prop,Z=fun w7 n1=>∃(L:List Aj) (At:Int) (E:Int) (L1:List Aj) (At1:Int) (E1:Int) (a2:Option Addr) (c2:Nat) (xs:List Value) (a3:Option Addr) (c3:Nat),I L At E L1 At1 E1 n1/\(L.length<=c2/\SlR A4 (ms [.row 59 5 a3 L1.length c3 xs,.box b1 [.slice a2 L.length c2,.q At,.q E],.box b [.slice a3 L1.length c3,.q At1,.q E1]] m) w7 a2 L)/\El A4 (ms [.row 59 5 a3 L1.length c3 xs,.box b1 [.slice a2 L.length c2,.q At,.q E],.box b [.slice a3 L1.length c3,.q At1,.q E1]] m) w7 L1 xs/\MS w m w6 [.row 59 5 none 0 0 [],.box b1 [.slice a1 x1.l.length c1,.q x1.at_,.q x1.e_],.box b [.slice none 0 0,.q 0,.q 0]] w7 [.row 59 5 a3 L1.length c3 xs,.box b1 [.slice a2 L.length c2,.q At,.q E],.box b [.slice a3 L1.length c3,.q At1,.q E1]]:=⟨_,rfl⟩
 refine⟨fun w7=>∃n1,Z w7 n1,fun w7=>Awb (Z w7),⟨n3,?_⟩,?_⟩
 have sT:=(st4.trans st5).trans st6
 rw [hZ];exact⟨x1.l,x1.at_,x1.e_,[],0,0,a1,c1,[],none,0,h,⟨le1,(f3.st sT)⟩,(El.nil _ _ _),o,Step.refl _ _⟩
 intro _ w7 hIZ
 obtain⟨n1,Bct⟩:∃n1,n1=Awb (Z w7):=⟨_,rfl⟩
 have hIZ:=C2 hIZ
 rw [←Bct,hZ]at hIZ
 obtain⟨L,At,E,L1,At1,E1,a2,c2,xs,a3,c3,h,⟨le2,f4⟩,el,o,st7⟩:=hIZ
 have h:=h2 L At E L1 At1 E1 n1 h
 refine⟨_,(o.at 1 rfl).cell rfl,?_⟩
 refine Ad (fun h=> ?_) (fun h=> ?_) h
 refine⟨_,(o.at 1 rfl).cell rfl,?_⟩
 have sT1:=((((st.trans st3).trans st4).trans st5).trans st6).trans st7
 refine Aa (h _ w7 (o.mn hm) _ _ Av1 (Av2.st sT1)) ?_
 rintro _ w8 ⟨x2,h,⟨cs2,rfl,f5⟩,ke2⟩
 obtain⟨st8,o⟩:=o.dE ke2
 obtain rfl:=Dk f5
 refine⟨_,_,_,_,rfl,?_⟩
 intro b2 w9 hb2 hw9
 obtain⟨st9,o⟩:=o.dB hb2 hw9
 refine⟨o.wr 0 rfl rfl,fun w10 Azs=> ?_⟩
 obtain⟨Awf,o⟩:=o.dSs 0 Azs rfl
 refine⟨_,(o.at 0 rfl).cell rfl,?_⟩
 refine Aa (h _ w10 (o.mn hm)) ?_
 rintro _ w11 ⟨op,h,rfl,ke3⟩
 obtain⟨Awi,o⟩:=o.dE ke3
 refine⟨_,rfl,?_⟩
 obtain⟨J,h,h2⟩:=h
 refine⟨fun x3 w12=>J x3/\MT w m w11 w12 [.box b2 [.q x2.kind,.s x2.text,.q x2.n,.q x2.at_],.row 59 5 a3 L1.length c3 xs,.box b1 [.slice a2 L.length c2,.q At,.q E],.box b [.slice a3 L1.length c3,.q At1,.q E1]],?_,?_⟩
 refine⟨_,(o.at 0 rfl).cell rfl,?_⟩
 refine Ad (fun h=> ?_) (fun h=> ?_) h
 exact⟨h,o,Step.refl _ _⟩
 refine Ad (fun h=> ?_) (fun h=> ?_) h
 exact⟨h,o,Step.refl _ _⟩
 refine Aa (h _ w11 (o.mn hm)) ?_
 rintro _ w13 ⟨x4,h,rfl,ke4⟩
 obtain⟨Awj,o⟩:=o.dE ke4
 refine⟨_,rfl,?_⟩
 exact⟨h,o,Awj⟩
 rintro _ x3 w12 ⟨hJ,o,Awr⟩
 have h:=h2 x3 hJ
 refine Ad (fun h=> ?_) (fun h=> ?_) h
 refine⟨_,_,_,_,_,(o.at 2 rfl).whole,?_⟩
 refine⟨o.wr 3 rfl rfl,fun w14 Azq=> ?_⟩
 obtain⟨Aws,o⟩:=o.dSs 3 Azq rfl
 refine⟨_,_,_,_,_,(o.at 3 rfl).whole,?_⟩
 exact⟨(⟨L,At,E⟩:Ap),h,⟨_,rfl,(Bw (⟨L,At,E⟩:Ap) ⟨le2,(f4.st (st8.trans (st9.trans (Awf.trans (Awi.trans (Awr.trans (Aws.trans Mem.Awg)))))))⟩)⟩,o.done⟩
 refine⟨_,(o.at 2 rfl).cell rfl,?_⟩
 have sT2:=((((sT1.trans st8).trans st9).trans Awf).trans Awi).trans Awr
 refine Aa (h _ w12 (o.mn hm) _ _ Av1 (Av2.st sT2)) ?_
 rintro _ w15 ⟨x5,h,⟨cs3,rfl,f6⟩,ke5⟩
 obtain⟨Awt,o⟩:=o.dE ke5
 obtain⟨a4,c4,rfl,⟨le3,f7⟩⟩:=Dw f6
 refine⟨_,_,_,_,_,rfl,?_⟩
 intro b3 w16 hb3 Azr
 obtain⟨Awu,o⟩:=o.dB hb3 Azr
 refine⟨o.wr 0 rfl rfl,fun w17 Ayo=> ?_⟩
 obtain⟨Aw7,o⟩:=o.dSs 0 Ayo rfl
 refine⟨_,(o.at 0 rfl).cell rfl,?_⟩
 refine Ad (fun h=> ?_) (fun h=> ?_) h
 refine⟨_,_,_,_,_,(o.at 0 rfl).whole,?_⟩
 refine⟨o.wr 4 rfl rfl,fun w18 Azm=> ?_⟩
 obtain⟨Axf,o⟩:=o.dSs 4 Azm rfl
 refine⟨_,_,_,_,_,(o.at 4 rfl).whole,?_⟩
 exact⟨x5,h,⟨_,rfl,(Bw x5 ⟨le3,(f7.st (Awu.trans (Aw7.trans (Axf.trans Mem.Awg))))⟩)⟩,o.done⟩
 refine⟨_,(o.at 1 rfl).cell rfl,?_⟩
 intro b4 w19 hb4 Bcu
 have el1:El A4 (ms [.box b3 [.slice a4 x5.l.length c4,.q x5.at_,.q x5.e_],.box b2 [.q x2.kind,.s x2.text,.q x2.n,.q x2.at_],.row 59 5 a3 L1.length c3 xs,.box b1 [.slice a2 L.length c2,.q At,.q E],.box b [.slice a3 L1.length c3,.q At1,.q E1]] m) w17 [(⟨op,[],0,2,x2.at_⟩:Aj)] ([.q op,.s [],.q 0,.q 2,.q x2.at_]:List Value):=(El.cons (cs:=[.q op,.s [],.q 0,.q 2,.q x2.at_]) (Bu (⟨op,[],0,2,x2.at_⟩:Aj)) (El.nil _ _ _))
 have Axe:=o.xL hb4 Bcu 5 1
 have o:=o.lit hb4 Bcu 5 1 (by decide) rfl
 refine⟨_,_,_,(o.at 4 rfl).cell rfl,?_⟩
 obtain⟨lt,h⟩:=h
 have sT3:=(((((((st8.trans st9).trans Awf).trans Awi).trans Awr).trans Awt).trans Awu).trans Aw7).trans Axe
 obtain⟨xs1,hx,el2⟩:=SlR.cells (f4.st sT3)
 have el3:=((el1.st Axe)).app el2
 refine Fh Abt (o.rowAt 0 rfl) hx el2.len el2.one (by first|(simp;done)|simpa using lt) (by decide) (Nat.zero_le _) fun a5 c5 w20 hr hg hat=> ?_
 have ln:1+L.length=([(⟨op,[],0,2,x2.at_⟩:Aj)]++L).length:=(by first|(simp;done)|(simp;omega))
 rw [ln]at hr⊢
 refine⟨_,_,_,rfl,?_⟩
 have Axg:=o.xA 0 rfl hr hg hat
 have o:=o.app 0 rfl hr hg hat
 obtain⟨J1,h,h2⟩:=h
 refine⟨fun w21=>∃(L2:List Aj) (At2:Int) (E2:Int) (xs2:List Value) (a6:Option Addr) (c6:Nat),J1 L2 At2 E2/\El A4 (ms [.row 59 5 a6 L2.length c6 xs2,.box b3 [.slice a4 x5.l.length c4,.q x5.at_,.q x5.e_],.box b2 [.q x2.kind,.s x2.text,.q x2.n,.q x2.at_],.row 59 5 a3 L1.length c3 xs,.box b1 [.slice a6 L2.length c6,.q At2,.q E2],.box b [.slice a3 L1.length c3,.q At1,.q E1]] m) w21 L2 xs2/\MS w m w20 [.row 59 5 a5 (([(⟨op,[],0,2,x2.at_⟩:Aj)]++L).length) c5 (([.q op,.s [],.q 0,.q 2,.q x2.at_]:List Value)++xs1),.box b3 [.slice a4 x5.l.length c4,.q x5.at_,.q x5.e_],.box b2 [.q x2.kind,.s x2.text,.q x2.n,.q x2.at_],.row 59 5 a3 L1.length c3 xs,.box b1 [.slice a2 L.length c2,.q At,.q E],.box b [.slice a3 L1.length c3,.q At1,.q E1]] w21 [.row 59 5 a6 L2.length c6 xs2,.box b3 [.slice a4 x5.l.length c4,.q x5.at_,.q x5.e_],.box b2 [.q x2.kind,.s x2.text,.q x2.n,.q x2.at_],.row 59 5 a3 L1.length c3 xs,.box b1 [.slice a6 L2.length c6,.q At2,.q E2],.box b [.slice a3 L1.length c3,.q At1,.q E1]],?_,?_⟩
 intro w22 Azx
 obtain⟨Axv,o⟩:=o.dD Azx
 have ox:=o
 refine⟨fun u=>Am ((Vc.blk a5).toList) w22 u,Am.refl _ _,?_⟩
 refine⟨_,_,_,fun u hu=>((ox.at 1 rfl).Av8 hu (fun h=>by exact ox.Bhz 1 0 rfl rfl (by decide) h)).cell rfl,?_⟩
 refine⟨_,fun u hu=>((ox.at 1 rfl).Av8 hu (fun h=>by exact ox.Bhz 1 0 rfl rfl (by decide) h)).cell rfl,?_⟩
 obtain⟨lt1,h⟩:=h
 have sT4:=(((Awu.trans Aw7).trans Axe).trans Axg).trans Axv
 obtain⟨xs3,hx1,el5⟩:=SlR.cells (f7.st sT4)
 have el6:=((el3.st (Axg.trans Axv))).app el5
 refine Fh Abt (o.rowAt 0 rfl) hx1 el5.len el5.one (by first|(simp;done)|simpa using lt1) (by decide) (Nat.zero_le _) fun a7 c7 w23 hr1 hg1 Bbc=> ?_
 have ln1:([(⟨op,[],0,2,x2.at_⟩:Aj)]++L).length+x5.l.length=(([(⟨op,[],0,2,x2.at_⟩:Aj)]++L)++x5.l).length:=(by first|(simp;done)|(simp;omega))
 rw [ln1]at hr1⊢
 refine⟨_,_,_,rfl,?_⟩
 have Ayp:=o.xA 0 rfl hr1 hg1 Bbc
 have o:=o.app 0 rfl hr1 hg1 Bbc
 refine⟨(Nw (Am.refl _ _) hg1 (fun q hq=> .inl (by simp [hq]))),?_⟩
 refine⟨o.wr 4 rfl rfl,fun w24 Bea=> ?_⟩
 obtain⟨Ayc,o⟩:=o.dSs 4 Bea rfl
 have sT5:=(Axv.trans Ayp).trans Ayc
 exact⟨(([(⟨op,[],0,2,x2.at_⟩:Aj)]++L)++x5.l),x5.at_,0,((([.q op,.s [],.q 0,.q 2,.q x2.at_]:List Value)++xs1)++xs3),a7,c7,h,(el6.st (Ayp.trans Ayc)),o,sT5⟩
 rintro _ w21 ⟨L2,At2,E2,xs2,a6,c6,hJ,el4,o,Axu⟩
 have h:=h2 L2 At2 E2 hJ
 refine Ad (fun h=> ?_) (fun h=> ?_) h
 refine⟨_,_,_,_,_,(o.at 4 rfl).whole,?_⟩
 refine⟨o.wr 5 rfl rfl,fun w25 Azp=> ?_⟩
 obtain⟨Ax8,o⟩:=o.dSs 5 Azp rfl
 refine⟨_,_,_,_,_,(o.at 5 rfl).whole,?_⟩
 have le4:=(o.rowAt 0 rfl).cap
 have Azo:=o.xX 0
 have f8:=o.freeze (c:=A4) (l:=L2) 0 rfl (fun b hb=>by simp at hb) (el4.st (Ax8.trans Azo))
 have o:=o.erase 0
 exact⟨(⟨L2,At2,E2⟩:Ap),h,⟨_,rfl,(Bw (⟨L2,At2,E2⟩:Ap) ⟨le4,(f8.st Mem.Awg)⟩)⟩,o.done⟩
 have le5:=(o.rowAt 0 rfl).cap
 have Ayd:=o.xX 0
 have f9:=o.freeze (c:=A4) (l:=L2) 0 rfl (fun b hb=>by simp at hb) (el4.st Ayd)
 have o:=o.erase 0
 obtain⟨Ay8,o⟩:=o.dX 0
 obtain⟨Ayv,o⟩:=o.dX 0
 obtain⟨n2,hl,h⟩:=h
 have sT6:=((((sT3.trans Axg).trans Axu).trans Ayd).trans Ay8).trans Ayv
 have sT7:=(((((((((((((st7.trans st8).trans st9).trans Awf).trans Awi).trans Awr).trans Awt).trans Awu).trans Aw7).trans Axe).trans Axg).trans Axu).trans Ayd).trans Ay8).trans Ayv
 exact B8 Bct (show Z w21 n2 from(by rw [hZ];exact⟨L2,At2,E2,L1,At1,E1,a6,c6,xs,a3,c3,h,⟨le5,(f9.st (Ay8.trans Ayv))⟩,(el.st sT6),o,sT7⟩)) hl
 refine⟨_,_,_,_,_,(o.at 1 rfl).whole,?_⟩
 refine⟨o.wr 2 rfl rfl,fun w26 Chp=> ?_⟩
 obtain⟨Ayw,o⟩:=o.dSs 2 Chp rfl
 refine⟨_,_,_,_,_,(o.at 2 rfl).whole,?_⟩
 exact⟨(⟨L,At,E⟩:Ap),h,⟨_,rfl,(Bw (⟨L,At,E⟩:Ap) ⟨le2,(f4.st (Ayw.trans Mem.Awg))⟩)⟩,o.done⟩
end Go.Proofs.YtcakelelfklhdaaGreatDoor
