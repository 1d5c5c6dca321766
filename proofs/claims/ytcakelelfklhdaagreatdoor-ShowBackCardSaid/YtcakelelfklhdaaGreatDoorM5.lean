/- A part of the proof: conditions of the code, contracts, the plain law. -/
import Derived.Test.YtcakelelfklhdaaGreatDoorM2
import Derived.Test.YtcakelelfklhdaaGreatDoorMapL
namespace Go.Proofs.YtcakelelfklhdaaGreatDoor
open Go.Vc Go.Lv Go.Ty
set_option maxRecDepth 10000
def Aez (toks:List Au) (atx:Int) (deep:Int) (K:Aj->Prop):Prop:=
 Dm toks atx (fun x=>
 D0 atx (fun x1=>
 ∃(J:Bool->Prop),
 (cond (x.kind==1)
 (Cn toks (IntKind.i64.wrap (atx+1)) [61] (fun x3=>
 J x3))
 (J false))/\
 ∀(x2:Bool),J x2->
 cond (x2)
 (Ve toks atx (⟨0,[],0,0,x.at_⟩:Ai) (fun x4=>
 K x4))
 (cond (x.kind==1)
 (Jy x1 toks 21 22 (fun r r1 r2=>
 Ak r toks [59] (fun x5=>
 A2 x5 (⟨r1,r2,0,0,x.at_⟩:Ai) (fun x6=>
 K x6))))
 (cond (x.kind !=3)
 (K (⟨x1.l,x1.n,x1.at_,11⟩:Aj))
 (cond (x.text==[118,97,114])
 (Ak x1 toks [118,97,114] (fun x7=>
 C9 x7 toks (fun r3 r4=>
 Ak r3 toks [61] (fun x8=>
 Bp x8 toks (fun x9=>
 Ak x9 toks [59] (fun x10=>
 A2 x10 (⟨18,r4,0,0,x.at_⟩:Ai) (fun x11=>
 K x11)))))))
 (cond (x.text==[115,116,97,114,116])
 (Ak x1 toks [115,116,97,114,116] (fun x12=>
 C9 x12 toks (fun r5 r6=>
 L8 r5 toks (fun x13=>
 Ak x13 toks [59] (fun x14=>
 A2 x14 (⟨26,r6,0,0,x.at_⟩:Ai) (fun x15=>
 K x15))))))
 (cond (x.text==[115,108,101,101,112])
 (Ak x1 toks [115,108,101,101,112] (fun x16=>
 Bp x16 toks (fun x17=>
 Ak x17 toks [59] (fun x18=>
 A2 x18 (⟨27,[],0,0,x.at_⟩:Ai) (fun x19=>
 K x19)))))
 (cond (x.text==[112,114,105,110,116])
 (Ak x1 toks [112,114,105,110,116] (fun x20=>
 Bp x20 toks (fun x21=>
 Ak x21 toks [59] (fun x22=>
 A2 x22 (⟨28,[],0,0,x.at_⟩:Ai) (fun x23=>
 K x23)))))
 (cond (x.text==[97,115,115,101,114,116])
 (Ak x1 toks [97,115,115,101,114,116] (fun x24=>
 Bp x24 toks (fun x25=>
 Ak x25 toks [59] (fun x26=>
 A2 x26 (⟨29,[],0,0,x.at_⟩:Ai) (fun x27=>
 K x27)))))
 (cond (x.text==[115,107,105,112])
 (Ak x1 toks [115,107,105,112] (fun x28=>
 Ak x28 toks [59] (fun x29=>
 A2 x29 (⟨30,[],0,0,x.at_⟩:Ai) (fun x30=>
 K x30))))
 (cond (x.text==[115,116,111,112])
 (Ak x1 toks [115,116,111,112] (fun x31=>
 Ak x31 toks [59] (fun x32=>
 A2 x32 (⟨31,[],0,0,x.at_⟩:Ai) (fun x33=>
 K x33))))
 (cond (x.text==[119,104,105,108,101])
 (Ak x1 toks [119,104,105,108,101] (fun x34=>
 Bp x34 toks (fun x35=>
 Ei x35 toks (IntKind.i64.wrap (deep+1)) (fun x36=>
 A2 x36 (⟨24,[],0,0,x.at_⟩:Ai) (fun x37=>
 K x37)))))
 (cond (x.text==[105,102])
 (Ak x1 toks [105,102] (fun x38=>
 Bp x38 toks (fun x39=>
 Ei x39 toks (IntKind.i64.wrap (deep+1)) (fun x40=>
 ∃(J1:(List Ai)->Int->Int->Int->Prop),
 (∃(J2:Bool->Prop),
 (cond (x40.e_==0)
 (Cn toks x40.at_ [101,108,115,101] (fun x42=>
 J2 x42))
 (J2 false))/\
 ∀(x41:Bool),J2 x41->
 cond (x41)
 (Ak x40 toks [101,108,115,101] (fun x43=>
 Ei x43 toks (IntKind.i64.wrap (deep+1)) (fun x44=>
 J1 x44.l x44.n x44.at_ x44.e_)))
 (J1 x40.l x40.n x40.at_ x40.e_))/\
 ∀(l:List Ai) (n:Int) (Awx:Int) (ex:Int),J1 l n Awx ex->
 A2 (⟨l,n,Awx,ex⟩:Aj) (⟨23,[],0,0,x.at_⟩:Ai) (fun x45=>
 K x45)))))
 (cond (x.text==[115,101,108,101,99,116])
 (Ak x1 toks [115,101,108,101,99,116] (fun x46=>
 Ak x46 toks [123] (fun x47=>
 ∃(J3:(List Ai)->Int->Int->Int->Prop),
 (cond (x47.e_==0)
 (Lt toks x47.at_ deep (fun x48=>
 Da x47 x48 (fun x49=>
 J3 x49.l x49.n x49.at_ x49.e_)))
 (J3 x47.l x47.n x47.at_ x47.e_))/\
 ∀(l1:List Ai) (n1:Int) (Ax5:Int) (ex1:Int),J3 l1 n1 Ax5 ex1->
 ∃(I:(List Ai)->Int->Int->Int->Nat->Prop),(∃n3,I l1 n1 Ax5 ex1 n3)/\
 ∀(l2:List Ai) (n2:Int) (Ayf:Int) (ex2:Int) (n3:Nat),I l2 n2 Ayf ex2 n3->
 ∃(J4:Bool->Prop),
 (cond (ex2==0)
 (Cn toks Ayf [125] (fun x51=>
 J4 (!x51)))
 (J4 false))/\
 ∀(x50:Bool),J4 x50->
 cond (x50)
 (Lt toks Ayf deep (fun x52=>
 Da (⟨l2,n2,Ayf,ex2⟩:Aj) x52 (fun x53=>
 ∃n4,n4<n3/\I x53.l x53.n x53.at_ x53.e_ n4)))
 (Ak (⟨l2,n2,Ayf,ex2⟩:Aj) toks [125] (fun x54=>
 A2 x54 (⟨25,[],0,0,x.at_⟩:Ai) (fun x55=>
 K x55))))))
 (K (⟨x1.l,x1.n,x1.at_,11⟩:Aj))))))))))))))))
set_option maxHeartbeats 4000000 in
theorem Abn (toks:List Au) (atx:Int) (deep:Int) (K:Aj->Prop) (h:Aez toks atx deep K):L7 toks atx deep K:=by
 intro m w hm Awv Aww Aws Awt
 have o:=Mem.start hm.lt
 refine Ag2 Awv toks.length Aww atx deep _ _ ?_
 intro b w1 hb hw1
 obtain⟨st,o⟩:=o.dB hb hw1
 refine Aa (h _ w1 (o.mn hm) _ _ Aws (Awt.st st)) ?_
 rintro _ w2 ⟨x,h,⟨cs,rfl,f⟩,ke⟩
 obtain⟨st1,o⟩:=o.dE ke
 obtain rfl:=Dj f
 refine⟨_,_,_,_,rfl,?_⟩
 intro b1 w3 hb1 hw3
 obtain⟨st2,o⟩:=o.dB hb1 hw3
 refine⟨o.wr 0 rfl rfl,fun w4 hw4=> ?_⟩
 obtain⟨st3,o⟩:=o.dSs 0 hw4 rfl
 refine⟨_,(o.at 0 rfl).cell rfl,?_⟩
 intro b2 w5 hb2 hw5
 obtain⟨st4,o⟩:=o.dB hb2 hw5
 refine⟨o.wr 0 rfl rfl,fun w6 hw6=> ?_⟩
 obtain⟨st5,o⟩:=o.dSs 0 hw6 rfl
 refine Aa (h _ w6 (o.mn hm)) ?_
 rintro _ w7 ⟨x1,h,⟨cs1,rfl,f1⟩,ke1⟩
 obtain⟨st6,o⟩:=o.dE ke1
 obtain⟨a,c,rfl,⟨le,f2⟩⟩:=Ah f1
 refine⟨_,_,_,_,_,_,rfl,?_⟩
 intro b3 w8 hb3 hw8
 obtain⟨st7,o⟩:=o.dB hb3 hw8
 refine⟨o.wr 0 rfl rfl,fun w9 hw9=> ?_⟩
 obtain⟨st8,o⟩:=o.dSs 0 hw9 rfl
 obtain⟨J,h,h2⟩:=h
 refine⟨fun x2 w10=>J x2/\MT w m w9 w10 [.box b3 [.slice a x1.l.length c,.q x1.n,.q x1.at_,.q x1.e_],.box b2 [.q 0,.s [],.q 0,.q 0,.q x.at_],.box b1 [.q x.kind,.s x.text,.q x.n,.q x.at_],.box b [.slice none 0 0,.q 0,.q 0,.q 0]],?_,?_⟩
 refine⟨_,(o.at 2 rfl).cell rfl,?_⟩
 refine Ac (fun h=> ?_) (fun h=> ?_) h
 have sT:=(((((((st.trans st1).trans st2).trans st3).trans st4).trans st5).trans st6).trans st7).trans st8
 refine Aa (h _ w9 (o.mn hm) _ _ Aws (Awt.st sT)) ?_
 rintro _ w11 ⟨x3,h,rfl,ke2⟩
 obtain⟨Aw6,o⟩:=o.dE ke2
 refine⟨_,rfl,?_⟩
 exact⟨h,o,Aw6⟩
 exact⟨h,o,Step.refl _ _⟩
 rintro _ x2 w10 ⟨hJ,o,st9⟩
 have h:=h2 x2 hJ
 refine Ac (fun h=> ?_) (fun h=> ?_) h
 refine⟨_,_,_,_,_,(o.at 1 rfl).whole,?_⟩
 have sT1:=((((((((st.trans st1).trans st2).trans st3).trans st4).trans st5).trans st6).trans st7).trans st8).trans st9
 refine Aa (h _ w10 (o.mn hm) _ _ Aws (Awt.st sT1) _ (A3 (⟨0,[],0,0,x.at_⟩:Ai))) ?_
 rintro _ w12 ⟨x4,h,⟨cs2,rfl,f3⟩,ke3⟩
 obtain⟨Aw8,o⟩:=o.dE ke3
 obtain⟨a1,c1,rfl,⟨le1,f4⟩⟩:=Ah f3
 refine⟨_,_,_,_,_,_,rfl,?_⟩
 refine⟨o.wr 3 rfl rfl,fun w13 Azd=> ?_⟩
 obtain⟨Axd,o⟩:=o.dSs 3 Azd rfl
 refine⟨_,_,_,_,_,_,(o.at 3 rfl).whole,?_⟩
 exact⟨x4,h,⟨_,rfl,(Ag x4 ⟨le1,(f4.st (Axd.trans Mem.Aw9))⟩)⟩,o.done⟩
 refine⟨_,(o.at 2 rfl).cell rfl,?_⟩
 refine Ac (fun h=> ?_) (fun h=> ?_) h
 refine⟨_,_,_,_,_,_,(o.at 0 rfl).whole,?_⟩
 have sT2:=(st7.trans st8).trans st9
 have sT3:=((((((((st.trans st1).trans st2).trans st3).trans st4).trans st5).trans st6).trans st7).trans st8).trans st9
 refine Aa (h _ w10 (o.mn hm) _ (Ag x1 ⟨le,(f2.st sT2)⟩) _ _ Aws (Awt.st sT3)) ?_
 rintro _ w14 ⟨r,r1,r2,h,⟨cs3,rfl,f5⟩,ke4⟩
 obtain⟨Axb,o⟩:=o.dE ke4
 obtain⟨a2,c2,rfl,⟨le2,f6⟩⟩:=Ah f5
 refine⟨_,_,_,_,_,_,_,_,rfl,?_⟩
 refine⟨o.wr 0 rfl rfl,fun w15 Ayn=> ?_⟩
 obtain⟨Axl,o⟩:=o.dSs 0 Ayn rfl
 refine⟨o.wr 1 rfl rfl,fun w16 Bbz=> ?_⟩
 obtain⟨Axh,o⟩:=o.dS 1 Bbz rfl
 refine⟨o.wr 1 rfl rfl,fun w17 Azo=> ?_⟩
 obtain⟨Axn,o⟩:=o.dS 1 Azo rfl
 intro w18 Azy
 obtain⟨Axx,o⟩:=o.dD Azy
 have ox:=o
 refine⟨fun u=>An [] w18 u,An.refl _ _,?_⟩
 refine⟨_,_,_,_,_,_,fun u hu=>((ox.at 0 rfl).Awz hu (by simp)).whole,?_⟩
 refine⟨_,_,_,_,_,fun u hu=>((ox.at 1 rfl).Awz hu (by simp)).whole,?_⟩
 have sT4:=((Axl.trans Axh).trans Axn).trans Axx
 have sT5:=((((sT3.trans Axb).trans Axl).trans Axh).trans Axn).trans Axx
 refine Aa (h _ w18 (o.mn hm) _ (Ag r ⟨le2,(f6.st sT4)⟩) _ _ Aws (Awt.st sT5)) ?_
 rintro _ w19 ⟨x5,h,⟨cs4,rfl,f7⟩,ke5⟩
 obtain⟨Ax4,o⟩:=o.dE ke5
 obtain⟨a3,c3,rfl,⟨le3,f8⟩⟩:=Ah f7
 refine⟨_,_,_,_,_,_,rfl,?_⟩
 refine⟨(ke5.mono (by simp)),?_⟩
 refine Aa (h _ w19 (o.mn hm) _ (Ag x5 ⟨le3,f8⟩) _ (A3 (⟨r1,r2,0,0,x.at_⟩:Ai))) ?_
 rintro _ w20 ⟨x6,h,⟨cs5,rfl,f9⟩,ke6⟩
 obtain⟨Aye,o⟩:=o.dE ke6
 obtain⟨a4,c4,rfl,⟨le4,f10⟩⟩:=Ah f9
 refine⟨_,_,_,_,_,_,rfl,?_⟩
 refine⟨o.wr 3 rfl rfl,fun w21 Bdw=> ?_⟩
 obtain⟨Ayc,o⟩:=o.dSs 3 Bdw rfl
 refine⟨_,_,_,_,_,_,(o.at 3 rfl).whole,?_⟩
 exact⟨x6,h,⟨_,rfl,(Ag x6 ⟨le4,(f10.st (Ayc.trans Mem.Aw9))⟩)⟩,o.done⟩
 refine⟨_,(o.at 2 rfl).cell rfl,?_⟩
 refine Ac (fun h=> ?_) (fun h=> ?_) h
 refine⟨o.wr 0 rfl rfl,fun w22 Bb5=> ?_⟩
 obtain⟨Ayi,o⟩:=o.dS 0 Bb5 rfl
 refine⟨_,_,_,_,_,_,(o.at 0 rfl).whole,?_⟩
 refine⟨o.wr 3 rfl rfl,fun w23 Bj5=> ?_⟩
 obtain⟨Ayo,o⟩:=o.dSs 3 Bj5 rfl
 refine⟨_,_,_,_,_,_,(o.at 3 rfl).whole,?_⟩
 exact⟨(⟨x1.l,x1.n,x1.at_,11⟩:Aj),h,⟨_,rfl,(Ag (⟨x1.l,x1.n,x1.at_,11⟩:Aj) ⟨le,(f2.st (st7.trans (st8.trans (st9.trans (Ayi.trans (Ayo.trans Mem.Aw9))))))⟩)⟩,o.done⟩
 refine⟨_,(o.at 2 rfl).cell rfl,?_⟩
 refine Ac (fun h=> ?_) (fun h=> ?_) h
 refine⟨o.wr 1 rfl rfl,fun w24 Bcy=> ?_⟩
 obtain⟨Azp,o⟩:=o.dS 1 Bcy rfl
 refine⟨_,_,_,_,_,_,(o.at 0 rfl).whole,?_⟩
 have sT6:=((st7.trans st8).trans st9).trans Azp
 have sT7:=(((((((((st.trans st1).trans st2).trans st3).trans st4).trans st5).trans st6).trans st7).trans st8).trans st9).trans Azp
 refine Aa (h _ w24 (o.mn hm) _ (Ag x1 ⟨le,(f2.st sT6)⟩) _ _ Aws (Awt.st sT7)) ?_
 rintro _ w25 ⟨x7,h,⟨cs6,rfl,f11⟩,ke7⟩
 obtain⟨Ay2,o⟩:=o.dE ke7
 obtain⟨a5,c5,rfl,⟨le5,f12⟩⟩:=Ah f11
 refine⟨_,_,_,_,_,_,rfl,?_⟩
 have sT8:=sT7.trans Ay2
 refine Aa (h _ w25 (o.mn hm) _ (Ag x7 ⟨le5,f12⟩) _ _ Aws (Awt.st sT8)) ?_
 rintro _ w26 ⟨r3,r4,h,⟨cs7,rfl,f13⟩,ke8⟩
 obtain⟨Ay3,o⟩:=o.dE ke8
 obtain⟨a6,c6,rfl,⟨le6,f14⟩⟩:=Ah f13
 refine⟨_,_,_,_,_,_,_,rfl,?_⟩
 refine⟨o.wr 0 rfl rfl,fun w27 Bfw=> ?_⟩
 obtain⟨Bad,o⟩:=o.dSs 0 Bfw rfl
 refine⟨o.wr 1 rfl rfl,fun w28 Bc8=> ?_⟩
 obtain⟨Ay7,o⟩:=o.dS 1 Bc8 rfl
 intro w29 Cgb
 obtain⟨Azj,o⟩:=o.dD Cgb
 have ox1:=o
 refine⟨fun u=>An [] w29 u,An.refl _ _,?_⟩
 refine⟨_,_,_,_,_,_,fun u hu=>((ox1.at 0 rfl).Awz hu (by simp)).whole,?_⟩
 refine⟨_,_,_,_,_,fun u hu=>((ox1.at 1 rfl).Awz hu (by simp)).whole,?_⟩
 have sT9:=(Bad.trans Ay7).trans Azj
 have Az5:=(((sT8.trans Ay3).trans Bad).trans Ay7).trans Azj
 refine Aa (h _ w29 (o.mn hm) _ (Ag r3 ⟨le6,(f14.st sT9)⟩) _ _ Aws (Awt.st Az5)) ?_
 rintro _ w30 ⟨x8,h,⟨cs8,rfl,f15⟩,ke9⟩
 obtain⟨Azq,o⟩:=o.dE ke9
 obtain⟨a7,c7,rfl,⟨le7,f16⟩⟩:=Ah f15
 refine⟨_,_,_,_,_,_,rfl,?_⟩
 refine⟨(ke9.mono (by simp)),?_⟩
 have Bac:=Az5.trans Azq
 refine Aa (h _ w30 (o.mn hm) _ (Ag x8 ⟨le7,f16⟩) _ _ Aws (Awt.st Bac)) ?_
 rintro _ w31 ⟨x9,h,⟨cs9,rfl,f17⟩,Bae⟩
 obtain⟨Azz,o⟩:=o.dE Bae
 obtain⟨a8,c8,rfl,⟨le8,f18⟩⟩:=Ah f17
 refine⟨_,_,_,_,_,_,rfl,?_⟩
 refine⟨((ke9.mono (by simp)).trans (Bae.mono (by simp))),?_⟩
 have Bba:=Bac.trans Azz
 refine Aa (h _ w31 (o.mn hm) _ (Ag x9 ⟨le8,f18⟩) _ _ Aws (Awt.st Bba)) ?_
 rintro _ w32 ⟨x10,h,⟨Bm8,rfl,f19⟩,Bb6⟩
 obtain⟨Bbb,o⟩:=o.dE Bb6
 obtain⟨a9,c9,rfl,⟨le9,f20⟩⟩:=Ah f19
 refine⟨_,_,_,_,_,_,rfl,?_⟩
 refine⟨(((ke9.mono (by simp)).trans (Bae.mono (by simp))).trans (Bb6.mono (by simp))),?_⟩
 refine Aa (h _ w32 (o.mn hm) _ (Ag x10 ⟨le9,f20⟩) _ (A3 (⟨18,r4,0,0,x.at_⟩:Ai))) ?_
 rintro _ w33 ⟨x11,h,⟨Bm9,rfl,f21⟩,Bcu⟩
 obtain⟨Ay8,o⟩:=o.dE Bcu
 obtain⟨a10,c10,rfl,⟨Bds,f22⟩⟩:=Ah f21
 refine⟨_,_,_,_,_,_,rfl,?_⟩
 refine⟨o.wr 3 rfl rfl,fun w34 Ber=> ?_⟩
 obtain⟨Az6,o⟩:=o.dSs 3 Ber rfl
 refine⟨_,_,_,_,_,_,(o.at 3 rfl).whole,?_⟩
 exact⟨x11,h,⟨_,rfl,(Ag x11 ⟨Bds,(f22.st (Az6.trans Mem.Aw9))⟩)⟩,o.done⟩
 refine Ac (fun h=> ?_) (fun h=> ?_) h
 refine⟨o.wr 1 rfl rfl,fun w35 Bj6=> ?_⟩
 obtain⟨Azk,o⟩:=o.dS 1 Bj6 rfl
 refine⟨_,_,_,_,_,_,(o.at 0 rfl).whole,?_⟩
 have Bdp:=((st7.trans st8).trans st9).trans Azk
 have Bc3:=(((((((((st.trans st1).trans st2).trans st3).trans st4).trans st5).trans st6).trans st7).trans st8).trans st9).trans Azk
 refine Aa (h _ w35 (o.mn hm) _ (Ag x1 ⟨le,(f2.st Bdp)⟩) _ _ Aws (Awt.st Bc3)) ?_
 rintro _ w36 ⟨x12,h,⟨Bne,rfl,f23⟩,Bcv⟩
 obtain⟨Bc4,o⟩:=o.dE Bcv
 obtain⟨a11,c11,rfl,⟨Bgp,f24⟩⟩:=Ah f23
 refine⟨_,_,_,_,_,_,rfl,?_⟩
 have Bb7:=Bc3.trans Bc4
 refine Aa (h _ w36 (o.mn hm) _ (Ag x12 ⟨Bgp,f24⟩) _ _ Aws (Awt.st Bb7)) ?_
 rintro _ w37 ⟨r5,r6,h,⟨Bnj,rfl,f25⟩,Bcw⟩
 obtain⟨Azr,o⟩:=o.dE Bcw
 obtain⟨a12,c12,rfl,⟨Bev,f26⟩⟩:=Ah f25
 refine⟨_,_,_,_,_,_,_,rfl,?_⟩
 refine⟨o.wr 0 rfl rfl,fun w38 Bjm=> ?_⟩
 obtain⟨Az7,o⟩:=o.dSs 0 Bjm rfl
 refine⟨o.wr 1 rfl rfl,fun w39 Bj4=> ?_⟩
 obtain⟨Baf,o⟩:=o.dS 1 Bj4 rfl
 intro w40 Beu
 obtain⟨Bbc,o⟩:=o.dD Beu
 have ox2:=o
 refine⟨fun u=>An [] w40 u,An.refl _ _,?_⟩
 refine⟨_,_,_,_,_,_,fun u hu=>((ox2.at 0 rfl).Awz hu (by simp)).whole,?_⟩
 refine⟨_,_,_,_,_,fun u hu=>((ox2.at 1 rfl).Awz hu (by simp)).whole,?_⟩
 have Bep:=(Az7.trans Baf).trans Bbc
 have Bb8:=(((Bb7.trans Azr).trans Az7).trans Baf).trans Bbc
 refine Aa (h _ w40 (o.mn hm) _ (Ag r5 ⟨Bev,(f26.st Bep)⟩) _ _ Aws (Awt.st Bb8)) ?_
 rintro _ w41 ⟨x13,h,⟨Bnm,rfl,f27⟩,Bbx⟩
 obtain⟨Bdr,o⟩:=o.dE Bbx
 obtain⟨a13,c13,rfl,⟨Bfq,f28⟩⟩:=Ah f27
 refine⟨_,_,_,_,_,_,rfl,?_⟩
 refine⟨(Bbx.mono (by simp)),?_⟩
 have Beq:=Bb8.trans Bdr
 refine Aa (h _ w41 (o.mn hm) _ (Ag x13 ⟨Bfq,f28⟩) _ _ Aws (Awt.st Beq)) ?_
 rintro _ w42 ⟨x14,h,⟨Cgc,rfl,f29⟩,Bby⟩
 obtain⟨Bcx,o⟩:=o.dE Bby
 obtain⟨a14,c14,rfl,⟨Bft,f30⟩⟩:=Ah f29
 refine⟨_,_,_,_,_,_,rfl,?_⟩
 refine⟨((Bbx.mono (by simp)).trans (Bby.mono (by simp))),?_⟩
 refine Aa (h _ w42 (o.mn hm) _ (Ag x14 ⟨Bft,f30⟩) _ (A3 (⟨26,r6,0,0,x.at_⟩:Ai))) ?_
 rintro _ w43 ⟨x15,h,⟨Cgd,rfl,f31⟩,Bdq⟩
 obtain⟨Bfh,o⟩:=o.dE Bdq
 obtain⟨a15,c15,rfl,⟨Bew,f32⟩⟩:=Ah f31
 refine⟨_,_,_,_,_,_,rfl,?_⟩
 refine⟨o.wr 3 rfl rfl,fun w44 Cge=> ?_⟩
 obtain⟨Bjj,o⟩:=o.dSs 3 Cge rfl
 refine⟨_,_,_,_,_,_,(o.at 3 rfl).whole,?_⟩
 exact⟨x15,h,⟨_,rfl,(Ag x15 ⟨Bew,(f32.st (Bjj.trans Mem.Aw9))⟩)⟩,o.done⟩
 refine Ac (fun h=> ?_) (fun h=> ?_) h
 refine⟨o.wr 1 rfl rfl,fun w45 Bnc=> ?_⟩
 obtain⟨Bes,o⟩:=o.dS 1 Bnc rfl
 intro w46 Bnw
 obtain⟨Bfj,o⟩:=o.dD Bnw
 have ox3:=o
 refine⟨fun u=>An [] w46 u,An.refl _ _,?_⟩
 refine⟨_,_,_,_,_,_,fun u hu=>((ox3.at 0 rfl).Awz hu (by simp)).whole,?_⟩
 refine⟨_,_,_,_,_,fun u hu=>((ox3.at 1 rfl).Awz hu (by simp)).whole,?_⟩
 have Bgm:=(((st7.trans st8).trans st9).trans Bes).trans Bfj
 have Bfg:=((((((((((st.trans st1).trans st2).trans st3).trans st4).trans st5).trans st6).trans st7).trans st8).trans st9).trans Bes).trans Bfj
 refine Aa (h _ w46 (o.mn hm) _ (Ag x1 ⟨le,(f2.st Bgm)⟩) _ _ Aws (Awt.st Bfg)) ?_
 rintro _ w47 ⟨x16,h,⟨Cgf,rfl,f33⟩,Bc5⟩
 obtain⟨Bfk,o⟩:=o.dE Bc5
 obtain⟨a16,c16,rfl,⟨Bjt,f34⟩⟩:=Ah f33
 refine⟨_,_,_,_,_,_,rfl,?_⟩
 refine⟨(Bc5.mono (by simp)),?_⟩
 have Bgn:=Bfg.trans Bfk
 refine Aa (h _ w47 (o.mn hm) _ (Ag x16 ⟨Bjt,f34⟩) _ _ Aws (Awt.st Bgn)) ?_
 rintro _ w48 ⟨x17,h,⟨Cgg,rfl,f35⟩,Bdt⟩
 obtain⟨Bgq,o⟩:=o.dE Bdt
 obtain⟨a17,c17,rfl,⟨Bjv,f36⟩⟩:=Ah f35
 refine⟨_,_,_,_,_,_,rfl,?_⟩
 refine⟨((Bc5.mono (by simp)).trans (Bdt.mono (by simp))),?_⟩
 have Bji:=Bgn.trans Bgq
 refine Aa (h _ w48 (o.mn hm) _ (Ag x17 ⟨Bjv,f36⟩) _ _ Aws (Awt.st Bji)) ?_
 rintro _ w49 ⟨x18,h,⟨Cgh,rfl,f37⟩,Bgr⟩
 obtain⟨Bzh,o⟩:=o.dE Bgr
 obtain⟨a18,c18,rfl,⟨Bjx,f38⟩⟩:=Ah f37
 refine⟨_,_,_,_,_,_,rfl,?_⟩
 refine⟨(((Bc5.mono (by simp)).trans (Bdt.mono (by simp))).trans (Bgr.mono (by simp))),?_⟩
 refine Aa (h _ w49 (o.mn hm) _ (Ag x18 ⟨Bjx,f38⟩) _ (A3 (⟨27,[],0,0,x.at_⟩:Ai))) ?_
 rintro _ w50 ⟨x19,h,⟨Cgi,rfl,f39⟩,Bfn⟩
 obtain⟨Bjn,o⟩:=o.dE Bfn
 obtain⟨a19,c19,rfl,⟨Bjz,f40⟩⟩:=Ah f39
 refine⟨_,_,_,_,_,_,rfl,?_⟩
 refine⟨o.wr 3 rfl rfl,fun w51 Bnx=> ?_⟩
 obtain⟨Bfl,o⟩:=o.dSs 3 Bnx rfl
 refine⟨_,_,_,_,_,_,(o.at 3 rfl).whole,?_⟩
 exact⟨x19,h,⟨_,rfl,(Ag x19 ⟨Bjz,(f40.st (Bfl.trans Mem.Aw9))⟩)⟩,o.done⟩
 refine Ac (fun h=> ?_) (fun h=> ?_) h
 refine⟨o.wr 1 rfl rfl,fun w52 Bny=> ?_⟩
 obtain⟨Bfo,o⟩:=o.dS 1 Bny rfl
 intro w53 Bgt
 obtain⟨Bgs,o⟩:=o.dD Bgt
 have ox4:=o
 refine⟨fun u=>An [] w53 u,An.refl _ _,?_⟩
 refine⟨_,_,_,_,_,_,fun u hu=>((ox4.at 0 rfl).Awz hu (by simp)).whole,?_⟩
 refine⟨_,_,_,_,_,fun u hu=>((ox4.at 1 rfl).Awz hu (by simp)).whole,?_⟩
 have Bgo:=(((st7.trans st8).trans st9).trans Bfo).trans Bgs
 have Bfi:=((((((((((st.trans st1).trans st2).trans st3).trans st4).trans st5).trans st6).trans st7).trans st8).trans st9).trans Bfo).trans Bgs
 refine Aa (h _ w53 (o.mn hm) _ (Ag x1 ⟨le,(f2.st Bgo)⟩) _ _ Aws (Awt.st Bfi)) ?_
 rintro _ w54 ⟨x20,h,⟨Cgj,rfl,f41⟩,Bdu⟩
 obtain⟨Bfp,o⟩:=o.dE Bdu
 obtain⟨a20,c20,rfl,⟨Bnz,f42⟩⟩:=Ah f41
 refine⟨_,_,_,_,_,_,rfl,?_⟩
 refine⟨(Bdu.mono (by simp)),?_⟩
 have Bet:=Bfi.trans Bfp
 refine Aa (h _ w54 (o.mn hm) _ (Ag x20 ⟨Bnz,f42⟩) _ _ Aws (Awt.st Bet)) ?_
 rintro _ w55 ⟨x21,h,⟨Cgk,rfl,f43⟩,Bfs⟩
 obtain⟨Bfr,o⟩:=o.dE Bfs
 obtain⟨a21,c21,rfl,⟨Bn0,f44⟩⟩:=Ah f43
 refine⟨_,_,_,_,_,_,rfl,?_⟩
 refine⟨((Bdu.mono (by simp)).trans (Bfs.mono (by simp))),?_⟩
 have Bfm:=Bet.trans Bfr
 refine Aa (h _ w55 (o.mn hm) _ (Ag x21 ⟨Bn0,f44⟩) _ _ Aws (Awt.st Bfm)) ?_
 rintro _ w56 ⟨x22,h,⟨Cjv,rfl,f45⟩,Bc6⟩
 obtain⟨Bzi,o⟩:=o.dE Bc6
 obtain⟨a22,c22,rfl,⟨Bn1,f46⟩⟩:=Ah f45
 refine⟨_,_,_,_,_,_,rfl,?_⟩
 refine⟨(((Bdu.mono (by simp)).trans (Bfs.mono (by simp))).trans (Bc6.mono (by simp))),?_⟩
 refine Aa (h _ w56 (o.mn hm) _ (Ag x22 ⟨Bn1,f46⟩) _ (A3 (⟨28,[],0,0,x.at_⟩:Ai))) ?_
 rintro _ w57 ⟨x23,h,⟨Cjw,rfl,f47⟩,Bfu⟩
 obtain⟨Blb,o⟩:=o.dE Bfu
 obtain⟨a23,c23,rfl,⟨Bn2,f48⟩⟩:=Ah f47
 refine⟨_,_,_,_,_,_,rfl,?_⟩
 refine⟨o.wr 3 rfl rfl,fun w58 Bgu=> ?_⟩
 obtain⟨Bjo,o⟩:=o.dSs 3 Bgu rfl
 refine⟨_,_,_,_,_,_,(o.at 3 rfl).whole,?_⟩
 exact⟨x23,h,⟨_,rfl,(Ag x23 ⟨Bn2,(f48.st (Bjo.trans Mem.Aw9))⟩)⟩,o.done⟩
 refine Ac (fun h=> ?_) (fun h=> ?_) h
 refine⟨o.wr 1 rfl rfl,fun w59 Cgl=> ?_⟩
 obtain⟨Bjp,o⟩:=o.dS 1 Cgl rfl
 intro w60 Blo
 obtain⟨Bjq,o⟩:=o.dD Blo
 have ox5:=o
 refine⟨fun u=>An [] w60 u,An.refl _ _,?_⟩
 refine⟨_,_,_,_,_,_,fun u hu=>((ox5.at 0 rfl).Awz hu (by simp)).whole,?_⟩
 refine⟨_,_,_,_,_,fun u hu=>((ox5.at 1 rfl).Awz hu (by simp)).whole,?_⟩
 have Bk7:=(((st7.trans st8).trans st9).trans Bjp).trans Bjq
 have Bk8:=((((((((((st.trans st1).trans st2).trans st3).trans st4).trans st5).trans st6).trans st7).trans st8).trans st9).trans Bjp).trans Bjq
 refine Aa (h _ w60 (o.mn hm) _ (Ag x1 ⟨le,(f2.st Bk7)⟩) _ _ Aws (Awt.st Bk8)) ?_
 rintro _ w61 ⟨x24,h,⟨Cjx,rfl,f49⟩,Bdv⟩
 obtain⟨Bzj,o⟩:=o.dE Bdv
 obtain⟨a24,c24,rfl,⟨Bn3,f50⟩⟩:=Ah f49
 refine⟨_,_,_,_,_,_,rfl,?_⟩
 refine⟨(Bdv.mono (by simp)),?_⟩
 have Bla:=Bk8.trans Bzj
 refine Aa (h _ w61 (o.mn hm) _ (Ag x24 ⟨Bn3,f50⟩) _ _ Aws (Awt.st Bla)) ?_
 rintro _ w62 ⟨x25,h,⟨Cjy,rfl,f51⟩,Bfv⟩
 obtain⟨Bnf,o⟩:=o.dE Bfv
 obtain⟨a25,c25,rfl,⟨Cgm,f52⟩⟩:=Ah f51
 refine⟨_,_,_,_,_,_,rfl,?_⟩
 refine⟨((Bdv.mono (by simp)).trans (Bfv.mono (by simp))),?_⟩
 have Blc:=Bla.trans Bnf
 refine Aa (h _ w62 (o.mn hm) _ (Ag x25 ⟨Cgm,f52⟩) _ _ Aws (Awt.st Blc)) ?_
 rintro _ w63 ⟨x26,h,⟨Cjz,rfl,f53⟩,Blf⟩
 obtain⟨Bnh,o⟩:=o.dE Blf
 obtain⟨a26,c26,rfl,⟨Cgn,f54⟩⟩:=Ah f53
 refine⟨_,_,_,_,_,_,rfl,?_⟩
 refine⟨(((Bdv.mono (by simp)).trans (Bfv.mono (by simp))).trans (Blf.mono (by simp))),?_⟩
 refine Aa (h _ w63 (o.mn hm) _ (Ag x26 ⟨Cgn,f54⟩) _ (A3 (⟨29,[],0,0,x.at_⟩:Ai))) ?_
 rintro _ w64 ⟨x27,h,⟨Cj0,rfl,f55⟩,Bnl⟩
 obtain⟨Bni,o⟩:=o.dE Bnl
 obtain⟨a27,c27,rfl,⟨Cgo,f56⟩⟩:=Ah f55
 refine⟨_,_,_,_,_,_,rfl,?_⟩
 refine⟨o.wr 3 rfl rfl,fun w65 Cgp=> ?_⟩
 obtain⟨Bzm,o⟩:=o.dSs 3 Cgp rfl
 refine⟨_,_,_,_,_,_,(o.at 3 rfl).whole,?_⟩
 exact⟨x27,h,⟨_,rfl,(Ag x27 ⟨Cgo,(f56.st (Bzm.trans Mem.Aw9))⟩)⟩,o.done⟩
 refine Ac (fun h=> ?_) (fun h=> ?_) h
 refine⟨o.wr 1 rfl rfl,fun w66 Cgq=> ?_⟩
 obtain⟨Blg,o⟩:=o.dS 1 Cgq rfl
 intro w67 Cgr
 obtain⟨Bjs,o⟩:=o.dD Cgr
 have ox6:=o
 refine⟨fun u=>An [] w67 u,An.refl _ _,?_⟩
 refine⟨_,_,_,_,_,_,fun u hu=>((ox6.at 0 rfl).Awz hu (by simp)).whole,?_⟩
 refine⟨_,_,_,_,_,fun u hu=>((ox6.at 1 rfl).Awz hu (by simp)).whole,?_⟩
 have Ble:=(((st7.trans st8).trans st9).trans Blg).trans Bjs
 have Bjr:=((((((((((st.trans st1).trans st2).trans st3).trans st4).trans st5).trans st6).trans st7).trans st8).trans st9).trans Blg).trans Bjs
 refine Aa (h _ w67 (o.mn hm) _ (Ag x1 ⟨le,(f2.st Ble)⟩) _ _ Aws (Awt.st Bjr)) ?_
 rintro _ w68 ⟨x28,h,⟨Cj1,rfl,f57⟩,Bju⟩
 obtain⟨Blh,o⟩:=o.dE Bju
 obtain⟨a28,c28,rfl,⟨Cgs,f58⟩⟩:=Ah f57
 refine⟨_,_,_,_,_,_,rfl,?_⟩
 refine⟨(Bju.mono (by simp)),?_⟩
 have Bli:=Bjr.trans Blh
 refine Aa (h _ w68 (o.mn hm) _ (Ag x28 ⟨Cgs,f58⟩) _ _ Aws (Awt.st Bli)) ?_
 rintro _ w69 ⟨x29,h,⟨Cj2,rfl,f59⟩,Blm⟩
 obtain⟨Cfd,o⟩:=o.dE Blm
 obtain⟨a29,c29,rfl,⟨Cgt,f60⟩⟩:=Ah f59
 refine⟨_,_,_,_,_,_,rfl,?_⟩
 refine⟨((Bju.mono (by simp)).trans (Blm.mono (by simp))),?_⟩
 refine Aa (h _ w69 (o.mn hm) _ (Ag x29 ⟨Cgt,f60⟩) _ (A3 (⟨30,[],0,0,x.at_⟩:Ai))) ?_
 rintro _ w70 ⟨x30,h,⟨Cj3,rfl,f61⟩,Bnr⟩
 obtain⟨Bzp,o⟩:=o.dE Bnr
 obtain⟨a30,c30,rfl,⟨Cgu,f62⟩⟩:=Ah f61
 refine⟨_,_,_,_,_,_,rfl,?_⟩
 refine⟨o.wr 3 rfl rfl,fun w71 Cgv=> ?_⟩
 obtain⟨Blj,o⟩:=o.dSs 3 Cgv rfl
 refine⟨_,_,_,_,_,_,(o.at 3 rfl).whole,?_⟩
 exact⟨x30,h,⟨_,rfl,(Ag x30 ⟨Cgu,(f62.st (Blj.trans Mem.Aw9))⟩)⟩,o.done⟩
 refine Ac (fun h=> ?_) (fun h=> ?_) h
 refine⟨o.wr 1 rfl rfl,fun w72 Cgw=> ?_⟩
 obtain⟨Bjw,o⟩:=o.dS 1 Cgw rfl
 intro w73 Cgx
 obtain⟨Bno,o⟩:=o.dD Cgx
 have ox7:=o
 refine⟨fun u=>An [] w73 u,An.refl _ _,?_⟩
 refine⟨_,_,_,_,_,_,fun u hu=>((ox7.at 0 rfl).Awz hu (by simp)).whole,?_⟩
 refine⟨_,_,_,_,_,fun u hu=>((ox7.at 1 rfl).Awz hu (by simp)).whole,?_⟩
 have Bll:=(((st7.trans st8).trans st9).trans Bjw).trans Bno
 have Bjy:=((((((((((st.trans st1).trans st2).trans st3).trans st4).trans st5).trans st6).trans st7).trans st8).trans st9).trans Bjw).trans Bno
 refine Aa (h _ w73 (o.mn hm) _ (Ag x1 ⟨le,(f2.st Bll)⟩) _ _ Aws (Awt.st Bjy)) ?_
 rintro _ w74 ⟨x31,h,⟨Cj4,rfl,f63⟩,Bj1⟩
 obtain⟨Bln,o⟩:=o.dE Bj1
 obtain⟨a31,c31,rfl,⟨Cgy,f64⟩⟩:=Ah f63
 refine⟨_,_,_,_,_,_,rfl,?_⟩
 refine⟨(Bj1.mono (by simp)),?_⟩
 have Blq:=Bjy.trans Bln
 refine Aa (h _ w74 (o.mn hm) _ (Ag x31 ⟨Cgy,f64⟩) _ _ Aws (Awt.st Blq)) ?_
 rintro _ w75 ⟨x32,h,⟨Cj5,rfl,f65⟩,Bzt⟩
 obtain⟨Bnq,o⟩:=o.dE Bzt
 obtain⟨a32,c32,rfl,⟨Cgz,f66⟩⟩:=Ah f65
 refine⟨_,_,_,_,_,_,rfl,?_⟩
 refine⟨((Bj1.mono (by simp)).trans (Bzt.mono (by simp))),?_⟩
 refine Aa (h _ w75 (o.mn hm) _ (Ag x32 ⟨Cgz,f66⟩) _ (A3 (⟨31,[],0,0,x.at_⟩:Ai))) ?_
 rintro _ w76 ⟨x33,h,⟨Cj6,rfl,f67⟩,Cg0⟩
 obtain⟨Cfy,o⟩:=o.dE Cg0
 obtain⟨a33,c33,rfl,⟨Cg1,f68⟩⟩:=Ah f67
 refine⟨_,_,_,_,_,_,rfl,?_⟩
 refine⟨o.wr 3 rfl rfl,fun w77 Cg2=> ?_⟩
 obtain⟨Blp,o⟩:=o.dSs 3 Cg2 rfl
 refine⟨_,_,_,_,_,_,(o.at 3 rfl).whole,?_⟩
 exact⟨x33,h,⟨_,rfl,(Ag x33 ⟨Cg1,(f68.st (Blp.trans Mem.Aw9))⟩)⟩,o.done⟩
 refine Ac (fun h=> ?_) (fun h=> ?_) h
 refine⟨o.wr 1 rfl rfl,fun w78 Cg3=> ?_⟩
 obtain⟨Bj0,o⟩:=o.dS 1 Cg3 rfl
 intro w79 Cg4
 obtain⟨Bnt,o⟩:=o.dD Cg4
 have ox8:=o
 refine⟨fun u=>An [] w79 u,An.refl _ _,?_⟩
 refine⟨_,_,_,_,_,_,fun u hu=>((ox8.at 0 rfl).Awz hu (by simp)).whole,?_⟩
 refine⟨_,_,_,_,_,fun u hu=>((ox8.at 1 rfl).Awz hu (by simp)).whole,?_⟩
 have Cg5:=(((st7.trans st8).trans st9).trans Bj0).trans Bnt
 have Bzu:=((((((((((st.trans st1).trans st2).trans st3).trans st4).trans st5).trans st6).trans st7).trans st8).trans st9).trans Bj0).trans Bnt
 refine Aa (h _ w79 (o.mn hm) _ (Ag x1 ⟨le,(f2.st Cg5)⟩) _ _ Aws (Awt.st Bzu)) ?_
 rintro _ w80 ⟨x34,h,⟨Cj7,rfl,f69⟩,Blu⟩
 obtain⟨Cg6,o⟩:=o.dE Blu
 obtain⟨a34,c34,rfl,⟨Cg7,f70⟩⟩:=Ah f69
 refine⟨_,_,_,_,_,_,rfl,?_⟩
 refine⟨(Blu.mono (by simp)),?_⟩
 have Bzv:=Bzu.trans Cg6
 refine Aa (h _ w80 (o.mn hm) _ (Ag x34 ⟨Cg7,f70⟩) _ _ Aws (Awt.st Bzv)) ?_
 rintro _ w81 ⟨x35,h,⟨Cj8,rfl,f71⟩,Bn4⟩
 obtain⟨Cg8,o⟩:=o.dE Bn4
 obtain⟨a35,c35,rfl,⟨Cg9,f72⟩⟩:=Ah f71
 refine⟨_,_,_,_,_,_,rfl,?_⟩
 refine⟨((Blu.mono (by simp)).trans (Bn4.mono (by simp))),?_⟩
 have Cha:=Bzv.trans Cg8
 refine Aa (h _ w81 (o.mn hm) _ (Ag x35 ⟨Cg9,f72⟩) _ _ Aws (Awt.st Cha)) ?_
 rintro _ w82 ⟨x36,h,⟨Cj9,rfl,f73⟩,Bzw⟩
 obtain⟨Cka,o⟩:=o.dE Bzw
 obtain⟨a36,c36,rfl,⟨Chb,f74⟩⟩:=Ah f73
 refine⟨_,_,_,_,_,_,rfl,?_⟩
 refine⟨(((Blu.mono (by simp)).trans (Bn4.mono (by simp))).trans (Bzw.mono (by simp))),?_⟩
 refine Aa (h _ w82 (o.mn hm) _ (Ag x36 ⟨Chb,f74⟩) _ (A3 (⟨24,[],0,0,x.at_⟩:Ai))) ?_
 rintro _ w83 ⟨x37,h,⟨Ckb,rfl,f75⟩,Chc⟩
 obtain⟨Ckc,o⟩:=o.dE Chc
 obtain⟨a37,c37,rfl,⟨Chd,f76⟩⟩:=Ah f75
 refine⟨_,_,_,_,_,_,rfl,?_⟩
 refine⟨o.wr 3 rfl rfl,fun w84 Che=> ?_⟩
 obtain⟨Chf,o⟩:=o.dSs 3 Che rfl
 refine⟨_,_,_,_,_,_,(o.at 3 rfl).whole,?_⟩
 exact⟨x37,h,⟨_,rfl,(Ag x37 ⟨Chd,(f76.st (Chf.trans Mem.Aw9))⟩)⟩,o.done⟩
 refine Ac (fun h=> ?_) (fun h=> ?_) h
 refine⟨o.wr 1 rfl rfl,fun w85 Chg=> ?_⟩
 obtain⟨Bzx,o⟩:=o.dS 1 Chg rfl
 refine⟨_,_,_,_,_,_,(o.at 0 rfl).whole,?_⟩
 have Chh:=((st7.trans st8).trans st9).trans Bzx
 have Bzy:=(((((((((st.trans st1).trans st2).trans st3).trans st4).trans st5).trans st6).trans st7).trans st8).trans st9).trans Bzx
 refine Aa (h _ w85 (o.mn hm) _ (Ag x1 ⟨le,(f2.st Chh)⟩) _ _ Aws (Awt.st Bzy)) ?_
 rintro _ w86 ⟨x38,h,⟨Ckd,rfl,f77⟩,Chi⟩
 obtain⟨Chj,o⟩:=o.dE Chi
 obtain⟨a38,c38,rfl,⟨Chk,f78⟩⟩:=Ah f77
 refine⟨_,_,_,_,_,_,rfl,?_⟩
 have Bzz:=Bzy.trans Chj
 refine Aa (h _ w86 (o.mn hm) _ (Ag x38 ⟨Chk,f78⟩) _ _ Aws (Awt.st Bzz)) ?_
 rintro _ w87 ⟨x39,h,⟨Cke,rfl,f79⟩,Chl⟩
 obtain⟨Chm,o⟩:=o.dE Chl
 obtain⟨a39,c39,rfl,⟨Chn,f80⟩⟩:=Ah f79
 refine⟨_,_,_,_,_,_,rfl,?_⟩
 have Bn5:=Bzz.trans Chm
 refine Aa (h _ w87 (o.mn hm) _ (Ag x39 ⟨Chn,f80⟩) _ _ Aws (Awt.st Bn5)) ?_
 rintro _ w88 ⟨x40,h,⟨Ckf,rfl,f81⟩,Cho⟩
 obtain⟨Bz0,o⟩:=o.dE Cho
 obtain⟨a40,c40,rfl,⟨Bz1,f82⟩⟩:=Ah f81
 refine⟨_,_,_,_,_,_,rfl,?_⟩
 refine⟨o.wr 0 rfl rfl,fun w89 Chp=> ?_⟩
 obtain⟨Blv,o⟩:=o.dSs 0 Chp rfl
 obtain⟨J1,h,h2⟩:=h
 refine⟨fun w90=>∃(l:List Ai) (n:Int) (Awx:Int) (ex:Int) (a41:Option Addr) (c41:Nat),J1 l n Awx ex/\(l.length<=c41/\SlR Ay (ms [.box b3 [.slice a41 l.length c41,.q n,.q Awx,.q ex],.box b2 [.q 23,.s [],.q 0,.q 0,.q x.at_],.box b1 [.q x.kind,.s x.text,.q x.n,.q x.at_],.box b [.slice none 0 0,.q 0,.q 0,.q 0]] m) w90 a41 l)/\MS w m w89 [.box b3 [.slice a40 x40.l.length c40,.q x40.n,.q x40.at_,.q x40.e_],.box b2 [.q 23,.s [],.q 0,.q 0,.q x.at_],.box b1 [.q x.kind,.s x.text,.q x.n,.q x.at_],.box b [.slice none 0 0,.q 0,.q 0,.q 0]] w90 [.box b3 [.slice a41 l.length c41,.q n,.q Awx,.q ex],.box b2 [.q 23,.s [],.q 0,.q 0,.q x.at_],.box b1 [.q x.kind,.s x.text,.q x.n,.q x.at_],.box b [.slice none 0 0,.q 0,.q 0,.q 0]],?_,?_⟩
 obtain⟨J2,h,h2⟩:=h
 refine⟨fun x41 w91=>J2 x41/\MT w m w89 w91 [.box b3 [.slice a40 x40.l.length c40,.q x40.n,.q x40.at_,.q x40.e_],.box b2 [.q 23,.s [],.q 0,.q 0,.q x.at_],.box b1 [.q x.kind,.s x.text,.q x.n,.q x.at_],.box b [.slice none 0 0,.q 0,.q 0,.q 0]],?_,?_⟩
 refine⟨_,(o.at 0 rfl).cell rfl,?_⟩
 refine Ac (fun h=> ?_) (fun h=> ?_) h
 refine⟨_,(o.at 0 rfl).cell rfl,?_⟩
 have Chq:=(Bn5.trans Bz0).trans Blv
 refine Aa (h _ w89 (o.mn hm) _ _ Aws (Awt.st Chq)) ?_
 rintro _ w92 ⟨x42,h,rfl,Chr⟩
 obtain⟨Chs,o⟩:=o.dE Chr
 refine⟨_,rfl,?_⟩
 exact⟨h,o,Chs⟩
 exact⟨h,o,Step.refl _ _⟩
 rintro _ x41 w91 ⟨hJ,o,Bj7⟩
 have h:=h2 x41 hJ
 refine Ac (fun h=> ?_) (fun h=> ?_) h
 refine⟨_,_,_,_,_,_,(o.at 0 rfl).whole,?_⟩
 have Bz2:=((Bn5.trans Bz0).trans Blv).trans Bj7
 refine Aa (h _ w91 (o.mn hm) _ (Ag x40 ⟨Bz1,(f82.st (Blv.trans Bj7))⟩) _ _ Aws (Awt.st Bz2)) ?_
 rintro _ w93 ⟨x43,h,⟨Ckg,rfl,f84⟩,Cht⟩
 obtain⟨Bz3,o⟩:=o.dE Cht
 obtain⟨a42,c42,rfl,⟨Chu,f85⟩⟩:=Ah f84
 refine⟨_,_,_,_,_,_,rfl,?_⟩
 have Chv:=Bz2.trans Bz3
 refine Aa (h _ w93 (o.mn hm) _ (Ag x43 ⟨Chu,f85⟩) _ _ Aws (Awt.st Chv)) ?_
 rintro _ w94 ⟨x44,h,⟨Ckh,rfl,f86⟩,Chw⟩
 obtain⟨Chx,o⟩:=o.dE Chw
 obtain⟨a43,c43,rfl,⟨Chy,f87⟩⟩:=Ah f86
 refine⟨_,_,_,_,_,_,rfl,?_⟩
 refine⟨o.wr 0 rfl rfl,fun w95 Chz=> ?_⟩
 obtain⟨Bz4,o⟩:=o.dSs 0 Chz rfl
 have Ch0:=((Bj7.trans Bz3).trans Chx).trans Bz4
 exact⟨x44.l,x44.n,x44.at_,x44.e_,a43,c43,h,⟨Chy,(f87.st Bz4)⟩,o,Ch0⟩
 exact⟨x40.l,x40.n,x40.at_,x40.e_,a40,c40,h,⟨Bz1,(f82.st (Blv.trans Bj7))⟩,o,Bj7⟩
 rintro _ w90 ⟨l,n,Awx,ex,a41,c41,hJ,⟨Ch1,f83⟩,o,Cki⟩
 have h:=h2 l n Awx ex hJ
 refine⟨_,_,_,_,_,_,(o.at 0 rfl).whole,?_⟩
 refine⟨_,_,_,_,_,(o.at 1 rfl).whole,?_⟩
 refine Aa (h _ w90 (o.mn hm) _ (Ag (⟨l,n,Awx,ex⟩:Aj) ⟨Ch1,f83⟩) _ (A3 (⟨23,[],0,0,x.at_⟩:Ai))) ?_
 rintro _ w96 ⟨x45,h,⟨Ckj,rfl,f88⟩,Ch2⟩
 obtain⟨Ckk,o⟩:=o.dE Ch2
 obtain⟨a44,c44,rfl,⟨Ch3,f89⟩⟩:=Ah f88
 refine⟨_,_,_,_,_,_,rfl,?_⟩
 refine⟨o.wr 3 rfl rfl,fun w97 Ch4=> ?_⟩
 obtain⟨Ch5,o⟩:=o.dSs 3 Ch4 rfl
 refine⟨_,_,_,_,_,_,(o.at 3 rfl).whole,?_⟩
 exact⟨x45,h,⟨_,rfl,(Ag x45 ⟨Ch3,(f89.st (Ch5.trans Mem.Aw9))⟩)⟩,o.done⟩
 refine Ac (fun h=> ?_) (fun h=> ?_) h
 refine⟨o.wr 1 rfl rfl,fun w98 Ch6=> ?_⟩
 obtain⟨Bz5,o⟩:=o.dS 1 Ch6 rfl
 refine⟨_,_,_,_,_,_,(o.at 0 rfl).whole,?_⟩
 have Ch7:=((st7.trans st8).trans st9).trans Bz5
 have Bz6:=(((((((((st.trans st1).trans st2).trans st3).trans st4).trans st5).trans st6).trans st7).trans st8).trans st9).trans Bz5
 refine Aa (h _ w98 (o.mn hm) _ (Ag x1 ⟨le,(f2.st Ch7)⟩) _ _ Aws (Awt.st Bz6)) ?_
 rintro _ w99 ⟨x46,h,⟨Ckl,rfl,f90⟩,Ch8⟩
 obtain⟨Ch9,o⟩:=o.dE Ch8
 obtain⟨a45,c45,rfl,⟨Cia,f91⟩⟩:=Ah f90
 refine⟨_,_,_,_,_,_,rfl,?_⟩
 have Bj8:=Bz6.trans Ch9
 refine Aa (h _ w99 (o.mn hm) _ (Ag x46 ⟨Cia,f91⟩) _ _ Aws (Awt.st Bj8)) ?_
 rintro _ Bmh ⟨x47,h,⟨Ckm,rfl,f92⟩,Cib⟩
 obtain⟨Blw,o⟩:=o.dE Cib
 obtain⟨a46,c46,rfl,⟨Bz7,f93⟩⟩:=Ah f92
 refine⟨_,_,_,_,_,_,rfl,?_⟩
 refine⟨o.wr 0 rfl rfl,fun Bgf Bz8=> ?_⟩
 obtain⟨Bdd,o⟩:=o.dSs 0 Bz8 rfl
 obtain⟨J3,h,h2⟩:=h
 refine⟨fun Beh=>∃(l1:List Ai) (n1:Int) (Ax5:Int) (ex1:Int) (a47:Option Addr) (c47:Nat),J3 l1 n1 Ax5 ex1/\(l1.length<=c47/\SlR Ay (ms [.box b3 [.slice a47 l1.length c47,.q n1,.q Ax5,.q ex1],.box b2 [.q 25,.s [],.q 0,.q 0,.q x.at_],.box b1 [.q x.kind,.s x.text,.q x.n,.q x.at_],.box b [.slice none 0 0,.q 0,.q 0,.q 0]] m) Beh a47 l1)/\MS w m Bgf [.box b3 [.slice a46 x47.l.length c46,.q x47.n,.q x47.at_,.q x47.e_],.box b2 [.q 25,.s [],.q 0,.q 0,.q x.at_],.box b1 [.q x.kind,.s x.text,.q x.n,.q x.at_],.box b [.slice none 0 0,.q 0,.q 0,.q 0]] Beh [.box b3 [.slice a47 l1.length c47,.q n1,.q Ax5,.q ex1],.box b2 [.q 25,.s [],.q 0,.q 0,.q x.at_],.box b1 [.q x.kind,.s x.text,.q x.n,.q x.at_],.box b [.slice none 0 0,.q 0,.q 0,.q 0]],?_,?_⟩
 refine⟨_,(o.at 0 rfl).cell rfl,?_⟩
 refine Ac (fun h=> ?_) (fun h=> ?_) h
 intro Bit Bz9
 obtain⟨Bj9,o⟩:=o.dD Bz9
 have ox9:=o
 refine⟨fun u=>An [] Bit u,An.refl _ _,?_⟩
 refine⟨_,_,_,_,_,_,fun u hu=>((ox9.at 0 rfl).Awz hu (by simp)).whole,?_⟩
 refine⟨_,fun u hu=>((ox9.at 0 rfl).Awz hu (by simp)).cell rfl,?_⟩
 have Cic:=((Bj8.trans Blw).trans Bdd).trans Bj9
 refine Aa (h _ Bit (o.mn hm) _ _ Aws (Awt.st Cic)) ?_
 rintro _ Bkx ⟨x48,h,⟨Ckn,rfl,f95⟩,Caa⟩
 obtain⟨Bl7,o⟩:=o.dE Caa
 obtain⟨a48,c48,rfl,⟨Cid,f96⟩⟩:=Ah f95
 refine⟨_,_,_,_,_,_,rfl,?_⟩
 refine⟨(Caa.mono (by simp)),?_⟩
 have Cie:=(Bdd.trans Bj9).trans Bl7
 refine Aa (h _ Bkx (o.mn hm) _ (Ag x47 ⟨Bz7,(f93.st Cie)⟩) _ (Ag x48 ⟨Cid,f96⟩)) ?_
 rintro _ Bmi ⟨x49,h,⟨Cko,rfl,f97⟩,Cif⟩
 obtain⟨Cab,o⟩:=o.dE Cif
 obtain⟨a49,c49,rfl,⟨Cig,f98⟩⟩:=Ah f97
 refine⟨_,_,_,_,_,_,rfl,?_⟩
 refine⟨o.wr 0 rfl rfl,fun Bmj Cac=> ?_⟩
 obtain⟨Bl8,o⟩:=o.dSs 0 Cac rfl
 have Cih:=((Bj9.trans Bl7).trans Cab).trans Bl8
 exact⟨x49.l,x49.n,x49.at_,x49.e_,a49,c49,h,⟨Cig,(f98.st Bl8)⟩,o,Cih⟩
 exact⟨x47.l,x47.n,x47.at_,x47.e_,a46,c46,h,⟨Bz7,(f93.st Bdd)⟩,o,Step.refl _ _⟩
 rintro _ Beh ⟨l1,n1,Ax5,ex1,a47,c47,hJ,⟨Cii,f94⟩,o,Bka⟩
 have h:=h2 l1 n1 Ax5 ex1 hJ
 obtain⟨I,⟨n5,h⟩,h2⟩:=h
 obtain⟨Z,hZ⟩:∃Z:World->Nat->Prop,Z=fun Azv n3=>∃(l2:List Ai) (n2:Int) (Ayf:Int) (ex2:Int) (a50:Option Addr) (c50:Nat),I l2 n2 Ayf ex2 n3/\(l2.length<=c50/\SlR Ay (ms [.box b3 [.slice a50 l2.length c50,.q n2,.q Ayf,.q ex2],.box b2 [.q 25,.s [],.q 0,.q 0,.q x.at_],.box b1 [.q x.kind,.s x.text,.q x.n,.q x.at_],.box b [.slice none 0 0,.q 0,.q 0,.q 0]] m) Azv a50 l2)/\MS w m Beh [.box b3 [.slice a47 l1.length c47,.q n1,.q Ax5,.q ex1],.box b2 [.q 25,.s [],.q 0,.q 0,.q x.at_],.box b1 [.q x.kind,.s x.text,.q x.n,.q x.at_],.box b [.slice none 0 0,.q 0,.q 0,.q 0]] Azv [.box b3 [.slice a50 l2.length c50,.q n2,.q Ayf,.q ex2],.box b2 [.q 25,.s [],.q 0,.q 0,.q x.at_],.box b1 [.q x.kind,.s x.text,.q x.n,.q x.at_],.box b [.slice none 0 0,.q 0,.q 0,.q 0]]:=⟨_,rfl⟩
 refine⟨fun Azv=>∃n3,Z Azv n3,fun Azv=>Aw0 (Z Azv),⟨n5,?_⟩,?_⟩
 rw [hZ];exact⟨l1,n1,Ax5,ex1,a47,c47,h,⟨Cii,f94⟩,o,Step.refl _ _⟩
 intro _ Azv hIZ
 obtain⟨n3,Bkb⟩:∃n3,n3=Aw0 (Z Azv):=⟨_,rfl⟩
 have hIZ:=Bz hIZ
 rw [←Bkb,hZ]at hIZ
 obtain⟨l2,n2,Ayf,ex2,a50,c50,h,⟨Cad,f99⟩,o,Bga⟩:=hIZ
 have h:=h2 l2 n2 Ayf ex2 n3 h
 obtain⟨J4,h,h2⟩:=h
 refine⟨fun x50 Bky=>J4 x50/\MT w m Azv Bky [.box b3 [.slice a50 l2.length c50,.q n2,.q Ayf,.q ex2],.box b2 [.q 25,.s [],.q 0,.q 0,.q x.at_],.box b1 [.q x.kind,.s x.text,.q x.n,.q x.at_],.box b [.slice none 0 0,.q 0,.q 0,.q 0]],?_,?_⟩
 refine⟨_,(o.at 0 rfl).cell rfl,?_⟩
 refine Ac (fun h=> ?_) (fun h=> ?_) h
 refine⟨_,(o.at 0 rfl).cell rfl,?_⟩
 have Cij:=(((Bj8.trans Blw).trans Bdd).trans Bka).trans Bga
 refine Aa (h _ Azv (o.mn hm) _ _ Aws (Awt.st Cij)) ?_
 rintro _ Bkz ⟨x51,h,rfl,Cik⟩
 obtain⟨Cae,o⟩:=o.dE Cik
 refine⟨_,rfl,?_⟩
 exact⟨h,o,Cae⟩
 exact⟨h,o,Step.refl _ _⟩
 rintro _ x50 Bky ⟨hJ,o,Bey⟩
 have h:=h2 x50 hJ
 refine Ac (fun h=> ?_) (fun h=> ?_) h
 intro Bgg Caf
 obtain⟨Bkc,o⟩:=o.dD Caf
 have Cag:=o
 refine⟨fun u=>An [] Bgg u,An.refl _ _,?_⟩
 refine⟨_,_,_,_,_,_,fun u hu=>((Cag.at 0 rfl).Awz hu (by simp)).whole,?_⟩
 refine⟨_,fun u hu=>((Cag.at 0 rfl).Awz hu (by simp)).cell rfl,?_⟩
 have Cil:=(((((Bj8.trans Blw).trans Bdd).trans Bka).trans Bga).trans Bey).trans Bkc
 refine Aa (h _ Bgg (o.mn hm) _ _ Aws (Awt.st Cil)) ?_
 rintro _ Bk0 ⟨x52,h,⟨Ckp,rfl,f100⟩,Cah⟩
 obtain⟨Bl9,o⟩:=o.dE Cah
 obtain⟨a51,c51,rfl,⟨Cim,f101⟩⟩:=Ah f100
 refine⟨_,_,_,_,_,_,rfl,?_⟩
 refine⟨(Cah.mono (by simp)),?_⟩
 have Cin:=(Bey.trans Bkc).trans Bl9
 refine Aa (h _ Bk0 (o.mn hm) _ (Ag (⟨l2,n2,Ayf,ex2⟩:Aj) ⟨Cad,(f99.st Cin)⟩) _ (Ag x52 ⟨Cim,f101⟩)) ?_
 rintro _ Bmk ⟨x53,h,⟨Ckq,rfl,f102⟩,Cio⟩
 obtain⟨Cai,o⟩:=o.dE Cio
 obtain⟨a52,c52,rfl,⟨Cip,f103⟩⟩:=Ah f102
 refine⟨_,_,_,_,_,_,rfl,?_⟩
 refine⟨o.wr 0 rfl rfl,fun Biu Caj=> ?_⟩
 obtain⟨Bma,o⟩:=o.dSs 0 Caj rfl
 obtain⟨n4,hl,h⟩:=h
 have Ciq:=((((Bga.trans Bey).trans Bkc).trans Bl9).trans Cai).trans Bma
 exact Bh Bkb (show Z Biu n4 from(by rw [hZ];exact⟨x53.l,x53.n,x53.at_,x53.e_,a52,c52,h,⟨Cip,(f103.st Bma)⟩,o,Ciq⟩)) hl
 intro Bgh Cak
 obtain⟨Bmb,o⟩:=o.dD Cak
 have Cal:=o
 refine⟨fun u=>An [] Bgh u,An.refl _ _,?_⟩
 refine⟨_,_,_,_,_,_,fun u hu=>((Cal.at 0 rfl).Awz hu (by simp)).whole,?_⟩
 refine⟨_,_,_,_,_,fun u hu=>((Cal.at 1 rfl).Awz hu (by simp)).whole,?_⟩
 have Cir:=(((((Bj8.trans Blw).trans Bdd).trans Bka).trans Bga).trans Bey).trans Bmb
 refine Aa (h _ Bgh (o.mn hm) _ (Ag (⟨l2,n2,Ayf,ex2⟩:Aj) ⟨Cad,(f99.st (Bey.trans Bmb))⟩) _ _ Aws (Awt.st Cir)) ?_
 rintro _ Bk1 ⟨x54,h,⟨Ckr,rfl,f104⟩,Cam⟩
 obtain⟨Cjc,o⟩:=o.dE Cam
 obtain⟨a53,c53,rfl,⟨Cis,f105⟩⟩:=Ah f104
 refine⟨_,_,_,_,_,_,rfl,?_⟩
 refine⟨(Cam.mono (by simp)),?_⟩
 refine Aa (h _ Bk1 (o.mn hm) _ (Ag x54 ⟨Cis,f105⟩) _ (A3 (⟨25,[],0,0,x.at_⟩:Ai))) ?_
 rintro _ Bml ⟨x55,h,⟨Cks,rfl,f106⟩,Cit⟩
 obtain⟨Cjd,o⟩:=o.dE Cit
 obtain⟨a54,c54,rfl,⟨Ciu,f107⟩⟩:=Ah f106
 refine⟨_,_,_,_,_,_,rfl,?_⟩
 refine⟨o.wr 3 rfl rfl,fun Bk2 Cao=> ?_⟩
 obtain⟨Caq,o⟩:=o.dSs 3 Cao rfl
 refine⟨_,_,_,_,_,_,(o.at 3 rfl).whole,?_⟩
 exact⟨x55,h,⟨_,rfl,(Ag x55 ⟨Ciu,(f107.st (Caq.trans Mem.Aw9))⟩)⟩,o.done⟩
 refine⟨o.wr 0 rfl rfl,fun Biv Car=> ?_⟩
 obtain⟨Cas,o⟩:=o.dS 0 Car rfl
 refine⟨_,_,_,_,_,_,(o.at 0 rfl).whole,?_⟩
 refine⟨o.wr 3 rfl rfl,fun Bk3 Cat=> ?_⟩
 obtain⟨Cau,o⟩:=o.dSs 3 Cat rfl
 refine⟨_,_,_,_,_,_,(o.at 3 rfl).whole,?_⟩
 exact⟨(⟨x1.l,x1.n,x1.at_,11⟩:Aj),h,⟨_,rfl,(Ag (⟨x1.l,x1.n,x1.at_,11⟩:Aj) ⟨le,(f2.st (st7.trans (st8.trans (st9.trans (Cas.trans (Cau.trans Mem.Aw9))))))⟩)⟩,o.done⟩
def Ae0 (toks:List Au) (atx:Int) (K:Aj->Prop):Prop:=
 Dm toks atx (fun x=>
 Cn toks atx [99,104,97,110] (fun x1=>
 cond (x1)
 (D0 atx (fun x2=>
 Ak x2 toks [99,104,97,110] (fun x3=>
 C9 x3 toks (fun r r1=>
 ∃(J:(List Ai)->Int->Int->Int->Int->(List UInt8)->Int->Int->Int->Prop),
 (∃(J1:Bool->Prop),
 (cond (r.e_==0)
 (Cn toks r.at_ [91] (fun x5=>
 J1 x5))
 (J1 false))/\
 ∀(x4:Bool),J1 x4->
 cond (x4)
 (Ak r toks [91] (fun x6=>
 L9 x6 toks (fun r2 r3=>
 Ak r2 toks [93] (fun x7=>
 J x7.l x7.n x7.at_ x7.e_ 38 r1 r3 0 x.at_))))
 (J r.l r.n r.at_ r.e_ 38 r1 0 0 x.at_))/\
 ∀(l:List Ai) (n:Int) (Awx:Int) (ex:Int) (Op:Int) (Na:List UInt8) (N:Int) (Ki:Int) (At:Int),J l n Awx ex Op Na N Ki At->
 Ak (⟨l,n,Awx,ex⟩:Aj) toks [59] (fun x8=>
 A2 x8 (⟨Op,Na,N,Ki,At⟩:Ai) (fun x9=>
 K x9))))))
 (Cn toks atx [112,114,111,99] (fun x10=>
 cond (x10)
 (D0 atx (fun x11=>
 Ak x11 toks [112,114,111,99] (fun x12=>
 C9 x12 toks (fun r4 r5=>
 Ak r4 toks [40] (fun x13=>
 ∃(J2:(List Ai)->Int->Int->Int->Prop),
 (∃(J3:Bool->Prop),
 (cond (x13.e_==0)
 (Cn toks x13.at_ [41] (fun x15=>
 J3 (!x15)))
 (J3 false))/\
 ∀(x14:Bool),J3 x14->
 cond (x14)
 (H9 x13 toks (fun x16=>
 ∃(I:(List Ai)->Int->Int->Int->Nat->Prop),(∃n3,I x16.l x16.n x16.at_ x16.e_ n3)/\
 ∀(l2:List Ai) (n2:Int) (Ayf:Int) (ex2:Int) (n3:Nat),I l2 n2 Ayf ex2 n3->
 ∃(J4:Bool->Prop),
 (cond (ex2==0)
 (Cn toks Ayf [44] (fun x18=>
 J4 x18))
 (J4 false))/\
 ∀(x17:Bool),J4 x17->
 cond (x17)
 (Ak (⟨l2,n2,Ayf,ex2⟩:Aj) toks [44] (fun x19=>
 H9 x19 toks (fun x20=>
 ∃n4,n4<n3/\I x20.l x20.n x20.at_ x20.e_ n4)))
 (J2 l2 n2 Ayf ex2)))
 (J2 x13.l x13.n x13.at_ x13.e_))/\
 ∀(l1:List Ai) (n1:Int) (Ax5:Int) (ex1:Int),J2 l1 n1 Ax5 ex1->
 Ak (⟨l1,n1,Ax5,ex1⟩:Aj) toks [41] (fun x21=>
 Ei x21 toks 1 (fun x22=>
 A2 x22 (⟨40,r5,0,0,x.at_⟩:Ai) (fun x23=>
 K x23))))))))
 (D0 atx (fun x24=>
 Ak x24 toks [109,97,105,110] (fun x25=>
 Ei x25 toks 1 (fun x26=>
 A2 x26 (⟨41,[],0,0,x.at_⟩:Ai) (fun x27=>
 K x27)))))))))
set_option maxHeartbeats 4000000 in
theorem Abo (toks:List Au) (atx:Int) (K:Aj->Prop) (h:Ae0 toks atx K):Sq toks atx K:=by
 intro m w hm Awv Aww Aws Awt
 have o:=Mem.start hm.lt
 refine Ahg Awv toks.length Aww atx _ _ ?_
 intro b w1 hb hw1
 obtain⟨st,o⟩:=o.dB hb hw1
 refine Aa (h _ w1 (o.mn hm) _ _ Aws (Awt.st st)) ?_
 rintro _ w2 ⟨x,h,⟨cs,rfl,f⟩,ke⟩
 obtain⟨st1,o⟩:=o.dE ke
 obtain rfl:=Dj f
 refine⟨_,_,_,_,rfl,?_⟩
 intro b1 w3 hb1 hw3
 obtain⟨st2,o⟩:=o.dB hb1 hw3
 refine⟨o.wr 0 rfl rfl,fun w4 hw4=> ?_⟩
 obtain⟨st3,o⟩:=o.dSs 0 hw4 rfl
 have sT:=((st.trans st1).trans st2).trans st3
 refine Aa (h _ w4 (o.mn hm) _ _ Aws (Awt.st sT)) ?_
 rintro _ w5 ⟨x1,h,rfl,ke1⟩
 obtain⟨st4,o⟩:=o.dE ke1
 refine⟨_,rfl,?_⟩
 refine Ac (fun h=> ?_) (fun h=> ?_) h
 refine⟨o.wr 0 rfl rfl,fun w6 hw6=> ?_⟩
 obtain⟨st5,o⟩:=o.dS 0 hw6 rfl
 refine Aa (h _ w6 (o.mn hm)) ?_
 rintro _ w7 ⟨x2,h,⟨cs1,rfl,f1⟩,ke2⟩
 obtain⟨st6,o⟩:=o.dE ke2
 obtain⟨a,c,rfl,⟨le,f2⟩⟩:=Ah f1
 refine⟨_,_,_,_,_,_,rfl,?_⟩
 have sT1:=((sT.trans st4).trans st5).trans st6
 refine Aa (h _ w7 (o.mn hm) _ (Ag x2 ⟨le,f2⟩) _ _ Aws (Awt.st sT1)) ?_
 rintro _ w8 ⟨x3,h,⟨cs2,rfl,f3⟩,ke3⟩
 obtain⟨st7,o⟩:=o.dE ke3
 obtain⟨a1,c1,rfl,⟨le1,f4⟩⟩:=Ah f3
 refine⟨_,_,_,_,_,_,rfl,?_⟩
 have sT2:=sT1.trans st7
 refine Aa (h _ w8 (o.mn hm) _ (Ag x3 ⟨le1,f4⟩) _ _ Aws (Awt.st sT2)) ?_
 rintro _ w9 ⟨r,r1,h,⟨cs3,rfl,f5⟩,ke4⟩
 obtain⟨st8,o⟩:=o.dE ke4
 obtain⟨a2,c2,rfl,⟨le2,f6⟩⟩:=Ah f5
 refine⟨_,_,_,_,_,_,_,rfl,?_⟩
 intro b2 w10 hb2 Bah
 obtain⟨st9,o⟩:=o.dB hb2 Bah
 refine⟨o.wr 0 rfl rfl,fun w11 Azc=> ?_⟩
 obtain⟨Aw6,o⟩:=o.dSs 0 Azc rfl
 refine⟨o.wr 1 rfl rfl,fun w12 Ay4=> ?_⟩
 obtain⟨Aw8,o⟩:=o.dS 1 Ay4 rfl
 obtain⟨J,h,h2⟩:=h
 refine⟨fun w13=>∃(l:List Ai) (n:Int) (Awx:Int) (ex:Int) (Op:Int) (Na:List UInt8) (N:Int) (Ki:Int) (At:Int) (a3:Option Addr) (c3:Nat),J l n Awx ex Op Na N Ki At/\(l.length<=c3/\SlR Ay (ms [.box b2 [.slice a3 l.length c3,.q n,.q Awx,.q ex],.box b1 [.q Op,.s Na,.q N,.q Ki,.q At],.box b [.slice none 0 0,.q 0,.q 0,.q 0]] m) w13 a3 l)/\MS w m w12 [.box b2 [.slice a2 r.l.length c2,.q r.n,.q r.at_,.q r.e_],.box b1 [.q 38,.s r1,.q 0,.q 0,.q x.at_],.box b [.slice none 0 0,.q 0,.q 0,.q 0]] w13 [.box b2 [.slice a3 l.length c3,.q n,.q Awx,.q ex],.box b1 [.q Op,.s Na,.q N,.q Ki,.q At],.box b [.slice none 0 0,.q 0,.q 0,.q 0]],?_,?_⟩
 obtain⟨J1,h,h2⟩:=h
 refine⟨fun x4 w14=>J1 x4/\MT w m w12 w14 [.box b2 [.slice a2 r.l.length c2,.q r.n,.q r.at_,.q r.e_],.box b1 [.q 38,.s r1,.q 0,.q 0,.q x.at_],.box b [.slice none 0 0,.q 0,.q 0,.q 0]],?_,?_⟩
 refine⟨_,(o.at 0 rfl).cell rfl,?_⟩
 refine Ac (fun h=> ?_) (fun h=> ?_) h
 refine⟨_,(o.at 0 rfl).cell rfl,?_⟩
 have sT3:=(((sT2.trans st8).trans st9).trans Aw6).trans Aw8
 refine Aa (h _ w12 (o.mn hm) _ _ Aws (Awt.st sT3)) ?_
 rintro _ w15 ⟨x5,h,rfl,ke5⟩
 obtain⟨Axl,o⟩:=o.dE ke5
 refine⟨_,rfl,?_⟩
 exact⟨h,o,Axl⟩
 exact⟨h,o,Step.refl _ _⟩
 rintro _ x4 w14 ⟨hJ,o,Axb⟩
 have h:=h2 x4 hJ
 refine Ac (fun h=> ?_) (fun h=> ?_) h
 refine⟨_,_,_,_,_,_,(o.at 0 rfl).whole,?_⟩
 have sT4:=((st9.trans Aw6).trans Aw8).trans Axb
 have sT5:=((((sT2.trans st8).trans st9).trans Aw6).trans Aw8).trans Axb
 refine Aa (h _ w14 (o.mn hm) _ (Ag r ⟨le2,(f6.st sT4)⟩) _ _ Aws (Awt.st sT5)) ?_
 rintro _ w16 ⟨x6,h,⟨cs4,rfl,f8⟩,ke6⟩
 obtain⟨Axh,o⟩:=o.dE ke6
 obtain⟨a4,c4,rfl,⟨le4,f9⟩⟩:=Ah f8
 refine⟨_,_,_,_,_,_,rfl,?_⟩
 have sT6:=sT5.trans Axh
 refine Aa (h _ w16 (o.mn hm) _ (Ag x6 ⟨le4,f9⟩) _ _ Aws (Awt.st sT6)) ?_
 rintro _ w17 ⟨r2,r3,h,⟨cs5,rfl,f10⟩,ke7⟩
 obtain⟨Axn,o⟩:=o.dE ke7
 obtain⟨a5,c5,rfl,⟨le5,f11⟩⟩:=Ah f10
 refine⟨_,_,_,_,_,_,_,rfl,?_⟩
 refine⟨o.wr 0 rfl rfl,fun w18 Azy=> ?_⟩
 obtain⟨Axx,o⟩:=o.dSs 0 Azy rfl
 refine⟨o.wr 1 rfl rfl,fun w19 Bc7=> ?_⟩
 obtain⟨Ax4,o⟩:=o.dS 1 Bc7 rfl
 refine⟨_,_,_,_,_,_,(o.at 0 rfl).whole,?_⟩
 have sT7:=((sT6.trans Axn).trans Axx).trans Ax4
 refine Aa (h _ w19 (o.mn hm) _ (Ag r2 ⟨le5,(f11.st (Axx.trans Ax4))⟩) _ _ Aws (Awt.st sT7)) ?_
 rintro _ w20 ⟨x7,h,⟨cs6,rfl,f12⟩,ke8⟩
 obtain⟨Aye,o⟩:=o.dE ke8
 obtain⟨a6,c6,rfl,⟨le6,f13⟩⟩:=Ah f12
 refine⟨_,_,_,_,_,_,rfl,?_⟩
 refine⟨o.wr 0 rfl rfl,fun w21 Bdw=> ?_⟩
 obtain⟨Ayc,o⟩:=o.dSs 0 Bdw rfl
 have sT8:=(((((Axb.trans Axh).trans Axn).trans Axx).trans Ax4).trans Aye).trans Ayc
 exact⟨x7.l,x7.n,x7.at_,x7.e_,38,r1,r3,0,x.at_,a6,c6,h,⟨le6,(f13.st Ayc)⟩,o,sT8⟩
 have sT9:=((st9.trans Aw6).trans Aw8).trans Axb
 exact⟨r.l,r.n,r.at_,r.e_,38,r1,0,0,x.at_,a2,c2,h,⟨le2,(f6.st sT9)⟩,o,Axb⟩
 rintro _ w13 ⟨l,n,Awx,ex,Op,Na,N,Ki,At,a3,c3,hJ,⟨le3,f7⟩,o,Axd⟩
 have h:=h2 l n Awx ex Op Na N Ki At hJ
 intro w22 Bb5
 obtain⟨Ayi,o⟩:=o.dD Bb5
 have ox:=o
 refine⟨fun u=>An [] w22 u,An.refl _ _,?_⟩
 refine⟨_,_,_,_,_,_,fun u hu=>((ox.at 0 rfl).Awz hu (by simp)).whole,?_⟩
 refine⟨_,_,_,_,_,fun u hu=>((ox.at 1 rfl).Awz hu (by simp)).whole,?_⟩
 have Az5:=(((((sT2.trans st8).trans st9).trans Aw6).trans Aw8).trans Axd).trans Ayi
 refine Aa (h _ w22 (o.mn hm) _ (Ag (⟨l,n,Awx,ex⟩:Aj) ⟨le3,(f7.st Ayi)⟩) _ _ Aws (Awt.st Az5)) ?_
 rintro _ w23 ⟨x8,h,⟨cs7,rfl,f14⟩,ke9⟩
 obtain⟨Ayo,o⟩:=o.dE ke9
 obtain⟨a7,c7,rfl,⟨le7,f15⟩⟩:=Ah f14
 refine⟨_,_,_,_,_,_,rfl,?_⟩
 refine⟨(ke9.mono (by simp)),?_⟩
 refine Aa (h _ w23 (o.mn hm) _ (Ag x8 ⟨le7,f15⟩) _ (A3 (⟨Op,Na,N,Ki,At⟩:Ai))) ?_
 rintro _ w24 ⟨x9,h,⟨cs8,rfl,f16⟩,Bae⟩
 obtain⟨Azp,o⟩:=o.dE Bae
 obtain⟨a8,c8,rfl,⟨le8,f17⟩⟩:=Ah f16
 refine⟨_,_,_,_,_,_,rfl,?_⟩
 refine⟨o.wr 2 rfl rfl,fun w25 Bbw=> ?_⟩
 obtain⟨Ay2,o⟩:=o.dSs 2 Bbw rfl
 refine⟨_,_,_,_,_,_,(o.at 2 rfl).whole,?_⟩
 exact⟨x9,h,⟨_,rfl,(Ag x9 ⟨le8,(f17.st (Ay2.trans Mem.Aw9))⟩)⟩,o.done⟩
 have Bac:=sT.trans st4
 refine Aa (h _ w5 (o.mn hm) _ _ Aws (Awt.st Bac)) ?_
 rintro _ w26 ⟨x10,h,rfl,Bb6⟩
 obtain⟨Ay3,o⟩:=o.dE Bb6
 refine⟨_,rfl,?_⟩
 refine Ac (fun h=> ?_) (fun h=> ?_) h
 refine⟨o.wr 0 rfl rfl,fun w27 Bfw=> ?_⟩
 obtain⟨Bad,o⟩:=o.dS 0 Bfw rfl
 refine Aa (h _ w27 (o.mn hm)) ?_
 rintro _ w28 ⟨x11,h,⟨cs9,rfl,f18⟩,Bcu⟩
 obtain⟨Ay7,o⟩:=o.dE Bcu
 obtain⟨a9,c9,rfl,⟨le9,f19⟩⟩:=Ah f18
 refine⟨_,_,_,_,_,_,rfl,?_⟩
 have Bba:=((Bac.trans Ay3).trans Bad).trans Ay7
 refine Aa (h _ w28 (o.mn hm) _ (Ag x11 ⟨le9,f19⟩) _ _ Aws (Awt.st Bba)) ?_
 rintro _ w29 ⟨x12,h,⟨Bm8,rfl,f20⟩,Bcv⟩
 obtain⟨Azj,o⟩:=o.dE Bcv
 obtain⟨a10,c10,rfl,⟨Bds,f21⟩⟩:=Ah f20
 refine⟨_,_,_,_,_,_,rfl,?_⟩
 have Bdp:=Bba.trans Azj
 refine Aa (h _ w29 (o.mn hm) _ (Ag x12 ⟨Bds,f21⟩) _ _ Aws (Awt.st Bdp)) ?_
 rintro _ w30 ⟨r4,r5,h,⟨Bm9,rfl,f22⟩,Bcw⟩
 obtain⟨Azq,o⟩:=o.dE Bcw
 obtain⟨a11,c11,rfl,⟨Bgp,f23⟩⟩:=Ah f22
 refine⟨_,_,_,_,_,_,_,rfl,?_⟩
 intro b3 w31 hb3 Bj2
 obtain⟨Azz,o⟩:=o.dB hb3 Bj2
 refine⟨o.wr 0 rfl rfl,fun w32 Bnu=> ?_⟩
 obtain⟨Bbb,o⟩:=o.dSs 0 Bnu rfl
 refine⟨o.wr 1 rfl rfl,fun w33 Bnv=> ?_⟩
 obtain⟨Ay8,o⟩:=o.dS 1 Bnv rfl
 refine⟨_,_,_,_,_,_,(o.at 0 rfl).whole,?_⟩
 have Bc3:=(Azz.trans Bbb).trans Ay8
 have Bb7:=(((Bdp.trans Azq).trans Azz).trans Bbb).trans Ay8
 refine Aa (h _ w33 (o.mn hm) _ (Ag r4 ⟨Bgp,(f23.st Bc3)⟩) _ _ Aws (Awt.st Bb7)) ?_
 rintro _ w34 ⟨x13,h,⟨Bne,rfl,f24⟩,Bbx⟩
 obtain⟨Az6,o⟩:=o.dE Bbx
 obtain⟨a12,c12,rfl,⟨Bev,f25⟩⟩:=Ah f24
 refine⟨_,_,_,_,_,_,rfl,?_⟩
 refine⟨o.wr 0 rfl rfl,fun w35 Bj6=> ?_⟩
 obtain⟨Azk,o⟩:=o.dSs 0 Bj6 rfl
 obtain⟨J2,h,h2⟩:=h
 refine⟨fun w36=>∃(l1:List Ai) (n1:Int) (Ax5:Int) (ex1:Int) (a13:Option Addr) (c13:Nat),J2 l1 n1 Ax5 ex1/\(l1.length<=c13/\SlR Ay (ms [.box b3 [.slice a13 l1.length c13,.q n1,.q Ax5,.q ex1],.box b1 [.q 40,.s r5,.q 0,.q 0,.q x.at_],.box b [.slice none 0 0,.q 0,.q 0,.q 0]] m) w36 a13 l1)/\MS w m w35 [.box b3 [.slice a12 x13.l.length c12,.q x13.n,.q x13.at_,.q x13.e_],.box b1 [.q 40,.s r5,.q 0,.q 0,.q x.at_],.box b [.slice none 0 0,.q 0,.q 0,.q 0]] w36 [.box b3 [.slice a13 l1.length c13,.q n1,.q Ax5,.q ex1],.box b1 [.q 40,.s r5,.q 0,.q 0,.q x.at_],.box b [.slice none 0 0,.q 0,.q 0,.q 0]],?_,?_⟩
 obtain⟨J3,h,h2⟩:=h
 refine⟨fun x14 w37=>J3 x14/\MT w m w35 w37 [.box b3 [.slice a12 x13.l.length c12,.q x13.n,.q x13.at_,.q x13.e_],.box b1 [.q 40,.s r5,.q 0,.q 0,.q x.at_],.box b [.slice none 0 0,.q 0,.q 0,.q 0]],?_,?_⟩
 refine⟨_,(o.at 0 rfl).cell rfl,?_⟩
 refine Ac (fun h=> ?_) (fun h=> ?_) h
 refine⟨_,(o.at 0 rfl).cell rfl,?_⟩
 have Bep:=(Bb7.trans Az6).trans Azk
 refine Aa (h _ w35 (o.mn hm) _ _ Aws (Awt.st Bep)) ?_
 rintro _ w38 ⟨x15,h,rfl,Bby⟩
 obtain⟨Az7,o⟩:=o.dE Bby
 refine⟨_,rfl,?_⟩
 exact⟨h,o,Az7⟩
 exact⟨h,o,Step.refl _ _⟩
 rintro _ x14 w37 ⟨hJ,o,Azr⟩
 have h:=h2 x14 hJ
 refine Ac (fun h=> ?_) (fun h=> ?_) h
 refine⟨_,_,_,_,_,_,(o.at 0 rfl).whole,?_⟩
 have Bb8:=((Bb7.trans Az6).trans Azk).trans Azr
 refine Aa (h _ w37 (o.mn hm) _ (Ag x13 ⟨Bev,(f25.st (Azk.trans Azr))⟩) _ _ Aws (Awt.st Bb8)) ?_
 rintro _ w39 ⟨x16,h,⟨Bnj,rfl,f27⟩,Bdq⟩
 obtain⟨Baf,o⟩:=o.dE Bdq
 obtain⟨a14,c14,rfl,⟨Bft,f28⟩⟩:=Ah f27
 refine⟨_,_,_,_,_,_,rfl,?_⟩
 refine⟨o.wr 0 rfl rfl,fun w40 Beu=> ?_⟩
 obtain⟨Bbc,o⟩:=o.dSs 0 Beu rfl
 obtain⟨I,⟨n5,h⟩,h2⟩:=h
 obtain⟨Z,hZ⟩:∃Z:World->Nat->Prop,Z=fun w41 n3=>∃(l2:List Ai) (n2:Int) (Ayf:Int) (ex2:Int) (a15:Option Addr) (c15:Nat),I l2 n2 Ayf ex2 n3/\(l2.length<=c15/\SlR Ay (ms [.box b3 [.slice a15 l2.length c15,.q n2,.q Ayf,.q ex2],.box b1 [.q 40,.s r5,.q 0,.q 0,.q x.at_],.box b [.slice none 0 0,.q 0,.q 0,.q 0]] m) w41 a15 l2)/\MS w m w40 [.box b3 [.slice a14 x16.l.length c14,.q x16.n,.q x16.at_,.q x16.e_],.box b1 [.q 40,.s r5,.q 0,.q 0,.q x.at_],.box b [.slice none 0 0,.q 0,.q 0,.q 0]] w41 [.box b3 [.slice a15 l2.length c15,.q n2,.q Ayf,.q ex2],.box b1 [.q 40,.s r5,.q 0,.q 0,.q x.at_],.box b [.slice none 0 0,.q 0,.q 0,.q 0]]:=⟨_,rfl⟩
 refine⟨fun w41=>∃n3,Z w41 n3,fun w41=>Aw0 (Z w41),⟨n5,?_⟩,?_⟩
 rw [hZ];exact⟨x16.l,x16.n,x16.at_,x16.e_,a14,c14,h,⟨Bft,(f28.st Bbc)⟩,o,Step.refl _ _⟩
 intro _ w41 hIZ
 obtain⟨n3,Bkb⟩:∃n3,n3=Aw0 (Z w41):=⟨_,rfl⟩
 have hIZ:=Bz hIZ
 rw [←Bkb,hZ]at hIZ
 obtain⟨l2,n2,Ayf,ex2,a15,c15,h,⟨Bew,f29⟩,o,Bdr⟩:=hIZ
 have h:=h2 l2 n2 Ayf ex2 n3 h
 obtain⟨J4,h,h2⟩:=h
 refine⟨fun x17 w42=>J4 x17/\MT w m w41 w42 [.box b3 [.slice a15 l2.length c15,.q n2,.q Ayf,.q ex2],.box b1 [.q 40,.s r5,.q 0,.q 0,.q x.at_],.box b [.slice none 0 0,.q 0,.q 0,.q 0]],?_,?_⟩
 refine⟨_,(o.at 0 rfl).cell rfl,?_⟩
 refine Ac (fun h=> ?_) (fun h=> ?_) h
 refine⟨_,(o.at 0 rfl).cell rfl,?_⟩
 have Beq:=((Bb8.trans Baf).trans Bbc).trans Bdr
 refine Aa (h _ w41 (o.mn hm) _ _ Aws (Awt.st Beq)) ?_
 rintro _ w43 ⟨x18,h,rfl,Bc5⟩
 obtain⟨Bfh,o⟩:=o.dE Bc5
 refine⟨_,rfl,?_⟩
 exact⟨h,o,Bfh⟩
 exact⟨h,o,Step.refl _ _⟩
 rintro _ x17 w42 ⟨hJ,o,Bcx⟩
 have h:=h2 x17 hJ
 refine Ac (fun h=> ?_) (fun h=> ?_) h
 refine⟨_,_,_,_,_,_,(o.at 0 rfl).whole,?_⟩
 have Bgm:=(((Bb8.trans Baf).trans Bbc).trans Bdr).trans Bcx
 refine Aa (h _ w42 (o.mn hm) _ (Ag (⟨l2,n2,Ayf,ex2⟩:Aj) ⟨Bew,(f29.st Bcx)⟩) _ _ Aws (Awt.st Bgm)) ?_
 rintro _ w44 ⟨x19,h,⟨Bnm,rfl,f30⟩,Bdt⟩
 obtain⟨Bjj,o⟩:=o.dE Bdt
 obtain⟨a16,c16,rfl,⟨Bjt,f31⟩⟩:=Ah f30
 refine⟨_,_,_,_,_,_,rfl,?_⟩
 have Bfg:=Bgm.trans Bjj
 refine Aa (h _ w44 (o.mn hm) _ (Ag x19 ⟨Bjt,f31⟩) _ _ Aws (Awt.st Bfg)) ?_
 rintro _ w45 ⟨x20,h,⟨Cgc,rfl,f32⟩,Bgr⟩
 obtain⟨Bes,o⟩:=o.dE Bgr
 obtain⟨a17,c17,rfl,⟨Bjv,f33⟩⟩:=Ah f32
 refine⟨_,_,_,_,_,_,rfl,?_⟩
 refine⟨o.wr 0 rfl rfl,fun w46 Bnw=> ?_⟩
 obtain⟨Bfj,o⟩:=o.dSs 0 Bnw rfl
 obtain⟨n4,hl,h⟩:=h
 have Bgn:=(((Bdr.trans Bcx).trans Bjj).trans Bes).trans Bfj
 exact Bh Bkb (show Z w46 n4 from(by rw [hZ];exact⟨x20.l,x20.n,x20.at_,x20.e_,a17,c17,h,⟨Bjv,(f33.st Bfj)⟩,o,Bgn⟩)) hl
 have Bji:=(((Azr.trans Baf).trans Bbc).trans Bdr).trans Bcx
 exact⟨l2,n2,Ayf,ex2,a15,c15,h,⟨Bew,(f29.st Bcx)⟩,o,Bji⟩
 exact⟨x13.l,x13.n,x13.at_,x13.e_,a12,c12,h,⟨Bev,(f25.st (Azk.trans Azr))⟩,o,Azr⟩
 rintro _ w36 ⟨l1,n1,Ax5,ex1,a13,c13,hJ,⟨Bfq,f26⟩,o,Bc4⟩
 have h:=h2 l1 n1 Ax5 ex1 hJ
 intro w47 Bld
 obtain⟨Bfk,o⟩:=o.dD Bld
 have ox1:=o
 refine⟨fun u=>An [] w47 u,An.refl _ _,?_⟩
 refine⟨_,_,_,_,_,_,fun u hu=>((ox1.at 0 rfl).Awz hu (by simp)).whole,?_⟩
 refine⟨_,_,_,_,_,fun u hu=>((ox1.at 1 rfl).Awz hu (by simp)).whole,?_⟩
 have Bgo:=(((Bb7.trans Az6).trans Azk).trans Bc4).trans Bfk
 refine Aa (h _ w47 (o.mn hm) _ (Ag (⟨l1,n1,Ax5,ex1⟩:Aj) ⟨Bfq,(f26.st Bfk)⟩) _ _ Aws (Awt.st Bgo)) ?_
 rintro _ w48 ⟨x21,h,⟨Cgd,rfl,f34⟩,Bfn⟩
 obtain⟨Bgq,o⟩:=o.dE Bfn
 obtain⟨a18,c18,rfl,⟨Bjx,f35⟩⟩:=Ah f34
 refine⟨_,_,_,_,_,_,rfl,?_⟩
 refine⟨(Bfn.mono (by simp)),?_⟩
 have Bfi:=Bgo.trans Bgq
 refine Aa (h _ w48 (o.mn hm) _ (Ag x21 ⟨Bjx,f35⟩) _ _ Aws (Awt.st Bfi)) ?_
 rintro _ w49 ⟨x22,h,⟨Cgf,rfl,f36⟩,Bdu⟩
 obtain⟨Bzh,o⟩:=o.dE Bdu
 obtain⟨a19,c19,rfl,⟨Bjz,f37⟩⟩:=Ah f36
 refine⟨_,_,_,_,_,_,rfl,?_⟩
 refine⟨((Bfn.mono (by simp)).trans (Bdu.mono (by simp))),?_⟩
 refine Aa (h _ w49 (o.mn hm) _ (Ag x22 ⟨Bjz,f37⟩) _ (A3 (⟨40,r5,0,0,x.at_⟩:Ai))) ?_
 rintro _ w50 ⟨x23,h,⟨Cgg,rfl,f38⟩,Bfs⟩
 obtain⟨Bjn,o⟩:=o.dE Bfs
 obtain⟨a20,c20,rfl,⟨Bnz,f39⟩⟩:=Ah f38
 refine⟨_,_,_,_,_,_,rfl,?_⟩
 refine⟨o.wr 2 rfl rfl,fun w51 Bnx=> ?_⟩
 obtain⟨Bfl,o⟩:=o.dSs 2 Bnx rfl
 refine⟨_,_,_,_,_,_,(o.at 2 rfl).whole,?_⟩
 exact⟨x23,h,⟨_,rfl,(Ag x23 ⟨Bnz,(f39.st (Bfl.trans Mem.Aw9))⟩)⟩,o.done⟩
 refine⟨o.wr 0 rfl rfl,fun w52 Bny=> ?_⟩
 obtain⟨Bfo,o⟩:=o.dS 0 Bny rfl
 intro w53 Bgt
 obtain⟨Bgs,o⟩:=o.dD Bgt
 have ox2:=o
 refine⟨fun u=>An [] w53 u,An.refl _ _,?_⟩
 refine⟨_,_,_,_,_,fun u hu=>((ox2.at 0 rfl).Awz hu (by simp)).whole,?_⟩
 refine Aa (h _ w53 (o.mn hm)) ?_
 rintro _ w54 ⟨x24,h,⟨Cgh,rfl,f40⟩,Bc6⟩
 obtain⟨Bfp,o⟩:=o.dE Bc6
 obtain⟨a21,c21,rfl,⟨Bn0,f41⟩⟩:=Ah f40
 refine⟨_,_,_,_,_,_,rfl,?_⟩
 refine⟨(Bc6.mono (by simp)),?_⟩
 have Bet:=(((Bac.trans Ay3).trans Bfo).trans Bgs).trans Bfp
 refine Aa (h _ w54 (o.mn hm) _ (Ag x24 ⟨Bn0,f41⟩) _ _ Aws (Awt.st Bet)) ?_
 rintro _ w55 ⟨x25,h,⟨Cgi,rfl,f42⟩,Bfu⟩
 obtain⟨Bfr,o⟩:=o.dE Bfu
 obtain⟨a22,c22,rfl,⟨Bn1,f43⟩⟩:=Ah f42
 refine⟨_,_,_,_,_,_,rfl,?_⟩
 refine⟨((Bc6.mono (by simp)).trans (Bfu.mono (by simp))),?_⟩
 have Bfm:=Bet.trans Bfr
 refine Aa (h _ w55 (o.mn hm) _ (Ag x25 ⟨Bn1,f43⟩) _ _ Aws (Awt.st Bfm)) ?_
 rintro _ w56 ⟨x26,h,⟨Cgj,rfl,f44⟩,Bdv⟩
 obtain⟨Bzi,o⟩:=o.dE Bdv
 obtain⟨a23,c23,rfl,⟨Bn2,f45⟩⟩:=Ah f44
 refine⟨_,_,_,_,_,_,rfl,?_⟩
 refine⟨(((Bc6.mono (by simp)).trans (Bfu.mono (by simp))).trans (Bdv.mono (by simp))),?_⟩
 refine Aa (h _ w56 (o.mn hm) _ (Ag x26 ⟨Bn2,f45⟩) _ (A3 (⟨41,[],0,0,x.at_⟩:Ai))) ?_
 rintro _ w57 ⟨x27,h,⟨Cgk,rfl,f46⟩,Bfv⟩
 obtain⟨Blb,o⟩:=o.dE Bfv
 obtain⟨a24,c24,rfl,⟨Bn3,f47⟩⟩:=Ah f46
 refine⟨_,_,_,_,_,_,rfl,?_⟩
 refine⟨o.wr 1 rfl rfl,fun w58 Bgu=> ?_⟩
 obtain⟨Bjo,o⟩:=o.dSs 1 Bgu rfl
 refine⟨_,_,_,_,_,_,(o.at 1 rfl).whole,?_⟩
 exact⟨x27,h,⟨_,rfl,(Ag x27 ⟨Bn3,(f47.st (Bjo.trans Mem.Aw9))⟩)⟩,o.done⟩
def Ae1 (toks:List Au) (K:As->Prop):Prop:=
 D0 0 (fun x=>
 ∃(I:(List Ai)->Int->Int->Int->Nat->Prop),(∃n1,I x.l x.n x.at_ x.e_ n1)/\
 ∀(l:List Ai) (n:Int) (atx:Int) (ex:Int) (n1:Nat),I l n atx ex n1->
 ∃(J:Bool->Prop),
 (cond (ex==0)
 (Dm toks atx (fun x2=>
 J (x2.kind !=0)))
 (J false))/\
 ∀(x1:Bool),J x1->
 cond (x1)
 (Sq toks atx (fun x3=>
 Da (⟨l,n,atx,ex⟩:Aj) x3 (fun x4=>
 ∃n2,n2<n1/\I x4.l x4.n x4.at_ x4.e_ n2)))
 (cond (ex !=0)
 (K (⟨[],atx,ex⟩:As))
 (A2 (⟨l,n,atx,ex⟩:Aj) (⟨42,[],0,0,0⟩:Ai) (fun x5=>
 K (⟨x5.l,0,0⟩:As)))))
theorem Abp (toks:List Au) (K:As->Prop) (h:Ae1 toks K):Om toks K:=by
 intro m w hm Awv Aww Aws Awt
 have o:=Mem.start hm.lt
 refine Ahi Awv toks.length Aww _ _ ?_
 intro b w1 hb hw1
 obtain⟨st,o⟩:=o.dB hb hw1
 refine Aa (h _ w1 (o.mn hm)) ?_
 rintro _ w2 ⟨x,h,⟨cs,rfl,f⟩,ke⟩
 obtain⟨st1,o⟩:=o.dE ke
 obtain⟨a,c,rfl,⟨le,f1⟩⟩:=Ah f
 refine⟨_,_,_,_,_,_,rfl,?_⟩
 intro b1 w3 hb1 hw3
 obtain⟨st2,o⟩:=o.dB hb1 hw3
 refine⟨o.wr 0 rfl rfl,fun w4 hw4=> ?_⟩
 obtain⟨st3,o⟩:=o.dSs 0 hw4 rfl
 obtain⟨I,⟨n3,h⟩,h2⟩:=h
 obtain⟨Z,hZ⟩:∃Z:World->Nat->Prop,Z=fun w5 n1=>∃(l:List Ai) (n:Int) (atx:Int) (ex:Int) (a1:Option Addr) (c1:Nat),I l n atx ex n1/\(l.length<=c1/\SlR Ay (ms [.box b1 [.slice a1 l.length c1,.q n,.q atx,.q ex],.box b [.slice none 0 0,.q 0,.q 0]] m) w5 a1 l)/\MS w m w4 [.box b1 [.slice a x.l.length c,.q x.n,.q x.at_,.q x.e_],.box b [.slice none 0 0,.q 0,.q 0]] w5 [.box b1 [.slice a1 l.length c1,.q n,.q atx,.q ex],.box b [.slice none 0 0,.q 0,.q 0]]:=⟨_,rfl⟩
 refine⟨fun w5=>∃n1,Z w5 n1,fun w5=>Aw0 (Z w5),⟨n3,?_⟩,?_⟩
 rw [hZ];exact⟨x.l,x.n,x.at_,x.e_,a,c,h,⟨le,(f1.st (st2.trans st3))⟩,o,Step.refl _ _⟩
 intro _ w5 hIZ
 obtain⟨n1,Az0⟩:∃n1,n1=Aw0 (Z w5):=⟨_,rfl⟩
 have hIZ:=Bz hIZ
 rw [←Az0,hZ]at hIZ
 obtain⟨l,n,atx,ex,a1,c1,h,⟨le1,f2⟩,o,st4⟩:=hIZ
 have h:=h2 l n atx ex n1 h
 obtain⟨J,h,h2⟩:=h
 refine⟨fun x1 w6=>J x1/\MT w m w5 w6 [.box b1 [.slice a1 l.length c1,.q n,.q atx,.q ex],.box b [.slice none 0 0,.q 0,.q 0]],?_,?_⟩
 refine⟨_,(o.at 0 rfl).cell rfl,?_⟩
 refine Ac (fun h=> ?_) (fun h=> ?_) h
 refine⟨_,(o.at 0 rfl).cell rfl,?_⟩
 have sT:=(((st.trans st1).trans st2).trans st3).trans st4
 refine Aa (h _ w5 (o.mn hm) _ _ Aws (Awt.st sT)) ?_
 rintro _ w7 ⟨x2,h,⟨cs1,rfl,f3⟩,ke1⟩
 obtain⟨st6,o⟩:=o.dE ke1
 obtain rfl:=Dj f3
 refine⟨_,_,_,_,rfl,?_⟩
 exact⟨h,o,st6⟩
 exact⟨h,o,Step.refl _ _⟩
 rintro _ x1 w6 ⟨hJ,o,st5⟩
 have h:=h2 x1 hJ
 refine Ac (fun h=> ?_) (fun h=> ?_) h
 intro w8 hw8
 obtain⟨st7,o⟩:=o.dD hw8
 have ox:=o
 refine⟨fun u=>An [] w8 u,An.refl _ _,?_⟩
 refine⟨_,_,_,_,_,_,fun u hu=>((ox.at 0 rfl).Awz hu (by simp)).whole,?_⟩
 refine⟨_,fun u hu=>((ox.at 0 rfl).Awz hu (by simp)).cell rfl,?_⟩
 have sT1:=(((((st.trans st1).trans st2).trans st3).trans st4).trans st5).trans st7
 refine Aa (h _ w8 (o.mn hm) _ _ Aws (Awt.st sT1)) ?_
 rintro _ w9 ⟨x3,h,⟨cs2,rfl,f4⟩,ke2⟩
 obtain⟨st8,o⟩:=o.dE ke2
 obtain⟨a2,c2,rfl,⟨le2,f5⟩⟩:=Ah f4
 refine⟨_,_,_,_,_,_,rfl,?_⟩
 refine⟨(ke2.mono (by simp)),?_⟩
 have sT2:=(st5.trans st7).trans st8
 refine Aa (h _ w9 (o.mn hm) _ (Ag (⟨l,n,atx,ex⟩:Aj) ⟨le1,(f2.st sT2)⟩) _ (Ag x3 ⟨le2,f5⟩)) ?_
 rintro _ w10 ⟨x4,h,⟨cs3,rfl,f6⟩,ke3⟩
 obtain⟨st9,o⟩:=o.dE ke3
 obtain⟨a3,c3,rfl,⟨le3,f7⟩⟩:=Ah f6
 refine⟨_,_,_,_,_,_,rfl,?_⟩
 refine⟨o.wr 0 rfl rfl,fun w11 Azc=> ?_⟩
 obtain⟨Aw6,o⟩:=o.dSs 0 Azc rfl
 obtain⟨n2,hl,h⟩:=h
 have sT3:=((((st4.trans st5).trans st7).trans st8).trans st9).trans Aw6
 exact Bh Az0 (show Z w11 n2 from(by rw [hZ];exact⟨x4.l,x4.n,x4.at_,x4.e_,a3,c3,h,⟨le3,(f7.st Aw6)⟩,o,sT3⟩)) hl
 refine⟨_,(o.at 0 rfl).cell rfl,?_⟩
 refine Ac (fun h=> ?_) (fun h=> ?_) h
 refine⟨_,(o.at 0 rfl).cell rfl,?_⟩
 refine⟨_,(o.at 0 rfl).cell rfl,?_⟩
 refine⟨o.wr 1 rfl rfl,fun w12 Ay4=> ?_⟩
 obtain⟨Aw8,o⟩:=o.dSs 1 Ay4 rfl
 refine⟨_,_,_,_,_,(o.at 1 rfl).whole,?_⟩
 exact⟨(⟨[],atx,ex⟩:As),h,⟨_,rfl,(B0 (⟨[],atx,ex⟩:As) ⟨(Nat.le_refl _),(SlR.nil _ _ _ _)⟩)⟩,o.done⟩
 refine⟨_,_,_,_,_,_,(o.at 0 rfl).whole,?_⟩
 refine Aa (h _ w6 (o.mn hm) _ (Ag (⟨l,n,atx,ex⟩:Aj) ⟨le1,(f2.st st5)⟩) _ (A3 (⟨42,[],0,0,0⟩:Ai))) ?_
 rintro _ w13 ⟨x5,h,⟨cs4,rfl,f8⟩,ke4⟩
 obtain⟨Axd,o⟩:=o.dE ke4
 obtain⟨a4,c4,rfl,⟨le4,f9⟩⟩:=Ah f8
 refine⟨_,_,_,_,_,_,rfl,?_⟩
 refine⟨o.wr 1 rfl rfl,fun w14 Bag=> ?_⟩
 obtain⟨Axb,o⟩:=o.dSs 1 Bag rfl
 refine⟨_,_,_,_,_,(o.at 1 rfl).whole,?_⟩
 exact⟨(⟨x5.l,0,0⟩:As),h,⟨_,rfl,(B0 (⟨x5.l,0,0⟩:As) ⟨le4,(f9.st (Axb.trans Mem.Aw9))⟩)⟩,o.done⟩
def Ae2 (sx:List UInt8) (K:As->Prop):Prop:=
 Vf sx (fun x=>
 cond (x.e_ !=0)
 (K (⟨[],x.at_,x.e_⟩:As))
 (Om x.l (fun x1=>
 ∃(J:(List Ai)->Int->Int->Prop),
 (cond (x1.e_ !=0)
 (((0:Int)<=(if(IntKind.i64.wrap ((x.l.length:Int)-1))<x1.at_ then IntKind.i64.wrap ((x.l.length:Int)-1)else x1.at_)/\(if(IntKind.i64.wrap ((x.l.length:Int)-1))<x1.at_ then IntKind.i64.wrap ((x.l.length:Int)-1)else x1.at_)<(x.l.length:Int))/\
 ∀x2,x.l[(if(IntKind.i64.wrap ((x.l.length:Int)-1))<x1.at_ then IntKind.i64.wrap ((x.l.length:Int)-1)else x1.at_).toNat]? =some x2->
 J x1.l x2.at_ x1.e_)
 (J x1.l x1.at_ x1.e_))/\
 ∀(L:List Ai) (At:Int) (E:Int),J L At E->
 K (⟨L,At,E⟩:As))))
theorem Abq (sx:List UInt8) (K:As->Prop) (h:Ae2 sx K):On sx K:=by
 intro m w hm
 have o:=Mem.start hm.lt
 refine Ahk sx _ _ ?_
 intro b w1 hb hw1
 obtain⟨st,o⟩:=o.dB hb hw1
 refine Aa (h _ w1 (o.mn hm)) ?_
 rintro _ w2 ⟨x,h,⟨cs,rfl,f⟩,ke⟩
 obtain⟨st1,o⟩:=o.dE ke
 obtain⟨a,c,rfl,⟨le,f1⟩⟩:=Aa2 f
 refine⟨_,_,_,_,_,rfl,?_⟩
 intro b1 w3 hb1 hw3
 obtain⟨st2,o⟩:=o.dB hb1 hw3
 refine⟨o.wr 0 rfl rfl,fun w4 hw4=> ?_⟩
 obtain⟨st3,o⟩:=o.dSs 0 hw4 rfl
 refine⟨_,(o.at 0 rfl).cell rfl,?_⟩
 refine Ac (fun h=> ?_) (fun h=> ?_) h
 refine⟨_,(o.at 0 rfl).cell rfl,?_⟩
 refine⟨_,(o.at 0 rfl).cell rfl,?_⟩
 refine⟨o.wr 1 rfl rfl,fun w5 hw5=> ?_⟩
 obtain⟨st4,o⟩:=o.dSs 1 hw5 rfl
 refine⟨_,_,_,_,_,(o.at 1 rfl).whole,?_⟩
 exact⟨(⟨[],x.at_,x.e_⟩:As),h,⟨_,rfl,(B0 (⟨[],x.at_,x.e_⟩:As) ⟨(Nat.le_refl _),(SlR.nil _ _ _ _)⟩)⟩,o.done⟩
 refine⟨_,_,_,(o.at 0 rfl).cell rfl,?_⟩
 refine Aa (h _ w4 (o.mn hm) _ _ le (f1.st (st2.trans st3))) ?_
 rintro _ w6 ⟨x1,h,⟨cs1,rfl,f2⟩,ke1⟩
 obtain⟨st5,o⟩:=o.dE ke1
 obtain⟨a1,c1,rfl,⟨le1,f3⟩⟩:=D2 f2
 refine⟨_,_,_,_,_,rfl,?_⟩
 intro b2 w7 hb2 hw7
 obtain⟨st6,o⟩:=o.dB hb2 hw7
 refine⟨o.wr 0 rfl rfl,fun w8 hw8=> ?_⟩
 obtain⟨st7,o⟩:=o.dSs 0 hw8 rfl
 obtain⟨J,h,h2⟩:=h
 refine⟨fun w9=>∃(L:List Ai) (At:Int) (E:Int) (a2:Option Addr) (c2:Nat),J L At E/\(L.length<=c2/\SlR Ay (ms [.box b2 [.slice a2 L.length c2,.q At,.q E],.box b1 [.slice a x.l.length c,.q x.at_,.q x.e_],.box b [.slice none 0 0,.q 0,.q 0]] m) w9 a2 L)/\MS w m w8 [.box b2 [.slice a1 x1.l.length c1,.q x1.at_,.q x1.e_],.box b1 [.slice a x.l.length c,.q x.at_,.q x.e_],.box b [.slice none 0 0,.q 0,.q 0]] w9 [.box b2 [.slice a2 L.length c2,.q At,.q E],.box b1 [.slice a x.l.length c,.q x.at_,.q x.e_],.box b [.slice none 0 0,.q 0,.q 0]],?_,?_⟩
 refine⟨_,(o.at 0 rfl).cell rfl,?_⟩
 refine Ac (fun h=> ?_) (fun h=> ?_) h
 refine⟨_,_,_,(o.at 1 rfl).cell rfl,?_⟩
 refine⟨_,(o.at 0 rfl).cell rfl,?_⟩
 refine⟨_,_,_,(o.at 1 rfl).cell rfl,?_⟩
 obtain⟨hi,h⟩:=h
 have sT:=(((st2.trans st3).trans st5).trans st6).trans st7
 obtain⟨p,x2,cs2,hp,he,hc,hr⟩:=(f1.st sT).elem hi
 obtain rfl:=Dj hr
 have h:=h x2 he
 refine⟨hi,Ap hp ?_⟩
 refine⟨_,hc.2 3 (Nat.le_of_ble_eq_true rfl),?_⟩
 refine⟨o.wr 0 rfl rfl,fun w10 Bah=> ?_⟩
 obtain⟨st9,o⟩:=o.dS 0 Bah rfl
 have sT1:=(st6.trans st7).trans st9
 exact⟨x1.l,x2.at_,x1.e_,a1,c1,h,⟨le1,(f3.st sT1)⟩,o,st9⟩
 exact⟨x1.l,x1.at_,x1.e_,a1,c1,h,⟨le1,(f3.st (st6.trans st7))⟩,o,Step.refl _ _⟩
 rintro _ w9 ⟨L,At,E,a2,c2,hJ,⟨le2,f4⟩,o,st8⟩
 have h:=h2 L At E hJ
 refine⟨_,_,_,_,_,(o.at 0 rfl).whole,?_⟩
 refine⟨o.wr 2 rfl rfl,fun w11 Azc=> ?_⟩
 obtain⟨Aw6,o⟩:=o.dSs 2 Azc rfl
 refine⟨_,_,_,_,_,(o.at 2 rfl).whole,?_⟩
 exact⟨(⟨L,At,E⟩:As),h,⟨_,rfl,(B0 (⟨L,At,E⟩:As) ⟨le2,(f4.st (Aw6.trans Mem.Aw9))⟩)⟩,o.done⟩
def Xu (cq:Aj) (toks:List Au) (sx:List UInt8) (K:Aj->Prop):Prop:=
 ∃(J:(List Ai)->Int->Int->Int->Prop),
 (∃(J1:Bool->Prop),
 (cond (cq.e_==0)
 (Cn toks cq.at_ sx (fun x1=>
 J1 (!x1)))
 (J1 false))/\
 ∀(x:Bool),J1 x->
 cond (x)
 (J cq.l cq.n cq.at_ 11)
 (J cq.l cq.n cq.at_ cq.e_))/\
 ∀(l:List Ai) (n:Int) (atx:Int) (ex:Int),J l n atx ex->
 ∃(J2:(List Ai)->Int->Int->Int->Prop),
 (cond (ex==0)
 (J2 l n (IntKind.i64.wrap (atx+1)) ex)
 (J2 l n atx ex))/\
 ∀(l1:List Ai) (n1:Int) (Awx:Int) (ex1:Int),J2 l1 n1 Awx ex1->
 K (⟨l1,n1,Awx,ex1⟩:Aj)
theorem Vl (cq:Aj) (toks:List Au) (sx:List UInt8) (K:Aj->Prop) (h:Xu cq toks sx K):Ak cq toks sx K:=by
 intro m w hm Axm Ayv Awv Aww Aws Awt
 obtain⟨a,c,rfl,⟨le,f⟩⟩:=Ah Ayv
 have o:=Mem.start hm.lt
 refine Y3 _ _ _ _ _ _ Awv toks.length Aww sx _ _ ?_
 intro b w1 hb hw1
 obtain⟨st,o⟩:=o.dB hb hw1
 intro b1 w2 hb1 hw2
 obtain⟨st1,o⟩:=o.dB hb1 hw2
 obtain⟨J,h,h2⟩:=h
 refine⟨fun w3=>∃(l:List Ai) (n:Int) (atx:Int) (ex:Int) (a1:Option Addr) (c1:Nat),J l n atx ex/\(l.length<=c1/\SlR Ay (ms [.box b1 [.slice none 0 0,.q 0,.q 0,.q 0],.box b [.slice a1 l.length c1,.q n,.q atx,.q ex]] m) w3 a1 l)/\MS w m w2 [.box b1 [.slice none 0 0,.q 0,.q 0,.q 0],.box b [.slice a cq.l.length c,.q cq.n,.q cq.at_,.q cq.e_]] w3 [.box b1 [.slice none 0 0,.q 0,.q 0,.q 0],.box b [.slice a1 l.length c1,.q n,.q atx,.q ex]],?_,?_⟩
 obtain⟨J1,h,h2⟩:=h
 refine⟨fun x w4=>J1 x/\MT w m w2 w4 [.box b1 [.slice none 0 0,.q 0,.q 0,.q 0],.box b [.slice a cq.l.length c,.q cq.n,.q cq.at_,.q cq.e_]],?_,?_⟩
 refine⟨_,(o.at 1 rfl).cell rfl,?_⟩
 refine Ac (fun h=> ?_) (fun h=> ?_) h
 refine⟨_,(o.at 1 rfl).cell rfl,?_⟩
 refine Aa (h _ w2 (o.mn hm) _ _ Aws (Awt.st (st.trans st1))) ?_
 rintro _ w5 ⟨x1,h,rfl,ke⟩
 obtain⟨st4,o⟩:=o.dE ke
 refine⟨_,rfl,?_⟩
 exact⟨h,o,st4⟩
 exact⟨h,o,Step.refl _ _⟩
 rintro _ x w4 ⟨hJ,o,st3⟩
 have h:=h2 x hJ
 refine Ac (fun h=> ?_) (fun h=> ?_) h
 refine⟨o.wr 1 rfl rfl,fun w6 hw6=> ?_⟩
 obtain⟨st5,o⟩:=o.dS 1 hw6 rfl
 have sT:=((st.trans st1).trans st3).trans st5
 exact⟨cq.l,cq.n,cq.at_,11,a,c,h,⟨le,(f.st sT)⟩,o,(st3.trans st5)⟩
 have sT1:=(st.trans st1).trans st3
 exact⟨cq.l,cq.n,cq.at_,cq.e_,a,c,h,⟨le,(f.st sT1)⟩,o,st3⟩
 rintro _ w3 ⟨l,n,atx,ex,a1,c1,hJ,⟨le1,f1⟩,o,st2⟩
 have h:=h2 l n atx ex hJ
 obtain⟨J2,h,h2⟩:=h
 refine⟨fun w7=>∃(l1:List Ai) (n1:Int) (Awx:Int) (ex1:Int) (a2:Option Addr) (c2:Nat),J2 l1 n1 Awx ex1/\(l1.length<=c2/\SlR Ay (ms [.box b1 [.slice none 0 0,.q 0,.q 0,.q 0],.box b [.slice a2 l1.length c2,.q n1,.q Awx,.q ex1]] m) w7 a2 l1)/\MS w m w3 [.box b1 [.slice none 0 0,.q 0,.q 0,.q 0],.box b [.slice a1 l.length c1,.q n,.q atx,.q ex]] w7 [.box b1 [.slice none 0 0,.q 0,.q 0,.q 0],.box b [.slice a2 l1.length c2,.q n1,.q Awx,.q ex1]],?_,?_⟩
 refine⟨_,(o.at 1 rfl).cell rfl,?_⟩
 refine Ac (fun h=> ?_) (fun h=> ?_) h
 refine⟨_,(o.at 1 rfl).cell rfl,?_⟩
 refine⟨o.wr 1 rfl rfl,fun w8 hw8=> ?_⟩
 obtain⟨st7,o⟩:=o.dS 1 hw8 rfl
 exact⟨l,n,(IntKind.i64.wrap (atx+1)),ex,a1,c1,h,⟨le1,(f1.st st7)⟩,o,st7⟩
 exact⟨l,n,atx,ex,a1,c1,h,⟨le1,f1⟩,o,Step.refl _ _⟩
 rintro _ w7 ⟨l1,n1,Awx,ex1,a2,c2,hJ,⟨le2,f2⟩,o,st6⟩
 have h:=h2 l1 n1 Awx ex1 hJ
 refine⟨_,_,_,_,_,_,(o.at 1 rfl).whole,?_⟩
 refine⟨o.wr 0 rfl rfl,fun w9 hw9=> ?_⟩
 obtain⟨st8,o⟩:=o.dSs 0 hw9 rfl
 refine⟨_,_,_,_,_,_,(o.at 0 rfl).whole,?_⟩
 exact⟨(⟨l1,n1,Awx,ex1⟩:Aj),h,⟨_,rfl,(Ag (⟨l1,n1,Awx,ex1⟩:Aj) ⟨le2,(f2.st (st8.trans Mem.Aw9))⟩)⟩,o.done⟩
def Xv (cq:Aj) (d:Aj) (K:Aj->Prop):Prop:=
 cond (cq.e_ !=0)
 (K cq)
 (0+cq.l.length<2^32/\
 cq.l.length+d.l.length<2^32/\
 K (⟨(cq.l++d.l),IntKind.i64.wrap (cq.n+1),d.at_,d.e_⟩:Aj))
theorem Vm (cq:Aj) (d:Aj) (K:Aj->Prop) (h:Xv cq d K):Da cq d K:=by
 intro m w hm Axm Ayv dcs f_d
 obtain⟨a,c,rfl,⟨le,f⟩⟩:=Ah Ayv
 obtain⟨a1,c1,rfl,⟨le1,f1⟩⟩:=Ah f_d
 have o:=Mem.start hm.lt
 refine Y5 _ _ _ _ _ _ _ _ _ _ _ _ _ _ ?_
 intro b w1 hb hw1
 obtain⟨st,o⟩:=o.dB hb hw1
 intro b1 w2 hb1 hw2
 obtain⟨st1,o⟩:=o.dB hb1 hw2
 intro b2 w3 hb2 hw3
 obtain⟨st2,o⟩:=o.dB hb2 hw3
 refine⟨_,(o.at 2 rfl).cell rfl,?_⟩
 refine Ac (fun h=> ?_) (fun h=> ?_) h
 refine⟨_,_,_,_,_,_,(o.at 2 rfl).whole,?_⟩
 refine⟨o.wr 0 rfl rfl,fun w4 hw4=> ?_⟩
 obtain⟨st3,o⟩:=o.dSs 0 hw4 rfl
 refine⟨_,_,_,_,_,_,(o.at 0 rfl).whole,?_⟩
 exact⟨cq,h,⟨_,rfl,(Ag cq ⟨le,(f.st (st.trans (st1.trans (st2.trans (st3.trans Mem.Aw9)))))⟩)⟩,o.done⟩
 intro w5 hw5
 obtain⟨st4,o⟩:=o.dD hw5
 have ox:=o
 refine⟨fun u=>An [] w5 u,An.refl _ _,?_⟩
 refine⟨_,_,_,fun u hu=>((ox.at 2 rfl).Awz hu (by simp)).cell rfl,?_⟩
 refine⟨_,_,_,fun u hu=>((ox.at 1 rfl).Awz hu (by simp)).cell rfl,?_⟩
 refine⟨_,fun u hu=>((ox.at 2 rfl).Awz hu (by simp)).cell rfl,?_⟩
 refine⟨_,fun u hu=>((ox.at 1 rfl).Awz hu (by simp)).cell rfl,?_⟩
 refine⟨_,fun u hu=>((ox.at 1 rfl).Awz hu (by simp)).cell rfl,?_⟩
 intro b3 w6 hb3 hw6
 have el:El Ay (ms [.box b2 [.slice none 0 0,.q 0,.q 0,.q 0],.box b1 [.slice a1 d.l.length c1,.q d.n,.q d.at_,.q d.e_],.box b [.slice a cq.l.length c,.q cq.n,.q cq.at_,.q cq.e_]] m) w5 [] ([]:List Value):=(El.nil _ _ _)
 have st5:=o.xL hb3 hw6 5 0
 have o:=o.lit hb3 hw6 5 0 (by decide) rfl
 refine⟨((Bk hw6).mono (by simp)),?_⟩
 obtain⟨lt,h⟩:=h
 have sT:=(((st.trans st1).trans st2).trans st4).trans st5
 obtain⟨xs,hx,el1⟩:=SlR.cells (f.st sT)
 have el2:=((el.st st5)).app el1
 refine Eu Ach (o.rowAt 0 rfl) hx el1.len el1.one (by first|(simp;done)|simpa using lt) (by decide) (Nat.zero_le _) fun a2 c2 w7 hr hg hat=> ?_
 have ln:0+cq.l.length=cq.l.length:=(by first|(simp;done)|(simp;omega))
 rw [ln]at hr⊢
 refine⟨_,_,_,rfl,?_⟩
 have st6:=o.xA 0 rfl hr hg hat
 have o:=o.app 0 rfl hr hg hat
 refine⟨(Nn ((Bk hw6).mono (by simp)) hg (Q4 hb3 (An.refl _ _))),?_⟩
 obtain⟨lt1,h⟩:=h
 have sT1:=sT.trans st6
 obtain⟨xs1,hx1,el3⟩:=SlR.cells (f1.st sT1)
 have el4:=((el2.st st6)).app el3
 refine Eu Ach (o.rowAt 0 rfl) hx1 el3.len el3.one (by first|(simp;done)|simpa using lt1) (by decide) (Nat.zero_le _) fun a3 c3 w8 hr1 hg1 Bdx=> ?_
 have ln1:cq.l.length+d.l.length=(cq.l++d.l).length:=(by first|(simp;done)|(simp;omega))
 rw [ln1]at hr1⊢
 refine⟨_,_,_,rfl,?_⟩
 have st7:=o.xA 0 rfl hr1 hg1 Bdx
 have o:=o.app 0 rfl hr1 hg1 Bdx
 refine⟨(Nn (Nn ((Bk hw6).mono (by simp)) hg (Q4 hb3 (An.refl _ _))) hg1 (Amq (Q4 hb3 (An.refl _ _)) hat ((Bk hw6).mono (by simp)))),?_⟩
 refine⟨o.wr 1 rfl rfl,fun w9 hw9=> ?_⟩
 obtain⟨st8,o⟩:=o.dSs 1 hw9 rfl
 refine⟨_,_,_,_,_,_,(o.at 1 rfl).whole,?_⟩
 have le2:=(o.rowAt 0 rfl).cap
 have st9:=o.xX 0
 have sT2:=(st7.trans st8).trans st9
 have f2:=o.freeze (c:=Ay) (l:=(cq.l++d.l)) 0 rfl (fun b hb=>by simp at hb) (el4.st sT2)
 have o:=o.erase 0
 exact⟨(⟨(cq.l++d.l),IntKind.i64.wrap (cq.n+1),d.at_,d.e_⟩:Aj),h,⟨_,rfl,(Ag (⟨(cq.l++d.l),IntKind.i64.wrap (cq.n+1),d.at_,d.e_⟩:Aj) ⟨le2,(f2.st Mem.Aw9)⟩)⟩,o.done⟩
def Ub (cq:Aj) (xq:Ai) (K:Aj->Prop):Prop:=
 [(⟨xq.op,xq.name,xq.n,cq.n,xq.at_⟩:Ai)].length+cq.l.length<2^32/\
 K (⟨([(⟨xq.op,xq.name,xq.n,cq.n,xq.at_⟩:Ai)]++cq.l),1,cq.at_,cq.e_⟩:Aj)
theorem Su (cq:Aj) (xq:Ai) (K:Aj->Prop) (h:Ub cq xq K):A2 cq xq K:=by
 intro m w hm Axm Ayv Axq Ayu
 obtain⟨a,c,rfl,⟨le,f⟩⟩:=Ah Ayv
 obtain rfl:=Bg Ayu
 have o:=Mem.start hm.lt
 refine U7 _ _ _ _ _ _ _ _ _ _ _ _ _ ?_
 intro b w1 hb hw1
 obtain⟨st,o⟩:=o.dB hb hw1
 intro b1 w2 hb1 hw2
 obtain⟨st1,o⟩:=o.dB hb1 hw2
 intro b2 w3 hb2 hw3
 obtain⟨st2,o⟩:=o.dB hb2 hw3
 refine⟨_,(o.at 2 rfl).cell rfl,?_⟩
 refine⟨o.wr 1 rfl rfl,fun w4 hw4=> ?_⟩
 obtain⟨st3,o⟩:=o.dS 1 hw4 rfl
 refine⟨_,_,_,_,_,(o.at 1 rfl).whole,?_⟩
 intro b3 w5 hb3 hw5
 have el:El Ay (ms [.box b2 [.slice none 0 0,.q 0,.q 0,.q 0],.box b1 [.q xq.op,.s xq.name,.q xq.n,.q cq.n,.q xq.at_],.box b [.slice a cq.l.length c,.q cq.n,.q cq.at_,.q cq.e_]] m) w4 [(⟨xq.op,xq.name,xq.n,cq.n,xq.at_⟩:Ai)] ([.q xq.op,.s xq.name,.q xq.n,.q cq.n,.q xq.at_]:List Value):=(El.cons (cs:=[.q xq.op,.s xq.name,.q xq.n,.q cq.n,.q xq.at_]) (A3 (⟨xq.op,xq.name,xq.n,cq.n,xq.at_⟩:Ai)) (El.nil _ _ _))
 have st4:=o.xL hb3 hw5 5 1
 have o:=o.lit hb3 hw5 5 1 (by decide) rfl
 refine⟨_,_,_,(o.at 3 rfl).cell rfl,?_⟩
 obtain⟨lt,h⟩:=h
 have sT:=(((st.trans st1).trans st2).trans st3).trans st4
 obtain⟨xs,hx,el1⟩:=SlR.cells (f.st sT)
 have el2:=((el.st st4)).app el1
 refine Eu Ach (o.rowAt 0 rfl) hx el1.len el1.one (by first|(simp;done)|simpa using lt) (by decide) (Nat.zero_le _) fun a1 c1 w6 hr hg hat=> ?_
 have ln:1+cq.l.length=([(⟨xq.op,xq.name,xq.n,cq.n,xq.at_⟩:Ai)]++cq.l).length:=(by first|(simp;done)|(simp;omega))
 rw [ln]at hr⊢
 refine⟨_,_,_,rfl,?_⟩
 have st5:=o.xA 0 rfl hr hg hat
 have o:=o.app 0 rfl hr hg hat
 refine⟨o.wr 3 rfl rfl,fun w7 hw7=> ?_⟩
 obtain⟨st6,o⟩:=o.dS 3 hw7 rfl
 refine⟨o.wr 3 rfl rfl,fun w8 hw8=> ?_⟩
 obtain⟨st7,o⟩:=o.dS 3 hw8 rfl
 refine⟨_,_,_,_,_,_,(o.at 3 rfl).whole,?_⟩
 refine⟨o.wr 1 rfl rfl,fun w9 hw9=> ?_⟩
 obtain⟨st8,o⟩:=o.dSs 1 hw9 rfl
 refine⟨_,_,_,_,_,_,(o.at 1 rfl).whole,?_⟩
 have le1:=(o.rowAt 0 rfl).cap
 have st9:=o.xX 0
 have sT1:=(((st5.trans st6).trans st7).trans st8).trans st9
 have f1:=o.freeze (c:=Ay) (l:=([(⟨xq.op,xq.name,xq.n,cq.n,xq.at_⟩:Ai)]++cq.l)) 0 rfl (fun b hb=>by simp at hb) (el2.st sT1)
 have o:=o.erase 0
 exact⟨(⟨([(⟨xq.op,xq.name,xq.n,cq.n,xq.at_⟩:Ai)]++cq.l),1,cq.at_,cq.e_⟩:Aj),h,⟨_,rfl,(Ag (⟨([(⟨xq.op,xq.name,xq.n,cq.n,xq.at_⟩:Ai)]++cq.l),1,cq.at_,cq.e_⟩:Aj) ⟨le1,(f1.st Mem.Aw9)⟩)⟩,o.done⟩
def Vn (cq:Aj) (toks:List Au) (K:Aj->Prop):Prop:=
 cond (cq.e_ !=0)
 (K cq)
 (Mp toks cq.at_ (fun x=>
 Da cq (⟨x.l,0,x.at_,x.e_⟩:Aj) (fun x1=>
 K x1)))
theorem Uc (cq:Aj) (toks:List Au) (K:Aj->Prop) (h:Vn cq toks K):Bp cq toks K:=by
 intro m w hm Axm Ayv Awv Aww Aws Awt
 obtain⟨a,c,rfl,⟨le,f⟩⟩:=Ah Ayv
 have o:=Mem.start hm.lt
 refine W6 _ _ _ _ _ _ Awv toks.length Aww _ _ ?_
 intro b w1 hb hw1
 obtain⟨st,o⟩:=o.dB hb hw1
 intro b1 w2 hb1 hw2
 obtain⟨st1,o⟩:=o.dB hb1 hw2
 refine⟨_,(o.at 1 rfl).cell rfl,?_⟩
 refine Ac (fun h=> ?_) (fun h=> ?_) h
 refine⟨_,_,_,_,_,_,(o.at 1 rfl).whole,?_⟩
 refine⟨o.wr 0 rfl rfl,fun w3 hw3=> ?_⟩
 obtain⟨st2,o⟩:=o.dSs 0 hw3 rfl
 refine⟨_,_,_,_,_,_,(o.at 0 rfl).whole,?_⟩
 exact⟨cq,h,⟨_,rfl,(Ag cq ⟨le,(f.st (st.trans (st1.trans (st2.trans Mem.Aw9))))⟩)⟩,o.done⟩
 refine⟨_,(o.at 1 rfl).cell rfl,?_⟩
 refine Aa (h _ w2 (o.mn hm) _ _ Aws (Awt.st (st.trans st1))) ?_
 rintro _ w4 ⟨x,h,⟨cs,rfl,f1⟩,ke⟩
 obtain⟨st3,o⟩:=o.dE ke
 obtain⟨a1,c1,rfl,⟨le1,f2⟩⟩:=D2 f1
 refine⟨_,_,_,_,_,rfl,?_⟩
 intro b2 w5 hb2 hw5
 obtain⟨st4,o⟩:=o.dB hb2 hw5
 refine⟨o.wr 0 rfl rfl,fun w6 hw6=> ?_⟩
 obtain⟨st5,o⟩:=o.dSs 0 hw6 rfl
 refine⟨_,_,_,_,_,_,(o.at 2 rfl).whole,?_⟩
 refine⟨_,_,_,(o.at 0 rfl).cell rfl,?_⟩
 refine⟨_,(o.at 0 rfl).cell rfl,?_⟩
 refine⟨_,(o.at 0 rfl).cell rfl,?_⟩
 have sT:=(((st.trans st1).trans st3).trans st4).trans st5
 refine Aa (h _ w6 (o.mn hm) _ (Ag cq ⟨le,(f.st sT)⟩) _ (Ag (⟨x.l,0,x.at_,x.e_⟩:Aj) ⟨le1,(f2.st (st4.trans st5))⟩)) ?_
 rintro _ w7 ⟨x1,h,⟨cs1,rfl,f3⟩,ke1⟩
 obtain⟨st6,o⟩:=o.dE ke1
 obtain⟨a2,c2,rfl,⟨le2,f4⟩⟩:=Ah f3
 refine⟨_,_,_,_,_,_,rfl,?_⟩
 refine⟨o.wr 1 rfl rfl,fun w8 hw8=> ?_⟩
 obtain⟨st7,o⟩:=o.dSs 1 hw8 rfl
 refine⟨_,_,_,_,_,_,(o.at 1 rfl).whole,?_⟩
 exact⟨x1,h,⟨_,rfl,(Ag x1 ⟨le2,(f4.st (st7.trans Mem.Aw9))⟩)⟩,o.done⟩
def Vo (cq:Aj) (toks:List Au) (K:Aj->(List UInt8)->Prop):Prop:=
 Dm toks cq.at_ (fun x=>
 ∃(J:(List Ai)->Int->Int->Int->Prop),
 (∃(J1:Bool->Prop),
 (cond (cq.e_==0)
 (J1 (x.kind !=1))
 (J1 false))/\
 ∀(x1:Bool),J1 x1->
 cond (x1)
 (J cq.l cq.n cq.at_ 11)
 (J cq.l cq.n cq.at_ cq.e_))/\
 ∀(l:List Ai) (n:Int) (atx:Int) (ex:Int),J l n atx ex->
 cond (ex !=0)
 (K (⟨l,n,atx,ex⟩:Aj) [])
 (K (⟨l,n,IntKind.i64.wrap (atx+1),ex⟩:Aj) x.text))
theorem Ud (cq:Aj) (toks:List Au) (K:Aj->(List UInt8)->Prop) (h:Vo cq toks K):C9 cq toks K:=by
 intro m w hm Axm Ayv Awv Aww Aws Awt
 obtain⟨a,c,rfl,⟨le,f⟩⟩:=Ah Ayv
 have o:=Mem.start hm.lt
 refine W8 _ _ _ _ _ _ Awv toks.length Aww _ _ ?_
 intro b w1 hb hw1
 obtain⟨st,o⟩:=o.dB hb hw1
 intro b1 w2 hb1 hw2
 obtain⟨st1,o⟩:=o.dB hb1 hw2
 refine⟨_,(o.at 1 rfl).cell rfl,?_⟩
 refine Aa (h _ w2 (o.mn hm) _ _ Aws (Awt.st (st.trans st1))) ?_
 rintro _ w3 ⟨x,h,⟨cs,rfl,f1⟩,ke⟩
 obtain⟨st2,o⟩:=o.dE ke
 obtain rfl:=Dj f1
 refine⟨_,_,_,_,rfl,?_⟩
 intro b2 w4 hb2 hw4
 obtain⟨st3,o⟩:=o.dB hb2 hw4
 refine⟨o.wr 0 rfl rfl,fun w5 hw5=> ?_⟩
 obtain⟨st4,o⟩:=o.dSs 0 hw5 rfl
 obtain⟨J,h,h2⟩:=h
 refine⟨fun w6=>∃(l:List Ai) (n:Int) (atx:Int) (ex:Int) (a1:Option Addr) (c1:Nat),J l n atx ex/\(l.length<=c1/\SlR Ay (ms [.box b2 [.q x.kind,.s x.text,.q x.n,.q x.at_],.box b1 [.slice none 0 0,.q 0,.q 0,.q 0],.box b [.slice a1 l.length c1,.q n,.q atx,.q ex]] m) w6 a1 l)/\MS w m w5 [.box b2 [.q x.kind,.s x.text,.q x.n,.q x.at_],.box b1 [.slice none 0 0,.q 0,.q 0,.q 0],.box b [.slice a cq.l.length c,.q cq.n,.q cq.at_,.q cq.e_]] w6 [.box b2 [.q x.kind,.s x.text,.q x.n,.q x.at_],.box b1 [.slice none 0 0,.q 0,.q 0,.q 0],.box b [.slice a1 l.length c1,.q n,.q atx,.q ex]],?_,?_⟩
 obtain⟨J1,h,h2⟩:=h
 refine⟨fun x1 w7=>J1 x1/\MT w m w5 w7 [.box b2 [.q x.kind,.s x.text,.q x.n,.q x.at_],.box b1 [.slice none 0 0,.q 0,.q 0,.q 0],.box b [.slice a cq.l.length c,.q cq.n,.q cq.at_,.q cq.e_]],?_,?_⟩
 refine⟨_,(o.at 2 rfl).cell rfl,?_⟩
 refine Ac (fun h=> ?_) (fun h=> ?_) h
 refine⟨_,(o.at 0 rfl).cell rfl,?_⟩
 exact⟨h,o,Step.refl _ _⟩
 exact⟨h,o,Step.refl _ _⟩
 rintro _ x1 w7 ⟨hJ,o,st6⟩
 have h:=h2 x1 hJ
 refine Ac (fun h=> ?_) (fun h=> ?_) h
 refine⟨o.wr 2 rfl rfl,fun w8 hw8=> ?_⟩
 obtain⟨st7,o⟩:=o.dS 2 hw8 rfl
 have sT:=(((((st.trans st1).trans st2).trans st3).trans st4).trans st6).trans st7
 exact⟨cq.l,cq.n,cq.at_,11,a,c,h,⟨le,(f.st sT)⟩,o,(st6.trans st7)⟩
 have sT1:=((((st.trans st1).trans st2).trans st3).trans st4).trans st6
 exact⟨cq.l,cq.n,cq.at_,cq.e_,a,c,h,⟨le,(f.st sT1)⟩,o,st6⟩
 rintro _ w6 ⟨l,n,atx,ex,a1,c1,hJ,⟨le1,f2⟩,o,st5⟩
 have h:=h2 l n atx ex hJ
 refine⟨_,(o.at 2 rfl).cell rfl,?_⟩
 refine Ac (fun h=> ?_) (fun h=> ?_) h
 refine⟨_,_,_,_,_,_,(o.at 2 rfl).whole,?_⟩
 refine⟨o.wr 1 rfl rfl,fun w9 hw9=> ?_⟩
 obtain⟨st8,o⟩:=o.dSs 1 hw9 rfl
 refine⟨_,_,_,_,_,_,(o.at 1 rfl).whole,?_⟩
 exact⟨(⟨l,n,atx,ex⟩:Aj),[],h,⟨_,rfl,(Ag (⟨l,n,atx,ex⟩:Aj) ⟨le1,(f2.st (st8.trans Mem.Aw9))⟩)⟩,o.done⟩
 refine⟨_,(o.at 2 rfl).cell rfl,?_⟩
 refine⟨o.wr 2 rfl rfl,fun w10 Bah=> ?_⟩
 obtain⟨st9,o⟩:=o.dS 2 Bah rfl
 intro w11 Azc
 obtain⟨Aw6,o⟩:=o.dD Azc
 have ox:=o
 refine⟨fun u=>An [b1] w11 u,An.refl _ _,?_⟩
 refine⟨_,_,_,_,_,_,fun u hu=>((ox.at 2 rfl).Awz hu (fun h=>by (simp only [List.mem_cons,List.not_mem_nil,or_false]at h;rcases h with h;exact ox.neq 2 1 rfl rfl (by decide) h))).whole,?_⟩
 refine⟨_,fun u hu=>((ox.at 0 rfl).Awz hu (fun h=>by (simp only [List.mem_cons,List.not_mem_nil,or_false]at h;rcases h with h;exact ox.neq 0 1 rfl rfl (by decide) h))).cell rfl,?_⟩
 refine⟨o.wr 1 rfl rfl,fun w12 Ay4=> ?_⟩
 obtain⟨Aw8,o⟩:=o.dSs 1 Ay4 rfl
 refine⟨(An.mono (Nl Ay4) (by simp)),?_⟩
 refine⟨_,_,_,_,_,_,(o.at 1 rfl).whole,?_⟩
 exact⟨(⟨l,n,IntKind.i64.wrap (atx+1),ex⟩:Aj),x.text,h,⟨_,rfl,(Ag (⟨l,n,IntKind.i64.wrap (atx+1),ex⟩:Aj) ⟨le1,(f2.st (st9.trans (Aw6.trans (Aw8.trans Mem.Aw9))))⟩)⟩,o.done⟩
def Zp (cq:Aj) (toks:List Au) (deep:Int) (K:Aj->Prop):Prop:=
 cond (cq.e_ !=0)
 (K cq)
 (K2 toks cq.at_ deep (fun x=>
 Da cq x (fun x1=>
 K x1)))
theorem Xw (cq:Aj) (toks:List Au) (deep:Int) (K:Aj->Prop) (h:Zp cq toks deep K):Ei cq toks deep K:=by
 intro m w hm Axm Ayv Awv Aww Aws Awt
 obtain⟨a,c,rfl,⟨le,f⟩⟩:=Ah Ayv
 have o:=Mem.start hm.lt
 refine Aa0 _ _ _ _ _ _ Awv toks.length Aww deep _ _ ?_
 intro b w1 hb hw1
 obtain⟨st,o⟩:=o.dB hb hw1
 intro b1 w2 hb1 hw2
 obtain⟨st1,o⟩:=o.dB hb1 hw2
 refine⟨_,(o.at 1 rfl).cell rfl,?_⟩
 refine Ac (fun h=> ?_) (fun h=> ?_) h
 refine⟨_,_,_,_,_,_,(o.at 1 rfl).whole,?_⟩
 refine⟨o.wr 0 rfl rfl,fun w3 hw3=> ?_⟩
 obtain⟨st2,o⟩:=o.dSs 0 hw3 rfl
 refine⟨_,_,_,_,_,_,(o.at 0 rfl).whole,?_⟩
 exact⟨cq,h,⟨_,rfl,(Ag cq ⟨le,(f.st (st.trans (st1.trans (st2.trans Mem.Aw9))))⟩)⟩,o.done⟩
 intro w4 hw4
 obtain⟨st3,o⟩:=o.dD hw4
 have ox:=o
 refine⟨fun u=>An [] w4 u,An.refl _ _,?_⟩
 refine⟨_,_,_,_,_,_,fun u hu=>((ox.at 1 rfl).Awz hu (by simp)).whole,?_⟩
 refine⟨_,fun u hu=>((ox.at 1 rfl).Awz hu (by simp)).cell rfl,?_⟩
 have sT:=(st.trans st1).trans st3
 refine Aa (h _ w4 (o.mn hm) _ _ Aws (Awt.st sT)) ?_
 rintro _ w5 ⟨x,h,⟨cs,rfl,f1⟩,ke⟩
 obtain⟨st4,o⟩:=o.dE ke
 obtain⟨a1,c1,rfl,⟨le1,f2⟩⟩:=Ah f1
 refine⟨_,_,_,_,_,_,rfl,?_⟩
 refine⟨(ke.mono (by simp)),?_⟩
 have sT1:=sT.trans st4
 refine Aa (h _ w5 (o.mn hm) _ (Ag cq ⟨le,(f.st sT1)⟩) _ (Ag x ⟨le1,f2⟩)) ?_
 rintro _ w6 ⟨x1,h,⟨cs1,rfl,f3⟩,ke1⟩
 obtain⟨st5,o⟩:=o.dE ke1
 obtain⟨a2,c2,rfl,⟨le2,f4⟩⟩:=Ah f3
 refine⟨_,_,_,_,_,_,rfl,?_⟩
 refine⟨o.wr 0 rfl rfl,fun w7 hw7=> ?_⟩
 obtain⟨st6,o⟩:=o.dSs 0 hw7 rfl
 refine⟨_,_,_,_,_,_,(o.at 0 rfl).whole,?_⟩
 exact⟨x1,h,⟨_,rfl,(Ag x1 ⟨le2,(f4.st (st6.trans Mem.Aw9))⟩)⟩,o.done⟩
def Vp (cq:Aj) (toks:List Au) (send:Int) (recv:Int) (K:Aj->Int->(List UInt8)->Prop):Prop:=
 cond (cq.e_ !=0)
 (K cq 0 [])
 (∃(J:(List Ai)->Int->Int->Int->Prop),
 (Vd toks cq.at_ (fun x=>
 Da cq x (fun x1=>
 J x1.l x1.n x1.at_ x1.e_)))/\
 ∀(l:List Ai) (n:Int) (atx:Int) (ex:Int),J l n atx ex->
 ∃(J1:Bool->Prop),
 (cond (ex==0)
 (Cn toks atx [33] (fun x3=>
 J1 x3))
 (J1 false))/\
 ∀(x2:Bool),J1 x2->
 cond (x2)
 (Ak (⟨l,n,atx,ex⟩:Aj) toks [33] (fun x4=>
 Bp x4 toks (fun x5=>
 K x5 send [])))
 (Ak (⟨l,n,atx,ex⟩:Aj) toks [63] (fun x6=>
 C9 x6 toks (fun r r1=>
 K r recv r1))))
theorem Ue (cq:Aj) (toks:List Au) (send:Int) (recv:Int) (K:Aj->Int->(List UInt8)->Prop) (h:Vp cq toks send recv K):Jy cq toks send recv K:=by
 intro m w hm Axm Ayv Awv Aww Aws Awt
 obtain⟨a,c,rfl,⟨le,f⟩⟩:=Ah Ayv
 have o:=Mem.start hm.lt
 refine Xa _ _ _ _ _ _ Awv toks.length Aww send recv _ _ ?_
 intro b w1 hb hw1
 obtain⟨st,o⟩:=o.dB hb hw1
 intro b1 w2 hb1 hw2
 obtain⟨st1,o⟩:=o.dB hb1 hw2
 refine⟨_,(o.at 1 rfl).cell rfl,?_⟩
 refine Ac (fun h=> ?_) (fun h=> ?_) h
 refine⟨_,_,_,_,_,_,(o.at 1 rfl).whole,?_⟩
 refine⟨o.wr 0 rfl rfl,fun w3 hw3=> ?_⟩
 obtain⟨st2,o⟩:=o.dSs 0 hw3 rfl
 refine⟨_,_,_,_,_,_,(o.at 0 rfl).whole,?_⟩
 exact⟨cq,0,[],h,⟨_,rfl,(Ag cq ⟨le,(f.st (st.trans (st1.trans (st2.trans Mem.Aw9))))⟩)⟩,o.done⟩
 obtain⟨J,h,h2⟩:=h
 refine⟨fun w4=>∃(l:List Ai) (n:Int) (atx:Int) (ex:Int) (a1:Option Addr) (c1:Nat),J l n atx ex/\(l.length<=c1/\SlR Ay (ms [.box b1 [.slice none 0 0,.q 0,.q 0,.q 0],.box b [.slice a1 l.length c1,.q n,.q atx,.q ex]] m) w4 a1 l)/\MS w m w2 [.box b1 [.slice none 0 0,.q 0,.q 0,.q 0],.box b [.slice a cq.l.length c,.q cq.n,.q cq.at_,.q cq.e_]] w4 [.box b1 [.slice none 0 0,.q 0,.q 0,.q 0],.box b [.slice a1 l.length c1,.q n,.q atx,.q ex]],?_,?_⟩
 intro w5 hw5
 obtain⟨st4,o⟩:=o.dD hw5
 have ox:=o
 refine⟨fun u=>An [] w5 u,An.refl _ _,?_⟩
 refine⟨_,_,_,_,_,_,fun u hu=>((ox.at 1 rfl).Awz hu (by simp)).whole,?_⟩
 refine⟨_,fun u hu=>((ox.at 1 rfl).Awz hu (by simp)).cell rfl,?_⟩
 have sT:=(st.trans st1).trans st4
 refine Aa (h _ w5 (o.mn hm) _ _ Aws (Awt.st sT)) ?_
 rintro _ w6 ⟨x,h,⟨cs,rfl,f2⟩,ke⟩
 obtain⟨st5,o⟩:=o.dE ke
 obtain⟨a2,c2,rfl,⟨le2,f3⟩⟩:=Ah f2
 refine⟨_,_,_,_,_,_,rfl,?_⟩
 refine⟨(ke.mono (by simp)),?_⟩
 have sT1:=sT.trans st5
 refine Aa (h _ w6 (o.mn hm) _ (Ag cq ⟨le,(f.st sT1)⟩) _ (Ag x ⟨le2,f3⟩)) ?_
 rintro _ w7 ⟨x1,h,⟨cs1,rfl,f4⟩,ke1⟩
 obtain⟨st6,o⟩:=o.dE ke1
 obtain⟨a3,c3,rfl,⟨le3,f5⟩⟩:=Ah f4
 refine⟨_,_,_,_,_,_,rfl,?_⟩
 refine⟨o.wr 1 rfl rfl,fun w8 hw8=> ?_⟩
 obtain⟨st7,o⟩:=o.dSs 1 hw8 rfl
 have sT2:=((st4.trans st5).trans st6).trans st7
 exact⟨x1.l,x1.n,x1.at_,x1.e_,a3,c3,h,⟨le3,(f5.st st7)⟩,o,sT2⟩
 rintro _ w4 ⟨l,n,atx,ex,a1,c1,hJ,⟨le1,f1⟩,o,st3⟩
 have h:=h2 l n atx ex hJ
 obtain⟨J1,h,h2⟩:=h
 refine⟨fun x2 w9=>J1 x2/\MT w m w4 w9 [.box b1 [.slice none 0 0,.q 0,.q 0,.q 0],.box b [.slice a1 l.length c1,.q n,.q atx,.q ex]],?_,?_⟩
 refine⟨_,(o.at 1 rfl).cell rfl,?_⟩
 refine Ac (fun h=> ?_) (fun h=> ?_) h
 refine⟨_,(o.at 1 rfl).cell rfl,?_⟩
 have sT3:=(st.trans st1).trans st3
 refine Aa (h _ w4 (o.mn hm) _ _ Aws (Awt.st sT3)) ?_
 rintro _ w10 ⟨x3,h,rfl,ke2⟩
 obtain⟨st9,o⟩:=o.dE ke2
 refine⟨_,rfl,?_⟩
 exact⟨h,o,st9⟩
 exact⟨h,o,Step.refl _ _⟩
 rintro _ x2 w9 ⟨hJ,o,st8⟩
 have h:=h2 x2 hJ
 refine Ac (fun h=> ?_) (fun h=> ?_) h
 refine⟨_,_,_,_,_,_,(o.at 1 rfl).whole,?_⟩
 have sT4:=((st.trans st1).trans st3).trans st8
 refine Aa (h _ w9 (o.mn hm) _ (Ag (⟨l,n,atx,ex⟩:Aj) ⟨le1,(f1.st st8)⟩) _ _ Aws (Awt.st sT4)) ?_
 rintro _ w11 ⟨x4,h,⟨cs2,rfl,f6⟩,ke3⟩
 obtain⟨Aw6,o⟩:=o.dE ke3
 obtain⟨a4,c4,rfl,⟨le4,f7⟩⟩:=Ah f6
 refine⟨_,_,_,_,_,_,rfl,?_⟩
 have sT5:=sT4.trans Aw6
 refine Aa (h _ w11 (o.mn hm) _ (Ag x4 ⟨le4,f7⟩) _ _ Aws (Awt.st sT5)) ?_
 rintro _ w12 ⟨x5,h,⟨cs3,rfl,f8⟩,ke4⟩
 obtain⟨Aw8,o⟩:=o.dE ke4
 obtain⟨a5,c5,rfl,⟨le5,f9⟩⟩:=Ah f8
 refine⟨_,_,_,_,_,_,rfl,?_⟩
 refine⟨o.wr 0 rfl rfl,fun w13 Azd=> ?_⟩
 obtain⟨Axd,o⟩:=o.dSs 0 Azd rfl
 refine⟨_,_,_,_,_,_,(o.at 0 rfl).whole,?_⟩
 exact⟨x5,send,[],h,⟨_,rfl,(Ag x5 ⟨le5,(f9.st (Axd.trans Mem.Aw9))⟩)⟩,o.done⟩
 refine⟨_,_,_,_,_,_,(o.at 1 rfl).whole,?_⟩
 have sT6:=((st.trans st1).trans st3).trans st8
 refine Aa (h _ w9 (o.mn hm) _ (Ag (⟨l,n,atx,ex⟩:Aj) ⟨le1,(f1.st st8)⟩) _ _ Aws (Awt.st sT6)) ?_
 rintro _ w14 ⟨x6,h,⟨cs4,rfl,f10⟩,ke5⟩
 obtain⟨Axb,o⟩:=o.dE ke5
 obtain⟨a6,c6,rfl,⟨le6,f11⟩⟩:=Ah f10
 refine⟨_,_,_,_,_,_,rfl,?_⟩
 have sT7:=sT6.trans Axb
 refine Aa (h _ w14 (o.mn hm) _ (Ag x6 ⟨le6,f11⟩) _ _ Aws (Awt.st sT7)) ?_
 rintro _ w15 ⟨r,r1,h,⟨cs5,rfl,f12⟩,ke6⟩
 obtain⟨Axl,o⟩:=o.dE ke6
 obtain⟨a7,c7,rfl,⟨le7,f13⟩⟩:=Ah f12
 refine⟨_,_,_,_,_,_,_,rfl,?_⟩
 refine⟨o.wr 1 rfl rfl,fun w16 Bbz=> ?_⟩
 obtain⟨Axh,o⟩:=o.dSs 1 Bbz rfl
 refine⟨_,_,_,_,_,_,(o.at 1 rfl).whole,?_⟩
 refine⟨o.wr 0 rfl rfl,fun w17 Azo=> ?_⟩
 obtain⟨Axn,o⟩:=o.dSs 0 Azo rfl
 refine⟨_,_,_,_,_,_,(o.at 0 rfl).whole,?_⟩
 exact⟨r,recv,r1,h,⟨_,rfl,(Ag r ⟨le7,(f13.st (Axh.trans (Axn.trans Mem.Aw9)))⟩)⟩,o.done⟩
def Vq (cq:Aj) (toks:List Au) (K:Aj->Prop):Prop:=
 Ak cq toks [40] (fun x=>
 ∃(J:(List Ai)->Int->Int->Int->Prop),
 (∃(J1:Bool->Prop),
 (cond (x.e_==0)
 (Cn toks x.at_ [41] (fun x2=>
 J1 (!x2)))
 (J1 false))/\
 ∀(x1:Bool),J1 x1->
 cond (x1)
 (Bp x toks (fun x3=>
 ∃(I:(List Ai)->Int->Int->Int->Nat->Prop),(∃n2,I x3.l x3.n x3.at_ x3.e_ n2)/\
 ∀(l1:List Ai) (n1:Int) (Awx:Int) (ex1:Int) (n2:Nat),I l1 n1 Awx ex1 n2->
 ∃(J2:Bool->Prop),
 (cond (ex1==0)
 (Cn toks Awx [44] (fun x5=>
 J2 x5))
 (J2 false))/\
 ∀(x4:Bool),J2 x4->
 cond (x4)
 (Ak (⟨l1,n1,Awx,ex1⟩:Aj) toks [44] (fun x6=>
 Bp x6 toks (fun x7=>
 ∃n3,n3<n2/\I x7.l x7.n x7.at_ x7.e_ n3)))
 (J l1 n1 Awx ex1)))
 (J x.l x.n x.at_ x.e_))/\
 ∀(l:List Ai) (n:Int) (atx:Int) (ex:Int),J l n atx ex->
 Ak (⟨l,n,atx,ex⟩:Aj) toks [41] (fun x8=>
 K x8))
theorem Uf (cq:Aj) (toks:List Au) (K:Aj->Prop) (h:Vq cq toks K):L8 cq toks K:=by
 intro m w hm Axm Ayv Awv Aww Aws Awt
 obtain⟨a,c,rfl,⟨le,f⟩⟩:=Ah Ayv
 have o:=Mem.start hm.lt
 refine Xc _ _ _ _ _ _ Awv toks.length Aww _ _ ?_
 intro b w1 hb hw1
 obtain⟨st,o⟩:=o.dB hb hw1
 intro b1 w2 hb1 hw2
 obtain⟨st1,o⟩:=o.dB hb1 hw2
 refine⟨_,_,_,_,_,_,(o.at 1 rfl).whole,?_⟩
 refine Aa (h _ w2 (o.mn hm) _ (Ag cq ⟨le,(f.st (st.trans st1))⟩) _ _ Aws (Awt.st (st.trans st1))) ?_
 rintro _ w3 ⟨x,h,⟨cs,rfl,f1⟩,ke⟩
 obtain⟨st2,o⟩:=o.dE ke
 obtain⟨a1,c1,rfl,⟨le1,f2⟩⟩:=Ah f1
 refine⟨_,_,_,_,_,_,rfl,?_⟩
 refine⟨o.wr 1 rfl rfl,fun w4 hw4=> ?_⟩
 obtain⟨st3,o⟩:=o.dSs 1 hw4 rfl
 obtain⟨J,h,h2⟩:=h
 refine⟨fun w5=>∃(l:List Ai) (n:Int) (atx:Int) (ex:Int) (a2:Option Addr) (c2:Nat),J l n atx ex/\(l.length<=c2/\SlR Ay (ms [.box b1 [.slice none 0 0,.q 0,.q 0,.q 0],.box b [.slice a2 l.length c2,.q n,.q atx,.q ex]] m) w5 a2 l)/\MS w m w4 [.box b1 [.slice none 0 0,.q 0,.q 0,.q 0],.box b [.slice a1 x.l.length c1,.q x.n,.q x.at_,.q x.e_]] w5 [.box b1 [.slice none 0 0,.q 0,.q 0,.q 0],.box b [.slice a2 l.length c2,.q n,.q atx,.q ex]],?_,?_⟩
 obtain⟨J1,h,h2⟩:=h
 refine⟨fun x1 w6=>J1 x1/\MT w m w4 w6 [.box b1 [.slice none 0 0,.q 0,.q 0,.q 0],.box b [.slice a1 x.l.length c1,.q x.n,.q x.at_,.q x.e_]],?_,?_⟩
 refine⟨_,(o.at 1 rfl).cell rfl,?_⟩
 refine Ac (fun h=> ?_) (fun h=> ?_) h
 refine⟨_,(o.at 1 rfl).cell rfl,?_⟩
 have sT:=((st.trans st1).trans st2).trans st3
 refine Aa (h _ w4 (o.mn hm) _ _ Aws (Awt.st sT)) ?_
 rintro _ w7 ⟨x2,h,rfl,ke1⟩
 obtain⟨st6,o⟩:=o.dE ke1
 refine⟨_,rfl,?_⟩
 exact⟨h,o,st6⟩
 exact⟨h,o,Step.refl _ _⟩
 rintro _ x1 w6 ⟨hJ,o,st5⟩
 have h:=h2 x1 hJ
 refine Ac (fun h=> ?_) (fun h=> ?_) h
 refine⟨_,_,_,_,_,_,(o.at 1 rfl).whole,?_⟩
 have sT1:=(((st.trans st1).trans st2).trans st3).trans st5
 refine Aa (h _ w6 (o.mn hm) _ (Ag x ⟨le1,(f2.st (st3.trans st5))⟩) _ _ Aws (Awt.st sT1)) ?_
 rintro _ w8 ⟨x3,h,⟨cs1,rfl,f4⟩,ke2⟩
 obtain⟨st7,o⟩:=o.dE ke2
 obtain⟨a3,c3,rfl,⟨le3,f5⟩⟩:=Ah f4
 refine⟨_,_,_,_,_,_,rfl,?_⟩
 refine⟨o.wr 1 rfl rfl,fun w9 hw9=> ?_⟩
 obtain⟨st8,o⟩:=o.dSs 1 hw9 rfl
 obtain⟨I,⟨n4,h⟩,h2⟩:=h
 obtain⟨Z,hZ⟩:∃Z:World->Nat->Prop,Z=fun w10 n2=>∃(l1:List Ai) (n1:Int) (Awx:Int) (ex1:Int) (a4:Option Addr) (c4:Nat),I l1 n1 Awx ex1 n2/\(l1.length<=c4/\SlR Ay (ms [.box b1 [.slice none 0 0,.q 0,.q 0,.q 0],.box b [.slice a4 l1.length c4,.q n1,.q Awx,.q ex1]] m) w10 a4 l1)/\MS w m w9 [.box b1 [.slice none 0 0,.q 0,.q 0,.q 0],.box b [.slice a3 x3.l.length c3,.q x3.n,.q x3.at_,.q x3.e_]] w10 [.box b1 [.slice none 0 0,.q 0,.q 0,.q 0],.box b [.slice a4 l1.length c4,.q n1,.q Awx,.q ex1]]:=⟨_,rfl⟩
 refine⟨fun w10=>∃n2,Z w10 n2,fun w10=>Aw0 (Z w10),⟨n4,?_⟩,?_⟩
 rw [hZ];exact⟨x3.l,x3.n,x3.at_,x3.e_,a3,c3,h,⟨le3,(f5.st st8)⟩,o,Step.refl _ _⟩
 intro _ w10 hIZ
 obtain⟨n2,Cav⟩:∃n2,n2=Aw0 (Z w10):=⟨_,rfl⟩
 have hIZ:=Bz hIZ
 rw [←Cav,hZ]at hIZ
 obtain⟨l1,n1,Awx,ex1,a4,c4,h,⟨le4,f6⟩,o,st9⟩:=hIZ
 have h:=h2 l1 n1 Awx ex1 n2 h
 obtain⟨J2,h,h2⟩:=h
 refine⟨fun x4 w11=>J2 x4/\MT w m w10 w11 [.box b1 [.slice none 0 0,.q 0,.q 0,.q 0],.box b [.slice a4 l1.length c4,.q n1,.q Awx,.q ex1]],?_,?_⟩
 refine⟨_,(o.at 1 rfl).cell rfl,?_⟩
 refine Ac (fun h=> ?_) (fun h=> ?_) h
 refine⟨_,(o.at 1 rfl).cell rfl,?_⟩
 have sT2:=((sT1.trans st7).trans st8).trans st9
 refine Aa (h _ w10 (o.mn hm) _ _ Aws (Awt.st sT2)) ?_
 rintro _ w12 ⟨x5,h,rfl,ke3⟩
 obtain⟨Aw8,o⟩:=o.dE ke3
 refine⟨_,rfl,?_⟩
 exact⟨h,o,Aw8⟩
 exact⟨h,o,Step.refl _ _⟩
 rintro _ x4 w11 ⟨hJ,o,Aw6⟩
 have h:=h2 x4 hJ
 refine Ac (fun h=> ?_) (fun h=> ?_) h
 refine⟨_,_,_,_,_,_,(o.at 1 rfl).whole,?_⟩
 have sT3:=(((sT1.trans st7).trans st8).trans st9).trans Aw6
 refine Aa (h _ w11 (o.mn hm) _ (Ag (⟨l1,n1,Awx,ex1⟩:Aj) ⟨le4,(f6.st Aw6)⟩) _ _ Aws (Awt.st sT3)) ?_
 rintro _ w13 ⟨x6,h,⟨cs2,rfl,f7⟩,ke4⟩
 obtain⟨Axd,o⟩:=o.dE ke4
 obtain⟨a5,c5,rfl,⟨le5,f8⟩⟩:=Ah f7
 refine⟨_,_,_,_,_,_,rfl,?_⟩
 have sT4:=sT3.trans Axd
 refine Aa (h _ w13 (o.mn hm) _ (Ag x6 ⟨le5,f8⟩) _ _ Aws (Awt.st sT4)) ?_
 rintro _ w14 ⟨x7,h,⟨cs3,rfl,f9⟩,ke5⟩
 obtain⟨Axb,o⟩:=o.dE ke5
 obtain⟨a6,c6,rfl,⟨le6,f10⟩⟩:=Ah f9
 refine⟨_,_,_,_,_,_,rfl,?_⟩
 refine⟨o.wr 1 rfl rfl,fun w15 Ayn=> ?_⟩
 obtain⟨Axl,o⟩:=o.dSs 1 Ayn rfl
 obtain⟨n3,hl,h⟩:=h
 have sT5:=(((st9.trans Aw6).trans Axd).trans Axb).trans Axl
 exact Bh Cav (show Z w15 n3 from(by rw [hZ];exact⟨x7.l,x7.n,x7.at_,x7.e_,a6,c6,h,⟨le6,(f10.st Axl)⟩,o,sT5⟩)) hl
 have sT6:=(((st5.trans st7).trans st8).trans st9).trans Aw6
 exact⟨l1,n1,Awx,ex1,a4,c4,h,⟨le4,(f6.st Aw6)⟩,o,sT6⟩
 exact⟨x.l,x.n,x.at_,x.e_,a1,c1,h,⟨le1,(f2.st (st3.trans st5))⟩,o,st5⟩
 rintro _ w5 ⟨l,n,atx,ex,a2,c2,hJ,⟨le2,f3⟩,o,st4⟩
 have h:=h2 l n atx ex hJ
 refine⟨_,_,_,_,_,_,(o.at 1 rfl).whole,?_⟩
 have sT7:=(((st.trans st1).trans st2).trans st3).trans st4
 refine Aa (h _ w5 (o.mn hm) _ (Ag (⟨l,n,atx,ex⟩:Aj) ⟨le2,f3⟩) _ _ Aws (Awt.st sT7)) ?_
 rintro _ w16 ⟨x8,h,⟨cs4,rfl,f11⟩,ke6⟩
 obtain⟨Axh,o⟩:=o.dE ke6
 obtain⟨a7,c7,rfl,⟨le7,f12⟩⟩:=Ah f11
 refine⟨_,_,_,_,_,_,rfl,?_⟩
 refine⟨o.wr 0 rfl rfl,fun w17 Azo=> ?_⟩
 obtain⟨Axn,o⟩:=o.dSs 0 Azo rfl
 refine⟨_,_,_,_,_,_,(o.at 0 rfl).whole,?_⟩
 exact⟨x8,h,⟨_,rfl,(Ag x8 ⟨le7,(f12.st (Axn.trans Mem.Aw9))⟩)⟩,o.done⟩
def Vr (cq:Aj) (toks:List Au) (K:Aj->Int->Prop):Prop:=
 Dm toks cq.at_ (fun x=>
 ∃(J:(List Ai)->Int->Int->Int->Prop),
 (∃(J1:Bool->Prop),
 (cond (cq.e_==0)
 (J1 (x.kind !=2))
 (J1 false))/\
 ∀(x1:Bool),J1 x1->
 cond (x1)
 (J cq.l cq.n cq.at_ 11)
 (J cq.l cq.n cq.at_ cq.e_))/\
 ∀(l:List Ai) (n:Int) (atx:Int) (ex:Int),J l n atx ex->
 ∃(J2:(List Ai)->Int->Int->Int->Prop),
 (∃(J3:Bool->Prop),
 (cond (ex==0)
 (cond (decide (x.n<1))
 (J3 true)
 (J3 (decide (x.n>16))))
 (J3 false))/\
 ∀(x2:Bool),J3 x2->
 cond (x2)
 (J2 l n atx 6)
 (J2 l n atx ex))/\
 ∀(l1:List Ai) (n1:Int) (Awx:Int) (ex1:Int),J2 l1 n1 Awx ex1->
 cond (ex1 !=0)
 (K (⟨l1,n1,Awx,ex1⟩:Aj) 0)
 (K (⟨l1,n1,IntKind.i64.wrap (Awx+1),ex1⟩:Aj) x.n))
theorem Ug (cq:Aj) (toks:List Au) (K:Aj->Int->Prop) (h:Vr cq toks K):L9 cq toks K:=by
 intro m w hm Axm Ayv Awv Aww Aws Awt
 obtain⟨a,c,rfl,⟨le,f⟩⟩:=Ah Ayv
 have o:=Mem.start hm.lt
 refine Xf _ _ _ _ _ _ Awv toks.length Aww _ _ ?_
 intro b w1 hb hw1
 obtain⟨st,o⟩:=o.dB hb hw1
 intro b1 w2 hb1 hw2
 obtain⟨st1,o⟩:=o.dB hb1 hw2
 refine⟨_,(o.at 1 rfl).cell rfl,?_⟩
 refine Aa (h _ w2 (o.mn hm) _ _ Aws (Awt.st (st.trans st1))) ?_
 rintro _ w3 ⟨x,h,⟨cs,rfl,f1⟩,ke⟩
 obtain⟨st2,o⟩:=o.dE ke
 obtain rfl:=Dj f1
 refine⟨_,_,_,_,rfl,?_⟩
 intro b2 w4 hb2 hw4
 obtain⟨st3,o⟩:=o.dB hb2 hw4
 refine⟨o.wr 0 rfl rfl,fun w5 hw5=> ?_⟩
 obtain⟨st4,o⟩:=o.dSs 0 hw5 rfl
 obtain⟨J,h,h2⟩:=h
 refine⟨fun w6=>∃(l:List Ai) (n:Int) (atx:Int) (ex:Int) (a1:Option Addr) (c1:Nat),J l n atx ex/\(l.length<=c1/\SlR Ay (ms [.box b2 [.q x.kind,.s x.text,.q x.n,.q x.at_],.box b1 [.slice none 0 0,.q 0,.q 0,.q 0],.box b [.slice a1 l.length c1,.q n,.q atx,.q ex]] m) w6 a1 l)/\MS w m w5 [.box b2 [.q x.kind,.s x.text,.q x.n,.q x.at_],.box b1 [.slice none 0 0,.q 0,.q 0,.q 0],.box b [.slice a cq.l.length c,.q cq.n,.q cq.at_,.q cq.e_]] w6 [.box b2 [.q x.kind,.s x.text,.q x.n,.q x.at_],.box b1 [.slice none 0 0,.q 0,.q 0,.q 0],.box b [.slice a1 l.length c1,.q n,.q atx,.q ex]],?_,?_⟩
 obtain⟨J1,h,h2⟩:=h
 refine⟨fun x1 w7=>J1 x1/\MT w m w5 w7 [.box b2 [.q x.kind,.s x.text,.q x.n,.q x.at_],.box b1 [.slice none 0 0,.q 0,.q 0,.q 0],.box b [.slice a cq.l.length c,.q cq.n,.q cq.at_,.q cq.e_]],?_,?_⟩
 refine⟨_,(o.at 2 rfl).cell rfl,?_⟩
 refine Ac (fun h=> ?_) (fun h=> ?_) h
 refine⟨_,(o.at 0 rfl).cell rfl,?_⟩
 exact⟨h,o,Step.refl _ _⟩
 exact⟨h,o,Step.refl _ _⟩
 rintro _ x1 w7 ⟨hJ,o,st6⟩
 have h:=h2 x1 hJ
 refine Ac (fun h=> ?_) (fun h=> ?_) h
 refine⟨o.wr 2 rfl rfl,fun w8 hw8=> ?_⟩
 obtain⟨st7,o⟩:=o.dS 2 hw8 rfl
 have sT:=(((((st.trans st1).trans st2).trans st3).trans st4).trans st6).trans st7
 exact⟨cq.l,cq.n,cq.at_,11,a,c,h,⟨le,(f.st sT)⟩,o,(st6.trans st7)⟩
 have sT1:=((((st.trans st1).trans st2).trans st3).trans st4).trans st6
 exact⟨cq.l,cq.n,cq.at_,cq.e_,a,c,h,⟨le,(f.st sT1)⟩,o,st6⟩
 rintro _ w6 ⟨l,n,atx,ex,a1,c1,hJ,⟨le1,f2⟩,o,st5⟩
 have h:=h2 l n atx ex hJ
 obtain⟨J2,h,h2⟩:=h
 refine⟨fun w9=>∃(l1:List Ai) (n1:Int) (Awx:Int) (ex1:Int) (a2:Option Addr) (c2:Nat),J2 l1 n1 Awx ex1/\(l1.length<=c2/\SlR Ay (ms [.box b2 [.q x.kind,.s x.text,.q x.n,.q x.at_],.box b1 [.slice none 0 0,.q 0,.q 0,.q 0],.box b [.slice a2 l1.length c2,.q n1,.q Awx,.q ex1]] m) w9 a2 l1)/\MS w m w6 [.box b2 [.q x.kind,.s x.text,.q x.n,.q x.at_],.box b1 [.slice none 0 0,.q 0,.q 0,.q 0],.box b [.slice a1 l.length c1,.q n,.q atx,.q ex]] w9 [.box b2 [.q x.kind,.s x.text,.q x.n,.q x.at_],.box b1 [.slice none 0 0,.q 0,.q 0,.q 0],.box b [.slice a2 l1.length c2,.q n1,.q Awx,.q ex1]],?_,?_⟩
 obtain⟨J3,h,h2⟩:=h
 refine⟨fun x2 w10=>J3 x2/\MT w m w6 w10 [.box b2 [.q x.kind,.s x.text,.q x.n,.q x.at_],.box b1 [.slice none 0 0,.q 0,.q 0,.q 0],.box b [.slice a1 l.length c1,.q n,.q atx,.q ex]],?_,?_⟩
 refine⟨_,(o.at 2 rfl).cell rfl,?_⟩
 refine Ac (fun h=> ?_) (fun h=> ?_) h
 refine⟨_,(o.at 0 rfl).cell rfl,?_⟩
 refine Ac (fun h=> ?_) (fun h=> ?_) h
 exact⟨h,o,Step.refl _ _⟩
 refine⟨_,(o.at 0 rfl).cell rfl,?_⟩
 exact⟨h,o,Step.refl _ _⟩
 exact⟨h,o,Step.refl _ _⟩
 rintro _ x2 w10 ⟨hJ,o,st9⟩
 have h:=h2 x2 hJ
 refine Ac (fun h=> ?_) (fun h=> ?_) h
 refine⟨o.wr 2 rfl rfl,fun w11 Azc=> ?_⟩
 obtain⟨Aw6,o⟩:=o.dS 2 Azc rfl
 exact⟨l,n,atx,6,a1,c1,h,⟨le1,(f2.st (st9.trans Aw6))⟩,o,(st9.trans Aw6)⟩
 exact⟨l,n,atx,ex,a1,c1,h,⟨le1,(f2.st st9)⟩,o,st9⟩
 rintro _ w9 ⟨l1,n1,Awx,ex1,a2,c2,hJ,⟨le2,f3⟩,o,st8⟩
 have h:=h2 l1 n1 Awx ex1 hJ
 refine⟨_,(o.at 2 rfl).cell rfl,?_⟩
 refine Ac (fun h=> ?_) (fun h=> ?_) h
 refine⟨_,_,_,_,_,_,(o.at 2 rfl).whole,?_⟩
 refine⟨o.wr 1 rfl rfl,fun w12 Ay4=> ?_⟩
 obtain⟨Aw8,o⟩:=o.dSs 1 Ay4 rfl
 refine⟨_,_,_,_,_,_,(o.at 1 rfl).whole,?_⟩
 exact⟨(⟨l1,n1,Awx,ex1⟩:Aj),0,h,⟨_,rfl,(Ag (⟨l1,n1,Awx,ex1⟩:Aj) ⟨le2,(f3.st (Aw8.trans Mem.Aw9))⟩)⟩,o.done⟩
 refine⟨_,(o.at 2 rfl).cell rfl,?_⟩
 refine⟨o.wr 2 rfl rfl,fun w13 Azd=> ?_⟩
 obtain⟨Axd,o⟩:=o.dS 2 Azd rfl
 intro w14 Bag
 obtain⟨Axb,o⟩:=o.dD Bag
 have ox:=o
 refine⟨fun u=>An [b1] w14 u,An.refl _ _,?_⟩
 refine⟨_,_,_,_,_,_,fun u hu=>((ox.at 2 rfl).Awz hu (fun h=>by (simp only [List.mem_cons,List.not_mem_nil,or_false]at h;rcases h with h;exact ox.neq 2 1 rfl rfl (by decide) h))).whole,?_⟩
 refine⟨_,fun u hu=>((ox.at 0 rfl).Awz hu (fun h=>by (simp only [List.mem_cons,List.not_mem_nil,or_false]at h;rcases h with h;exact ox.neq 0 1 rfl rfl (by decide) h))).cell rfl,?_⟩
 refine⟨o.wr 1 rfl rfl,fun w15 Ayn=> ?_⟩
 obtain⟨Axl,o⟩:=o.dSs 1 Ayn rfl
 refine⟨(An.mono (Nl Ayn) (by simp)),?_⟩
 refine⟨_,_,_,_,_,_,(o.at 1 rfl).whole,?_⟩
 exact⟨(⟨l1,n1,IntKind.i64.wrap (Awx+1),ex1⟩:Aj),x.n,h,⟨_,rfl,(Ag (⟨l1,n1,IntKind.i64.wrap (Awx+1),ex1⟩:Aj) ⟨le2,(f3.st (Axd.trans (Axb.trans (Axl.trans Mem.Aw9))))⟩)⟩,o.done⟩
def Uh (cq:Aj) (toks:List Au) (K:Aj->Prop):Prop:=
 cond (cq.e_ !=0)
 (K cq)
 (D0 cq.at_ (fun x=>
 C9 x toks (fun r r1=>
 Dm toks cq.at_ (fun x1=>
 A2 r (⟨39,r1,0,0,x1.at_⟩:Ai) (fun x2=>
 Da cq x2 (fun x3=>
 K x3))))))
theorem Sv (cq:Aj) (toks:List Au) (K:Aj->Prop) (h:Uh cq toks K):H9 cq toks K:=by
 intro m w hm Axm Ayv Awv Aww Aws Awt
 obtain⟨a,c,rfl,⟨le,f⟩⟩:=Ah Ayv
 have o:=Mem.start hm.lt
 refine U9 _ _ _ _ _ _ Awv toks.length Aww _ _ ?_
 intro b w1 hb hw1
 obtain⟨st,o⟩:=o.dB hb hw1
 intro b1 w2 hb1 hw2
 obtain⟨st1,o⟩:=o.dB hb1 hw2
 refine⟨_,(o.at 1 rfl).cell rfl,?_⟩
 refine Ac (fun h=> ?_) (fun h=> ?_) h
 refine⟨_,_,_,_,_,_,(o.at 1 rfl).whole,?_⟩
 refine⟨o.wr 0 rfl rfl,fun w3 hw3=> ?_⟩
 obtain⟨st2,o⟩:=o.dSs 0 hw3 rfl
 refine⟨_,_,_,_,_,_,(o.at 0 rfl).whole,?_⟩
 exact⟨cq,h,⟨_,rfl,(Ag cq ⟨le,(f.st (st.trans (st1.trans (st2.trans Mem.Aw9))))⟩)⟩,o.done⟩
 refine⟨_,(o.at 1 rfl).cell rfl,?_⟩
 refine Aa (h _ w2 (o.mn hm)) ?_
 rintro _ w4 ⟨x,h,⟨cs,rfl,f1⟩,ke⟩
 obtain⟨st3,o⟩:=o.dE ke
 obtain⟨a1,c1,rfl,⟨le1,f2⟩⟩:=Ah f1
 refine⟨_,_,_,_,_,_,rfl,?_⟩
 have sT:=(st.trans st1).trans st3
 refine Aa (h _ w4 (o.mn hm) _ (Ag x ⟨le1,f2⟩) _ _ Aws (Awt.st sT)) ?_
 rintro _ w5 ⟨r,r1,h,⟨cs1,rfl,f3⟩,ke1⟩
 obtain⟨st4,o⟩:=o.dE ke1
 obtain⟨a2,c2,rfl,⟨le2,f4⟩⟩:=Ah f3
 refine⟨_,_,_,_,_,_,_,rfl,?_⟩
 intro b2 w6 hb2 hw6
 obtain⟨st5,o⟩:=o.dB hb2 hw6
 refine⟨o.wr 0 rfl rfl,fun w7 hw7=> ?_⟩
 obtain⟨st6,o⟩:=o.dSs 0 hw7 rfl
 intro w8 hw8
 obtain⟨st7,o⟩:=o.dD hw8
 have ox:=o
 refine⟨fun u=>An [] w8 u,An.refl _ _,?_⟩
 refine⟨_,_,_,_,_,_,fun u hu=>((ox.at 2 rfl).Awz hu (by simp)).whole,?_⟩
 refine⟨_,_,_,_,_,_,fun u hu=>((ox.at 0 rfl).Awz hu (by simp)).whole,?_⟩
 refine⟨_,fun u hu=>((ox.at 2 rfl).Awz hu (by simp)).cell rfl,?_⟩
 have sT1:=(((sT.trans st4).trans st5).trans st6).trans st7
 refine Aa (h _ w8 (o.mn hm) _ _ Aws (Awt.st sT1)) ?_
 rintro _ w9 ⟨x1,h,⟨cs2,rfl,f5⟩,ke2⟩
 obtain⟨st8,o⟩:=o.dE ke2
 obtain rfl:=Dj f5
 refine⟨_,_,_,_,rfl,?_⟩
 refine⟨(ke2.mono (by simp)),?_⟩
 have sT2:=((st5.trans st6).trans st7).trans st8
 refine Aa (h _ w9 (o.mn hm) _ (Ag r ⟨le2,(f4.st sT2)⟩) _ (A3 (⟨39,r1,0,0,x1.at_⟩:Ai))) ?_
 rintro _ w10 ⟨x2,h,⟨cs3,rfl,f6⟩,ke3⟩
 obtain⟨st9,o⟩:=o.dE ke3
 obtain⟨a3,c3,rfl,⟨le3,f7⟩⟩:=Ah f6
 refine⟨_,_,_,_,_,_,rfl,?_⟩
 refine⟨((ke2.mono (by simp)).trans (ke3.mono (by simp))),?_⟩
 have sT3:=(sT1.trans st8).trans st9
 refine Aa (h _ w10 (o.mn hm) _ (Ag cq ⟨le,(f.st sT3)⟩) _ (Ag x2 ⟨le3,f7⟩)) ?_
 rintro _ w11 ⟨x3,h,⟨cs4,rfl,f8⟩,ke4⟩
 obtain⟨Aw6,o⟩:=o.dE ke4
 obtain⟨a4,c4,rfl,⟨le4,f9⟩⟩:=Ah f8
 refine⟨_,_,_,_,_,_,rfl,?_⟩
 refine⟨o.wr 1 rfl rfl,fun w12 Ay4=> ?_⟩
 obtain⟨Aw8,o⟩:=o.dSs 1 Ay4 rfl
 refine⟨_,_,_,_,_,_,(o.at 1 rfl).whole,?_⟩
 exact⟨x3,h,⟨_,rfl,(Ag x3 ⟨le4,(f9.st (Aw8.trans Mem.Aw9))⟩)⟩,o.done⟩
def Ah8 (toks:List Au) (atx:Int) (K:Au->Prop):Prop:=
 cond (decide (atx<(toks.length:Int)))
 (((0:Int)<=atx/\atx<(toks.length:Int))/\
 ∀x,toks[atx.toNat]? =some x->
 K x)
 (K (⟨0,[],0,0⟩:Au))
theorem Ae3 (toks:List Au) (atx:Int) (K:Au->Prop) (h:Ah8 toks atx K):Dm toks atx K:=by
 intro m w hm Awv Aww Aws Awt
 have o:=Mem.start hm.lt
 refine Aj1 Awv toks.length Aww atx _ _ ?_
 intro b w1 hb hw1
 obtain⟨st,o⟩:=o.dB hb hw1
 refine Ac (fun h=> ?_) (fun h=> ?_) h
 obtain⟨hi,h⟩:=h
 obtain⟨p,x,cs,hp,he,hc,hr⟩:=(Awt.st st).elem hi
 obtain rfl:=Dj hr
 have h:=h x he
 refine⟨hi,Ap hp ?_⟩
 refine⟨_,_,_,_,hc.2,?_⟩
 refine⟨o.wr 0 rfl rfl,fun w2 hw2=> ?_⟩
 obtain⟨st1,o⟩:=o.dSs 0 hw2 rfl
 refine⟨_,_,_,_,(o.at 0 rfl).whole,?_⟩
 exact⟨x,h,⟨_,rfl,(Va x)⟩,o.done⟩
 refine⟨o.wr 0 rfl rfl,fun w3 hw3=> ?_⟩
 obtain⟨st2,o⟩:=o.dSs 0 hw3 rfl
 refine⟨_,_,_,_,(o.at 0 rfl).whole,?_⟩
 exact⟨(⟨0,[],0,0⟩:Au),h,⟨_,rfl,(Va (⟨0,[],0,0⟩:Au))⟩,o.done⟩
def Ah9 (sx:List UInt8) (K:Dl->Prop):Prop:=
 cond (decide ((sx.length:Int)>65536))
 (K (⟨[],0,5⟩:Dl))
 (∃(I:Int->(List Au)->Int->Int->Int->Int->Nat->Prop),(∃n,I 0 [] 0 0 0 0 n)/\
 ∀(atx:Int) (L:List Au) (At:Int) (E:Int) (At1:Int) (E1:Int) (n:Nat),I atx L At E At1 E1 n->
 Y9 sx atx (fun x=>
 cond (x.e_ !=0)
 (K (⟨[],x.next,x.e_⟩:Dl))
 (L.length+[x.t].length<2^32/\
 cond (x.t.kind==0)
 (K (⟨(L++[x.t]),x.t.at_,E⟩:Dl))
 (∃n1,n1<n/\I x.next (L++[x.t]) x.t.at_ E At1 E1 n1))))
theorem Ae4 (sx:List UInt8) (K:Dl->Prop) (h:Ah9 sx K):Vf sx K:=by
 intro m w hm
 have o:=Mem.start hm.lt
 refine Aj3 sx _ _ ?_
 intro b w1 hb hw1
 obtain⟨st,o⟩:=o.dB hb hw1
 refine Ac (fun h=> ?_) (fun h=> ?_) h
 refine⟨o.wr 0 rfl rfl,fun w2 hw2=> ?_⟩
 obtain⟨st1,o⟩:=o.dSs 0 hw2 rfl
 refine⟨_,_,_,_,_,(o.at 0 rfl).whole,?_⟩
 exact⟨(⟨[],0,5⟩:Dl),h,⟨_,rfl,(Of (⟨[],0,5⟩:Dl) ⟨(Nat.le_refl _),(SlR.nil _ _ _ _)⟩)⟩,o.done⟩
 intro b1 w3 hb1 hw3
 obtain⟨st2,o⟩:=o.dB hb1 hw3
 have st3:=o.xN 57 4
 have o:=o.Bbu 57 4
 obtain⟨I,⟨n2,h⟩,h2⟩:=h
 obtain⟨Z,hZ⟩:∃Z:Int->World->Nat->Prop,Z=fun atx w4 n=>∃(L:List Au) (At:Int) (E:Int) (At1:Int) (E1:Int) (xs:List Value) (a:Option Addr) (c:Nat),I atx L At E At1 E1 n/\El Cj (ms [.row 57 4 a L.length c xs,.box b1 [.slice a L.length c,.q At,.q E],.box b [.slice none 0 0,.q At1,.q E1]] m) w4 L xs/\MS w m w3 [.row 57 4 none 0 0 [],.box b1 [.slice none 0 0,.q 0,.q 0],.box b [.slice none 0 0,.q 0,.q 0]] w4 [.row 57 4 a L.length c xs,.box b1 [.slice a L.length c,.q At,.q E],.box b [.slice none 0 0,.q At1,.q E1]]:=⟨_,rfl⟩
 refine⟨fun atx w4=>∃n,Z atx w4 n,fun atx w4=>Aw0 (Z atx w4),⟨n2,?_⟩,?_⟩
 rw [hZ];exact⟨[],0,0,0,0,[],none,0,h,(El.nil _ _ _),o,Step.refl _ _⟩
 intro _ atx w4 hIZ
 obtain⟨n,hnn⟩:∃n,n=Aw0 (Z atx w4):=⟨_,rfl⟩
 have hIZ:=Bz hIZ
 rw [←hnn,hZ]at hIZ
 obtain⟨L,At,E,At1,E1,xs,a,c,h,el,o,st4⟩:=hIZ
 have h:=h2 atx L At E At1 E1 n h
 refine Aa (h _ w4 (o.mn hm)) ?_
 rintro _ w5 ⟨x,h,⟨cs,rfl,f⟩,ke⟩
 obtain⟨st5,o⟩:=o.dE ke
 obtain rfl:=Ad3 f
 refine⟨_,_,_,_,_,_,rfl,?_⟩
 intro b2 w6 hb2 hw6
 obtain⟨st6,o⟩:=o.dB hb2 hw6
 refine⟨o.wr 0 rfl rfl,fun w7 hw7=> ?_⟩
 obtain⟨st7,o⟩:=o.dSs 0 hw7 rfl
 refine⟨_,(o.at 0 rfl).cell rfl,?_⟩
 refine Ac (fun h=> ?_) (fun h=> ?_) h
 refine⟨_,(o.at 0 rfl).cell rfl,?_⟩
 refine⟨_,(o.at 0 rfl).cell rfl,?_⟩
 refine⟨o.wr 3 rfl rfl,fun w8 hw8=> ?_⟩
 obtain⟨st8,o⟩:=o.dSs 3 hw8 rfl
 refine⟨_,_,_,_,_,(o.at 3 rfl).whole,?_⟩
 exact⟨(⟨[],x.next,x.e_⟩:Dl),h,⟨_,rfl,(Of (⟨[],x.next,x.e_⟩:Dl) ⟨(Nat.le_refl _),(SlR.nil _ _ _ _)⟩)⟩,o.done⟩
 refine⟨_,_,_,(o.at 2 rfl).cell rfl,?_⟩
 refine⟨_,_,_,_,(o.at 0 rfl).cells (m:=[.q x.t.kind,.s x.t.text,.q x.t.n,.q x.t.at_]) 0 (fun j hj=>by match j,hj with|0,_=>rfl|1,_=>rfl|2,_=>rfl|3,_=>rfl),?_⟩
 intro b3 w9 hb3 hw9
 have el1:El Cj (ms [.box b2 [.q x.t.kind,.s x.t.text,.q x.t.n,.q x.t.at_,.q x.next,.q x.e_],.row 57 4 a L.length c xs,.box b1 [.slice a L.length c,.q At,.q E],.box b [.slice none 0 0,.q At1,.q E1]] m) w7 [x.t] ([.q x.t.kind,.s x.t.text,.q x.t.n,.q x.t.at_]:List Value):=(El.cons (cs:=[.q x.t.kind,.s x.t.text,.q x.t.n,.q x.t.at_]) (Va x.t) (El.nil _ _ _))
 have st9:=o.xL hb3 hw9 4 1
 have o:=o.lit hb3 hw9 4 1 (by decide) rfl
 obtain⟨lt,h⟩:=h
 have sT:=((st5.trans st6).trans st7).trans st9
 have el3:=((el.st sT)).app (el1.st st9)
 refine Eu Avv (o.rowAt 2 rfl) (o.rowAt 0 rfl).sl (el1.st st9).len (el1.st st9).one (by first|(simp;done)|simpa using lt) (by decide) (Nat.zero_le _) fun a1 c1 w10 hr hg hat=> ?_
 have ln:L.length+1=(L++[x.t]).length:=(by first|(simp;done)|(simp;omega))
 rw [ln]at hr⊢
 refine⟨_,_,_,rfl,?_⟩
 have Aw6:=o.xA 2 rfl hr hg hat
 have o:=o.app 2 rfl hr hg hat
 refine⟨o.wr 3 rfl rfl,fun w11 Azc=> ?_⟩
 obtain⟨Aw8,o⟩:=o.dS 3 Azc rfl
 refine⟨_,(o.at 1 rfl).cell rfl,?_⟩
 refine⟨o.wr 3 rfl rfl,fun w12 Ay4=> ?_⟩
 obtain⟨Axd,o⟩:=o.dS 3 Ay4 rfl
 refine⟨_,(o.at 1 rfl).cell rfl,?_⟩
 refine Ac (fun h=> ?_) (fun h=> ?_) h
 refine⟨_,_,_,_,_,(o.at 3 rfl).whole,?_⟩
 refine⟨o.wr 4 rfl rfl,fun w13 Azd=> ?_⟩
 obtain⟨Axb,o⟩:=o.dSs 4 Azd rfl
 refine⟨_,_,_,_,_,(o.at 4 rfl).whole,?_⟩
 have le:=(o.rowAt 2 rfl).cap
 have Axl:=o.xX 2
 have sT1:=(((Aw6.trans Aw8).trans Axd).trans Axb).trans Axl
 have f1:=o.freeze (c:=Cj) (l:=(L++[x.t])) 2 rfl (fun b hb=>by simp at hb) (el3.st sT1)
 have o:=o.erase 2
 exact⟨(⟨(L++[x.t]),x.t.at_,E⟩:Dl),h,⟨_,rfl,(Of (⟨(L++[x.t]),x.t.at_,E⟩:Dl) ⟨le,(f1.st Mem.Aw9)⟩)⟩,o.done⟩
 refine⟨_,(o.at 1 rfl).cell rfl,?_⟩
 obtain⟨Axh,o⟩:=o.dX 0
 obtain⟨Axn,o⟩:=o.dX 0
 obtain⟨n1,hl,h⟩:=h
 have sT2:=(((Aw6.trans Aw8).trans Axd).trans Axh).trans Axn
 have sT3:=((((((((st4.trans st5).trans st6).trans st7).trans st9).trans Aw6).trans Aw8).trans Axd).trans Axh).trans Axn
 exact Bh hnn (show Z _ w12 n1 from(by rw [hZ];exact⟨(L++[x.t]),x.t.at_,E,At1,E1,(xs++([.q x.t.kind,.s x.t.text,.q x.t.n,.q x.t.at_]:List Value)),a1,c1,h,(el3.st sT2),o,sT3⟩)) hl
def Abr (toks:List Au) (atx:Int) (n:Int) (deep:Int) (K:As->Prop):Prop:=
 cond (n==6)
 (Kk toks atx deep (fun x=>
 K x))
 (Fi toks atx (IntKind.i64.wrap (n+1)) deep (fun x1=>
 ∃(I:(List Ai)->Int->Int->(List Ai)->Int->Int->Nat->Prop),(∃n1,I x1.l x1.at_ x1.e_ [] 0 0 n1)/\
 ∀(L:List Ai) (At:Int) (E:Int) (L1:List Ai) (At1:Int) (E1:Int) (n1:Nat),I L At E L1 At1 E1 n1->
 cond (E==0)
 (Dm toks At (fun x2=>
 Aho x2.text (fun op=>
 ∃(J:Bool->Prop),
 (cond (x2.kind !=4)
 (J true)
 (cond (op==0)
 (J true)
 (Wj op (fun x4=>
 J (x4 !=n)))))/\
 ∀(x3:Bool),J x3->
 cond (x3)
 (K (⟨L,At,E⟩:As))
 (Fi toks (IntKind.i64.wrap (At+1)) (IntKind.i64.wrap (n+1)) deep (fun x5=>
 cond (x5.e_ !=0)
 (K x5)
 (([(⟨op,[],0,2,x2.at_⟩:Ai)]).length+L.length<2^32/\
 ∃(J1:(List Ai)->Int->Int->Prop),
 (([(⟨op,[],0,2,x2.at_⟩:Ai)]++L).length+x5.l.length<2^32/\
 J1 (([(⟨op,[],0,2,x2.at_⟩:Ai)]++L)++x5.l) x5.at_ 0)/\
 ∀(L2:List Ai) (At2:Int) (E2:Int),J1 L2 At2 E2->
 cond (n==3)
 (K (⟨L2,At2,E2⟩:As))
 (∃n2,n2<n1/\I L2 At2 E2 L1 At1 E1 n2)))))))
 (K (⟨L,At,E⟩:As))))
set_option maxHeartbeats 4000000 in
theorem Zq (toks:List Au) (atx:Int) (n:Int) (deep:Int) (K:As->Prop) (h:Abr toks atx n deep K):Fi toks atx n deep K:=by
 intro m w hm Awv Aww Aws Awt
 have o:=Mem.start hm.lt
 refine Ad0 Awv toks.length Aww atx n deep _ _ ?_
 intro b w1 hb hw1
 obtain⟨st,o⟩:=o.dB hb hw1
 refine Ac (fun h=> ?_) (fun h=> ?_) h
 refine Aa (h _ w1 (o.mn hm) _ _ Aws (Awt.st st)) ?_
 rintro _ w2 ⟨x,h,⟨cs,rfl,f⟩,ke⟩
 obtain⟨st1,o⟩:=o.dE ke
 obtain⟨a,c,rfl,⟨le,f1⟩⟩:=D2 f
 refine⟨_,_,_,_,_,rfl,?_⟩
 refine⟨o.wr 0 rfl rfl,fun w3 hw3=> ?_⟩
 obtain⟨st2,o⟩:=o.dSs 0 hw3 rfl
 refine⟨_,_,_,_,_,(o.at 0 rfl).whole,?_⟩
 exact⟨x,h,⟨_,rfl,(B0 x ⟨le,(f1.st (st2.trans Mem.Aw9))⟩)⟩,o.done⟩
 refine Aa (h _ w1 (o.mn hm) _ _ Aws (Awt.st st)) ?_
 rintro _ w4 ⟨x1,h,⟨cs1,rfl,f2⟩,ke1⟩
 obtain⟨st3,o⟩:=o.dE ke1
 obtain⟨a1,c1,rfl,⟨le1,f3⟩⟩:=D2 f2
 refine⟨_,_,_,_,_,rfl,?_⟩
 intro b1 w5 hb1 hw5
 obtain⟨st4,o⟩:=o.dB hb1 hw5
 refine⟨o.wr 0 rfl rfl,fun w6 hw6=> ?_⟩
 obtain⟨st5,o⟩:=o.dSs 0 hw6 rfl
 have st6:=o.xN 59 5
 have o:=o.Bbu 59 5
 obtain⟨I,⟨n3,h⟩,h2⟩:=h
 obtain⟨Z,hZ⟩:∃Z:World->Nat->Prop,Z=fun w7 n1=>∃(L:List Ai) (At:Int) (E:Int) (L1:List Ai) (At1:Int) (E1:Int) (a2:Option Addr) (c2:Nat) (xs:List Value) (a3:Option Addr) (c3:Nat),I L At E L1 At1 E1 n1/\(L.length<=c2/\SlR Ay (ms [.row 59 5 a3 L1.length c3 xs,.box b1 [.slice a2 L.length c2,.q At,.q E],.box b [.slice a3 L1.length c3,.q At1,.q E1]] m) w7 a2 L)/\El Ay (ms [.row 59 5 a3 L1.length c3 xs,.box b1 [.slice a2 L.length c2,.q At,.q E],.box b [.slice a3 L1.length c3,.q At1,.q E1]] m) w7 L1 xs/\MS w m w6 [.row 59 5 none 0 0 [],.box b1 [.slice a1 x1.l.length c1,.q x1.at_,.q x1.e_],.box b [.slice none 0 0,.q 0,.q 0]] w7 [.row 59 5 a3 L1.length c3 xs,.box b1 [.slice a2 L.length c2,.q At,.q E],.box b [.slice a3 L1.length c3,.q At1,.q E1]]:=⟨_,rfl⟩
 refine⟨fun w7=>∃n1,Z w7 n1,fun w7=>Aw0 (Z w7),⟨n3,?_⟩,?_⟩
 have sT:=(st4.trans st5).trans st6
 rw [hZ];exact⟨x1.l,x1.at_,x1.e_,[],0,0,a1,c1,[],none,0,h,⟨le1,(f3.st sT)⟩,(El.nil _ _ _),o,Step.refl _ _⟩
 intro _ w7 hIZ
 obtain⟨n1,Az0⟩:∃n1,n1=Aw0 (Z w7):=⟨_,rfl⟩
 have hIZ:=Bz hIZ
 rw [←Az0,hZ]at hIZ
 obtain⟨L,At,E,L1,At1,E1,a2,c2,xs,a3,c3,h,⟨le2,f4⟩,el,o,st7⟩:=hIZ
 have h:=h2 L At E L1 At1 E1 n1 h
 refine⟨_,(o.at 1 rfl).cell rfl,?_⟩
 refine Ac (fun h=> ?_) (fun h=> ?_) h
 refine⟨_,(o.at 1 rfl).cell rfl,?_⟩
 have sT1:=((((st.trans st3).trans st4).trans st5).trans st6).trans st7
 refine Aa (h _ w7 (o.mn hm) _ _ Aws (Awt.st sT1)) ?_
 rintro _ w8 ⟨x2,h,⟨cs2,rfl,f5⟩,ke2⟩
 obtain⟨st8,o⟩:=o.dE ke2
 obtain rfl:=Dj f5
 refine⟨_,_,_,_,rfl,?_⟩
 intro b2 w9 hb2 hw9
 obtain⟨st9,o⟩:=o.dB hb2 hw9
 refine⟨o.wr 0 rfl rfl,fun w10 Bah=> ?_⟩
 obtain⟨Aw6,o⟩:=o.dSs 0 Bah rfl
 refine⟨_,(o.at 0 rfl).cell rfl,?_⟩
 refine Aa (h _ w10 (o.mn hm)) ?_
 rintro _ w11 ⟨op,h,rfl,ke3⟩
 obtain⟨Aw8,o⟩:=o.dE ke3
 refine⟨_,rfl,?_⟩
 obtain⟨J,h,h2⟩:=h
 refine⟨fun x3 w12=>J x3/\MT w m w11 w12 [.box b2 [.q x2.kind,.s x2.text,.q x2.n,.q x2.at_],.row 59 5 a3 L1.length c3 xs,.box b1 [.slice a2 L.length c2,.q At,.q E],.box b [.slice a3 L1.length c3,.q At1,.q E1]],?_,?_⟩
 refine⟨_,(o.at 0 rfl).cell rfl,?_⟩
 refine Ac (fun h=> ?_) (fun h=> ?_) h
 exact⟨h,o,Step.refl _ _⟩
 refine Ac (fun h=> ?_) (fun h=> ?_) h
 exact⟨h,o,Step.refl _ _⟩
 refine Aa (h _ w11 (o.mn hm)) ?_
 rintro _ w13 ⟨x4,h,rfl,ke4⟩
 obtain⟨Axb,o⟩:=o.dE ke4
 refine⟨_,rfl,?_⟩
 exact⟨h,o,Axb⟩
 rintro _ x3 w12 ⟨hJ,o,Axd⟩
 have h:=h2 x3 hJ
 refine Ac (fun h=> ?_) (fun h=> ?_) h
 refine⟨_,_,_,_,_,(o.at 2 rfl).whole,?_⟩
 refine⟨o.wr 3 rfl rfl,fun w14 Bag=> ?_⟩
 obtain⟨Axl,o⟩:=o.dSs 3 Bag rfl
 refine⟨_,_,_,_,_,(o.at 3 rfl).whole,?_⟩
 exact⟨(⟨L,At,E⟩:As),h,⟨_,rfl,(B0 (⟨L,At,E⟩:As) ⟨le2,(f4.st (st8.trans (st9.trans (Aw6.trans (Aw8.trans (Axd.trans (Axl.trans Mem.Aw9)))))))⟩)⟩,o.done⟩
 refine⟨_,(o.at 2 rfl).cell rfl,?_⟩
 have sT2:=((((sT1.trans st8).trans st9).trans Aw6).trans Aw8).trans Axd
 refine Aa (h _ w12 (o.mn hm) _ _ Aws (Awt.st sT2)) ?_
 rintro _ w15 ⟨x5,h,⟨cs3,rfl,f6⟩,ke5⟩
 obtain⟨Axh,o⟩:=o.dE ke5
 obtain⟨a4,c4,rfl,⟨le3,f7⟩⟩:=D2 f6
 refine⟨_,_,_,_,_,rfl,?_⟩
 intro b3 w16 hb3 Bbz
 obtain⟨Axn,o⟩:=o.dB hb3 Bbz
 refine⟨o.wr 0 rfl rfl,fun w17 Azo=> ?_⟩
 obtain⟨Axx,o⟩:=o.dSs 0 Azo rfl
 refine⟨_,(o.at 0 rfl).cell rfl,?_⟩
 refine Ac (fun h=> ?_) (fun h=> ?_) h
 refine⟨_,_,_,_,_,(o.at 0 rfl).whole,?_⟩
 refine⟨o.wr 4 rfl rfl,fun w18 Azy=> ?_⟩
 obtain⟨Ax4,o⟩:=o.dSs 4 Azy rfl
 refine⟨_,_,_,_,_,(o.at 4 rfl).whole,?_⟩
 exact⟨x5,h,⟨_,rfl,(B0 x5 ⟨le3,(f7.st (Axn.trans (Axx.trans (Ax4.trans Mem.Aw9))))⟩)⟩,o.done⟩
 refine⟨_,(o.at 1 rfl).cell rfl,?_⟩
 intro b4 w19 hb4 Bc7
 have el1:El Ay (ms [.box b3 [.slice a4 x5.l.length c4,.q x5.at_,.q x5.e_],.box b2 [.q x2.kind,.s x2.text,.q x2.n,.q x2.at_],.row 59 5 a3 L1.length c3 xs,.box b1 [.slice a2 L.length c2,.q At,.q E],.box b [.slice a3 L1.length c3,.q At1,.q E1]] m) w17 [(⟨op,[],0,2,x2.at_⟩:Ai)] ([.q op,.s [],.q 0,.q 2,.q x2.at_]:List Value):=(El.cons (cs:=[.q op,.s [],.q 0,.q 2,.q x2.at_]) (A3 (⟨op,[],0,2,x2.at_⟩:Ai)) (El.nil _ _ _))
 have Aye:=o.xL hb4 Bc7 5 1
 have o:=o.lit hb4 Bc7 5 1 (by decide) rfl
 refine⟨_,_,_,(o.at 4 rfl).cell rfl,?_⟩
 obtain⟨lt,h⟩:=h
 have sT3:=(((((((st8.trans st9).trans Aw6).trans Aw8).trans Axd).trans Axh).trans Axn).trans Axx).trans Aye
 obtain⟨xs1,hx,el2⟩:=SlR.cells (f4.st sT3)
 have el3:=((el1.st Aye)).app el2
 refine Eu Ach (o.rowAt 0 rfl) hx el2.len el2.one (by first|(simp;done)|simpa using lt) (by decide) (Nat.zero_le _) fun a5 c5 w20 hr hg hat=> ?_
 have ln:1+L.length=([(⟨op,[],0,2,x2.at_⟩:Ai)]++L).length:=(by first|(simp;done)|(simp;omega))
 rw [ln]at hr⊢
 refine⟨_,_,_,rfl,?_⟩
 have Ayc:=o.xA 0 rfl hr hg hat
 have o:=o.app 0 rfl hr hg hat
 obtain⟨J1,h,h2⟩:=h
 refine⟨fun w21=>∃(L2:List Ai) (At2:Int) (E2:Int) (xs2:List Value) (a6:Option Addr) (c6:Nat),J1 L2 At2 E2/\El Ay (ms [.row 59 5 a6 L2.length c6 xs2,.box b3 [.slice a4 x5.l.length c4,.q x5.at_,.q x5.e_],.box b2 [.q x2.kind,.s x2.text,.q x2.n,.q x2.at_],.row 59 5 a3 L1.length c3 xs,.box b1 [.slice a6 L2.length c6,.q At2,.q E2],.box b [.slice a3 L1.length c3,.q At1,.q E1]] m) w21 L2 xs2/\MS w m w20 [.row 59 5 a5 (([(⟨op,[],0,2,x2.at_⟩:Ai)]++L).length) c5 (([.q op,.s [],.q 0,.q 2,.q x2.at_]:List Value)++xs1),.box b3 [.slice a4 x5.l.length c4,.q x5.at_,.q x5.e_],.box b2 [.q x2.kind,.s x2.text,.q x2.n,.q x2.at_],.row 59 5 a3 L1.length c3 xs,.box b1 [.slice a2 L.length c2,.q At,.q E],.box b [.slice a3 L1.length c3,.q At1,.q E1]] w21 [.row 59 5 a6 L2.length c6 xs2,.box b3 [.slice a4 x5.l.length c4,.q x5.at_,.q x5.e_],.box b2 [.q x2.kind,.s x2.text,.q x2.n,.q x2.at_],.row 59 5 a3 L1.length c3 xs,.box b1 [.slice a6 L2.length c6,.q At2,.q E2],.box b [.slice a3 L1.length c3,.q At1,.q E1]],?_,?_⟩
 intro w22 Bb5
 obtain⟨Ayo,o⟩:=o.dD Bb5
 have ox:=o
 refine⟨fun u=>An ((Vc.blk a5).toList) w22 u,An.refl _ _,?_⟩
 refine⟨_,_,_,fun u hu=>((ox.at 1 rfl).Awz hu (fun h=>by exact ox.Bi1 1 0 rfl rfl (by decide) h)).cell rfl,?_⟩
 refine⟨_,fun u hu=>((ox.at 1 rfl).Awz hu (fun h=>by exact ox.Bi1 1 0 rfl rfl (by decide) h)).cell rfl,?_⟩
 obtain⟨lt1,h⟩:=h
 have sT4:=(((Axn.trans Axx).trans Aye).trans Ayc).trans Ayo
 obtain⟨xs3,hx1,el5⟩:=SlR.cells (f7.st sT4)
 have el6:=((el3.st (Ayc.trans Ayo))).app el5
 refine Eu Ach (o.rowAt 0 rfl) hx1 el5.len el5.one (by first|(simp;done)|simpa using lt1) (by decide) (Nat.zero_le _) fun a7 c7 w23 hr1 hg1 Bdx=> ?_
 have ln1:([(⟨op,[],0,2,x2.at_⟩:Ai)]++L).length+x5.l.length=(([(⟨op,[],0,2,x2.at_⟩:Ai)]++L)++x5.l).length:=(by first|(simp;done)|(simp;omega))
 rw [ln1]at hr1⊢
 refine⟨_,_,_,rfl,?_⟩
 have Azp:=o.xA 0 rfl hr1 hg1 Bdx
 have o:=o.app 0 rfl hr1 hg1 Bdx
 refine⟨(Nn (An.refl _ _) hg1 (fun q hq=> .inl (by simp [hq]))),?_⟩
 refine⟨o.wr 4 rfl rfl,fun w24 Bcy=> ?_⟩
 obtain⟨Ay2,o⟩:=o.dSs 4 Bcy rfl
 have sT5:=(Ayo.trans Azp).trans Ay2
 exact⟨(([(⟨op,[],0,2,x2.at_⟩:Ai)]++L)++x5.l),x5.at_,0,((([.q op,.s [],.q 0,.q 2,.q x2.at_]:List Value)++xs1)++xs3),a7,c7,h,(el6.st (Azp.trans Ay2)),o,sT5⟩
 rintro _ w21 ⟨L2,At2,E2,xs2,a6,c6,hJ,el4,o,Ayi⟩
 have h:=h2 L2 At2 E2 hJ
 refine Ac (fun h=> ?_) (fun h=> ?_) h
 refine⟨_,_,_,_,_,(o.at 4 rfl).whole,?_⟩
 refine⟨o.wr 5 rfl rfl,fun w25 Bbw=> ?_⟩
 obtain⟨Ay3,o⟩:=o.dSs 5 Bbw rfl
 refine⟨_,_,_,_,_,(o.at 5 rfl).whole,?_⟩
 have le4:=(o.rowAt 0 rfl).cap
 have Bad:=o.xX 0
 have f8:=o.freeze (c:=Ay) (l:=L2) 0 rfl (fun b hb=>by simp at hb) (el4.st (Ay3.trans Bad))
 have o:=o.erase 0
 exact⟨(⟨L2,At2,E2⟩:As),h,⟨_,rfl,(B0 (⟨L2,At2,E2⟩:As) ⟨le4,(f8.st Mem.Aw9)⟩)⟩,o.done⟩
 have le5:=(o.rowAt 0 rfl).cap
 have Ay7:=o.xX 0
 have f9:=o.freeze (c:=Ay) (l:=L2) 0 rfl (fun b hb=>by simp at hb) (el4.st Ay7)
 have o:=o.erase 0
 obtain⟨Azj,o⟩:=o.dX 0
 obtain⟨Azq,o⟩:=o.dX 0
 obtain⟨n2,hl,h⟩:=h
 have sT6:=((((sT3.trans Ayc).trans Ayi).trans Ay7).trans Azj).trans Azq
 have sT7:=(((((((((((((st7.trans st8).trans st9).trans Aw6).trans Aw8).trans Axd).trans Axh).trans Axn).trans Axx).trans Aye).trans Ayc).trans Ayi).trans Ay7).trans Azj).trans Azq
 exact Bh Az0 (show Z w21 n2 from(by rw [hZ];exact⟨L2,At2,E2,L1,At1,E1,a6,c6,xs,a3,c3,h,⟨le5,(f9.st (Azj.trans Azq))⟩,(el.st sT6),o,sT7⟩)) hl
 refine⟨_,_,_,_,_,(o.at 1 rfl).whole,?_⟩
 refine⟨o.wr 2 rfl rfl,fun w26 Civ=> ?_⟩
 obtain⟨Azz,o⟩:=o.dSs 2 Civ rfl
 refine⟨_,_,_,_,_,(o.at 2 rfl).whole,?_⟩
 exact⟨(⟨L,At,E⟩:As),h,⟨_,rfl,(B0 (⟨L,At,E⟩:As) ⟨le2,(f4.st (Azz.trans Mem.Aw9))⟩)⟩,o.done⟩
end Go.Proofs.YtcakelelfklhdaaGreatDoor
