/- A part of the proof: conditions of the code, contracts, the plain law. -/
import Derived.Test.YtcakelelfklhdaaGreatDoorM1
import Derived.Test.YtcakelelfklhdaaGreatDoorRows
import Derived.Test.YtcakelelfklhdaaGreatDoorVcI
import Derived.Test.YtcakelelfklhdaaGreatDoorLv
namespace Go.Proofs.YtcakelelfklhdaaGreatDoor
open Go.Vc
def Ahf (x0:Option Addr) (x1:Nat) (x2:Nat) (x3:Int) (K:Value->World->Prop) (w:World):Prop:=
 ∀x4 w1,x4=w.heap.size->w1=w.alloc (.cells #[.slice none 0 0,.q 0,.q 0,.q 0] 82)->
 Calls Tryz.prog 35 #[.slice x0 x1 x2,.q x3] w1 (Ret fun x5 w2=>
 ∃x6 x7 x8 x9,x5= .agg #[.q x6,.s x7,.q x8,.q x9]/\
 ∀x10 w3,x10=w2.heap.size->w3=w2.alloc (.cells #[.q 0,.s [],.q 0,.q 0,.q 0] 59)->
 Af w3 ⟨x10,0,none⟩ 5/\∀w4,w4=setCells w3 ⟨x10,0,none⟩ [.q 0,.s [],.q 0,.q 0,.q x9]->
 Calls Tryz.prog 70 #[.slice x0 x1 x2,.q x3,.s [99,104,97,110]] w4 (Ret fun x11 w5=>
 ∃x12,x11= .bool x12/\
 cond (x12)
 (Af w5 ⟨x10,0,none⟩ 1/\∀w6,w6=w5.setCell ⟨x10,0,none⟩ (.q 38)->
 Calls Tryz.prog 34 #[.q x3] w6 (Ret fun x13 w7=>
 ∃x14 x15 x16 x17 x18 x19,x13= .agg #[.slice x14 x15 x16,.q x17,.q x18,.q x19]/\
 Calls Tryz.prog 71 #[.agg #[.slice x14 x15 x16,.q x17,.q x18,.q x19],.slice x0 x1 x2,.s [99,104,97,110]] w7 (Ret fun x20 w8=>
 ∃x21 x22 x23 x24 x25 x26,x20= .agg #[.slice x21 x22 x23,.q x24,.q x25,.q x26]/\
 Calls Tryz.prog 72 #[.agg #[.slice x21 x22 x23,.q x24,.q x25,.q x26],.slice x0 x1 x2] w8 (Ret fun x27 w9=>
 ∃x28 x29 x30 x31 x32 x33 x34,x27= .tuple #[.agg #[.slice x28 x29 x30,.q x31,.q x32,.q x33],.s x34]/\
 ∀x35 w10,x35=w9.heap.size->w10=w9.alloc (.cells #[.slice none 0 0,.q 0,.q 0,.q 0] 82)->
 Af w10 ⟨x35,0,none⟩ 4/\∀w11,w11=setCells w10 ⟨x35,0,none⟩ [.slice x28 x29 x30,.q x31,.q x32,.q x33]->
 Af w11 ⟨x10,1,none⟩ 1/\∀w12,w12=w11.setCell ⟨x10,1,none⟩ (.s x34)->
 ∃(J:World->Prop),
 (∃(J1:Bool->World->Prop),
 (∃x36,w12.cell? ⟨x35,3,none⟩=some (.q x36)/\
 cond (x36==0)
 (∃x37,w12.cell? ⟨x35,2,none⟩=some (.q x37)/\
 Calls Tryz.prog 70 #[.slice x0 x1 x2,.q x37,.s [91]] w12 (Ret fun x38 w13=>
 ∃x39,x38= .bool x39/\
 J1 x39 w13))
 (J1 false w12))/\
 ∀(_x40:Nat->Value) (x41:Bool) (w14:World),J1 x41 w14->
 cond (x41)
 (∃x42 x43 x44 x45 x46 x47,Ad w14 ⟨x35,0,none⟩ [.slice x42 x43 x44,.q x45,.q x46,.q x47]/\
 Calls Tryz.prog 71 #[.agg #[.slice x42 x43 x44,.q x45,.q x46,.q x47],.slice x0 x1 x2,.s [91]] w14 (Ret fun x48 w15=>
 ∃x49 x50 x51 x52 x53 x54,x48= .agg #[.slice x49 x50 x51,.q x52,.q x53,.q x54]/\
 Calls Tryz.prog 73 #[.agg #[.slice x49 x50 x51,.q x52,.q x53,.q x54],.slice x0 x1 x2] w15 (Ret fun x55 w16=>
 ∃x56 x57 x58 x59 x60 x61 x62,x55= .tuple #[.agg #[.slice x56 x57 x58,.q x59,.q x60,.q x61],.q x62]/\
 Af w16 ⟨x35,0,none⟩ 4/\∀w17,w17=setCells w16 ⟨x35,0,none⟩ [.slice x56 x57 x58,.q x59,.q x60,.q x61]->
 Af w17 ⟨x10,2,none⟩ 1/\∀w18,w18=w17.setCell ⟨x10,2,none⟩ (.q x62)->
 ∃x63 x64 x65 x66 x67 x68,Ad w18 ⟨x35,0,none⟩ [.slice x63 x64 x65,.q x66,.q x67,.q x68]/\
 Calls Tryz.prog 71 #[.agg #[.slice x63 x64 x65,.q x66,.q x67,.q x68],.slice x0 x1 x2,.s [93]] w18 (Ret fun x69 w19=>
 ∃x70 x71 x72 x73 x74 x75,x69= .agg #[.slice x70 x71 x72,.q x73,.q x74,.q x75]/\
 Af w19 ⟨x35,0,none⟩ 4/\∀w20,w20=setCells w19 ⟨x35,0,none⟩ [.slice x70 x71 x72,.q x73,.q x74,.q x75]->
 J w20))))
 (J w14))/\
 ∀(_x76:Nat->Value) (w21:World),J w21->
 ∀w22,w22=w21.drew->
 ∃(S:World->Prop),S w22/\
 ∃x77 x78 x79 x80 x81 x82,(∀u,S u->Ad u ⟨x35,0,none⟩ [.slice x77 x78 x79,.q x80,.q x81,.q x82])/\
 ∃x83 x84 x85 x86 x87,(∀u,S u->Ad u ⟨x10,0,none⟩ [.q x83,.s x84,.q x85,.q x86,.q x87])/\
 Calls Tryz.prog 71 #[.agg #[.slice x77 x78 x79,.q x80,.q x81,.q x82],.slice x0 x1 x2,.s [59]] w22 (Ret fun x88 w23=>
 ∃x89 x90 x91 x92 x93 x94,x88= .agg #[.slice x89 x90 x91,.q x92,.q x93,.q x94]/\
 S w23/\
 Calls Tryz.prog 38 #[.agg #[.slice x89 x90 x91,.q x92,.q x93,.q x94],.agg #[.q x83,.s x84,.q x85,.q x86,.q x87]] w23 (Ret fun x95 w24=>
 ∃x96 x97 x98 x99 Axy Ax6,x95= .agg #[.slice x96 x97 x98,.q x99,.q Axy,.q Ax6]/\
 Af w24 ⟨x4,0,none⟩ 4/\∀w25,w25=setCells w24 ⟨x4,0,none⟩ [.slice x96 x97 x98,.q x99,.q Axy,.q Ax6]->
 ∃Ax9 Axz Ayd Axs Ax7 Aya,Ad w25 ⟨x4,0,none⟩ [.slice Ax9 Axz Ayd,.q Axs,.q Ax7,.q Aya]/\
 K (.agg #[.slice Ax9 Axz Ayd,.q Axs,.q Ax7,.q Aya]) w25))))))
 (Calls Tryz.prog 70 #[.slice x0 x1 x2,.q x3,.s [112,114,111,99]] w5 (Ret fun Ax3 w26=>
 ∃Ax8,Ax3= .bool Ax8/\
 cond (Ax8)
 (Af w26 ⟨x10,0,none⟩ 1/\∀w27,w27=w26.setCell ⟨x10,0,none⟩ (.q 40)->
 Calls Tryz.prog 34 #[.q x3] w27 (Ret fun Azh w28=>
 ∃Ayj Azm Aza Ay5 Ays Ayw,Azh= .agg #[.slice Ayj Azm Aza,.q Ay5,.q Ays,.q Ayw]/\
 Calls Tryz.prog 71 #[.agg #[.slice Ayj Azm Aza,.q Ay5,.q Ays,.q Ayw],.slice x0 x1 x2,.s [112,114,111,99]] w28 (Ret fun Ay6 w29=>
 ∃Ayx Azi Ayy Ayz Ay0 Ayt,Ay6= .agg #[.slice Ayx Azi Ayy,.q Ayz,.q Ay0,.q Ayt]/\
 Calls Tryz.prog 72 #[.agg #[.slice Ayx Azi Ayy,.q Ayz,.q Ay0,.q Ayt],.slice x0 x1 x2] w29 (Ret fun Ay1 w30=>
 ∃Azu Azn Azs Bbf Az2 Azt Bcc,Ay1= .tuple #[.agg #[.slice Azu Azn Azs,.q Bbf,.q Az2,.q Azt],.s Bcc]/\
 ∀Ax0 w31,Ax0=w30.heap.size->w31=w30.alloc (.cells #[.slice none 0 0,.q 0,.q 0,.q 0] 82)->
 Af w31 ⟨Ax0,0,none⟩ 4/\∀w32,w32=setCells w31 ⟨Ax0,0,none⟩ [.slice Azu Azn Azs,.q Bbf,.q Az2,.q Azt]->
 Af w32 ⟨x10,1,none⟩ 1/\∀w33,w33=w32.setCell ⟨x10,1,none⟩ (.s Bcc)->
 ∃Bbg Az3 Baj Bbh Bak Az9,Ad w33 ⟨Ax0,0,none⟩ [.slice Bbg Az3 Baj,.q Bbh,.q Bak,.q Az9]/\
 Calls Tryz.prog 71 #[.agg #[.slice Bbg Az3 Baj,.q Bbh,.q Bak,.q Az9],.slice x0 x1 x2,.s [40]] w33 (Ret fun Bbi w34=>
 ∃Bbj Bcd Bal Bce Bam Bc1,Bbi= .agg #[.slice Bbj Bcd Bal,.q Bce,.q Bam,.q Bc1]/\
 Af w34 ⟨Ax0,0,none⟩ 4/\∀w35,w35=setCells w34 ⟨Ax0,0,none⟩ [.slice Bbj Bcd Bal,.q Bce,.q Bam,.q Bc1]->
 ∃(J2:World->Prop),
 (∃(J3:Bool->World->Prop),
 (∃Ban,w35.cell? ⟨Ax0,3,none⟩=some (.q Ban)/\
 cond (Ban==0)
 (∃Bao,w35.cell? ⟨Ax0,2,none⟩=some (.q Bao)/\
 Calls Tryz.prog 70 #[.slice x0 x1 x2,.q Bao,.s [41]] w35 (Ret fun Bb3 w36=>
 ∃Bap,Bb3= .bool Bap/\
 J3 (!Bap) w36))
 (J3 false w35))/\
 ∀(_x150:Nat->Value) (Baq:Bool) (w37:World),J3 Baq w37->
 cond (Baq)
 (∃Bb4 Bar Bas Bbk Bbl Bcg,Ad w37 ⟨Ax0,0,none⟩ [.slice Bb4 Bar Bas,.q Bbk,.q Bbl,.q Bcg]/\
 Calls Tryz.prog 74 #[.agg #[.slice Bb4 Bar Bas,.q Bbk,.q Bbl,.q Bcg],.slice x0 x1 x2] w37 (Ret fun Bbm w38=>
 ∃Bbn Bbo Bat Bbp Bau Bbq,Bbm= .agg #[.slice Bbn Bbo Bat,.q Bbp,.q Bau,.q Bbq]/\
 Af w38 ⟨Ax0,0,none⟩ 4/\∀w39,w39=setCells w38 ⟨Ax0,0,none⟩ [.slice Bbn Bbo Bat,.q Bbp,.q Bau,.q Bbq]->
 ∃(I:World->Prop) (Bav:World->Nat),I w39/\
 ∀(_x166:Nat->Value) (w40:World),I w40->
 ∃(J4:Bool->World->Prop),
 (∃Baw,w40.cell? ⟨Ax0,3,none⟩=some (.q Baw)/\
 cond (Baw==0)
 (∃Bax,w40.cell? ⟨Ax0,2,none⟩=some (.q Bax)/\
 Calls Tryz.prog 70 #[.slice x0 x1 x2,.q Bax,.s [44]] w40 (Ret fun Bbr w41=>
 ∃Bci,Bbr= .bool Bci/\
 J4 Bci w41))
 (J4 false w40))/\
 ∀(_x171:Nat->Value) (Bbs:Bool) (w42:World),J4 Bbs w42->
 cond (Bbs)
 (∃Bay Bck Bd6 Bd7 Bd8 Be6,Ad w42 ⟨Ax0,0,none⟩ [.slice Bay Bck Bd6,.q Bd7,.q Bd8,.q Be6]/\
 Calls Tryz.prog 71 #[.agg #[.slice Bay Bck Bd6,.q Bd7,.q Bd8,.q Be6],.slice x0 x1 x2,.s [44]] w42 (Ret fun Bge w43=>
 ∃Bd9 Bea Be7 Beb Bec Be8,Bge= .agg #[.slice Bd9 Bea Be7,.q Beb,.q Bec,.q Be8]/\
 Calls Tryz.prog 74 #[.agg #[.slice Bd9 Bea Be7,.q Beb,.q Bec,.q Be8],.slice x0 x1 x2] w43 (Ret fun Be9 w44=>
 ∃Bg0 Bed Bee Bef Beg Bg1,Be9= .agg #[.slice Bg0 Bed Bee,.q Bef,.q Beg,.q Bg1]/\
 Af w44 ⟨Ax0,0,none⟩ 4/\∀w45,w45=setCells w44 ⟨Ax0,0,none⟩ [.slice Bg0 Bed Bee,.q Bef,.q Beg,.q Bg1]->
 I w45/\Bav w45<Bav w40)))
 (J2 w42)))
 (J2 w37))/\
 ∀(_x193:Nat->Value) (w46:World),J2 w46->
 ∀w47,w47=w46.drew->
 ∃(S1:World->Prop),S1 w47/\
 ∃Bg2 Bg3 Bg4 Bg5 Bg6 Bg7,(∀u,S1 u->Ad u ⟨Ax0,0,none⟩ [.slice Bg2 Bg3 Bg4,.q Bg5,.q Bg6,.q Bg7])/\
 ∃Bg8 Bg9 Bha Bhb Bkj,(∀u,S1 u->Ad u ⟨x10,0,none⟩ [.q Bg8,.s Bg9,.q Bha,.q Bhb,.q Bkj])/\
 Calls Tryz.prog 71 #[.agg #[.slice Bg2 Bg3 Bg4,.q Bg5,.q Bg6,.q Bg7],.slice x0 x1 x2,.s [41]] w47 (Ret fun Bkk w48=>
 ∃Bhc Bhd Bhe Bhf Bhg Bkl,Bkk= .agg #[.slice Bhc Bhd Bhe,.q Bhf,.q Bhg,.q Bkl]/\
 S1 w48/\
 Calls Tryz.prog 75 #[.agg #[.slice Bhc Bhd Bhe,.q Bhf,.q Bhg,.q Bkl],.slice x0 x1 x2,.q 1] w48 (Ret fun Bkm w49=>
 ∃Bhh Bhi Bhj Bhk Bhl Bkn,Bkm= .agg #[.slice Bhh Bhi Bhj,.q Bhk,.q Bhl,.q Bkn]/\
 S1 w49/\
 Calls Tryz.prog 38 #[.agg #[.slice Bhh Bhi Bhj,.q Bhk,.q Bhl,.q Bkn],.agg #[.q Bg8,.s Bg9,.q Bha,.q Bhb,.q Bkj]] w49 (Ret fun Bko w50=>
 ∃Bhm Bhn Bho Bhp Bhq Bhr,Bko= .agg #[.slice Bhm Bhn Bho,.q Bhp,.q Bhq,.q Bhr]/\
 Af w50 ⟨x4,0,none⟩ 4/\∀w51,w51=setCells w50 ⟨x4,0,none⟩ [.slice Bhm Bhn Bho,.q Bhp,.q Bhq,.q Bhr]->
 ∃Bhs Bht Bhu Bhv Bhw Bhx,Ad w51 ⟨x4,0,none⟩ [.slice Bhs Bht Bhu,.q Bhv,.q Bhw,.q Bhx]/\
 K (.agg #[.slice Bhs Bht Bhu,.q Bhv,.q Bhw,.q Bhx]) w51))))))))
 (Af w26 ⟨x10,0,none⟩ 1/\∀w52,w52=w26.setCell ⟨x10,0,none⟩ (.q 41)->
 ∀w53,w53=w52.drew->
 ∃(S2:World->Prop),S2 w53/\
 ∃Bhy Bhz Bh0 Bh1 Bh2,(∀u,S2 u->Ad u ⟨x10,0,none⟩ [.q Bhy,.s Bhz,.q Bh0,.q Bh1,.q Bh2])/\
 Calls Tryz.prog 34 #[.q x3] w53 (Ret fun Bkp w54=>
 ∃Bh3 Bh4 Bh5 Bh6 Bkq Bh7,Bkp= .agg #[.slice Bh3 Bh4 Bh5,.q Bh6,.q Bkq,.q Bh7]/\
 S2 w54/\
 Calls Tryz.prog 71 #[.agg #[.slice Bh3 Bh4 Bh5,.q Bh6,.q Bkq,.q Bh7],.slice x0 x1 x2,.s [109,97,105,110]] w54 (Ret fun Bkr w55=>
 ∃Bh8 Bh9 Bia Bib Bks Bic,Bkr= .agg #[.slice Bh8 Bh9 Bia,.q Bib,.q Bks,.q Bic]/\
 S2 w55/\
 Calls Tryz.prog 75 #[.agg #[.slice Bh8 Bh9 Bia,.q Bib,.q Bks,.q Bic],.slice x0 x1 x2,.q 1] w55 (Ret fun Bkt w56=>
 ∃Bid Bie Bif Big Bku Bih,Bkt= .agg #[.slice Bid Bie Bif,.q Big,.q Bku,.q Bih]/\
 S2 w56/\
 Calls Tryz.prog 38 #[.agg #[.slice Bid Bie Bif,.q Big,.q Bku,.q Bih],.agg #[.q Bhy,.s Bhz,.q Bh0,.q Bh1,.q Bh2]] w56 (Ret fun Bkv w57=>
 ∃Bii Bij Bik Bil Bkw Bim,Bkv= .agg #[.slice Bii Bij Bik,.q Bil,.q Bkw,.q Bim]/\
 Af w57 ⟨x4,0,none⟩ 4/\∀w58,w58=setCells w57 ⟨x4,0,none⟩ [.slice Bii Bij Bik,.q Bil,.q Bkw,.q Bim]->
 ∃Bin Bio Bip Biq Bir Bis,Ad w58 ⟨x4,0,none⟩ [.slice Bin Bio Bip,.q Biq,.q Bir,.q Bis]/\
 K (.agg #[.slice Bin Bio Bip,.q Biq,.q Bir,.q Bis]) w58)))))))))
theorem Ahg (x0:Option Addr) (x1:Nat) (x2:Nat) (x3:Int) (K:Value->World->Prop) (w:World) (h:Ahf x0 x1 x2 x3 K w):Calls Tryz.prog 37 #[.slice x0 x1 x2,.q x3] w (Ret K):=
 Ao { loops:=[(62954,[])],Axo:=[(471,[]),(942,[(38,.bool)]),(1967,[]),(3934,[(83,.bool)]),(251816,[(95,.bool)])] } Tryz.func37 (by kernel_rfl) h
def Ahh (x0:Option Addr) (x1:Nat) (x2:Nat) (K:Value->World->Prop) (w:World):Prop:=
 ∀x3 w1,x3=w.heap.size->w1=w.alloc (.cells #[.slice none 0 0,.q 0,.q 0] 29)->
 Calls Tryz.prog 34 #[.q 0] w1 (Ret fun x4 w2=>
 ∃x5 x6 x7 x8 x9 x10,x4= .agg #[.slice x5 x6 x7,.q x8,.q x9,.q x10]/\
 ∀x11 w3,x11=w2.heap.size->w3=w2.alloc (.cells #[.slice none 0 0,.q 0,.q 0,.q 0] 82)->
 Af w3 ⟨x11,0,none⟩ 4/\∀w4,w4=setCells w3 ⟨x11,0,none⟩ [.slice x5 x6 x7,.q x8,.q x9,.q x10]->
 ∃(I:World->Prop) (x12:World->Nat),I w4/\
 ∀(_x13:Nat->Value) (w5:World),I w5->
 ∃(J:Bool->World->Prop),
 (∃x14,w5.cell? ⟨x11,3,none⟩=some (.q x14)/\
 cond (x14==0)
 (∃x15,w5.cell? ⟨x11,2,none⟩=some (.q x15)/\
 Calls Tryz.prog 35 #[.slice x0 x1 x2,.q x15] w5 (Ret fun x16 w6=>
 ∃x17 x18 x19 x20,x16= .agg #[.q x17,.s x18,.q x19,.q x20]/\
 J (x17 !=0) w6))
 (J false w5))/\
 ∀(_x21:Nat->Value) (x22:Bool) (w7:World),J x22 w7->
 cond (x22)
 (∀w8,w8=w7.drew->
 ∃(S:World->Prop),S w8/\
 ∃x23 x24 x25 x26 x27 x28,(∀u,S u->Ad u ⟨x11,0,none⟩ [.slice x23 x24 x25,.q x26,.q x27,.q x28])/\
 ∃x29,(∀u,S u->u.cell? ⟨x11,2,none⟩=some (.q x29))/\
 Calls Tryz.prog 37 #[.slice x0 x1 x2,.q x29] w8 (Ret fun x30 w9=>
 ∃x31 x32 x33 x34 x35 x36,x30= .agg #[.slice x31 x32 x33,.q x34,.q x35,.q x36]/\
 S w9/\
 Calls Tryz.prog 36 #[.agg #[.slice x23 x24 x25,.q x26,.q x27,.q x28],.agg #[.slice x31 x32 x33,.q x34,.q x35,.q x36]] w9 (Ret fun x37 w10=>
 ∃x38 x39 x40 x41 x42 x43,x37= .agg #[.slice x38 x39 x40,.q x41,.q x42,.q x43]/\
 Af w10 ⟨x11,0,none⟩ 4/\∀w11,w11=setCells w10 ⟨x11,0,none⟩ [.slice x38 x39 x40,.q x41,.q x42,.q x43]->
 I w11/\x12 w11<x12 w5)))
 (∃x44,w7.cell? ⟨x11,3,none⟩=some (.q x44)/\
 cond (x44 !=0)
 (∃x45,w7.cell? ⟨x11,2,none⟩=some (.q x45)/\
 ∃x46,w7.cell? ⟨x11,3,none⟩=some (.q x46)/\
 Af w7 ⟨x3,0,none⟩ 3/\∀w12,w12=setCells w7 ⟨x3,0,none⟩ [.slice none 0 0,.q x45,.q x46]->
 ∃x47 x48 x49 x50 x51,Ad w12 ⟨x3,0,none⟩ [.slice x47 x48 x49,.q x50,.q x51]/\
 K (.agg #[.slice x47 x48 x49,.q x50,.q x51]) w12)
 (∃x52 x53 x54 x55 x56 x57,Ad w7 ⟨x11,0,none⟩ [.slice x52 x53 x54,.q x55,.q x56,.q x57]/\
 Calls Tryz.prog 38 #[.agg #[.slice x52 x53 x54,.q x55,.q x56,.q x57],.agg #[.q 42,.s [],.q 0,.q 0,.q 0]] w7 (Ret fun x58 w13=>
 ∃x59 x60 x61 x62 x63 x64,x58= .agg #[.slice x59 x60 x61,.q x62,.q x63,.q x64]/\
 Af w13 ⟨x3,0,none⟩ 3/\∀w14,w14=setCells w13 ⟨x3,0,none⟩ [.slice x59 x60 x61,.q 0,.q 0]->
 ∃x65 x66 x67 x68 x69,Ad w14 ⟨x3,0,none⟩ [.slice x65 x66 x67,.q x68,.q x69]/\
 K (.agg #[.slice x65 x66 x67,.q x68,.q x69]) w14))))
theorem Ahi (x0:Option Addr) (x1:Nat) (x2:Nat) (K:Value->World->Prop) (w:World) (h:Ahh x0 x1 x2 K w):Calls Tryz.prog 18 #[.slice x0 x1 x2] w (Ret K):=
 Ao { loops:=[(28,[])],Axo:=[(112,[(15,.bool)])] } Tryz.func18 (by kernel_rfl) h
def Ahj (x0:List UInt8) (K:Value->World->Prop) (w:World):Prop:=
 ∀x1 w1,x1=w.heap.size->w1=w.alloc (.cells #[.slice none 0 0,.q 0,.q 0] 29)->
 Calls Tryz.prog 17 #[.s x0] w1 (Ret fun x2 w2=>
 ∃x3 x4 x5 x6 x7,x2= .agg #[.slice x3 x4 x5,.q x6,.q x7]/\
 ∀x8 w3,x8=w2.heap.size->w3=w2.alloc (.cells #[.slice none 0 0,.q 0,.q 0] 53)->
 Af w3 ⟨x8,0,none⟩ 3/\∀w4,w4=setCells w3 ⟨x8,0,none⟩ [.slice x3 x4 x5,.q x6,.q x7]->
 ∃x9,w4.cell? ⟨x8,2,none⟩=some (.q x9)/\
 cond (x9 !=0)
 (∃x10,w4.cell? ⟨x8,1,none⟩=some (.q x10)/\
 ∃x11,w4.cell? ⟨x8,2,none⟩=some (.q x11)/\
 Af w4 ⟨x1,0,none⟩ 3/\∀w5,w5=setCells w4 ⟨x1,0,none⟩ [.slice none 0 0,.q x10,.q x11]->
 ∃x12 x13 x14 x15 x16,Ad w5 ⟨x1,0,none⟩ [.slice x12 x13 x14,.q x15,.q x16]/\
 K (.agg #[.slice x12 x13 x14,.q x15,.q x16]) w5)
 (∃x17 x18 x19,w4.cell? ⟨x8,0,none⟩=some (.slice x17 x18 x19)/\
 Calls Tryz.prog 18 #[.slice x17 x18 x19] w4 (Ret fun x20 w6=>
 ∃x21 x22 x23 x24 x25,x20= .agg #[.slice x21 x22 x23,.q x24,.q x25]/\
 ∀x26 w7,x26=w6.heap.size->w7=w6.alloc (.cells #[.slice none 0 0,.q 0,.q 0] 29)->
 Af w7 ⟨x26,0,none⟩ 3/\∀w8,w8=setCells w7 ⟨x26,0,none⟩ [.slice x21 x22 x23,.q x24,.q x25]->
 ∃(J:World->Prop),
 (∃x27,w8.cell? ⟨x26,2,none⟩=some (.q x27)/\
 cond (x27 !=0)
 (∃x28 x29 x30,w8.cell? ⟨x8,0,none⟩=some (.slice x28 x29 x30)/\
 ∃x31,w8.cell? ⟨x26,1,none⟩=some (.q x31)/\
 ∃x32 x33 x34,w8.cell? ⟨x8,0,none⟩=some (.slice x32 x33 x34)/\
 ((0:Int)<=(if(IntKind.i64.wrap ((x33:Int)-1))<x31 then IntKind.i64.wrap ((x33:Int)-1)else x31)/\(if(IntKind.i64.wrap ((x33:Int)-1))<x31 then IntKind.i64.wrap ((x33:Int)-1)else x31)<(x29:Int))/\
 A5 x28 (fun x35=>
 ∃x36,w8.cell? ((x35.add ((if(IntKind.i64.wrap ((x33:Int)-1))<x31 then IntKind.i64.wrap ((x33:Int)-1)else x31).toNat*4)).add 3)=some (.q x36)/\
 Af w8 ⟨x26,1,none⟩ 1/\∀w9,w9=w8.setCell ⟨x26,1,none⟩ (.q x36)->
 J w9))
 (J w8))/\
 ∀(_x37:Nat->Value) (w10:World),J w10->
 ∃x38 x39 x40 x41 x42,Ad w10 ⟨x26,0,none⟩ [.slice x38 x39 x40,.q x41,.q x42]/\
 Af w10 ⟨x1,0,none⟩ 3/\∀w11,w11=setCells w10 ⟨x1,0,none⟩ [.slice x38 x39 x40,.q x41,.q x42]->
 ∃x43 x44 x45 x46 x47,Ad w11 ⟨x1,0,none⟩ [.slice x43 x44 x45,.q x46,.q x47]/\
 K (.agg #[.slice x43 x44 x45,.q x46,.q x47]) w11)))
theorem Ahk (x0:List UInt8) (K:Value->World->Prop) (w:World) (h:Ahj x0 K w):Calls Tryz.prog 8 #[.s x0] w (Ret K):=
 Ao { Axo:=[(31,[])] } Tryz.func8 (by kernel_rfl) h
def Y2 (x0:Option Addr) (x1:Nat) (x2:Nat) (x3:Int) (x4:Int) (x5:Int) (x6:Option Addr) (x7:Nat) (x8:Nat) (x9:List UInt8) (K:Value->World->Prop) (w:World):Prop:=
 ∀x10 w1,x10=w.heap.size->w1=w.alloc (.cells #[.slice x0 x1 x2,.q x3,.q x4,.q x5] 82)->
 ∀x11 w2,x11=w1.heap.size->w2=w1.alloc (.cells #[.slice none 0 0,.q 0,.q 0,.q 0] 82)->
 ∃(J:World->Prop),
 (∃(J1:Bool->World->Prop),
 (∃x12,w2.cell? ⟨x10,3,none⟩=some (.q x12)/\
 cond (x12==0)
 (∃x13,w2.cell? ⟨x10,2,none⟩=some (.q x13)/\
 Calls Tryz.prog 70 #[.slice x6 x7 x8,.q x13,.s x9] w2 (Ret fun x14 w3=>
 ∃x15,x14= .bool x15/\
 J1 (!x15) w3))
 (J1 false w2))/\
 ∀(_x16:Nat->Value) (x17:Bool) (w4:World),J1 x17 w4->
 cond (x17)
 (Af w4 ⟨x10,3,none⟩ 1/\∀w5,w5=w4.setCell ⟨x10,3,none⟩ (.q 11)->
 J w5)
 (J w4))/\
 ∀(_x18:Nat->Value) (w6:World),J w6->
 ∃(J2:World->Prop),
 (∃x19,w6.cell? ⟨x10,3,none⟩=some (.q x19)/\
 cond (x19==0)
 (∃x20,w6.cell? ⟨x10,2,none⟩=some (.q x20)/\
 Af w6 ⟨x10,2,none⟩ 1/\∀w7,w7=w6.setCell ⟨x10,2,none⟩ (.q (IntKind.i64.wrap (x20+1)))->
 J2 w7)
 (J2 w6))/\
 ∀(_x21:Nat->Value) (w8:World),J2 w8->
 ∃x22 x23 x24 x25 x26 x27,Ad w8 ⟨x10,0,none⟩ [.slice x22 x23 x24,.q x25,.q x26,.q x27]/\
 Af w8 ⟨x11,0,none⟩ 4/\∀w9,w9=setCells w8 ⟨x11,0,none⟩ [.slice x22 x23 x24,.q x25,.q x26,.q x27]->
 ∃x28 x29 x30 x31 x32 x33,Ad w9 ⟨x11,0,none⟩ [.slice x28 x29 x30,.q x31,.q x32,.q x33]/\
 K (.agg #[.slice x28 x29 x30,.q x31,.q x32,.q x33]) w9
theorem Y3 (x0:Option Addr) (x1:Nat) (x2:Nat) (x3:Int) (x4:Int) (x5:Int) (x6:Option Addr) (x7:Nat) (x8:Nat) (x9:List UInt8) (K:Value->World->Prop) (w:World) (h:Y2 x0 x1 x2 x3 x4 x5 x6 x7 x8 x9 K w):Calls Tryz.prog 71 #[.agg #[.slice x0 x1 x2,.q x3,.q x4,.q x5],.slice x6 x7 x8,.s x9] w (Ret K):=
 Ao { Axo:=[(3,[]),(6,[(17,.bool)]),(7,[])] } Tryz.func71 (by kernel_rfl) h
def Y4 (x0:Option Addr) (x1:Nat) (x2:Nat) (x3:Int) (x4:Int) (x5:Int) (x6:Option Addr) (x7:Nat) (x8:Nat) (x9:Int) (x10:Int) (x11:Int) (K:Value->World->Prop) (w:World):Prop:=
 ∀x12 w1,x12=w.heap.size->w1=w.alloc (.cells #[.slice x0 x1 x2,.q x3,.q x4,.q x5] 82)->
 ∀x13 w2,x13=w1.heap.size->w2=w1.alloc (.cells #[.slice x6 x7 x8,.q x9,.q x10,.q x11] 82)->
 ∀x14 w3,x14=w2.heap.size->w3=w2.alloc (.cells #[.slice none 0 0,.q 0,.q 0,.q 0] 82)->
 ∃x15,w3.cell? ⟨x12,3,none⟩=some (.q x15)/\
 cond (x15 !=0)
 (∃x16 x17 x18 x19 x20 x21,Ad w3 ⟨x12,0,none⟩ [.slice x16 x17 x18,.q x19,.q x20,.q x21]/\
 Af w3 ⟨x14,0,none⟩ 4/\∀w4,w4=setCells w3 ⟨x14,0,none⟩ [.slice x16 x17 x18,.q x19,.q x20,.q x21]->
 ∃x22 x23 x24 x25 x26 x27,Ad w4 ⟨x14,0,none⟩ [.slice x22 x23 x24,.q x25,.q x26,.q x27]/\
 K (.agg #[.slice x22 x23 x24,.q x25,.q x26,.q x27]) w4)
 (∀w5,w5=w3.drew->
 ∃(S:World->Prop),S w5/\
 ∃x28 x29 x30,(∀u,S u->u.cell? ⟨x12,0,none⟩=some (.slice x28 x29 x30))/\
 ∃x31 x32 x33,(∀u,S u->u.cell? ⟨x13,0,none⟩=some (.slice x31 x32 x33))/\
 ∃x34,(∀u,S u->u.cell? ⟨x12,1,none⟩=some (.q x34))/\
 ∃x35,(∀u,S u->u.cell? ⟨x13,2,none⟩=some (.q x35))/\
 ∃x36,(∀u,S u->u.cell? ⟨x13,3,none⟩=some (.q x36))/\
 ∀x37 w6,x37=w5.heap.size->w6=w5.alloc (.cells #[] 59)->
 S w6/\
 Bl Tryz.prog (Builtin.append_ #[22,22] 22 #[.slice (some ⟨x37,0,none⟩) 0 0,.slice x28 x29 x30]) (fun x38 w7=>
 ∃x39 x40 x41,x38= .slice x39 x40 x41/\
 S w7/\
 Bl Tryz.prog (Builtin.append_ #[22,22] 22 #[.slice x39 x40 x41,.slice x31 x32 x33]) (fun x42 w8=>
 ∃x43 x44 x45,x42= .slice x43 x44 x45/\
 S w8/\
 Af w8 ⟨x14,0,none⟩ 4/\∀w9,w9=setCells w8 ⟨x14,0,none⟩ [.slice x43 x44 x45,.q (IntKind.i64.wrap (x34+1)),.q x35,.q x36]->
 ∃x46 x47 x48 x49 x50 x51,Ad w9 ⟨x14,0,none⟩ [.slice x46 x47 x48,.q x49,.q x50,.q x51]/\
 K (.agg #[.slice x46 x47 x48,.q x49,.q x50,.q x51]) w9) w7) w6)
theorem Y5 (x0:Option Addr) (x1:Nat) (x2:Nat) (x3:Int) (x4:Int) (x5:Int) (x6:Option Addr) (x7:Nat) (x8:Nat) (x9:Int) (x10:Int) (x11:Int) (K:Value->World->Prop) (w:World) (h:Y4 x0 x1 x2 x3 x4 x5 x6 x7 x8 x9 x10 x11 K w):Calls Tryz.prog 36 #[.agg #[.slice x0 x1 x2,.q x3,.q x4,.q x5],.agg #[.slice x6 x7 x8,.q x9,.q x10,.q x11]] w (Ret K):=
 Ao {} Tryz.func36 (by kernel_rfl) h
def U6 (x0:Option Addr) (x1:Nat) (x2:Nat) (x3:Int) (x4:Int) (x5:Int) (x6:Int) (x7:List UInt8) (x8:Int) (x9:Int) (x10:Int) (K:Value->World->Prop) (w:World):Prop:=
 ∀x11 w1,x11=w.heap.size->w1=w.alloc (.cells #[.slice x0 x1 x2,.q x3,.q x4,.q x5] 82)->
 ∀x12 w2,x12=w1.heap.size->w2=w1.alloc (.cells #[.q x6,.s x7,.q x8,.q x9,.q x10] 59)->
 ∀x13 w3,x13=w2.heap.size->w3=w2.alloc (.cells #[.slice none 0 0,.q 0,.q 0,.q 0] 82)->
 ∃x14,w3.cell? ⟨x11,1,none⟩=some (.q x14)/\
 Af w3 ⟨x12,3,none⟩ 1/\∀w4,w4=w3.setCell ⟨x12,3,none⟩ (.q x14)->
 ∃x15 x16 x17 x18 x19,Ad w4 ⟨x12,0,none⟩ [.q x15,.s x16,.q x17,.q x18,.q x19]/\
 ∀x20 w5,x20=w4.heap.size->w5=w4.alloc (.cells #[.q x15,.s x16,.q x17,.q x18,.q x19] 59)->
 ∃x21 x22 x23,w5.cell? ⟨x11,0,none⟩=some (.slice x21 x22 x23)/\
 Bl Tryz.prog (Builtin.append_ #[22,22] 22 #[.slice (some ⟨x20,0,none⟩) 1 1,.slice x21 x22 x23]) (fun x24 w6=>
 ∃x25 x26 x27,x24= .slice x25 x26 x27/\
 Af w6 ⟨x11,0,none⟩ 1/\∀w7,w7=w6.setCell ⟨x11,0,none⟩ (.slice x25 x26 x27)->
 Af w7 ⟨x11,1,none⟩ 1/\∀w8,w8=w7.setCell ⟨x11,1,none⟩ (.q 1)->
 ∃x28 x29 x30 x31 x32 x33,Ad w8 ⟨x11,0,none⟩ [.slice x28 x29 x30,.q x31,.q x32,.q x33]/\
 Af w8 ⟨x13,0,none⟩ 4/\∀w9,w9=setCells w8 ⟨x13,0,none⟩ [.slice x28 x29 x30,.q x31,.q x32,.q x33]->
 ∃x34 x35 x36 x37 x38 x39,Ad w9 ⟨x13,0,none⟩ [.slice x34 x35 x36,.q x37,.q x38,.q x39]/\
 K (.agg #[.slice x34 x35 x36,.q x37,.q x38,.q x39]) w9) w5
theorem U7 (x0:Option Addr) (x1:Nat) (x2:Nat) (x3:Int) (x4:Int) (x5:Int) (x6:Int) (x7:List UInt8) (x8:Int) (x9:Int) (x10:Int) (K:Value->World->Prop) (w:World) (h:U6 x0 x1 x2 x3 x4 x5 x6 x7 x8 x9 x10 K w):Calls Tryz.prog 38 #[.agg #[.slice x0 x1 x2,.q x3,.q x4,.q x5],.agg #[.q x6,.s x7,.q x8,.q x9,.q x10]] w (Ret K):=
 Ao {} Tryz.func38 (by kernel_rfl) h
def W5 (x0:Option Addr) (x1:Nat) (x2:Nat) (x3:Int) (x4:Int) (x5:Int) (x6:Option Addr) (x7:Nat) (x8:Nat) (K:Value->World->Prop) (w:World):Prop:=
 ∀x9 w1,x9=w.heap.size->w1=w.alloc (.cells #[.slice x0 x1 x2,.q x3,.q x4,.q x5] 82)->
 ∀x10 w2,x10=w1.heap.size->w2=w1.alloc (.cells #[.slice none 0 0,.q 0,.q 0,.q 0] 82)->
 ∃x11,w2.cell? ⟨x9,3,none⟩=some (.q x11)/\
 cond (x11 !=0)
 (∃x12 x13 x14 x15 x16 x17,Ad w2 ⟨x9,0,none⟩ [.slice x12 x13 x14,.q x15,.q x16,.q x17]/\
 Af w2 ⟨x10,0,none⟩ 4/\∀w3,w3=setCells w2 ⟨x10,0,none⟩ [.slice x12 x13 x14,.q x15,.q x16,.q x17]->
 ∃x18 x19 x20 x21 x22 x23,Ad w3 ⟨x10,0,none⟩ [.slice x18 x19 x20,.q x21,.q x22,.q x23]/\
 K (.agg #[.slice x18 x19 x20,.q x21,.q x22,.q x23]) w3)
 (∃x24,w2.cell? ⟨x9,2,none⟩=some (.q x24)/\
 Calls Tryz.prog 122 #[.slice x6 x7 x8,.q x24] w2 (Ret fun x25 w4=>
 ∃x26 x27 x28 x29 x30,x25= .agg #[.slice x26 x27 x28,.q x29,.q x30]/\
 ∀x31 w5,x31=w4.heap.size->w5=w4.alloc (.cells #[.slice none 0 0,.q 0,.q 0] 29)->
 Af w5 ⟨x31,0,none⟩ 3/\∀w6,w6=setCells w5 ⟨x31,0,none⟩ [.slice x26 x27 x28,.q x29,.q x30]->
 ∃x32 x33 x34 x35 x36 x37,Ad w6 ⟨x9,0,none⟩ [.slice x32 x33 x34,.q x35,.q x36,.q x37]/\
 ∃x38 x39 x40,w6.cell? ⟨x31,0,none⟩=some (.slice x38 x39 x40)/\
 ∃x41,w6.cell? ⟨x31,1,none⟩=some (.q x41)/\
 ∃x42,w6.cell? ⟨x31,2,none⟩=some (.q x42)/\
 Calls Tryz.prog 36 #[.agg #[.slice x32 x33 x34,.q x35,.q x36,.q x37],.agg #[.slice x38 x39 x40,.q 0,.q x41,.q x42]] w6 (Ret fun x43 w7=>
 ∃x44 x45 x46 x47 x48 x49,x43= .agg #[.slice x44 x45 x46,.q x47,.q x48,.q x49]/\
 Af w7 ⟨x10,0,none⟩ 4/\∀w8,w8=setCells w7 ⟨x10,0,none⟩ [.slice x44 x45 x46,.q x47,.q x48,.q x49]->
 ∃x50 x51 x52 x53 x54 x55,Ad w8 ⟨x10,0,none⟩ [.slice x50 x51 x52,.q x53,.q x54,.q x55]/\
 K (.agg #[.slice x50 x51 x52,.q x53,.q x54,.q x55]) w8)))
theorem W6 (x0:Option Addr) (x1:Nat) (x2:Nat) (x3:Int) (x4:Int) (x5:Int) (x6:Option Addr) (x7:Nat) (x8:Nat) (K:Value->World->Prop) (w:World) (h:W5 x0 x1 x2 x3 x4 x5 x6 x7 x8 K w):Calls Tryz.prog 115 #[.agg #[.slice x0 x1 x2,.q x3,.q x4,.q x5],.slice x6 x7 x8] w (Ret K):=
 Ao {} Tryz.func115 (by kernel_rfl) h
def W7 (x0:Option Addr) (x1:Nat) (x2:Nat) (x3:Int) (x4:Int) (x5:Int) (x6:Option Addr) (x7:Nat) (x8:Nat) (K:Value->World->Prop) (w:World):Prop:=
 ∀x9 w1,x9=w.heap.size->w1=w.alloc (.cells #[.slice x0 x1 x2,.q x3,.q x4,.q x5] 82)->
 ∀x10 w2,x10=w1.heap.size->w2=w1.alloc (.cells #[.slice none 0 0,.q 0,.q 0,.q 0] 82)->
 ∃x11,w2.cell? ⟨x9,2,none⟩=some (.q x11)/\
 Calls Tryz.prog 35 #[.slice x6 x7 x8,.q x11] w2 (Ret fun x12 w3=>
 ∃x13 x14 x15 x16,x12= .agg #[.q x13,.s x14,.q x15,.q x16]/\
 ∀x17 w4,x17=w3.heap.size->w4=w3.alloc (.cells #[.q 0,.s [],.q 0,.q 0] 57)->
 Af w4 ⟨x17,0,none⟩ 4/\∀w5,w5=setCells w4 ⟨x17,0,none⟩ [.q x13,.s x14,.q x15,.q x16]->
 ∃(J:World->Prop),
 (∃(J1:Bool->World->Prop),
 (∃x18,w5.cell? ⟨x9,3,none⟩=some (.q x18)/\
 cond (x18==0)
 (∃x19,w5.cell? ⟨x17,0,none⟩=some (.q x19)/\
 J1 (x19 !=1) w5)
 (J1 false w5))/\
 ∀(_x20:Nat->Value) (x21:Bool) (w6:World),J1 x21 w6->
 cond (x21)
 (Af w6 ⟨x9,3,none⟩ 1/\∀w7,w7=w6.setCell ⟨x9,3,none⟩ (.q 11)->
 J w7)
 (J w6))/\
 ∀(_x22:Nat->Value) (w8:World),J w8->
 ∃x23,w8.cell? ⟨x9,3,none⟩=some (.q x23)/\
 cond (x23 !=0)
 (∃x24 x25 x26 x27 x28 x29,Ad w8 ⟨x9,0,none⟩ [.slice x24 x25 x26,.q x27,.q x28,.q x29]/\
 Af w8 ⟨x10,0,none⟩ 4/\∀w9,w9=setCells w8 ⟨x10,0,none⟩ [.slice x24 x25 x26,.q x27,.q x28,.q x29]->
 ∃x30 x31 x32 x33 x34 x35,Ad w9 ⟨x10,0,none⟩ [.slice x30 x31 x32,.q x33,.q x34,.q x35]/\
 K (.tuple #[.agg #[.slice x30 x31 x32,.q x33,.q x34,.q x35],.s []]) w9)
 (∃x36,w8.cell? ⟨x9,2,none⟩=some (.q x36)/\
 Af w8 ⟨x9,2,none⟩ 1/\∀w10,w10=w8.setCell ⟨x9,2,none⟩ (.q (IntKind.i64.wrap (x36+1)))->
 ∀w11,w11=w10.drew->
 ∃(S:World->Prop),S w11/\
 ∃x37 x38 x39 x40 x41 x42,(∀u,S u->Ad u ⟨x9,0,none⟩ [.slice x37 x38 x39,.q x40,.q x41,.q x42])/\
 ∃x43,(∀u,S u->u.cell? ⟨x17,1,none⟩=some (.s x43))/\
 Af w11 ⟨x10,0,none⟩ 4/\∀w12,w12=setCells w11 ⟨x10,0,none⟩ [.slice x37 x38 x39,.q x40,.q x41,.q x42]->
 S w12/\
 ∃x44 x45 x46 x47 x48 x49,Ad w12 ⟨x10,0,none⟩ [.slice x44 x45 x46,.q x47,.q x48,.q x49]/\
 K (.tuple #[.agg #[.slice x44 x45 x46,.q x47,.q x48,.q x49],.s x43]) w12))
theorem W8 (x0:Option Addr) (x1:Nat) (x2:Nat) (x3:Int) (x4:Int) (x5:Int) (x6:Option Addr) (x7:Nat) (x8:Nat) (K:Value->World->Prop) (w:World) (h:W7 x0 x1 x2 x3 x4 x5 x6 x7 x8 K w):Calls Tryz.prog 72 #[.agg #[.slice x0 x1 x2,.q x3,.q x4,.q x5],.slice x6 x7 x8] w (Ret K):=
 Ao { Axo:=[(7,[]),(14,[(18,.bool)])] } Tryz.func72 (by kernel_rfl) h
def Aaz (x0:Option Addr) (x1:Nat) (x2:Nat) (x3:Int) (x4:Int) (x5:Int) (x6:Option Addr) (x7:Nat) (x8:Nat) (x9:Int) (K:Value->World->Prop) (w:World):Prop:=
 ∀x10 w1,x10=w.heap.size->w1=w.alloc (.cells #[.slice x0 x1 x2,.q x3,.q x4,.q x5] 82)->
 ∀x11 w2,x11=w1.heap.size->w2=w1.alloc (.cells #[.slice none 0 0,.q 0,.q 0,.q 0] 82)->
 ∃x12,w2.cell? ⟨x10,3,none⟩=some (.q x12)/\
 cond (x12 !=0)
 (∃x13 x14 x15 x16 x17 x18,Ad w2 ⟨x10,0,none⟩ [.slice x13 x14 x15,.q x16,.q x17,.q x18]/\
 Af w2 ⟨x11,0,none⟩ 4/\∀w3,w3=setCells w2 ⟨x11,0,none⟩ [.slice x13 x14 x15,.q x16,.q x17,.q x18]->
 ∃x19 x20 x21 x22 x23 x24,Ad w3 ⟨x11,0,none⟩ [.slice x19 x20 x21,.q x22,.q x23,.q x24]/\
 K (.agg #[.slice x19 x20 x21,.q x22,.q x23,.q x24]) w3)
 (∀w4,w4=w2.drew->
 ∃(S:World->Prop),S w4/\
 ∃x25 x26 x27 x28 x29 x30,(∀u,S u->Ad u ⟨x10,0,none⟩ [.slice x25 x26 x27,.q x28,.q x29,.q x30])/\
 ∃x31,(∀u,S u->u.cell? ⟨x10,2,none⟩=some (.q x31))/\
 Calls Tryz.prog 92 #[.slice x6 x7 x8,.q x31,.q x9] w4 (Ret fun x32 w5=>
 ∃x33 x34 x35 x36 x37 x38,x32= .agg #[.slice x33 x34 x35,.q x36,.q x37,.q x38]/\
 S w5/\
 Calls Tryz.prog 36 #[.agg #[.slice x25 x26 x27,.q x28,.q x29,.q x30],.agg #[.slice x33 x34 x35,.q x36,.q x37,.q x38]] w5 (Ret fun x39 w6=>
 ∃x40 x41 x42 x43 x44 x45,x39= .agg #[.slice x40 x41 x42,.q x43,.q x44,.q x45]/\
 Af w6 ⟨x11,0,none⟩ 4/\∀w7,w7=setCells w6 ⟨x11,0,none⟩ [.slice x40 x41 x42,.q x43,.q x44,.q x45]->
 ∃x46 x47 x48 x49 x50 x51,Ad w7 ⟨x11,0,none⟩ [.slice x46 x47 x48,.q x49,.q x50,.q x51]/\
 K (.agg #[.slice x46 x47 x48,.q x49,.q x50,.q x51]) w7)))
theorem Aa0 (x0:Option Addr) (x1:Nat) (x2:Nat) (x3:Int) (x4:Int) (x5:Int) (x6:Option Addr) (x7:Nat) (x8:Nat) (x9:Int) (K:Value->World->Prop) (w:World) (h:Aaz x0 x1 x2 x3 x4 x5 x6 x7 x8 x9 K w):Calls Tryz.prog 75 #[.agg #[.slice x0 x1 x2,.q x3,.q x4,.q x5],.slice x6 x7 x8,.q x9] w (Ret K):=
 Ao {} Tryz.func75 (by kernel_rfl) h
def W9 (x0:Option Addr) (x1:Nat) (x2:Nat) (x3:Int) (x4:Int) (x5:Int) (x6:Option Addr) (x7:Nat) (x8:Nat) (x9:Int) (x10:Int) (K:Value->World->Prop) (w:World):Prop:=
 ∀x11 w1,x11=w.heap.size->w1=w.alloc (.cells #[.slice x0 x1 x2,.q x3,.q x4,.q x5] 82)->
 ∀x12 w2,x12=w1.heap.size->w2=w1.alloc (.cells #[.slice none 0 0,.q 0,.q 0,.q 0] 82)->
 ∃x13,w2.cell? ⟨x11,3,none⟩=some (.q x13)/\
 cond (x13 !=0)
 (∃x14 x15 x16 x17 x18 x19,Ad w2 ⟨x11,0,none⟩ [.slice x14 x15 x16,.q x17,.q x18,.q x19]/\
 Af w2 ⟨x12,0,none⟩ 4/\∀w3,w3=setCells w2 ⟨x12,0,none⟩ [.slice x14 x15 x16,.q x17,.q x18,.q x19]->
 ∃x20 x21 x22 x23 x24 x25,Ad w3 ⟨x12,0,none⟩ [.slice x20 x21 x22,.q x23,.q x24,.q x25]/\
 K (.tuple #[.agg #[.slice x20 x21 x22,.q x23,.q x24,.q x25],.q 0,.s []]) w3)
 (∃(J:World->Prop),
 (∀w4,w4=w2.drew->
 ∃(S:World->Prop),S w4/\
 ∃x26 x27 x28 x29 x30 x31,(∀u,S u->Ad u ⟨x11,0,none⟩ [.slice x26 x27 x28,.q x29,.q x30,.q x31])/\
 ∃x32,(∀u,S u->u.cell? ⟨x11,2,none⟩=some (.q x32))/\
 Calls Tryz.prog 121 #[.slice x6 x7 x8,.q x32] w4 (Ret fun x33 w5=>
 ∃x34 x35 x36 x37 x38 x39,x33= .agg #[.slice x34 x35 x36,.q x37,.q x38,.q x39]/\
 S w5/\
 Calls Tryz.prog 36 #[.agg #[.slice x26 x27 x28,.q x29,.q x30,.q x31],.agg #[.slice x34 x35 x36,.q x37,.q x38,.q x39]] w5 (Ret fun x40 w6=>
 ∃x41 x42 x43 x44 x45 x46,x40= .agg #[.slice x41 x42 x43,.q x44,.q x45,.q x46]/\
 Af w6 ⟨x11,0,none⟩ 4/\∀w7,w7=setCells w6 ⟨x11,0,none⟩ [.slice x41 x42 x43,.q x44,.q x45,.q x46]->
 J w7)))/\
 ∀(_x47:Nat->Value) (w8:World),J w8->
 ∃(J1:Bool->World->Prop),
 (∃x48,w8.cell? ⟨x11,3,none⟩=some (.q x48)/\
 cond (x48==0)
 (∃x49,w8.cell? ⟨x11,2,none⟩=some (.q x49)/\
 Calls Tryz.prog 70 #[.slice x6 x7 x8,.q x49,.s [33]] w8 (Ret fun x50 w9=>
 ∃x51,x50= .bool x51/\
 J1 x51 w9))
 (J1 false w8))/\
 ∀(_x52:Nat->Value) (x53:Bool) (w10:World),J1 x53 w10->
 cond (x53)
 (∃x54 x55 x56 x57 x58 x59,Ad w10 ⟨x11,0,none⟩ [.slice x54 x55 x56,.q x57,.q x58,.q x59]/\
 Calls Tryz.prog 71 #[.agg #[.slice x54 x55 x56,.q x57,.q x58,.q x59],.slice x6 x7 x8,.s [33]] w10 (Ret fun x60 w11=>
 ∃x61 x62 x63 x64 x65 x66,x60= .agg #[.slice x61 x62 x63,.q x64,.q x65,.q x66]/\
 Calls Tryz.prog 115 #[.agg #[.slice x61 x62 x63,.q x64,.q x65,.q x66],.slice x6 x7 x8] w11 (Ret fun x67 w12=>
 ∃x68 x69 x70 x71 x72 x73,x67= .agg #[.slice x68 x69 x70,.q x71,.q x72,.q x73]/\
 Af w12 ⟨x12,0,none⟩ 4/\∀w13,w13=setCells w12 ⟨x12,0,none⟩ [.slice x68 x69 x70,.q x71,.q x72,.q x73]->
 ∃x74 x75 x76 x77 x78 x79,Ad w13 ⟨x12,0,none⟩ [.slice x74 x75 x76,.q x77,.q x78,.q x79]/\
 K (.tuple #[.agg #[.slice x74 x75 x76,.q x77,.q x78,.q x79],.q x9,.s []]) w13)))
 (∃x80 x81 x82 x83 x84 x85,Ad w10 ⟨x11,0,none⟩ [.slice x80 x81 x82,.q x83,.q x84,.q x85]/\
 Calls Tryz.prog 71 #[.agg #[.slice x80 x81 x82,.q x83,.q x84,.q x85],.slice x6 x7 x8,.s [63]] w10 (Ret fun x86 w14=>
 ∃x87 x88 x89 x90 x91 x92,x86= .agg #[.slice x87 x88 x89,.q x90,.q x91,.q x92]/\
 Calls Tryz.prog 72 #[.agg #[.slice x87 x88 x89,.q x90,.q x91,.q x92],.slice x6 x7 x8] w14 (Ret fun x93 w15=>
 ∃x94 x95 x96 x97 x98 x99 Axy,x93= .tuple #[.agg #[.slice x94 x95 x96,.q x97,.q x98,.q x99],.s Axy]/\
 Af w15 ⟨x11,0,none⟩ 4/\∀w16,w16=setCells w15 ⟨x11,0,none⟩ [.slice x94 x95 x96,.q x97,.q x98,.q x99]->
 ∃Ax6 Ax9 Axz Ayd Axs Ax7,Ad w16 ⟨x11,0,none⟩ [.slice Ax6 Ax9 Axz,.q Ayd,.q Axs,.q Ax7]/\
 Af w16 ⟨x12,0,none⟩ 4/\∀w17,w17=setCells w16 ⟨x12,0,none⟩ [.slice Ax6 Ax9 Axz,.q Ayd,.q Axs,.q Ax7]->
 ∃Aya Ax3 Ax8 Azh Ayj Azm,Ad w17 ⟨x12,0,none⟩ [.slice Aya Ax3 Ax8,.q Azh,.q Ayj,.q Azm]/\
 K (.tuple #[.agg #[.slice Aya Ax3 Ax8,.q Azh,.q Ayj,.q Azm],.q x10,.s Axy]) w17))))
theorem Xa (x0:Option Addr) (x1:Nat) (x2:Nat) (x3:Int) (x4:Int) (x5:Int) (x6:Option Addr) (x7:Nat) (x8:Nat) (x9:Int) (x10:Int) (K:Value->World->Prop) (w:World) (h:W9 x0 x1 x2 x3 x4 x5 x6 x7 x8 x9 x10 K w):Calls Tryz.prog 114 #[.agg #[.slice x0 x1 x2,.q x3,.q x4,.q x5],.slice x6 x7 x8,.q x9,.q x10] w (Ret K):=
 Ao { Axo:=[(7,[]),(30,[(30,.bool)])] } Tryz.func114 (by kernel_rfl) h
def Xb (x0:Option Addr) (x1:Nat) (x2:Nat) (x3:Int) (x4:Int) (x5:Int) (x6:Option Addr) (x7:Nat) (x8:Nat) (K:Value->World->Prop) (w:World):Prop:=
 ∀x9 w1,x9=w.heap.size->w1=w.alloc (.cells #[.slice x0 x1 x2,.q x3,.q x4,.q x5] 82)->
 ∀x10 w2,x10=w1.heap.size->w2=w1.alloc (.cells #[.slice none 0 0,.q 0,.q 0,.q 0] 82)->
 ∃x11 x12 x13 x14 x15 x16,Ad w2 ⟨x9,0,none⟩ [.slice x11 x12 x13,.q x14,.q x15,.q x16]/\
 Calls Tryz.prog 71 #[.agg #[.slice x11 x12 x13,.q x14,.q x15,.q x16],.slice x6 x7 x8,.s [40]] w2 (Ret fun x17 w3=>
 ∃x18 x19 x20 x21 x22 x23,x17= .agg #[.slice x18 x19 x20,.q x21,.q x22,.q x23]/\
 Af w3 ⟨x9,0,none⟩ 4/\∀w4,w4=setCells w3 ⟨x9,0,none⟩ [.slice x18 x19 x20,.q x21,.q x22,.q x23]->
 ∃(J:World->Prop),
 (∃(J1:Bool->World->Prop),
 (∃x24,w4.cell? ⟨x9,3,none⟩=some (.q x24)/\
 cond (x24==0)
 (∃x25,w4.cell? ⟨x9,2,none⟩=some (.q x25)/\
 Calls Tryz.prog 70 #[.slice x6 x7 x8,.q x25,.s [41]] w4 (Ret fun x26 w5=>
 ∃x27,x26= .bool x27/\
 J1 (!x27) w5))
 (J1 false w4))/\
 ∀(_x28:Nat->Value) (x29:Bool) (w6:World),J1 x29 w6->
 cond (x29)
 (∃x30 x31 x32 x33 x34 x35,Ad w6 ⟨x9,0,none⟩ [.slice x30 x31 x32,.q x33,.q x34,.q x35]/\
 Calls Tryz.prog 115 #[.agg #[.slice x30 x31 x32,.q x33,.q x34,.q x35],.slice x6 x7 x8] w6 (Ret fun x36 w7=>
 ∃x37 x38 x39 x40 x41 x42,x36= .agg #[.slice x37 x38 x39,.q x40,.q x41,.q x42]/\
 Af w7 ⟨x9,0,none⟩ 4/\∀w8,w8=setCells w7 ⟨x9,0,none⟩ [.slice x37 x38 x39,.q x40,.q x41,.q x42]->
 ∃(I:World->Prop) (x43:World->Nat),I w8/\
 ∀(_x44:Nat->Value) (w9:World),I w9->
 ∃(J2:Bool->World->Prop),
 (∃x45,w9.cell? ⟨x9,3,none⟩=some (.q x45)/\
 cond (x45==0)
 (∃x46,w9.cell? ⟨x9,2,none⟩=some (.q x46)/\
 Calls Tryz.prog 70 #[.slice x6 x7 x8,.q x46,.s [44]] w9 (Ret fun x47 w10=>
 ∃x48,x47= .bool x48/\
 J2 x48 w10))
 (J2 false w9))/\
 ∀(_x49:Nat->Value) (x50:Bool) (w11:World),J2 x50 w11->
 cond (x50)
 (∃x51 x52 x53 x54 x55 x56,Ad w11 ⟨x9,0,none⟩ [.slice x51 x52 x53,.q x54,.q x55,.q x56]/\
 Calls Tryz.prog 71 #[.agg #[.slice x51 x52 x53,.q x54,.q x55,.q x56],.slice x6 x7 x8,.s [44]] w11 (Ret fun x57 w12=>
 ∃x58 x59 x60 x61 x62 x63,x57= .agg #[.slice x58 x59 x60,.q x61,.q x62,.q x63]/\
 Calls Tryz.prog 115 #[.agg #[.slice x58 x59 x60,.q x61,.q x62,.q x63],.slice x6 x7 x8] w12 (Ret fun x64 w13=>
 ∃x65 x66 x67 x68 x69 x70,x64= .agg #[.slice x65 x66 x67,.q x68,.q x69,.q x70]/\
 Af w13 ⟨x9,0,none⟩ 4/\∀w14,w14=setCells w13 ⟨x9,0,none⟩ [.slice x65 x66 x67,.q x68,.q x69,.q x70]->
 I w14/\x43 w14<x43 w9)))
 (J w11)))
 (J w6))/\
 ∀(_x71:Nat->Value) (w15:World),J w15->
 ∃x72 x73 x74 x75 x76 x77,Ad w15 ⟨x9,0,none⟩ [.slice x72 x73 x74,.q x75,.q x76,.q x77]/\
 Calls Tryz.prog 71 #[.agg #[.slice x72 x73 x74,.q x75,.q x76,.q x77],.slice x6 x7 x8,.s [41]] w15 (Ret fun x78 w16=>
 ∃x79 x80 x81 x82 x83 x84,x78= .agg #[.slice x79 x80 x81,.q x82,.q x83,.q x84]/\
 Af w16 ⟨x10,0,none⟩ 4/\∀w17,w17=setCells w16 ⟨x10,0,none⟩ [.slice x79 x80 x81,.q x82,.q x83,.q x84]->
 ∃x85 x86 x87 x88 x89 x90,Ad w17 ⟨x10,0,none⟩ [.slice x85 x86 x87,.q x88,.q x89,.q x90]/\
 K (.agg #[.slice x85 x86 x87,.q x88,.q x89,.q x90]) w17))
theorem Xc (x0:Option Addr) (x1:Nat) (x2:Nat) (x3:Int) (x4:Int) (x5:Int) (x6:Option Addr) (x7:Nat) (x8:Nat) (K:Value->World->Prop) (w:World) (h:Xb x0 x1 x2 x3 x4 x5 x6 x7 x8 K w):Calls Tryz.prog 116 #[.agg #[.slice x0 x1 x2,.q x3,.q x4,.q x5],.slice x6 x7 x8] w (Ret K):=
 Ao { loops:=[(234,[])],Axo:=[(7,[]),(14,[(17,.bool)]),(936,[(29,.bool)])] } Tryz.func116 (by kernel_rfl) h
def Xd (x0:Option Addr) (x1:Nat) (x2:Nat) (x3:Int) (x4:Int) (x5:Int) (x6:Option Addr) (x7:Nat) (x8:Nat) (K:Value->World->Prop) (w:World):Prop:=
 ∀x9 w1,x9=w.heap.size->w1=w.alloc (.cells #[.slice x0 x1 x2,.q x3,.q x4,.q x5] 82)->
 ∀x10 w2,x10=w1.heap.size->w2=w1.alloc (.cells #[.slice none 0 0,.q 0,.q 0,.q 0] 82)->
 ∃x11,w2.cell? ⟨x9,2,none⟩=some (.q x11)/\
 Calls Tryz.prog 35 #[.slice x6 x7 x8,.q x11] w2 (Ret fun x12 w3=>
 ∃x13 x14 x15 x16,x12= .agg #[.q x13,.s x14,.q x15,.q x16]/\
 ∀x17 w4,x17=w3.heap.size->w4=w3.alloc (.cells #[.q 0,.s [],.q 0,.q 0] 57)->
 Af w4 ⟨x17,0,none⟩ 4/\∀w5,w5=setCells w4 ⟨x17,0,none⟩ [.q x13,.s x14,.q x15,.q x16]->
 ∃(J:World->Prop),
 (∃(J1:Bool->World->Prop),
 (∃x18,w5.cell? ⟨x9,3,none⟩=some (.q x18)/\
 cond (x18==0)
 (∃x19,w5.cell? ⟨x17,0,none⟩=some (.q x19)/\
 J1 (x19 !=2) w5)
 (J1 false w5))/\
 ∀(_x20:Nat->Value) (x21:Bool) (w6:World),J1 x21 w6->
 cond (x21)
 (Af w6 ⟨x9,3,none⟩ 1/\∀w7,w7=w6.setCell ⟨x9,3,none⟩ (.q 11)->
 J w7)
 (J w6))/\
 ∀(_x22:Nat->Value) (w8:World),J w8->
 ∃(J2:World->Prop),
 (∃(J3:Bool->World->Prop),
 (∃x23,w8.cell? ⟨x9,3,none⟩=some (.q x23)/\
 cond (x23==0)
 (∃x24,w8.cell? ⟨x17,2,none⟩=some (.q x24)/\
 cond (decide (x24<1))
 (J3 true w8)
 (∃x25,w8.cell? ⟨x17,2,none⟩=some (.q x25)/\
 J3 (decide (x25>16)) w8))
 (J3 false w8))/\
 ∀(_x26:Nat->Value) (x27:Bool) (w9:World),J3 x27 w9->
 cond (x27)
 (Af w9 ⟨x9,3,none⟩ 1/\∀w10,w10=w9.setCell ⟨x9,3,none⟩ (.q 6)->
 J2 w10)
 (J2 w9))/\
 ∀(_x28:Nat->Value) (w11:World),J2 w11->
 ∃x29,w11.cell? ⟨x9,3,none⟩=some (.q x29)/\
 cond (x29 !=0)
 (∃x30 x31 x32 x33 x34 x35,Ad w11 ⟨x9,0,none⟩ [.slice x30 x31 x32,.q x33,.q x34,.q x35]/\
 Af w11 ⟨x10,0,none⟩ 4/\∀w12,w12=setCells w11 ⟨x10,0,none⟩ [.slice x30 x31 x32,.q x33,.q x34,.q x35]->
 ∃x36 x37 x38 x39 x40 x41,Ad w12 ⟨x10,0,none⟩ [.slice x36 x37 x38,.q x39,.q x40,.q x41]/\
 K (.tuple #[.agg #[.slice x36 x37 x38,.q x39,.q x40,.q x41],.q 0]) w12)
 (∃x42,w11.cell? ⟨x9,2,none⟩=some (.q x42)/\
 Af w11 ⟨x9,2,none⟩ 1/\∀w13,w13=w11.setCell ⟨x9,2,none⟩ (.q (IntKind.i64.wrap (x42+1)))->
 ∀w14,w14=w13.drew->
 ∃(S:World->Prop),S w14/\
 ∃x43 x44 x45 x46 x47 x48,(∀u,S u->Ad u ⟨x9,0,none⟩ [.slice x43 x44 x45,.q x46,.q x47,.q x48])/\
 ∃x49,(∀u,S u->u.cell? ⟨x17,2,none⟩=some (.q x49))/\
 Af w14 ⟨x10,0,none⟩ 4/\∀w15,w15=setCells w14 ⟨x10,0,none⟩ [.slice x43 x44 x45,.q x46,.q x47,.q x48]->
 S w15/\
 ∃x50 x51 x52 x53 x54 x55,Ad w15 ⟨x10,0,none⟩ [.slice x50 x51 x52,.q x53,.q x54,.q x55]/\
 K (.tuple #[.agg #[.slice x50 x51 x52,.q x53,.q x54,.q x55],.q x49]) w15))
theorem Xf (x0:Option Addr) (x1:Nat) (x2:Nat) (x3:Int) (x4:Int) (x5:Int) (x6:Option Addr) (x7:Nat) (x8:Nat) (K:Value->World->Prop) (w:World) (h:Xd x0 x1 x2 x3 x4 x5 x6 x7 x8 K w):Calls Tryz.prog 73 #[.agg #[.slice x0 x1 x2,.q x3,.q x4,.q x5],.slice x6 x7 x8] w (Ret K):=
 Ao { Axo:=[(7,[]),(14,[(18,.bool)]),(15,[]),(30,[(32,.bool)])] } Tryz.func73 (by kernel_rfl) h
def U8 (x0:Option Addr) (x1:Nat) (x2:Nat) (x3:Int) (x4:Int) (x5:Int) (x6:Option Addr) (x7:Nat) (x8:Nat) (K:Value->World->Prop) (w:World):Prop:=
 ∀x9 w1,x9=w.heap.size->w1=w.alloc (.cells #[.slice x0 x1 x2,.q x3,.q x4,.q x5] 82)->
 ∀x10 w2,x10=w1.heap.size->w2=w1.alloc (.cells #[.slice none 0 0,.q 0,.q 0,.q 0] 82)->
 ∃x11,w2.cell? ⟨x9,3,none⟩=some (.q x11)/\
 cond (x11 !=0)
 (∃x12 x13 x14 x15 x16 x17,Ad w2 ⟨x9,0,none⟩ [.slice x12 x13 x14,.q x15,.q x16,.q x17]/\
 Af w2 ⟨x10,0,none⟩ 4/\∀w3,w3=setCells w2 ⟨x10,0,none⟩ [.slice x12 x13 x14,.q x15,.q x16,.q x17]->
 ∃x18 x19 x20 x21 x22 x23,Ad w3 ⟨x10,0,none⟩ [.slice x18 x19 x20,.q x21,.q x22,.q x23]/\
 K (.agg #[.slice x18 x19 x20,.q x21,.q x22,.q x23]) w3)
 (∃x24,w2.cell? ⟨x9,2,none⟩=some (.q x24)/\
 Calls Tryz.prog 34 #[.q x24] w2 (Ret fun x25 w4=>
 ∃x26 x27 x28 x29 x30 x31,x25= .agg #[.slice x26 x27 x28,.q x29,.q x30,.q x31]/\
 Calls Tryz.prog 72 #[.agg #[.slice x26 x27 x28,.q x29,.q x30,.q x31],.slice x6 x7 x8] w4 (Ret fun x32 w5=>
 ∃x33 x34 x35 x36 x37 x38 x39,x32= .tuple #[.agg #[.slice x33 x34 x35,.q x36,.q x37,.q x38],.s x39]/\
 ∀x40 w6,x40=w5.heap.size->w6=w5.alloc (.cells #[.slice none 0 0,.q 0,.q 0,.q 0] 82)->
 Af w6 ⟨x40,0,none⟩ 4/\∀w7,w7=setCells w6 ⟨x40,0,none⟩ [.slice x33 x34 x35,.q x36,.q x37,.q x38]->
 ∀w8,w8=w7.drew->
 ∃(S:World->Prop),S w8/\
 ∃x41 x42 x43 x44 x45 x46,(∀u,S u->Ad u ⟨x9,0,none⟩ [.slice x41 x42 x43,.q x44,.q x45,.q x46])/\
 ∃x47 x48 x49 x50 x51 x52,(∀u,S u->Ad u ⟨x40,0,none⟩ [.slice x47 x48 x49,.q x50,.q x51,.q x52])/\
 ∃x53,(∀u,S u->u.cell? ⟨x9,2,none⟩=some (.q x53))/\
 Calls Tryz.prog 35 #[.slice x6 x7 x8,.q x53] w8 (Ret fun x54 w9=>
 ∃x55 x56 x57 x58,x54= .agg #[.q x55,.s x56,.q x57,.q x58]/\
 S w9/\
 Calls Tryz.prog 38 #[.agg #[.slice x47 x48 x49,.q x50,.q x51,.q x52],.agg #[.q 39,.s x39,.q 0,.q 0,.q x58]] w9 (Ret fun x59 w10=>
 ∃x60 x61 x62 x63 x64 x65,x59= .agg #[.slice x60 x61 x62,.q x63,.q x64,.q x65]/\
 S w10/\
 Calls Tryz.prog 36 #[.agg #[.slice x41 x42 x43,.q x44,.q x45,.q x46],.agg #[.slice x60 x61 x62,.q x63,.q x64,.q x65]] w10 (Ret fun x66 w11=>
 ∃x67 x68 x69 x70 x71 x72,x66= .agg #[.slice x67 x68 x69,.q x70,.q x71,.q x72]/\
 Af w11 ⟨x10,0,none⟩ 4/\∀w12,w12=setCells w11 ⟨x10,0,none⟩ [.slice x67 x68 x69,.q x70,.q x71,.q x72]->
 ∃x73 x74 x75 x76 x77 x78,Ad w12 ⟨x10,0,none⟩ [.slice x73 x74 x75,.q x76,.q x77,.q x78]/\
 K (.agg #[.slice x73 x74 x75,.q x76,.q x77,.q x78]) w12))))))
theorem U9 (x0:Option Addr) (x1:Nat) (x2:Nat) (x3:Int) (x4:Int) (x5:Int) (x6:Option Addr) (x7:Nat) (x8:Nat) (K:Value->World->Prop) (w:World) (h:U8 x0 x1 x2 x3 x4 x5 x6 x7 x8 K w):Calls Tryz.prog 74 #[.agg #[.slice x0 x1 x2,.q x3,.q x4,.q x5],.slice x6 x7 x8] w (Ret K):=
 Ao {} Tryz.func74 (by kernel_rfl) h
def Aj0 (x0:Option Addr) (x1:Nat) (_x2:Nat) (x3:Int) (K:Value->World->Prop) (w:World):Prop:=
 ∀x4 w1,x4=w.heap.size->w1=w.alloc (.cells #[.q 0,.s [],.q 0,.q 0] 57)->
 cond (decide (x3<(x1:Int)))
 (((0:Int)<=x3/\x3<(x1:Int))/\
 A5 x0 (fun x5=>
 ∃x6 x7 x8 x9,Ad w1 (x5.add (x3.toNat*4)) [.q x6,.s x7,.q x8,.q x9]/\
 Af w1 ⟨x4,0,none⟩ 4/\∀w2,w2=setCells w1 ⟨x4,0,none⟩ [.q x6,.s x7,.q x8,.q x9]->
 ∃x10 x11 x12 x13,Ad w2 ⟨x4,0,none⟩ [.q x10,.s x11,.q x12,.q x13]/\
 K (.agg #[.q x10,.s x11,.q x12,.q x13]) w2))
 (Af w1 ⟨x4,0,none⟩ 4/\∀w3,w3=setCells w1 ⟨x4,0,none⟩ [.q 0,.s [],.q 0,.q 0]->
 ∃x14 x15 x16 x17,Ad w3 ⟨x4,0,none⟩ [.q x14,.s x15,.q x16,.q x17]/\
 K (.agg #[.q x14,.s x15,.q x16,.q x17]) w3)
theorem Aj1 (x0:Option Addr) (x1:Nat) (x2:Nat) (x3:Int) (K:Value->World->Prop) (w:World) (h:Aj0 x0 x1 x2 x3 K w):Calls Tryz.prog 35 #[.slice x0 x1 x2,.q x3] w (Ret K):=
 Ao {} Tryz.func35 (by kernel_rfl) h
def Aj2 (x0:List UInt8) (K:Value->World->Prop) (w:World):Prop:=
 ∀x1 w1,x1=w.heap.size->w1=w.alloc (.cells #[.slice none 0 0,.q 0,.q 0] 53)->
 cond (decide ((x0.length:Int)>65536))
 (Af w1 ⟨x1,0,none⟩ 3/\∀w2,w2=setCells w1 ⟨x1,0,none⟩ [.slice none 0 0,.q 0,.q 5]->
 ∃x2 x3 x4 x5 x6,Ad w2 ⟨x1,0,none⟩ [.slice x2 x3 x4,.q x5,.q x6]/\
 K (.agg #[.slice x2 x3 x4,.q x5,.q x6]) w2)
 (∀x7 w3,x7=w1.heap.size->w3=w1.alloc (.cells #[.slice none 0 0,.q 0,.q 0] 53)->
 ∃(I:Int->World->Prop) (x8:Int->World->Nat),I 0 w3/\
 ∀(_x9:Nat->Value) (x10:Int) (w4:World),I x10 w4->
 Calls Tryz.prog 33 #[.s x0,.q x10] w4 (Ret fun x11 w5=>
 ∃x12 x13 x14 x15 x16 x17,x11= .agg #[.q x12,.s x13,.q x14,.q x15,.q x16,.q x17]/\
 ∀x18 w6,x18=w5.heap.size->w6=w5.alloc (.cells #[.q 0,.s [],.q 0,.q 0,.q 0,.q 0] 79)->
 Af w6 ⟨x18,0,none⟩ 6/\∀w7,w7=setCells w6 ⟨x18,0,none⟩ [.q x12,.s x13,.q x14,.q x15,.q x16,.q x17]->
 ∃x19,w7.cell? ⟨x18,5,none⟩=some (.q x19)/\
 cond (x19 !=0)
 (∃x20,w7.cell? ⟨x18,4,none⟩=some (.q x20)/\
 ∃x21,w7.cell? ⟨x18,5,none⟩=some (.q x21)/\
 Af w7 ⟨x1,0,none⟩ 3/\∀w8,w8=setCells w7 ⟨x1,0,none⟩ [.slice none 0 0,.q x20,.q x21]->
 ∃x22 x23 x24 x25 x26,Ad w8 ⟨x1,0,none⟩ [.slice x22 x23 x24,.q x25,.q x26]/\
 K (.agg #[.slice x22 x23 x24,.q x25,.q x26]) w8)
 (∃x27 x28 x29,w7.cell? ⟨x7,0,none⟩=some (.slice x27 x28 x29)/\
 ∃x30 x31 x32 x33,Ad w7 ⟨x18,0,none⟩ [.q x30,.s x31,.q x32,.q x33]/\
 ∀x34 w9,x34=w7.heap.size->w9=w7.alloc (.cells #[.q x30,.s x31,.q x32,.q x33] 57)->
 Bl Tryz.prog (Builtin.append_ #[51,51] 51 #[.slice x27 x28 x29,.slice (some ⟨x34,0,none⟩) 1 1]) (fun x35 w10=>
 ∃x36 x37 x38,x35= .slice x36 x37 x38/\
 Af w10 ⟨x7,0,none⟩ 1/\∀w11,w11=w10.setCell ⟨x7,0,none⟩ (.slice x36 x37 x38)->
 ∃x39,w11.cell? ⟨x18,3,none⟩=some (.q x39)/\
 Af w11 ⟨x7,1,none⟩ 1/\∀w12,w12=w11.setCell ⟨x7,1,none⟩ (.q x39)->
 ∃x40,w12.cell? ⟨x18,0,none⟩=some (.q x40)/\
 cond (x40==0)
 (∃x41 x42 x43 x44 x45,Ad w12 ⟨x7,0,none⟩ [.slice x41 x42 x43,.q x44,.q x45]/\
 Af w12 ⟨x1,0,none⟩ 3/\∀w13,w13=setCells w12 ⟨x1,0,none⟩ [.slice x41 x42 x43,.q x44,.q x45]->
 ∃x46 x47 x48 x49 x50,Ad w13 ⟨x1,0,none⟩ [.slice x46 x47 x48,.q x49,.q x50]/\
 K (.agg #[.slice x46 x47 x48,.q x49,.q x50]) w13)
 (∃x51,w12.cell? ⟨x18,4,none⟩=some (.q x51)/\
 I x51 w12/\x8 x51 w12<x8 x10 w4)) w9)))
theorem Aj3 (x0:List UInt8) (K:Value->World->Prop) (w:World) (h:Aj2 x0 K w):Calls Tryz.prog 17 #[.s x0] w (Ret K):=
 Ao { loops:=[(62,[(4,.int .i64)])] } Tryz.func17 (by kernel_rfl) h
end Go.Proofs.YtcakelelfklhdaaGreatDoor
namespace Go.Proofs.YtcakelelfklhdaaGreatDoor
open Go.Vc
def Adz (x0:Option Addr) (x1:Nat) (x2:Nat) (x3:Int) (x4:Int) (x5:Int) (K:Value->World->Prop) (w:World):Prop:=
 ∀x6 w1,x6=w.heap.size->w1=w.alloc (.cells #[.slice none 0 0,.q 0,.q 0] 29)->
 cond (x4==6)
 (Calls Tryz.prog 124 #[.slice x0 x1 x2,.q x3,.q x5] w1 (Ret fun x7 w2=>
 ∃x8 x9 x10 x11 x12,x7= .agg #[.slice x8 x9 x10,.q x11,.q x12]/\
 Af w2 ⟨x6,0,none⟩ 3/\∀w3,w3=setCells w2 ⟨x6,0,none⟩ [.slice x8 x9 x10,.q x11,.q x12]->
 ∃x13 x14 x15 x16 x17,Ad w3 ⟨x6,0,none⟩ [.slice x13 x14 x15,.q x16,.q x17]/\
 K (.agg #[.slice x13 x14 x15,.q x16,.q x17]) w3))
 (Calls Tryz.prog 123 #[.slice x0 x1 x2,.q x3,.q (IntKind.i64.wrap (x4+1)),.q x5] w1 (Ret fun x18 w4=>
 ∃x19 x20 x21 x22 x23,x18= .agg #[.slice x19 x20 x21,.q x22,.q x23]/\
 ∀x24 w5,x24=w4.heap.size->w5=w4.alloc (.cells #[.slice none 0 0,.q 0,.q 0] 29)->
 Af w5 ⟨x24,0,none⟩ 3/\∀w6,w6=setCells w5 ⟨x24,0,none⟩ [.slice x19 x20 x21,.q x22,.q x23]->
 ∃(I:World->Prop) (x25:World->Nat),I w6/\
 ∀(_x26:Nat->Value) (w7:World),I w7->
 ∃x27,w7.cell? ⟨x24,2,none⟩=some (.q x27)/\
 cond (x27==0)
 (∃x28,w7.cell? ⟨x24,1,none⟩=some (.q x28)/\
 Calls Tryz.prog 35 #[.slice x0 x1 x2,.q x28] w7 (Ret fun x29 w8=>
 ∃x30 x31 x32 x33,x29= .agg #[.q x30,.s x31,.q x32,.q x33]/\
 ∀x34 w9,x34=w8.heap.size->w9=w8.alloc (.cells #[.q 0,.s [],.q 0,.q 0] 57)->
 Af w9 ⟨x34,0,none⟩ 4/\∀w10,w10=setCells w9 ⟨x34,0,none⟩ [.q x30,.s x31,.q x32,.q x33]->
 ∃x35,w10.cell? ⟨x34,1,none⟩=some (.s x35)/\
 Calls Tryz.prog 125 #[.s x35] w10 (Ret fun x36 w11=>
 ∃x37,x36= .q x37/\
 ∃(J:Bool->World->Prop),
 (∃x38,w11.cell? ⟨x34,0,none⟩=some (.q x38)/\
 cond (x38 !=4)
 (J true w11)
 (cond (x37==0)
 (J true w11)
 (Calls Tryz.prog 126 #[.q x37] w11 (Ret fun x39 w12=>
 ∃x40,x39= .q x40/\
 J (x40 !=x4) w12))))/\
 ∀(_x41:Nat->Value) (x42:Bool) (w13:World),J x42 w13->
 cond (x42)
 (∃x43 x44 x45 x46 x47,Ad w13 ⟨x24,0,none⟩ [.slice x43 x44 x45,.q x46,.q x47]/\
 Af w13 ⟨x6,0,none⟩ 3/\∀w14,w14=setCells w13 ⟨x6,0,none⟩ [.slice x43 x44 x45,.q x46,.q x47]->
 ∃x48 x49 x50 x51 x52,Ad w14 ⟨x6,0,none⟩ [.slice x48 x49 x50,.q x51,.q x52]/\
 K (.agg #[.slice x48 x49 x50,.q x51,.q x52]) w14)
 (∃x53,w13.cell? ⟨x24,1,none⟩=some (.q x53)/\
 Calls Tryz.prog 123 #[.slice x0 x1 x2,.q (IntKind.i64.wrap (x53+1)),.q (IntKind.i64.wrap (x4+1)),.q x5] w13 (Ret fun x54 w15=>
 ∃x55 x56 x57 x58 x59,x54= .agg #[.slice x55 x56 x57,.q x58,.q x59]/\
 ∀x60 w16,x60=w15.heap.size->w16=w15.alloc (.cells #[.slice none 0 0,.q 0,.q 0] 29)->
 Af w16 ⟨x60,0,none⟩ 3/\∀w17,w17=setCells w16 ⟨x60,0,none⟩ [.slice x55 x56 x57,.q x58,.q x59]->
 ∃x61,w17.cell? ⟨x60,2,none⟩=some (.q x61)/\
 cond (x61 !=0)
 (∃x62 x63 x64 x65 x66,Ad w17 ⟨x60,0,none⟩ [.slice x62 x63 x64,.q x65,.q x66]/\
 Af w17 ⟨x6,0,none⟩ 3/\∀w18,w18=setCells w17 ⟨x6,0,none⟩ [.slice x62 x63 x64,.q x65,.q x66]->
 ∃x67 x68 x69 x70 x71,Ad w18 ⟨x6,0,none⟩ [.slice x67 x68 x69,.q x70,.q x71]/\
 K (.agg #[.slice x67 x68 x69,.q x70,.q x71]) w18)
 (∃x72,w17.cell? ⟨x34,3,none⟩=some (.q x72)/\
 ∀x73 w19,x73=w17.heap.size->w19=w17.alloc (.cells #[.q x37,.s [],.q 0,.q 2,.q x72] 59)->
 ∃x74 x75 x76,w19.cell? ⟨x24,0,none⟩=some (.slice x74 x75 x76)/\
 Bl Tryz.prog (Builtin.append_ #[22,22] 22 #[.slice (some ⟨x73,0,none⟩) 1 1,.slice x74 x75 x76]) (fun x77 w20=>
 ∃x78 x79 x80,x77= .slice x78 x79 x80/\
 ∃(J1:World->Prop),
 (∀w21,w21=w20.drew->
 ∃(S:World->Prop),S w21/\
 ∃x81 x82 x83,(∀u,S u->u.cell? ⟨x60,0,none⟩=some (.slice x81 x82 x83))/\
 ∃x84,(∀u,S u->u.cell? ⟨x60,1,none⟩=some (.q x84))/\
 Bl Tryz.prog (Builtin.append_ #[22,22] 22 #[.slice x78 x79 x80,.slice x81 x82 x83]) (fun x85 w22=>
 ∃x86 x87 x88,x85= .slice x86 x87 x88/\
 S w22/\
 Af w22 ⟨x24,0,none⟩ 3/\∀w23,w23=setCells w22 ⟨x24,0,none⟩ [.slice x86 x87 x88,.q x84,.q 0]->
 J1 w23) w21)/\
 ∀(_x89:Nat->Value) (w24:World),J1 w24->
 cond (x4==3)
 (∃x90 x91 x92 x93 x94,Ad w24 ⟨x24,0,none⟩ [.slice x90 x91 x92,.q x93,.q x94]/\
 Af w24 ⟨x6,0,none⟩ 3/\∀w25,w25=setCells w24 ⟨x6,0,none⟩ [.slice x90 x91 x92,.q x93,.q x94]->
 ∃x95 x96 x97 x98 x99,Ad w25 ⟨x6,0,none⟩ [.slice x95 x96 x97,.q x98,.q x99]/\
 K (.agg #[.slice x95 x96 x97,.q x98,.q x99]) w25)
 (I w24/\x25 w24<x25 w7)) w19))))))
 (∃Axy Ax6 Ax9 Axz Ayd,Ad w7 ⟨x24,0,none⟩ [.slice Axy Ax6 Ax9,.q Axz,.q Ayd]/\
 Af w7 ⟨x6,0,none⟩ 3/\∀w26,w26=setCells w7 ⟨x6,0,none⟩ [.slice Axy Ax6 Ax9,.q Axz,.q Ayd]->
 ∃Axs Ax7 Aya Ax3 Ax8,Ad w26 ⟨x6,0,none⟩ [.slice Axs Ax7 Aya,.q Ax3,.q Ax8]/\
 K (.agg #[.slice Axs Ax7 Aya,.q Ax3,.q Ax8]) w26)))
theorem Ad0 (x0:Option Addr) (x1:Nat) (x2:Nat) (x3:Int) (x4:Int) (x5:Int) (K:Value->World->Prop) (w:World) (h:Adz x0 x1 x2 x3 x4 x5 K w):Calls Tryz.prog 123 #[.slice x0 x1 x2,.q x3,.q x4,.q x5] w (Ret K):=
 Ao { loops:=[(60,[])],Axo:=[(3862,[(48,.bool)]),(61823,[])] } Tryz.func123 (by kernel_rfl) h
def Aj4 (x0:Option Addr) (x1:Nat) (x2:Nat) (x3:Int) (x4:Int) (K:Value->World->Prop) (w:World):Prop:=
 ∀x5 w1,x5=w.heap.size->w1=w.alloc (.cells #[.slice none 0 0,.q 0,.q 0] 29)->
 Calls Tryz.prog 35 #[.slice x0 x1 x2,.q x3] w1 (Ret fun x6 w2=>
 ∃x7 x8 x9 x10,x6= .agg #[.q x7,.s x8,.q x9,.q x10]/\
 ∀x11 w3,x11=w2.heap.size->w3=w2.alloc (.cells #[.q 0,.s [],.q 0,.q 0] 57)->
 Af w3 ⟨x11,0,none⟩ 4/\∀w4,w4=setCells w3 ⟨x11,0,none⟩ [.q x7,.s x8,.q x9,.q x10]->
 ∃x12,w4.cell? ⟨x11,0,none⟩=some (.q x12)/\
 cond (x12==2)
 (∃x13,w4.cell? ⟨x11,2,none⟩=some (.q x13)/\
 ∃x14,w4.cell? ⟨x11,3,none⟩=some (.q x14)/\
 ∀x15 w5,x15=w4.heap.size->w5=w4.alloc (.cells #[.q 1,.s [],.q x13,.q 0,.q x14] 59)->
 Af w5 ⟨x5,0,none⟩ 3/\∀w6,w6=setCells w5 ⟨x5,0,none⟩ [.slice (some ⟨x15,0,none⟩) 1 1,.q (IntKind.i64.wrap (x3+1)),.q 0]->
 ∃x16 x17 x18 x19 x20,Ad w6 ⟨x5,0,none⟩ [.slice x16 x17 x18,.q x19,.q x20]/\
 K (.agg #[.slice x16 x17 x18,.q x19,.q x20]) w6)
 (∃x21,w4.cell? ⟨x11,0,none⟩=some (.q x21)/\
 cond (x21==1)
 (∃x22,w4.cell? ⟨x11,1,none⟩=some (.s x22)/\
 ∃x23,w4.cell? ⟨x11,3,none⟩=some (.q x23)/\
 ∀x24 w7,x24=w4.heap.size->w7=w4.alloc (.cells #[.q 2,.s x22,.q 0,.q 0,.q x23] 59)->
 Af w7 ⟨x5,0,none⟩ 3/\∀w8,w8=setCells w7 ⟨x5,0,none⟩ [.slice (some ⟨x24,0,none⟩) 1 1,.q (IntKind.i64.wrap (x3+1)),.q 0]->
 ∃x25 x26 x27 x28 x29,Ad w8 ⟨x5,0,none⟩ [.slice x25 x26 x27,.q x28,.q x29]/\
 K (.agg #[.slice x25 x26 x27,.q x28,.q x29]) w8)
 (∃(J:Bool->World->Prop),
 (∃x30,w4.cell? ⟨x11,0,none⟩=some (.q x30)/\
 cond (x30 !=4)
 (J true w4)
 (∃x31,w4.cell? ⟨x11,1,none⟩=some (.s x31)/\
 cond (!(x31==[45]))
 (∃x32,w4.cell? ⟨x11,1,none⟩=some (.s x32)/\
 cond (!(x32==[33]))
 (∃x33,w4.cell? ⟨x11,1,none⟩=some (.s x33)/\
 J (!(x33==[40])) w4)
 (J false w4))
 (J false w4)))/\
 ∀(_x34:Nat->Value) (x35:Bool) (w9:World),J x35 w9->
 cond (x35)
 (Af w9 ⟨x5,0,none⟩ 3/\∀w10,w10=setCells w9 ⟨x5,0,none⟩ [.slice none 0 0,.q x3,.q 11]->
 ∃x36 x37 x38 x39 x40,Ad w10 ⟨x5,0,none⟩ [.slice x36 x37 x38,.q x39,.q x40]/\
 K (.agg #[.slice x36 x37 x38,.q x39,.q x40]) w10)
 (cond (x4==24)
 (Af w9 ⟨x5,0,none⟩ 3/\∀w11,w11=setCells w9 ⟨x5,0,none⟩ [.slice none 0 0,.q x3,.q 5]->
 ∃x41 x42 x43 x44 x45,Ad w11 ⟨x5,0,none⟩ [.slice x41 x42 x43,.q x44,.q x45]/\
 K (.agg #[.slice x41 x42 x43,.q x44,.q x45]) w11)
 (∃x46,w9.cell? ⟨x11,1,none⟩=some (.s x46)/\
 cond (x46==[40])
 (Calls Tryz.prog 123 #[.slice x0 x1 x2,.q (IntKind.i64.wrap (x3+1)),.q 1,.q (IntKind.i64.wrap (x4+1))] w9 (Ret fun x47 w12=>
 ∃x48 x49 x50 x51 x52,x47= .agg #[.slice x48 x49 x50,.q x51,.q x52]/\
 ∀x53 w13,x53=w12.heap.size->w13=w12.alloc (.cells #[.slice none 0 0,.q 0,.q 0] 29)->
 Af w13 ⟨x53,0,none⟩ 3/\∀w14,w14=setCells w13 ⟨x53,0,none⟩ [.slice x48 x49 x50,.q x51,.q x52]->
 ∃x54,w14.cell? ⟨x53,2,none⟩=some (.q x54)/\
 cond (x54 !=0)
 (∃x55 x56 x57 x58 x59,Ad w14 ⟨x53,0,none⟩ [.slice x55 x56 x57,.q x58,.q x59]/\
 Af w14 ⟨x5,0,none⟩ 3/\∀w15,w15=setCells w14 ⟨x5,0,none⟩ [.slice x55 x56 x57,.q x58,.q x59]->
 ∃x60 x61 x62 x63 x64,Ad w15 ⟨x5,0,none⟩ [.slice x60 x61 x62,.q x63,.q x64]/\
 K (.agg #[.slice x60 x61 x62,.q x63,.q x64]) w15)
 (∃x65,w14.cell? ⟨x53,1,none⟩=some (.q x65)/\
 Calls Tryz.prog 35 #[.slice x0 x1 x2,.q x65] w14 (Ret fun x66 w16=>
 ∃x67 x68 x69 x70,x66= .agg #[.q x67,.s x68,.q x69,.q x70]/\
 ∀x71 w17,x71=w16.heap.size->w17=w16.alloc (.cells #[.q 0,.s [],.q 0,.q 0] 57)->
 Af w17 ⟨x71,0,none⟩ 4/\∀w18,w18=setCells w17 ⟨x71,0,none⟩ [.q x67,.s x68,.q x69,.q x70]->
 ∃(J1:Bool->World->Prop),
 (∃x72,w18.cell? ⟨x71,0,none⟩=some (.q x72)/\
 cond (x72 !=4)
 (J1 true w18)
 (∃x73,w18.cell? ⟨x71,1,none⟩=some (.s x73)/\
 J1 (!(x73==[41])) w18))/\
 ∀(_x74:Nat->Value) (x75:Bool) (w19:World),J1 x75 w19->
 cond (x75)
 (∃x76,w19.cell? ⟨x53,1,none⟩=some (.q x76)/\
 Af w19 ⟨x5,0,none⟩ 3/\∀w20,w20=setCells w19 ⟨x5,0,none⟩ [.slice none 0 0,.q x76,.q 11]->
 ∃x77 x78 x79 x80 x81,Ad w20 ⟨x5,0,none⟩ [.slice x77 x78 x79,.q x80,.q x81]/\
 K (.agg #[.slice x77 x78 x79,.q x80,.q x81]) w20)
 (∃x82 x83 x84,w19.cell? ⟨x53,0,none⟩=some (.slice x82 x83 x84)/\
 ∃x85,w19.cell? ⟨x53,1,none⟩=some (.q x85)/\
 Af w19 ⟨x5,0,none⟩ 3/\∀w21,w21=setCells w19 ⟨x5,0,none⟩ [.slice x82 x83 x84,.q (IntKind.i64.wrap (x85+1)),.q 0]->
 ∃x86 x87 x88 x89 x90,Ad w21 ⟨x5,0,none⟩ [.slice x86 x87 x88,.q x89,.q x90]/\
 K (.agg #[.slice x86 x87 x88,.q x89,.q x90]) w21)))))
 (Calls Tryz.prog 124 #[.slice x0 x1 x2,.q (IntKind.i64.wrap (x3+1)),.q (IntKind.i64.wrap (x4+1))] w9 (Ret fun x91 w22=>
 ∃x92 x93 x94 x95 x96,x91= .agg #[.slice x92 x93 x94,.q x95,.q x96]/\
 ∀x97 w23,x97=w22.heap.size->w23=w22.alloc (.cells #[.slice none 0 0,.q 0,.q 0] 29)->
 Af w23 ⟨x97,0,none⟩ 3/\∀w24,w24=setCells w23 ⟨x97,0,none⟩ [.slice x92 x93 x94,.q x95,.q x96]->
 ∃x98,w24.cell? ⟨x97,2,none⟩=some (.q x98)/\
 cond (x98 !=0)
 (∃x99 Axy Ax6 Ax9 Axz,Ad w24 ⟨x97,0,none⟩ [.slice x99 Axy Ax6,.q Ax9,.q Axz]/\
 Af w24 ⟨x5,0,none⟩ 3/\∀w25,w25=setCells w24 ⟨x5,0,none⟩ [.slice x99 Axy Ax6,.q Ax9,.q Axz]->
 ∃Ayd Axs Ax7 Aya Ax3,Ad w25 ⟨x5,0,none⟩ [.slice Ayd Axs Ax7,.q Aya,.q Ax3]/\
 K (.agg #[.slice Ayd Axs Ax7,.q Aya,.q Ax3]) w25)
 (∃(J2:Int->World->Prop),
 (∃Ax8,w24.cell? ⟨x11,1,none⟩=some (.s Ax8)/\
 cond (Ax8==[33])
 (J2 4 w24)
 (J2 3 w24))/\
 ∀(_x110:Nat->Value) (Ayj:Int) (w26:World),J2 Ayj w26->
 ∀w27,w27=w26.drew->
 ∃(S:World->Prop),S w27/\
 ∃Azm,(∀u,S u->u.cell? ⟨x11,3,none⟩=some (.q Azm))/\
 ∃Aza Ay5 Ays,(∀u,S u->u.cell? ⟨x97,0,none⟩=some (.slice Aza Ay5 Ays))/\
 ∃Ayw,(∀u,S u->u.cell? ⟨x97,1,none⟩=some (.q Ayw))/\
 ∀Ay6 w28,Ay6=w27.heap.size->w28=w27.alloc (.cells #[.q Ayj,.s [],.q 0,.q 1,.q Azm] 59)->
 S w28/\
 Bl Tryz.prog (Builtin.append_ #[22,22] 22 #[.slice (some ⟨Ay6,0,none⟩) 1 1,.slice Aza Ay5 Ays]) (fun Ayx w29=>
 ∃Azi Ayy Ayz,Ayx= .slice Azi Ayy Ayz/\
 S w29/\
 Af w29 ⟨x5,0,none⟩ 3/\∀w30,w30=setCells w29 ⟨x5,0,none⟩ [.slice Azi Ayy Ayz,.q Ayw,.q 0]->
 ∃Ay0 Ayt Ay1 Azu Azn,Ad w30 ⟨x5,0,none⟩ [.slice Ay0 Ayt Ay1,.q Azu,.q Azn]/\
 K (.agg #[.slice Ay0 Ayt Ay1,.q Azu,.q Azn]) w30) w28))))))))
theorem Aj5 (x0:Option Addr) (x1:Nat) (x2:Nat) (x3:Int) (x4:Int) (K:Value->World->Prop) (w:World) (h:Aj4 x0 x1 x2 x3 x4 K w):Calls Tryz.prog 124 #[.slice x0 x1 x2,.q x3,.q x4] w (Ret K):=
 Ao { Axo:=[(62,[(56,.bool)]),(2047,[(11,.int .i64)]),(16301,[(87,.bool)])] } Tryz.func124 (by kernel_rfl) h
def Ad1 (x0:Option Addr) (x1:Nat) (x2:Nat) (x3:Int) (K:Value->World->Prop) (w:World):Prop:=
 ∀x4 w1,x4=w.heap.size->w1=w.alloc (.cells #[.slice none 0 0,.q 0,.q 0] 29)->
 cond (decide (x3<0))
 (Af w1 ⟨x4,0,none⟩ 3/\∀w2,w2=setCells w1 ⟨x4,0,none⟩ [.slice none 0 0,.q 0,.q 1]->
 ∃x5 x6 x7 x8 x9,Ad w2 ⟨x4,0,none⟩ [.slice x5 x6 x7,.q x8,.q x9]/\
 K (.agg #[.slice x5 x6 x7,.q x8,.q x9]) w2)
 (Calls Tryz.prog 123 #[.slice x0 x1 x2,.q x3,.q 1,.q 0] w1 (Ret fun x10 w3=>
 ∃x11 x12 x13 x14 x15,x10= .agg #[.slice x11 x12 x13,.q x14,.q x15]/\
 Af w3 ⟨x4,0,none⟩ 3/\∀w4,w4=setCells w3 ⟨x4,0,none⟩ [.slice x11 x12 x13,.q x14,.q x15]->
 ∃x16 x17 x18 x19 x20,Ad w4 ⟨x4,0,none⟩ [.slice x16 x17 x18,.q x19,.q x20]/\
 K (.agg #[.slice x16 x17 x18,.q x19,.q x20]) w4))
theorem Ad2 (x0:Option Addr) (x1:Nat) (x2:Nat) (x3:Int) (K:Value->World->Prop) (w:World) (h:Ad1 x0 x1 x2 x3 K w):Calls Tryz.prog 122 #[.slice x0 x1 x2,.q x3] w (Ret K):=
 Ao {} Tryz.func122 (by kernel_rfl) h
def Ahl (K:Value->World->Prop) (w:World):Prop:=
 Calls Tryz.prog 8 #[.s [109,97,105,110,32,123,32,112,114,105,110,116,32,97,32,45,32,40,98,32,45,32,49,41,32,59,32,112,114,105,110,116,32,45,40,97,43,98,41,59,32,125]] w (Ret fun x0 w1=>
 ∃x1 x2 x3 x4 x5,x0= .agg #[.slice x1 x2 x3,.q x4,.q x5]/\
 Calls Tryz.prog 7 #[.slice x1 x2 x3] w1 (Ret fun x6 w2=>
 ∃x7 x8,x6= .tuple #[.s x7,.q x8]/\
 Calls Tryz.prog 12 #[.slice x1 x2 x3,.q 4] w2 (Ret fun x9 w3=>
 ∃x10 x11,x9= .tuple #[.s x10,.bool x11]/\
 ∀(_x12:Nat->Value),
 K (.bool ((x7==[109,97,105,110,32,123,10,9,112,114,105,110,116,32,97,32,45,32,40,98,32,45,32,49,41,59,10,9,112,114,105,110,116,32,45,40,97,32,43,32,98,41,59,10,125,10])&&((x8==0)&&((x10==[97,32,45,32,40,98,32,45,32,49,41])&&x11)))) w3)))
theorem Ahm (K:Value->World->Prop) (w:World) (h:Ahl K w):Calls Tryz.prog 6 #[] w (Ret K):=
 Ao { Axr:=[(62,[0])] } Tryz.func6 (by kernel_rfl) h
def Xg (x0:Option Addr) (x1:Nat) (x2:Nat) (K:Value->World->Prop) (w:World):Prop:=
 ∃(J:Bool->World->Prop),
 (cond (decide ((x1:Int)>120))
 (J true w)
 (Calls Tryz.prog 5 #[.slice x0 x1 x2] w (Ret fun x3 w1=>
 ∃x4,x3= .bool x4/\
 J (!x4) w1)))/\
 ∀(_x5:Nat->Value) (x6:Bool) (w2:World),J x6 w2->
 cond (x6)
 (Calls Tryz.prog 6 #[] w2 (Ret fun x7 w3=>
 ∃x8,x7= .bool x8/\
 K (.bool x8) w3))
 (Calls Tryz.prog 7 #[.slice x0 x1 x2] w2 (Ret fun x9 w4=>
 ∃x10 x11,x9= .tuple #[.s x10,.q x11]/\
 Calls Tryz.prog 8 #[.s x10] w4 (Ret fun x12 w5=>
 ∃x13 x14 x15 x16 x17,x12= .agg #[.slice x13 x14 x15,.q x16,.q x17]/\
 ∀x18 w6,x18=w5.heap.size->w6=w5.alloc (.cells #[.slice none 0 0,.q 0,.q 0] 29)->
 Af w6 ⟨x18,0,none⟩ 3/\∀w7,w7=setCells w6 ⟨x18,0,none⟩ [.slice x13 x14 x15,.q x16,.q x17]->
 ∃x19,w7.cell? ⟨x18,2,none⟩=some (.q x19)/\
 cond (x19==5)
 (∃(I:Bool->Int->World->Prop) (x20:Bool->Int->World->Nat),I false 0 w7/\
 ∀(_x21:Nat->Value) (x22:Bool) (x23:Int) (w8:World),I x22 x23 w8->
 cond (decide (x23<(x1:Int)))
 (∃(J1:Bool->World->Prop),
 (cond (x22)
 (J1 true w8)
 (Calls Tryz.prog 9 #[.slice x0 x1 x2,.q x23] w8 (Ret fun x24 w9=>
 ∃x25,x24= .q x25/\
 J1 (decide (x25>24)) w9)))/\
 ∀(_x26:Nat->Value) (x27:Bool) (w10:World),J1 x27 w10->
 I x27 (IntKind.i64.wrap (x23+1)) w10/\x20 x27 (IntKind.i64.wrap (x23+1)) w10<x20 x22 x23 w8)
 (cond (x22)
 (Calls Tryz.prog 6 #[] w8 (Ret fun x28 w11=>
 ∃x29,x28= .bool x29/\
 K (.bool x29) w11))
 (K (.bool false) w8)))
 (cond (x11==0)
 (∃x30,w7.cell? ⟨x18,2,none⟩=some (.q x30)/\
 cond (x30==0)
 (∃x31 x32 x33,w7.cell? ⟨x18,0,none⟩=some (.slice x31 x32 x33)/\
 Calls Tryz.prog 10 #[.slice x31 x32 x33,.slice x0 x1 x2] w7 (Ret fun x34 w12=>
 ∃x35,x34= .bool x35/\
 cond (x35)
 (Calls Tryz.prog 6 #[] w12 (Ret fun x36 w13=>
 ∃x37,x36= .bool x37/\
 K (.bool x37) w13))
 (K (.bool false) w12)))
 (K (.bool false) w7))
 (K (.bool false) w7)))))
theorem Xh (x0:Option Addr) (x1:Nat) (x2:Nat) (K:Value->World->Prop) (w:World) (h:Xg x0 x1 x2 K w):Calls Tryz.prog 3 #[.slice x0 x1 x2] w (Ret K):=
 Ao { loops:=[(4010,[(6,.bool),(7,.int .i64)])],Axo:=[(6,[(15,.bool)]),(16041,[(6,.bool)])] } Tryz.func3 (by kernel_rfl) h
def Mj (x0:List UInt8) (K:Value->World->Prop) (w:World):Prop:=
 ∃(I:Int->World->Prop) (x1:Int->World->Nat),I 0 w/\
 ∀(_x2:Nat->Value) (x3:Int) (w1:World),I x3 w1->
 cond (decide (x3<(x0.length:Int)))
 (((0:Int)<=x3/\x3<(x0.length:Int))/\
 Calls Tryz.prog 81 #[.int .u8 ((x0.getD x3.toNat 0).toNat:Int)] w1 (Ret fun x4 w2=>
 ∃x5,x4= .bool x5/\
 cond (!x5)
 (((0:Int)<=x3/\x3<=(x0.length:Int))/\
 K (.string (mkS (x0.take x3.toNat))) w2)
 (I (IntKind.i64.wrap (x3+1)) w2/\x1 (IntKind.i64.wrap (x3+1)) w2<x1 x3 w1)))
 (K (.s x0) w1)
theorem Mk (x0:List UInt8) (K:Value->World->Prop) (w:World) (h:Mj x0 K w):Calls Tryz.prog 80 #[.s x0,.func (.func 81) #[] #[]] w (Ret K):=
 Ao { loops:=[(26,[(8,.int .i64)])] } Tryz.func80 (by kernel_rfl) h
def Gr (x0:Nat) (x1:Option Addr) (x2:Nat) (_x3:Nat) (K:Value->World->Prop) (w:World):Prop:=
 ∃x4,w.cell? ⟨x0,3,none⟩=some (.q x4)/\
 Af w ⟨x0,3,none⟩ 1/\∀w1,w1=w.setCell ⟨x0,3,none⟩ (.q (IntKind.i64.wrap (x4+1)))->
 ∃(I:Int->World->Prop) (x5:Int->World->Nat),I 0 w1/\
 ∀(_x6:Nat->Value) (x7:Int) (w2:World),I x7 w2->
 cond (decide (x7<(x2:Int)))
 (((0:Int)<=x7/\x7<(x2:Int))/\
 A5 x1 (fun x8=>
 ∃x9,w2.cell? (x8.add (x7.toNat*1))=some (.q x9)/\
 Calls Tryz.prog 89 #[.pointer (some ⟨x0,0,none⟩),.q x9] w2 (Ret fun _x10 w3=>
 I (IntKind.i64.wrap (x7+1)) w3/\x5 (IntKind.i64.wrap (x7+1)) w3<x5 x7 w2)))
 (∃x11,w2.cell? ⟨x0,3,none⟩=some (.q x11)/\
 Af w2 ⟨x0,3,none⟩ 1/\∀w4,w4=w2.setCell ⟨x0,3,none⟩ (.q (IntKind.i64.wrap (x11-1)))->
 K (.tuple #[]) w4)
theorem Gs (x0:Nat) (x1:Option Addr) (x2:Nat) (x3:Nat) (K:Value->World->Prop) (w:World) (h:Gr x0 x1 x2 x3 K w):Calls Tryz.prog 60 #[.pointer (some ⟨x0,0,none⟩),.slice x1 x2 x3,.func (.func 89) #[.pointer (some ⟨x0,0,none⟩)] #[]] w (Ret K):=
 Ao { loops:=[(26,[(17,.int .i64)])] } Tryz.func60 (by kernel_rfl) h
def He (x0:Nat) (x1:Option Addr) (x2:Nat) (_x3:Nat) (K:Value->World->Prop) (w:World):Prop:=
 ∃x4,w.cell? ⟨x0,3,none⟩=some (.q x4)/\
 Af w ⟨x0,3,none⟩ 1/\∀w1,w1=w.setCell ⟨x0,3,none⟩ (.q (IntKind.i64.wrap (x4+1)))->
 ∃(I:Int->World->Prop) (x5:Int->World->Nat),I 0 w1/\
 ∀(_x6:Nat->Value) (x7:Int) (w2:World),I x7 w2->
 cond (decide (x7<(x2:Int)))
 (((0:Int)<=x7/\x7<(x2:Int))/\
 A5 x1 (fun x8=>
 ∃x9,w2.cell? (x8.add (x7.toNat*1))=some (.q x9)/\
 Calls Tryz.prog 61 #[.pointer (some ⟨x0,0,none⟩),.q x9] w2 (Ret fun _x10 w3=>
 I (IntKind.i64.wrap (x7+1)) w3/\x5 (IntKind.i64.wrap (x7+1)) w3<x5 x7 w2)))
 (∃x11,w2.cell? ⟨x0,3,none⟩=some (.q x11)/\
 Af w2 ⟨x0,3,none⟩ 1/\∀w4,w4=w2.setCell ⟨x0,3,none⟩ (.q (IntKind.i64.wrap (x11-1)))->
 K (.tuple #[]) w4)
theorem Hf (x0:Nat) (x1:Option Addr) (x2:Nat) (x3:Nat) (K:Value->World->Prop) (w:World) (h:He x0 x1 x2 x3 K w):Calls Tryz.prog 60 #[.pointer (some ⟨x0,0,none⟩),.slice x1 x2 x3,.func (.func 61) #[.pointer (some ⟨x0,0,none⟩)] #[]] w (Ret K):=
 Ao { loops:=[(26,[(17,.int .i64)])] } Tryz.func60 (by kernel_rfl) h
def Jl (x0:Nat) (x1:Nat) (K:Value->World->Prop) (w:World):Prop:=
 Calls Tryz.prog 54 #[.slice none 0 0,.func (.func 55) #[] #[.pointer (some ⟨x0,0,none⟩),.pointer (some ⟨x1,0,none⟩)]] w (Ret fun x2 w1=>
 ∃x3 x4 x5,x2= .slice x3 x4 x5/\
 K (.slice x3 x4 x5) w1)
theorem Jm (x0:Nat) (x1:Nat) (K:Value->World->Prop) (w:World) (h:Jl x0 x1 K w):Calls Tryz.prog 27 #[.func (.func 55) #[] #[.pointer (some ⟨x0,0,none⟩),.pointer (some ⟨x1,0,none⟩)]] w (Ret K):=
 Ao {} Tryz.func27 (by kernel_rfl) h
def Fp (x0:Nat) (x1:Nat) (K:Value->World->Prop) (w:World):Prop:=
 ∀x2 w1,x2=w.heap.size->w1=w.alloc (.cells #[.slice none 0 0] 47)->
 ∃(x3:List Nat) (x4:List (Int)),Amf Tryz.prog 55 #[.pointer (some ⟨x0,0,none⟩),.pointer (some ⟨x1,0,none⟩)] [.int .i64] x3 x4 w1/\
 ∃(I:List Nat->List (Int)->World->Prop) (x8:List (Int)->World->Prop) (_x9:Nat->List (Int)->World->Prop),I x3 [] w1/\
 (∀(x5:List Nat) (x10:List (Int)) (x11:Int) (w2 w3:World),I x5 x10 w2->Grown w1.heap.size w2 w3->(x10++[x11])<+:x4->
 ∃x12 x13 x14,w3.cell? ⟨x2,0,none⟩=some (.slice x12 x13 x14)/\
 ∀x15 w4,x15=w3.heap.size->w4=w3.alloc (.cells #[.q x11] 3)->
 Bl Tryz.prog (Builtin.append_ #[47,47] 47 #[.slice x12 x13 x14,.slice (some ⟨x15,0,none⟩) 1 1]) (fun x16 w5=>
 ∃x17 x18 x19,x16= .slice x17 x18 x19/\
 Af w5 ⟨x2,0,none⟩ 1/\∀w6,w6=w5.setCell ⟨x2,0,none⟩ (.slice x17 x18 x19)->
 ∃x6,Aoc x5 x6 w3 w6/\I x6 (x10++[x11]) w6) w4)/\
 (∀(x20:List (Int)) (w7 w8:World) (x21:Nat),x20<+:x4->x8 x20 w7->Grown w1.heap.size w7 w8->w1.heap.size<=x21->w8.heap[x21]? =some (.deferred (some []))->
 Ed (x21::[]) w8/\
 K (.slice none 0 0) (shut (x21::[]) w8))/\
 ∀(x7:List Nat) (w9 w10:World) (x22:Nat),I x7 x4 w9->Grown w1.heap.size w9 w10->w1.heap.size<=x22->w10.heap[x22]? =some (.deferred (some []))->
 ∃x23 x24 x25,w10.cell? ⟨x2,0,none⟩=some (.slice x23 x24 x25)/\
 Ed (x22::[]) w10/\
 K (.slice x23 x24 x25) (shut (x22::[]) w10)
theorem Fq (x0:Nat) (x1:Nat) (K:Value->World->Prop) (w:World) (h:Fp x0 x1 K w):Calls Tryz.prog 54 #[.slice none 0 0,.func (.func 55) #[] #[.pointer (some ⟨x0,0,none⟩),.pointer (some ⟨x1,0,none⟩)]] w (Ret K):=
 Acb { ranges:=[(26,[.int .i64])] } Tryz.func54 (by kernel_rfl) h
def Y6 (x0:Nat) (x1:Nat) (x2:Nat) (K:Value->World->Prop) (w:World):Prop:=
 ∃(J:Bool->World->Prop),
 (∃x3,w.cell? ⟨x1,0,none⟩=some (.q x3)/\
 cond (decide (x3<0))
 (J true w)
 (∃x4,w.cell? ⟨x1,0,none⟩=some (.q x4)/\
 ∃x5 x6 x7,w.cell? ⟨x2,0,none⟩=some (.slice x5 x6 x7)/\
 J (decide (x4>=(x6:Int))) w))/\
 ∀(_x8:Nat->Value) (x9:Bool) (w1:World),J x9 w1->
 cond (x9)
 (Ed [] w1/\
 K (.tuple #[]) (shut [] w1))
 (∃x10,w1.cell? ⟨x1,0,none⟩=some (.q x10)/\
 ∃x11 x12 x13,w1.cell? ⟨x2,0,none⟩=some (.slice x11 x12 x13)/\
 ∃x14,w1.cell? ⟨x1,0,none⟩=some (.q x14)/\
 ((0:Int)<=x14/\x14<(x12:Int))/\
 A5 x11 (fun x15=>
 ∃x16,w1.cell? ((x15.add (x14.toNat*5)).add 3)=some (.q x16)/\
 ∃(I:Int->Int->World->Prop) (x17:Int->Int->World->Nat),I (IntKind.i64.wrap (x10+1)) 0 w1/\
 ∀(_x18:Nat->Value) (x19:Int) (x20:Int) (w2:World),I x19 x20 w2->
 cond (decide (x20<x16))
 (∃(J1:Bool->World->Prop),
 (∃x21 x22 x23,w2.cell? ⟨x2,0,none⟩=some (.slice x21 x22 x23)/\
 cond (decide (x19>=(x22:Int)))
 (J1 true w2)
 (M3 Tryz.prog x0 #[.q x19] (fun x25 w3=>
 J1 (!x25) w3) w2))/\
 ∀(_x26:Nat->Value) (x27:Bool) (w4:World),J1 x27 w4->
 cond (x27)
 (Ed [] w4/\
 K (.tuple #[]) (shut [] w4))
 (∃x28 x29 x30,w4.cell? ⟨x2,0,none⟩=some (.slice x28 x29 x30)/\
 Calls Tryz.prog 56 #[.slice x28 x29 x30,.q x19] w4 (Ret fun x31 w5=>
 ∃x32,x31= .q x32/\
 I x32 (IntKind.i64.wrap (x20+1)) w5/\x17 x32 (IntKind.i64.wrap (x20+1)) w5<x17 x19 x20 w2)))
 (Ed [] w2/\
 K (.tuple #[]) (shut [] w2))))
theorem Y7 (x0:Nat) (x1:Nat) (x2:Nat) (K:Value->World->Prop) (w:World) (h:Y6 x0 x1 x2 K w):Calls Tryz.prog 55 #[.func (.yield x0) #[] #[],.pointer (some ⟨x1,0,none⟩),.pointer (some ⟨x2,0,none⟩)] w (Ret K):=
 Acb { loops:=[(30,[(4,.int .i64),(20,.int .i64)])],Axo:=[(2,[(12,.bool)]),(1944,[(31,.bool)])] } Tryz.func55 (by kernel_rfl) h
end Go.Proofs.YtcakelelfklhdaaGreatDoor
namespace Go.Ty
open Go.Vc Go.Lv
structure Ai where
 op:Int
 name:List UInt8
 n:Int
 kids:Int
 at_:Int
 deriving DecidableEq,Inhabited
def Ay:Cod Ai:=Ag7 (fun x=>(x.op,x.name,x.n,x.kids,x.at_)) (Jq (Cb .i64) (Jq Cs (Jq (Cb .i64) (Jq (Cb .i64) (Cb .i64)))))
theorem Bg {m:List Nat} {w:World} {x:Ai} {cs:List Value} (h:Ay.rep m w x cs):cs=[.int .i64 x.op,.string (mkS x.name),.int .i64 x.n,.int .i64 x.kids,.int .i64 x.at_]:=by
 obtain⟨_,_,rfl,rfl,⟨_,_,rfl,rfl,⟨_,_,rfl,rfl,⟨_,_,rfl,rfl,rfl⟩⟩⟩⟩:=h
 exact rfl
theorem A3 {m:List Nat} {w:World} (x:Ai):Ay.rep m w x [.int .i64 x.op,.string (mkS x.name),.int .i64 x.n,.int .i64 x.kids,.int .i64 x.at_]:=⟨[.int .i64 x.op],[.string (mkS x.name),.int .i64 x.n,.int .i64 x.kids,.int .i64 x.at_],rfl,rfl,⟨[.string (mkS x.name)],[.int .i64 x.n,.int .i64 x.kids,.int .i64 x.at_],rfl,rfl,⟨[.int .i64 x.n],[.int .i64 x.kids,.int .i64 x.at_],rfl,rfl,⟨[.int .i64 x.kids],[.int .i64 x.at_],rfl,rfl,rfl⟩⟩⟩⟩
structure B3 where
 addr:Value
 buf:List Int
 deriving Inhabited
structure Ae where
 l:List Ai
 b:B3
 deep:Int
 deriving Inhabited
structure Ev where
 x0:Int
 x1:Int
 deriving DecidableEq,Inhabited
def Si:Cod Ev:=Ag7 (fun x=>(x.x0,x.x1)) (Jq (Cb .i64) (Cb .i64))
theorem Aa1 {m:List Nat} {w:World} {x:Ev} {cs:List Value} (h:Si.rep m w x cs):cs=[.int .i64 x.x0,.int .i64 x.x1]:=by
 obtain⟨_,_,rfl,rfl,rfl⟩:=h
 exact rfl
theorem Tz {m:List Nat} {w:World} (x:Ev):Si.rep m w x [.int .i64 x.x0,.int .i64 x.x1]:=⟨[.int .i64 x.x0],[.int .i64 x.x1],rfl,rfl,rfl⟩
structure Am where
 at_:Int
 ok:Bool
 deriving DecidableEq,Inhabited
def Du:Cod Am:=Ag7 (fun x=>(x.at_,x.ok)) (Jq (Cb .i64) Avr)
theorem A4 {m:List Nat} {w:World} {x:Am} {cs:List Value} (h:Du.rep m w x cs):cs=[.int .i64 x.at_,.bool x.ok]:=by
 obtain⟨_,_,rfl,rfl,rfl⟩:=h
 exact rfl
theorem Aq {m:List Nat} {w:World} (x:Am):Du.rep m w x [.int .i64 x.at_,.bool x.ok]:=⟨[.int .i64 x.at_],[.bool x.ok],rfl,rfl,rfl⟩
structure Au where
 kind:Int
 text:List UInt8
 n:Int
 at_:Int
 deriving DecidableEq,Inhabited
def Cj:Cod Au:=Ag7 (fun x=>(x.kind,x.text,x.n,x.at_)) (Jq (Cb .i64) (Jq Cs (Jq (Cb .i64) (Cb .i64))))
theorem Dj {m:List Nat} {w:World} {x:Au} {cs:List Value} (h:Cj.rep m w x cs):cs=[.int .i64 x.kind,.string (mkS x.text),.int .i64 x.n,.int .i64 x.at_]:=by
 obtain⟨_,_,rfl,rfl,⟨_,_,rfl,rfl,⟨_,_,rfl,rfl,rfl⟩⟩⟩:=h
 exact rfl
theorem Va {m:List Nat} {w:World} (x:Au):Cj.rep m w x [.int .i64 x.kind,.string (mkS x.text),.int .i64 x.n,.int .i64 x.at_]:=⟨[.int .i64 x.kind],[.string (mkS x.text),.int .i64 x.n,.int .i64 x.at_],rfl,rfl,⟨[.string (mkS x.text)],[.int .i64 x.n,.int .i64 x.at_],rfl,rfl,⟨[.int .i64 x.n],[.int .i64 x.at_],rfl,rfl,rfl⟩⟩⟩
structure Aj where
 l:List Ai
 n:Int
 at_:Int
 e_:Int
 deriving DecidableEq,Inhabited
def Bo:Cod Aj:=Ag7 (fun x=>(x.l,x.n,x.at_,x.e_)) (Jq (cSl Ay) (Jq (Cb .i64) (Jq (Cb .i64) (Cb .i64))))
theorem Ah {m:List Nat} {w:World} {x:Aj} {cs:List Value} (h:Bo.rep m w x cs):∃(a0:Option Addr) (c0:Nat),cs=[.slice a0 x.l.length c0,.int .i64 x.n,.int .i64 x.at_,.int .i64 x.e_]/\(x.l.length<=c0/\SlR Ay m w a0 x.l):=by
 obtain⟨_,_,rfl,⟨a0,c0,rfl,p0,q0⟩,⟨_,_,rfl,rfl,⟨_,_,rfl,rfl,rfl⟩⟩⟩:=h
 exact⟨a0,c0,rfl,⟨p0,q0⟩⟩
theorem Ag {m:List Nat} {w:World} (x:Aj) {a0:Option Addr} {c0:Nat} (h0:(x.l.length<=c0/\SlR Ay m w a0 x.l)):Bo.rep m w x [.slice a0 x.l.length c0,.int .i64 x.n,.int .i64 x.at_,.int .i64 x.e_]:=⟨[.slice a0 x.l.length c0],[.int .i64 x.n,.int .i64 x.at_,.int .i64 x.e_],rfl,⟨_,_,rfl,h0.1,h0.2⟩,⟨[.int .i64 x.n],[.int .i64 x.at_,.int .i64 x.e_],rfl,rfl,⟨[.int .i64 x.at_],[.int .i64 x.e_],rfl,rfl,rfl⟩⟩⟩
structure As where
 l:List Ai
 at_:Int
 e_:Int
 deriving DecidableEq,Inhabited
def Kj:Cod As:=Ag7 (fun x=>(x.l,x.at_,x.e_)) (Jq (cSl Ay) (Jq (Cb .i64) (Cb .i64)))
theorem D2 {m:List Nat} {w:World} {x:As} {cs:List Value} (h:Kj.rep m w x cs):∃(a0:Option Addr) (c0:Nat),cs=[.slice a0 x.l.length c0,.int .i64 x.at_,.int .i64 x.e_]/\(x.l.length<=c0/\SlR Ay m w a0 x.l):=by
 obtain⟨_,_,rfl,⟨a0,c0,rfl,p0,q0⟩,⟨_,_,rfl,rfl,rfl⟩⟩:=h
 exact⟨a0,c0,rfl,⟨p0,q0⟩⟩
theorem B0 {m:List Nat} {w:World} (x:As) {a0:Option Addr} {c0:Nat} (h0:(x.l.length<=c0/\SlR Ay m w a0 x.l)):Kj.rep m w x [.slice a0 x.l.length c0,.int .i64 x.at_,.int .i64 x.e_]:=⟨[.slice a0 x.l.length c0],[.int .i64 x.at_,.int .i64 x.e_],rfl,⟨_,_,rfl,h0.1,h0.2⟩,⟨[.int .i64 x.at_],[.int .i64 x.e_],rfl,rfl,rfl⟩⟩
structure Dl where
 l:List Au
 at_:Int
 e_:Int
 deriving DecidableEq,Inhabited
def Sj:Cod Dl:=Ag7 (fun x=>(x.l,x.at_,x.e_)) (Jq (cSl Cj) (Jq (Cb .i64) (Cb .i64)))
theorem Aa2 {m:List Nat} {w:World} {x:Dl} {cs:List Value} (h:Sj.rep m w x cs):∃(a0:Option Addr) (c0:Nat),cs=[.slice a0 x.l.length c0,.int .i64 x.at_,.int .i64 x.e_]/\(x.l.length<=c0/\SlR Cj m w a0 x.l):=by
 obtain⟨_,_,rfl,⟨a0,c0,rfl,p0,q0⟩,⟨_,_,rfl,rfl,rfl⟩⟩:=h
 exact⟨a0,c0,rfl,⟨p0,q0⟩⟩
theorem Of {m:List Nat} {w:World} (x:Dl) {a0:Option Addr} {c0:Nat} (h0:(x.l.length<=c0/\SlR Cj m w a0 x.l)):Sj.rep m w x [.slice a0 x.l.length c0,.int .i64 x.at_,.int .i64 x.e_]:=⟨[.slice a0 x.l.length c0],[.int .i64 x.at_,.int .i64 x.e_],rfl,⟨_,_,rfl,h0.1,h0.2⟩,⟨[.int .i64 x.at_],[.int .i64 x.e_],rfl,rfl,rfl⟩⟩
structure Np where
 t:Au
 next:Int
 e_:Int
 deriving DecidableEq,Inhabited
def Vb:Cod Np:=Ag7 (fun x=>(x.t,x.next,x.e_)) (Jq Cj (Jq (Cb .i64) (Cb .i64)))
theorem Ad3 {m:List Nat} {w:World} {x:Np} {cs:List Value} (h:Vb.rep m w x cs):cs=[.int .i64 x.t.kind,.string (mkS x.t.text),.int .i64 x.t.n,.int .i64 x.t.at_,.int .i64 x.next,.int .i64 x.e_]:=by
 obtain⟨_,_,rfl,⟨_,_,rfl,rfl,⟨_,_,rfl,rfl,⟨_,_,rfl,rfl,rfl⟩⟩⟩,⟨_,_,rfl,rfl,rfl⟩⟩:=h
 exact rfl
theorem Ahn {m:List Nat} {w:World} (x:Np):Vb.rep m w x [.int .i64 x.t.kind,.string (mkS x.t.text),.int .i64 x.t.n,.int .i64 x.t.at_,.int .i64 x.next,.int .i64 x.e_]:=⟨[.int .i64 x.t.kind,.string (mkS x.t.text),.int .i64 x.t.n,.int .i64 x.t.at_],[.int .i64 x.next,.int .i64 x.e_],rfl,⟨[.int .i64 x.t.kind],[.string (mkS x.t.text),.int .i64 x.t.n,.int .i64 x.t.at_],rfl,rfl,⟨[.string (mkS x.t.text)],[.int .i64 x.t.n,.int .i64 x.t.at_],rfl,rfl,⟨[.int .i64 x.t.n],[.int .i64 x.t.at_],rfl,rfl,rfl⟩⟩⟩,⟨[.int .i64 x.next],[.int .i64 x.e_],rfl,rfl,rfl⟩⟩
end Go.Ty
namespace Go.Proofs.YtcakelelfklhdaaGreatDoor
open Go.Vc Go.Lv Go.Ty
theorem Ach:W4 Tryz.prog 22 59 5 48:=⟨Tryz.t59,.agg #[.int .i64 0,.string (mkS []),.int .i64 0,.int .i64 0,.int .i64 0],by kernel_rfl,by kernel_rfl,by kernel_rfl,by kernel_rfl,by kernel_rfl,by kernel_rfl,by decide⟩
theorem Atv:W4 Tryz.prog 42 5 1 1:=⟨Tryz.t5,.int .u8 0,by kernel_rfl,by kernel_rfl,by kernel_rfl,by kernel_rfl,by kernel_rfl,by kernel_rfl,by decide⟩
theorem Avu:W4 Tryz.prog 47 3 1 8:=⟨Tryz.t3,.int .i64 0,by kernel_rfl,by kernel_rfl,by kernel_rfl,by kernel_rfl,by kernel_rfl,by kernel_rfl,by decide⟩
theorem Avv:W4 Tryz.prog 51 57 4 40:=⟨Tryz.t57,.agg #[.int .i64 0,.string (mkS []),.int .i64 0,.int .i64 0],by kernel_rfl,by kernel_rfl,by kernel_rfl,by kernel_rfl,by kernel_rfl,by kernel_rfl,by decide⟩
theorem Aoo:∀i,Tryz.prog.info? 9=some i->i.zero=some (.string (mkS [])):=fun i hi=>by
 have h1:Tryz.prog.info? 9=some Tryz.t9:=by kernel_rfl
 rw [h1]at hi
 have h2:Tryz.t9.zero=some (.string (mkS [])):=by kernel_rfl
 exact Option.some.inj hi▸h2
theorem Aop:W4 Tryz.prog 74 9 1 16:=⟨Tryz.t9,.string (mkS []),by kernel_rfl,by kernel_rfl,by kernel_rfl,by kernel_rfl,by kernel_rfl,by kernel_rfl,by decide⟩
def L4 (v0:Int) (v1:List Ai) (xs:List (Int)):Prop:=
 ∀(m:List Nat) (w:World),MOk m w->∀(b0:Nat) (cs0:List Value),Ge m w ⟨b0,0,none⟩ cs0->(Cb .i64).rep m w v0 cs0->∀(b1:Nat) (cs1:List Value),Ge m w ⟨b1,0,none⟩ cs1->(cSl Ay).rep m w v1 cs1->
 Ath Tryz.prog 55 #[.pointer (some ⟨b0,0,none⟩),.pointer (some ⟨b1,0,none⟩)] [.int .i64] m xs w
def Mo (l:List Ai) (K:(List UInt8)->Int->Prop):Prop:=
 ∀(m:List Nat) (w:World),MOk m w->∀(lA:Option Addr) (lC:Nat),l.length<=lC->SlR Ay m w lA l->
 Calls Tryz.prog 7 #[.slice lA l.length lC] w (Ret fun v w'=>∃(r0:List UInt8) (r1:Int),K r0 r1/\(v= .tuple #[.s r0,.q r1])/\An [] w w')
def Jr (l:List Ai) (K:Int->Int->Prop):Prop:=
 ∀(m:List Nat) (w:World),MOk m w->∀(lA:Option Addr) (lC:Nat),l.length<=lC->SlR Ay m w lA l->
 Calls Tryz.prog 13 #[.slice lA l.length lC] w (Ret fun v w'=>∃(r0:Int) (r1:Int),K r0 r1/\(v= .tuple #[.q r0,.q r1])/\An [] w w')
def Bv (wx:Ae) (i:Int) (K:(List Int)->Prop):Prop:=
 ∀(m:List Nat) (w:World),MOk m w->∀(wxb:Nat) (wxA:Option Addr) (wxC:Nat) (Aw1:Option Addr) (Aw2:Nat),Box w wxb [.slice Aw1 (wx.l).length Aw2,(wx.b.addr),.slice wxA (wx.b.buf).length wxC,.q (wx.deep)]->(wx.l).length<=Aw2->SlR Ay m w Aw1 wx.l->
 Calls Tryz.prog 14 #[.pointer (some ⟨wxb,0,none⟩),.q i] w (Ret fun v w'=>∃(r0:List Int),K r0/\(∃(a0:Option Addr) (c0:Nat),v= .slice a0 r0.length c0/\r0.length<=c0/\SlR (Cb .i64) m w' a0 r0)/\An [] w w')
def Dy (wx:Ae) (i:Int) (K:Ae->Prop):Prop:=
 ∀(m:List Nat) (w:World),MOk m w->∀(wxb:Nat) (wxA:Option Addr) (wxC:Nat) (Aw3:List Value) (Aw1:Option Addr) (Aw2:Nat),wxb∈m->(∀q,Vc.blk wxA=some q->q∈m/\q≠wxb)->Box w wxb [.slice Aw1 (wx.l).length Aw2,(wx.b.addr),.slice wxA (wx.b.buf).length wxC,.q (wx.deep)]->Rw w 0 5 1 wxA (wx.b.buf).length wxC Aw3->El (Cb .u8) m w (wx.b.buf) Aw3->(wx.l).length<=Aw2->SlR Ay m w Aw1 wx.l->Hu 1 wxb (wx.b.addr)->
 Calls Tryz.prog 15 #[.pointer (some ⟨wxb,0,none⟩),.q i] w (Ret fun _ w'=>∃(wx':Ae),K wx'/\(True)/\(∃A' C' xs',Box w' wxb [.slice Aw1 (wx.l).length Aw2,(wx'.b.addr),.slice A' (wx'.b.buf).length C',.q (wx'.deep)]/\Rw w' 0 5 1 A' (wx'.b.buf).length C' xs'/\El (Cb .u8) ((Vc.blk A').toList++m) w' (wx'.b.buf) xs'/\(∀q,Vc.blk A'=some q->q∈(Vc.blk wxA).toList\/w.heap.size<=q)/\Hu 1 wxb (wx'.b.addr))/\An (wxb::(Vc.blk wxA).toList) w w')
def G2 (bq:Ae) (K:(List UInt8)->Prop):Prop:=
 ∀(m:List Nat) (w:World),MOk m w->∀(bqb:Nat) (bqA:Option Addr) (bqC:Nat) (Bi3:List Value) (Bgj:Option Addr) (Bgk:Nat),bqb∈m->(∀q,Vc.blk bqA=some q->q∈m/\q≠bqb)->Box w bqb [.slice Bgj (bq.l).length Bgk,(bq.b.addr),.slice bqA (bq.b.buf).length bqC,.q (bq.deep)]->Rw w 0 5 1 bqA (bq.b.buf).length bqC Bi3->El (Cb .u8) m w (bq.b.buf) Bi3->(bq.l).length<=Bgk->SlR Ay m w Bgj bq.l->Hu 1 bqb (bq.b.addr)->
 Calls Tryz.prog 16 #[.pointer (some ⟨bqb,1,none⟩)] w (Ret fun v w'=>∃(r0:List UInt8),K r0/\(v= .s r0)/\An (bqb::(Vc.blk bqA).toList) w w')
def Wh (l:List Ai) (i:Int) (K:(List UInt8)->Bool->Prop):Prop:=
 ∀(m:List Nat) (w:World),MOk m w->∀(lA:Option Addr) (lC:Nat),l.length<=lC->SlR Ay m w lA l->
 Calls Tryz.prog 12 #[.slice lA l.length lC,.q i] w (Ret fun v w'=>∃(r0:List UInt8) (r1:Bool),K r0 r1/\(v= .tuple #[.s r0,.bool r1])/\An [] w w')
def Js (op:Int) (K:Int->Prop):Prop:=
 ∀(m:List Nat) (w:World),MOk m w->
 Calls Tryz.prog 21 #[.q op] w (Ret fun v w'=>∃(r0:Int),K r0/\(v= .q r0)/\An [] w w')
def A1 (wx:Ae) (i:Int) (K:(List UInt8)->Prop):Prop:=
 ∀(m:List Nat) (w:World),MOk m w->∀(wxb:Nat) (wxA:Option Addr) (wxC:Nat) (Aw1:Option Addr) (Aw2:Nat),Box w wxb [.slice Aw1 (wx.l).length Aw2,(wx.b.addr),.slice wxA (wx.b.buf).length wxC,.q (wx.deep)]->(wx.l).length<=Aw2->SlR Ay m w Aw1 wx.l->
 Calls Tryz.prog 22 #[.pointer (some ⟨wxb,0,none⟩),.q i] w (Ret fun v w'=>∃(r0:List UInt8),K r0/\(v= .s r0)/\An [] w w')
def P9 (l:List Ai) (i:Int) (K:Int->(List Ai)->Prop):Prop:=
 ∀(m:List Nat) (w:World),MOk m w->∀(lA:Option Addr) (lC:Nat),l.length<=lC->SlR Ay m w lA l->
 Calls Tryz.prog 28 #[.slice lA l.length lC,.q i] w (Ret fun v w'=>∃(r00:Int) (r01:List Ai),K r00 r01/\(∃(b00:Nat) (By5:List Value) (b01:Nat) (By6:List Value),v= .func (.func 55) #[] #[.pointer (some ⟨b00,0,none⟩),.pointer (some ⟨b01,0,none⟩)]/\(Ge m w' ⟨b00,0,none⟩ By5/\(Cb .i64).rep m w' r00 By5)/\(Ge m w' ⟨b01,0,none⟩ By6/\(cSl Ay).rep m w' r01 By6))/\An [] w w')
def Fg (Bbv:Int) (seq1:List Ai) (K:(List Int)->Prop):Prop:=
 ∀(m:List Nat) (w:World),MOk m w->∀(Ba1:Nat) (Baa:List Value),Ge m w ⟨Ba1,0,none⟩ Baa->(Cb .i64).rep m w Bbv Baa->∀(Ba2:Nat) (Bab:List Value),Ge m w ⟨Ba2,0,none⟩ Bab->(cSl Ay).rep m w seq1 Bab->
 Calls Tryz.prog 27 #[.func (.func 55) #[] #[.pointer (some ⟨Ba1,0,none⟩),.pointer (some ⟨Ba2,0,none⟩)]] w (Ret fun v w'=>∃(r0:List Int),K r0/\(∃(a0:Option Addr) (c0:Nat),v= .slice a0 r0.length c0/\r0.length<=c0/\SlR (Cb .i64) m w' a0 r0)/\An [] w w')
def L5 (i:Int) (K:(List UInt8)->Prop):Prop:=
 ∀(m:List Nat) (w:World),MOk m w->
 Calls Tryz.prog 30 #[.q i] w (Ret fun v w'=>∃(r0:List UInt8),K r0/\(v= .s r0)/\An [] w w')
def Aw (wx:Ae) (parts:List (List UInt8)) (K:Ae->Prop):Prop:=
 ∀(m:List Nat) (w:World),MOk m w->∀(wxb:Nat) (wxA:Option Addr) (wxC:Nat) (Aw3:List Value) (Aw1:Option Addr) (Aw2:Nat),wxb∈m->(∀q,Vc.blk wxA=some q->q∈m/\q≠wxb)->Box w wxb [.slice Aw1 (wx.l).length Aw2,(wx.b.addr),.slice wxA (wx.b.buf).length wxC,.q (wx.deep)]->Rw w 0 5 1 wxA (wx.b.buf).length wxC Aw3->El (Cb .u8) m w (wx.b.buf) Aw3->(wx.l).length<=Aw2->SlR Ay m w Aw1 wx.l->Hu 1 wxb (wx.b.addr)->∀(Bdj:Option Addr) (Bdk:Nat),parts.length<=Bdk->SlR Cs m w Bdj parts->
 Calls Tryz.prog 29 #[.pointer (some ⟨wxb,0,none⟩),.slice Bdj parts.length Bdk] w (Ret fun _ w'=>∃(wx':Ae),K wx'/\(True)/\(∃A' C' xs',Box w' wxb [.slice Aw1 (wx.l).length Aw2,(wx'.b.addr),.slice A' (wx'.b.buf).length C',.q (wx'.deep)]/\Rw w' 0 5 1 A' (wx'.b.buf).length C' xs'/\El (Cb .u8) ((Vc.blk A').toList++m) w' (wx'.b.buf) xs'/\(∀q,Vc.blk A'=some q->q∈(Vc.blk wxA).toList\/w.heap.size<=q)/\Hu 1 wxb (wx'.b.addr))/\An (wxb::(Vc.blk wxA).toList) w w')
def Jt (elems:List (List UInt8)) (sep:List UInt8) (K:(List UInt8)->Prop):Prop:=
 ∀(m:List Nat) (w:World),MOk m w->∀(Bi4:Option Addr) (Bi5:Nat),elems.length<=Bi5->SlR Cs m w Bi4 elems->
 Calls Tryz.prog 32 #[.slice Bi4 elems.length Bi5,.s sep] w (Ret fun v w'=>∃(r0:List UInt8),K r0/\(v= .s r0)/\An [] w w')
def Bc (wx:Ae) (i:Int) (front:List (List UInt8)) (K:Ae->Prop):Prop:=
 ∀(m:List Nat) (w:World),MOk m w->∀(wxb:Nat) (wxA:Option Addr) (wxC:Nat) (Aw3:List Value) (Aw1:Option Addr) (Aw2:Nat),wxb∈m->(∀q,Vc.blk wxA=some q->q∈m/\q≠wxb)->Box w wxb [.slice Aw1 (wx.l).length Aw2,(wx.b.addr),.slice wxA (wx.b.buf).length wxC,.q (wx.deep)]->Rw w 0 5 1 wxA (wx.b.buf).length wxC Aw3->El (Cb .u8) m w (wx.b.buf) Aw3->(wx.l).length<=Aw2->SlR Ay m w Aw1 wx.l->Hu 1 wxb (wx.b.addr)->∀(Bdl:Option Addr),SlR Cs m w Bdl front->
 Calls Tryz.prog 31 #[.pointer (some ⟨wxb,0,none⟩),.q i,.slice Bdl front.length front.length] w (Ret fun _ w'=>∃(wx':Ae),K wx'/\(True)/\(∃A' C' xs',Box w' wxb [.slice Aw1 (wx.l).length Aw2,(wx'.b.addr),.slice A' (wx'.b.buf).length C',.q (wx'.deep)]/\Rw w' 0 5 1 A' (wx'.b.buf).length C' xs'/\El (Cb .u8) ((Vc.blk A').toList++m) w' (wx'.b.buf) xs'/\(∀q,Vc.blk A'=some q->q∈(Vc.blk wxA).toList\/w.heap.size<=q)/\Hu 1 wxb (wx'.b.addr))/\An (wxb::(Vc.blk wxA).toList) w w')
def Qa (op:Int) (K:(List UInt8)->Prop):Prop:=
 ∀(m:List Nat) (w:World),MOk m w->
 Calls Tryz.prog 48 #[.q op] w (Ret fun v w'=>∃(r0:List UInt8),K r0/\(v= .s r0)/\An [] w w')
def Dz (wx:Ae) (i:Int) (level:Int) (K:(List UInt8)->Prop):Prop:=
 ∀(m:List Nat) (w:World),MOk m w->∀(wxb:Nat) (wxA:Option Addr) (wxC:Nat) (Aw1:Option Addr) (Aw2:Nat),Box w wxb [.slice Aw1 (wx.l).length Aw2,(wx.b.addr),.slice wxA (wx.b.buf).length wxC,.q (wx.deep)]->(wx.l).length<=Aw2->SlR Ay m w Aw1 wx.l->
 Calls Tryz.prog 49 #[.pointer (some ⟨wxb,0,none⟩),.q i,.q level] w (Ret fun v w'=>∃(r0:List UInt8),K r0/\(v= .s r0)/\An [] w w')
def Nq (sx:List UInt8) (count:Int) (K:(List UInt8)->Prop):Prop:=
 ∀(m:List Nat) (w:World),MOk m w->
 Calls Tryz.prog 58 #[.s sx,.q count] w (Ret fun v w'=>∃(r0:List UInt8),K r0/\(v= .s r0)/\An [] w w')
def Fh (bq:Ae) (sx:List UInt8) (K:Int->Value->Ae->Prop):Prop:=
 ∀(m:List Nat) (w:World),MOk m w->∀(bqb:Nat) (bqA:Option Addr) (bqC:Nat) (Bi3:List Value) (Bgj:Option Addr) (Bgk:Nat),bqb∈m->(∀q,Vc.blk bqA=some q->q∈m/\q≠bqb)->Box w bqb [.slice Bgj (bq.l).length Bgk,(bq.b.addr),.slice bqA (bq.b.buf).length bqC,.q (bq.deep)]->Rw w 0 5 1 bqA (bq.b.buf).length bqC Bi3->El (Cb .u8) m w (bq.b.buf) Bi3->(bq.l).length<=Bgk->SlR Ay m w Bgj bq.l->Hu 1 bqb (bq.b.addr)->
 Calls Tryz.prog 57 #[.pointer (some ⟨bqb,1,none⟩),.s sx] w (Ret fun v w'=>∃(r0:Int) (r1:Value) (bq':Ae),K r0 r1 bq'/\(v= .tuple #[.q r0,r1])/\(∃A' C' xs',Box w' bqb [.slice Bgj (bq.l).length Bgk,(bq'.b.addr),.slice A' (bq'.b.buf).length C',.q (bq'.deep)]/\Rw w' 0 5 1 A' (bq'.b.buf).length C' xs'/\El (Cb .u8) ((Vc.blk A').toList++m) w' (bq'.b.buf) xs'/\(∀q,Vc.blk A'=some q->q∈(Vc.blk bqA).toList\/w.heap.size<=q)/\Hu 1 bqb (bq'.b.addr))/\An (bqb::(Vc.blk bqA).toList) w w')
def Bd (wx:Ae) (l:List Int) (K:Ae->Prop):Prop:=
 ∀(m:List Nat) (w:World),MOk m w->∀(wxb:Nat) (wxA:Option Addr) (wxC:Nat) (Aw3:List Value) (Aw1:Option Addr) (Aw2:Nat),wxb∈m->(∀q,Vc.blk wxA=some q->q∈m/\q≠wxb)->Box w wxb [.slice Aw1 (wx.l).length Aw2,(wx.b.addr),.slice wxA (wx.b.buf).length wxC,.q (wx.deep)]->Rw w 0 5 1 wxA (wx.b.buf).length wxC Aw3->El (Cb .u8) m w (wx.b.buf) Aw3->(wx.l).length<=Aw2->SlR Ay m w Aw1 wx.l->Hu 1 wxb (wx.b.addr)->∀(lA:Option Addr) (lC:Nat),l.length<=lC->SlR (Cb .i64) m w lA l->
 Calls Tryz.prog 60 #[.pointer (some ⟨wxb,0,none⟩),.slice lA l.length lC,.func (.func 61) #[.pointer (some ⟨wxb,0,none⟩)] #[]] w (Ret fun _ w'=>∃(wx':Ae),K wx'/\(True)/\(∃A' C' xs',Box w' wxb [.slice Aw1 (wx.l).length Aw2,(wx'.b.addr),.slice A' (wx'.b.buf).length C',.q (wx'.deep)]/\Rw w' 0 5 1 A' (wx'.b.buf).length C' xs'/\El (Cb .u8) ((Vc.blk A').toList++m) w' (wx'.b.buf) xs'/\(∀q,Vc.blk A'=some q->q∈(Vc.blk wxA).toList\/w.heap.size<=q)/\Hu 1 wxb (wx'.b.addr))/\An (wxb::(Vc.blk wxA).toList) w w')
def A9 (wx:Ae) (i:Int) (K:Ae->Prop):Prop:=
 ∀(m:List Nat) (w:World),MOk m w->∀(wxb:Nat) (wxA:Option Addr) (wxC:Nat) (Aw3:List Value) (Aw1:Option Addr) (Aw2:Nat),wxb∈m->(∀q,Vc.blk wxA=some q->q∈m/\q≠wxb)->Box w wxb [.slice Aw1 (wx.l).length Aw2,(wx.b.addr),.slice wxA (wx.b.buf).length wxC,.q (wx.deep)]->Rw w 0 5 1 wxA (wx.b.buf).length wxC Aw3->El (Cb .u8) m w (wx.b.buf) Aw3->(wx.l).length<=Aw2->SlR Ay m w Aw1 wx.l->Hu 1 wxb (wx.b.addr)->
 Calls Tryz.prog 61 #[.pointer (some ⟨wxb,0,none⟩),.q i] w (Ret fun _ w'=>∃(wx':Ae),K wx'/\(True)/\(∃A' C' xs',Box w' wxb [.slice Aw1 (wx.l).length Aw2,(wx'.b.addr),.slice A' (wx'.b.buf).length C',.q (wx'.deep)]/\Rw w' 0 5 1 A' (wx'.b.buf).length C' xs'/\El (Cb .u8) ((Vc.blk A').toList++m) w' (wx'.b.buf) xs'/\(∀q,Vc.blk A'=some q->q∈(Vc.blk wxA).toList\/w.heap.size<=q)/\Hu 1 wxb (wx'.b.addr))/\An (wxb::(Vc.blk wxA).toList) w w')
def C8 (wx:Ae) (i:Int) (K:(List UInt8)->Prop):Prop:=
 ∀(m:List Nat) (w:World),MOk m w->∀(wxb:Nat) (wxA:Option Addr) (wxC:Nat) (Aw1:Option Addr) (Aw2:Nat),Box w wxb [.slice Aw1 (wx.l).length Aw2,(wx.b.addr),.slice wxA (wx.b.buf).length wxC,.q (wx.deep)]->(wx.l).length<=Aw2->SlR Ay m w Aw1 wx.l->
 Calls Tryz.prog 88 #[.pointer (some ⟨wxb,0,none⟩),.q i] w (Ret fun v w'=>∃(r0:List UInt8),K r0/\(v= .s r0)/\An [] w w')
def Cq (wx:Ae) (l:List Int) (K:Ae->Prop):Prop:=
 ∀(m:List Nat) (w:World),MOk m w->∀(wxb:Nat) (wxA:Option Addr) (wxC:Nat) (Aw3:List Value) (Aw1:Option Addr) (Aw2:Nat),wxb∈m->(∀q,Vc.blk wxA=some q->q∈m/\q≠wxb)->Box w wxb [.slice Aw1 (wx.l).length Aw2,(wx.b.addr),.slice wxA (wx.b.buf).length wxC,.q (wx.deep)]->Rw w 0 5 1 wxA (wx.b.buf).length wxC Aw3->El (Cb .u8) m w (wx.b.buf) Aw3->(wx.l).length<=Aw2->SlR Ay m w Aw1 wx.l->Hu 1 wxb (wx.b.addr)->∀(lA:Option Addr) (lC:Nat),l.length<=lC->SlR (Cb .i64) m w lA l->
 Calls Tryz.prog 60 #[.pointer (some ⟨wxb,0,none⟩),.slice lA l.length lC,.func (.func 89) #[.pointer (some ⟨wxb,0,none⟩)] #[]] w (Ret fun _ w'=>∃(wx':Ae),K wx'/\(True)/\(∃A' C' xs',Box w' wxb [.slice Aw1 (wx.l).length Aw2,(wx'.b.addr),.slice A' (wx'.b.buf).length C',.q (wx'.deep)]/\Rw w' 0 5 1 A' (wx'.b.buf).length C' xs'/\El (Cb .u8) ((Vc.blk A').toList++m) w' (wx'.b.buf) xs'/\(∀q,Vc.blk A'=some q->q∈(Vc.blk wxA).toList\/w.heap.size<=q)/\Hu 1 wxb (wx'.b.addr))/\An (wxb::(Vc.blk wxA).toList) w w')
def Hx (wx:Ae) (l:List Int) (K:(List UInt8)->Prop):Prop:=
 ∀(m:List Nat) (w:World),MOk m w->∀(wxb:Nat) (wxA:Option Addr) (wxC:Nat) (Aw1:Option Addr) (Aw2:Nat),Box w wxb [.slice Aw1 (wx.l).length Aw2,(wx.b.addr),.slice wxA (wx.b.buf).length wxC,.q (wx.deep)]->(wx.l).length<=Aw2->SlR Ay m w Aw1 wx.l->∀(lA:Option Addr) (lC:Nat),l.length<=lC->SlR (Cb .i64) m w lA l->
 Calls Tryz.prog 90 #[.pointer (some ⟨wxb,0,none⟩),.slice lA l.length lC] w (Ret fun v w'=>∃(r0:List UInt8),K r0/\(v= .s r0)/\An [] w w')
def Ct (wx:Ae) (i:Int) (K:Ae->Prop):Prop:=
 ∀(m:List Nat) (w:World),MOk m w->∀(wxb:Nat) (wxA:Option Addr) (wxC:Nat) (Aw3:List Value) (Aw1:Option Addr) (Aw2:Nat),wxb∈m->(∀q,Vc.blk wxA=some q->q∈m/\q≠wxb)->Box w wxb [.slice Aw1 (wx.l).length Aw2,(wx.b.addr),.slice wxA (wx.b.buf).length wxC,.q (wx.deep)]->Rw w 0 5 1 wxA (wx.b.buf).length wxC Aw3->El (Cb .u8) m w (wx.b.buf) Aw3->(wx.l).length<=Aw2->SlR Ay m w Aw1 wx.l->Hu 1 wxb (wx.b.addr)->
 Calls Tryz.prog 89 #[.pointer (some ⟨wxb,0,none⟩),.q i] w (Ret fun _ w'=>∃(wx':Ae),K wx'/\(True)/\(∃A' C' xs',Box w' wxb [.slice Aw1 (wx.l).length Aw2,(wx'.b.addr),.slice A' (wx'.b.buf).length C',.q (wx'.deep)]/\Rw w' 0 5 1 A' (wx'.b.buf).length C' xs'/\El (Cb .u8) ((Vc.blk A').toList++m) w' (wx'.b.buf) xs'/\(∀q,Vc.blk A'=some q->q∈(Vc.blk wxA).toList\/w.heap.size<=q)/\Hu 1 wxb (wx'.b.addr))/\An (wxb::(Vc.blk wxA).toList) w w')
def Qb (xq:Ai) (most:Int) (K:(List UInt8)->Bool->Prop):Prop:=
 ∀(m:List Nat) (w:World),MOk m w->∀(Axq:List Value),Ay.rep m w xq Axq->
 Calls Tryz.prog 23 #[.agg ⟨Axq⟩,.q most] w (Ret fun v w'=>∃(r0:List UInt8) (r1:Bool),K r0 r1/\(v= .tuple #[.s r0,.bool r1])/\An [] w w')
def Og (op:Int) (K:Int->Prop):Prop:=
 ∀(m:List Nat) (w:World),MOk m w->
 Calls Tryz.prog 24 #[.q op] w (Ret fun v w'=>∃(r0:Int),K r0/\(v= .int .u8 r0)/\An [] w w')
def Kw (xq:Ai) (K:Bool->Prop):Prop:=
 ∀(m:List Nat) (w:World),MOk m w->∀(Axq:List Value),Ay.rep m w xq Axq->
 Calls Tryz.prog 25 #[.agg ⟨Axq⟩] w (Ret fun v w'=>∃(r0:Bool),K r0/\(v= .bool r0)/\An [] w w')
def Ef (sx:List Int) (K:(List Int)->Prop):Prop:=
 ∀(m:List Nat) (w:World),MOk m w->∀(sxA:Option Addr) (sxC:Nat) (Bfe Ayb:List Value) (sxT:Nat) (Ba3:Nat×Nat),(∀b,Vc.blk sxA=some b->b∈m)->sx.length<=sxC->Wn w sxA Bfe Ayb sxT Ba3->El (Cb .u8) m w sx Bfe->
 Calls Tryz.prog 26 #[.slice sxA sx.length sxC] w (Ret fun _ w'=>∃(sx':List Int),K sx'/\(True)/\(∃xs',Wn w' sxA xs' Ayb sxT Ba3/\xs'.length=Bfe.length/\El (Cb .u8) m w' sx' xs')/\An (Vc.blk sxA).toList w w')
def Hg (n:Int) (most:Int) (ahead:List UInt8) (again:Int) (behind:List UInt8) (K:(List UInt8)->Bool->Prop):Prop:=
 ∀(m:List Nat) (w:World),MOk m w->
 Calls Tryz.prog 50 #[.q n,.q most,.s ahead,.int .u8 again,.s behind] w (Ret fun v w'=>∃(r0:List UInt8) (r1:Bool),K r0 r1/\(v= .tuple #[.s r0,.bool r1])/\An [] w w')
def F5 (xq:Ai) (K:Bool->Prop):Prop:=
 ∀(m:List Nat) (w:World),MOk m w->∀(Axq:List Value),Ay.rep m w xq Axq->
 Calls Tryz.prog 51 #[.agg ⟨Axq⟩] w (Ret fun v w'=>∃(r0:Bool),K r0/\(v= .bool r0)/\An [] w w')
def Ju (op:Int) (K:Bool->Prop):Prop:=
 ∀(m:List Nat) (w:World),MOk m w->
 Calls Tryz.prog 52 #[.q op] w (Ret fun v w'=>∃(r0:Bool),K r0/\(v= .bool r0)/\An [] w w')
def Oh (sx:List UInt8) (K:Bool->Prop):Prop:=
 ∀(m:List Nat) (w:World),MOk m w->
 Calls Tryz.prog 53 #[.s sx] w (Ret fun v w'=>∃(r0:Bool),K r0/\(v= .bool r0)/\An [] w w')
def G3 (xq:List Int) (count:Int) (K:(List Int)->Prop):Prop:=
 ∀(m:List Nat) (w:World),MOk m w->∀(xqA:Option Addr) (xqC:Nat),xq.length<=xqC->SlR (Cb .u8) m w xqA xq->
 Calls Tryz.prog 78 #[.slice xqA xq.length xqC,.q count] w (Ret fun v w'=>∃(r0:List Int),K r0/\(∃(a0:Option Addr) (c0:Nat),v= .slice a0 r0.length c0/\r0.length<=c0/\SlR (Cb .u8) m w' a0 r0)/\An [] w w')
def Sk (l:List Ai) (i:Int) (K:Int->Prop):Prop:=
 ∀(m:List Nat) (w:World),MOk m w->∀(lA:Option Addr) (lC:Nat),l.length<=lC->SlR Ay m w lA l->
 Calls Tryz.prog 56 #[.slice lA l.length lC,.q i] w (Ret fun v w'=>∃(r0:Int),K r0/\(v= .q r0)/\An [] w w')
def Jv (cq:Int) (K:Bool->Prop):Prop:=
 ∀(m:List Nat) (w:World),MOk m w->
 Calls Tryz.prog 79 #[.int .u8 cq] w (Ret fun v w'=>∃(r0:Bool),K r0/\(v= .bool r0)/\An [] w w')
def Fs (sx:List UInt8) (K:(List UInt8)->Prop):Prop:=
 ∀(m:List Nat) (w:World),MOk m w->
 Calls Tryz.prog 80 #[.s sx,.func (.func 81) #[] #[]] w (Ret fun v w'=>∃(r0:List UInt8),K r0/\(v= .s r0)/\An [] w w')
def Oi (sx:List UInt8) (K:Bool->Prop):Prop:=
 ∀(m:List Nat) (w:World),MOk m w->
 Calls Tryz.prog 82 #[.s sx] w (Ret fun v w'=>∃(r0:Bool),K r0/\(v= .bool r0)/\An [] w w')
def R1 (K:(List (List UInt8))->Prop):Prop:=
 ∀(m:List Nat) (w:World),MOk m w->
 Calls Tryz.prog 95 #[] w (Ret fun v w'=>∃(r0:List (List UInt8)),K r0/\(∃(a0:Option Addr) (c0:Nat),v= .slice a0 r0.length c0/\r0.length<=c0/\SlR Cs m w' a0 r0)/\An [] w w')
def Cx (xq:List (List UInt8)) (target:List UInt8) (K:Int->Bool->Prop):Prop:=
 ∀(m:List Nat) (w:World),MOk m w->∀(xqA:Option Addr) (xqC:Nat),xq.length<=xqC->SlR Cs m w xqA xq->
 Calls Tryz.prog 94 #[.slice xqA xq.length xqC,.s target] w (Ret fun v w'=>∃(r0:Int) (r1:Bool),K r0 r1/\(v= .tuple #[.q r0,.bool r1])/\An [] w w')
def M4 (cq:Int) (K:Bool->Prop):Prop:=
 ∀(m:List Nat) (w:World),MOk m w->
 Calls Tryz.prog 93 #[.int .u8 cq] w (Ret fun v w'=>∃(r0:Bool),K r0/\(v= .bool r0)/\An [] w w')
def L6 (cq:Int) (K:Bool->Prop):Prop:=
 ∀(m:List Nat) (w:World),MOk m w->
 Calls Tryz.prog 81 #[.int .u8 cq] w (Ret fun v w'=>∃(r0:Bool),K r0/\(v= .bool r0)/\An [] w w')
def Jw (xq:List UInt8) (y:List UInt8) (K:Bool->Prop):Prop:=
 ∀(m:List Nat) (w:World),MOk m w->
 Calls Tryz.prog 106 #[.s xq,.s y] w (Ret fun v w'=>∃(r0:Bool),K r0/\(v= .bool r0)/\An [] w w')
def E6 (xq:List UInt8) (K:Bool->Prop):Prop:=
 ∀(m:List Nat) (w:World),MOk m w->
 Calls Tryz.prog 107 #[.s xq] w (Ret fun v w'=>∃(r0:Bool),K r0/\(v= .bool r0)/\An [] w w')
def Gj (xq:List UInt8) (K:Bool->Prop):Prop:=
 ∀(m:List Nat) (w:World),MOk m w->
 Calls Tryz.prog 118 #[.s xq] w (Ret fun v w'=>∃(r0:Bool),K r0/\(v= .bool r0)/\An [] w w')
def Nr (l:List Ai) (i:Int) (K:Int->Prop):Prop:=
 ∀(m:List Nat) (w:World),MOk m w->∀(lA:Option Addr) (lC:Nat),l.length<=lC->SlR Ay m w lA l->
 Calls Tryz.prog 76 #[.slice lA l.length lC,.q i] w (Ret fun v w'=>∃(r0:Int),K r0/\(v= .q r0)/\An [] w w')
def Sl (l:List Ai) (i:Int) (K:(List Int)->Prop):Prop:=
 ∀(m:List Nat) (w:World),MOk m w->∀(lA:Option Addr) (lC:Nat),l.length<=lC->SlR Ay m w lA l->
 Calls Tryz.prog 39 #[.slice lA l.length lC,.q i] w (Ret fun v w'=>∃(r0:List Int),K r0/\(∃(a0:Option Addr) (c0:Nat),v= .slice a0 r0.length c0/\r0.length<=c0/\SlR (Cb .i64) m w' a0 r0)/\An [] w w')
def T0 (l:List Ai) (i:Int) (K:Int->Prop):Prop:=
 ∀(m:List Nat) (w:World),MOk m w->∀(lA:Option Addr) (lC:Nat),l.length<=lC->SlR Ay m w lA l->
 Calls Tryz.prog 19 #[.slice lA l.length lC,.q i] w (Ret fun v w'=>∃(r0:Int),K r0/\(v= .q r0)/\An [] w w')
def Sm (aq:List Ai) (bq:List Ai) (K:Bool->Prop):Prop:=
 ∀(m:List Nat) (w:World),MOk m w->∀(aqA:Option Addr) (aqC:Nat),aq.length<=aqC->SlR Ay m w aqA aq->∀(bqA:Option Addr) (bqC:Nat),bq.length<=bqC->SlR Ay m w bqA bq->
 Calls Tryz.prog 10 #[.slice aqA aq.length aqC,.slice bqA bq.length bqC] w (Ret fun v w'=>∃(r0:Bool),K r0/\(v= .bool r0)/\An [] w w')
def Sn (l:List Ai) (i:Int) (K:Int->Prop):Prop:=
 ∀(m:List Nat) (w:World),MOk m w->∀(lA:Option Addr) (lC:Nat),l.length<=lC->SlR Ay m w lA l->
 Calls Tryz.prog 9 #[.slice lA l.length lC,.q i] w (Ret fun v w'=>∃(r0:Int),K r0/\(v= .q r0)/\An [] w w')
def Y8 (l:List Ai) (K:Bool->Prop):Prop:=
 ∀(m:List Nat) (w:World),MOk m w->∀(lA:Option Addr) (lC:Nat),l.length<=lC->SlR Ay m w lA l->
 Calls Tryz.prog 5 #[.slice lA l.length lC] w (Ret fun v w'=>∃(r0:Bool),K r0/\(v= .bool r0)/\An [] w w')
def Wi (l:List Ai) (K:Ev->Prop):Prop:=
 ∀(m:List Nat) (w:World),MOk m w->∀(lA:Option Addr) (lC:Nat),l.length<=lC->SlR Ay m w lA l->
 Calls Tryz.prog 11 #[.slice lA l.length lC] w (Ret fun v w'=>∃(r0:Ev),K r0/\(∃(cs0:List Value),v= .agg ⟨cs0⟩/\Si.rep m w' r0 cs0)/\An [] w w')
def K1 (l:List Ai) (atx:Int) (Axp:List UInt8) (K:Am->Prop):Prop:=
 ∀(m:List Nat) (w:World),MOk m w->∀(lA:Option Addr) (lC:Nat),l.length<=lC->SlR Ay m w lA l->
 Calls Tryz.prog 20 #[.slice lA l.length lC,.q atx,.s Axp] w (Ret fun v w'=>∃(r0:Am),K r0/\(∃(cs0:List Value),v= .agg ⟨cs0⟩/\Du.rep m w' r0 cs0)/\An [] w w')
def So (l:List Ai) (xq:Ai) (no:Am) (inx:Am) (K:Am->Prop):Prop:=
 ∀(m:List Nat) (w:World),MOk m w->∀(lA:Option Addr) (lC:Nat),l.length<=lC->SlR Ay m w lA l->∀(Axq:List Value),Ay.rep m w xq Axq->∀(Bco:List Value),Du.rep m w no Bco->∀(Azx:List Value),Du.rep m w inx Azx->
 Calls Tryz.prog 40 #[.slice lA l.length lC,.agg ⟨Axq⟩,.agg ⟨Bco⟩,.agg ⟨Azx⟩] w (Ret fun v w'=>∃(r0:Am),K r0/\(∃(cs0:List Value),v= .agg ⟨cs0⟩/\Du.rep m w' r0 cs0)/\An [] w w')
def Sp (l:List Ai) (xq:Ai) (no:Am) (inx:Am) (K:Am->Prop):Prop:=
 ∀(m:List Nat) (w:World),MOk m w->∀(lA:Option Addr) (lC:Nat),l.length<=lC->SlR Ay m w lA l->∀(Axq:List Value),Ay.rep m w xq Axq->∀(Bco:List Value),Du.rep m w no Bco->∀(Azx:List Value),Du.rep m w inx Azx->
 Calls Tryz.prog 41 #[.slice lA l.length lC,.agg ⟨Axq⟩,.agg ⟨Bco⟩,.agg ⟨Azx⟩] w (Ret fun v w'=>∃(r0:Am),K r0/\(∃(cs0:List Value),v= .agg ⟨cs0⟩/\Du.rep m w' r0 cs0)/\An [] w w')
def Oj (l:List Ai) (xq:Ai) (no:Am) (inx:Am) (K:Am->Prop):Prop:=
 ∀(m:List Nat) (w:World),MOk m w->∀(lA:Option Addr) (lC:Nat),l.length<=lC->SlR Ay m w lA l->∀(Axq:List Value),Ay.rep m w xq Axq->∀(Bco:List Value),Du.rep m w no Bco->∀(Azx:List Value),Du.rep m w inx Azx->
 Calls Tryz.prog 42 #[.slice lA l.length lC,.agg ⟨Axq⟩,.agg ⟨Bco⟩,.agg ⟨Azx⟩] w (Ret fun v w'=>∃(r0:Am),K r0/\(∃(cs0:List Value),v= .agg ⟨cs0⟩/\Du.rep m w' r0 cs0)/\An [] w w')
def Ft (xq:Ai) (kids:Int) (K:Bool->Prop):Prop:=
 ∀(m:List Nat) (w:World),MOk m w->∀(Axq:List Value),Ay.rep m w xq Axq->
 Calls Tryz.prog 43 #[.agg ⟨Axq⟩,.q kids] w (Ret fun v w'=>∃(r0:Bool),K r0/\(v= .bool r0)/\An [] w w')
def F6 (l:List Ai) (cq:Am) (Axp:List UInt8) (n:Int) (K:Am->Prop):Prop:=
 ∀(m:List Nat) (w:World),MOk m w->∀(lA:Option Addr) (lC:Nat),l.length<=lC->SlR Ay m w lA l->∀(Axm:List Value),Du.rep m w cq Axm->
 Calls Tryz.prog 44 #[.slice lA l.length lC,.agg ⟨Axm⟩,.s Axp,.q n] w (Ret fun v w'=>∃(r0:Am),K r0/\(∃(cs0:List Value),v= .agg ⟨cs0⟩/\Du.rep m w' r0 cs0)/\An [] w w')
def C6 (xq:Ai) (kids:Int) (K:Bool->Prop):Prop:=
 ∀(m:List Nat) (w:World),MOk m w->∀(Axq:List Value),Ay.rep m w xq Axq->
 Calls Tryz.prog 45 #[.agg ⟨Axq⟩,.q kids] w (Ret fun v w'=>∃(r0:Bool),K r0/\(v= .bool r0)/\An [] w w')
def Ol (sx:List UInt8) (K:Bool->Prop):Prop:=
 ∀(m:List Nat) (w:World),MOk m w->
 Calls Tryz.prog 46 #[.s sx] w (Ret fun v w'=>∃(r0:Bool),K r0/\(v= .bool r0)/\An [] w w')
def Cy (l:List Ai) (cq:Am) (Aym:List UInt8) (K:Am->Prop):Prop:=
 ∀(m:List Nat) (w:World),MOk m w->∀(lA:Option Addr) (lC:Nat),l.length<=lC->SlR Ay m w lA l->∀(Axm:List Value),Du.rep m w cq Axm->
 Calls Tryz.prog 47 #[.slice lA l.length lC,.agg ⟨Axm⟩,.s Aym] w (Ret fun v w'=>∃(r0:Am),K r0/\(∃(cs0:List Value),v= .agg ⟨cs0⟩/\Du.rep m w' r0 cs0)/\An [] w w')
def Cn (toks:List Au) (atx:Int) (sx:List UInt8) (K:Bool->Prop):Prop:=
 ∀(m:List Nat) (w:World),MOk m w->∀(Awv:Option Addr) (Aww:Nat),toks.length<=Aww->SlR Cj m w Awv toks->
 Calls Tryz.prog 70 #[.slice Awv toks.length Aww,.q atx,.s sx] w (Ret fun v w'=>∃(r0:Bool),K r0/\(v= .bool r0)/\An [] w w')
def Dm (toks:List Au) (atx:Int) (K:Au->Prop):Prop:=
 ∀(m:List Nat) (w:World),MOk m w->∀(Awv:Option Addr) (Aww:Nat),toks.length<=Aww->SlR Cj m w Awv toks->
 Calls Tryz.prog 35 #[.slice Awv toks.length Aww,.q atx] w (Ret fun v w'=>∃(r0:Au),K r0/\(∃(cs0:List Value),v= .agg ⟨cs0⟩/\Cj.rep m w' r0 cs0)/\An [] w w')
def D0 (atx:Int) (K:Aj->Prop):Prop:=
 ∀(m:List Nat) (w:World),MOk m w->
 Calls Tryz.prog 34 #[.q atx] w (Ret fun v w'=>∃(r0:Aj),K r0/\(∃(cs0:List Value),v= .agg ⟨cs0⟩/\Bo.rep m w' r0 cs0)/\An [] w w')
def Vd (toks:List Au) (atx:Int) (K:Aj->Prop):Prop:=
 ∀(m:List Nat) (w:World),MOk m w->∀(Awv:Option Addr) (Aww:Nat),toks.length<=Aww->SlR Cj m w Awv toks->
 Calls Tryz.prog 121 #[.slice Awv toks.length Aww,.q atx] w (Ret fun v w'=>∃(r0:Aj),K r0/\(∃(cs0:List Value),v= .agg ⟨cs0⟩/\Bo.rep m w' r0 cs0)/\An [] w w')
def C9 (cq:Aj) (toks:List Au) (K:Aj->(List UInt8)->Prop):Prop:=
 ∀(m:List Nat) (w:World),MOk m w->∀(Axm:List Value),Bo.rep m w cq Axm->∀(Awv:Option Addr) (Aww:Nat),toks.length<=Aww->SlR Cj m w Awv toks->
 Calls Tryz.prog 72 #[.agg ⟨Axm⟩,.slice Awv toks.length Aww] w (Ret fun v w'=>∃(r0:Aj) (r1:List UInt8),K r0 r1/\(∃(cs0:List Value),v= .tuple #[.agg ⟨cs0⟩,.s r1]/\Bo.rep m w' r0 cs0)/\An [] w w')
def Ak (cq:Aj) (toks:List Au) (sx:List UInt8) (K:Aj->Prop):Prop:=
 ∀(m:List Nat) (w:World),MOk m w->∀(Axm:List Value),Bo.rep m w cq Axm->∀(Awv:Option Addr) (Aww:Nat),toks.length<=Aww->SlR Cj m w Awv toks->
 Calls Tryz.prog 71 #[.agg ⟨Axm⟩,.slice Awv toks.length Aww,.s sx] w (Ret fun v w'=>∃(r0:Aj),K r0/\(∃(cs0:List Value),v= .agg ⟨cs0⟩/\Bo.rep m w' r0 cs0)/\An [] w w')
def Bp (cq:Aj) (toks:List Au) (K:Aj->Prop):Prop:=
 ∀(m:List Nat) (w:World),MOk m w->∀(Axm:List Value),Bo.rep m w cq Axm->∀(Awv:Option Addr) (Aww:Nat),toks.length<=Aww->SlR Cj m w Awv toks->
 Calls Tryz.prog 115 #[.agg ⟨Axm⟩,.slice Awv toks.length Aww] w (Ret fun v w'=>∃(r0:Aj),K r0/\(∃(cs0:List Value),v= .agg ⟨cs0⟩/\Bo.rep m w' r0 cs0)/\An [] w w')
def A2 (cq:Aj) (xq:Ai) (K:Aj->Prop):Prop:=
 ∀(m:List Nat) (w:World),MOk m w->∀(Axm:List Value),Bo.rep m w cq Axm->∀(Axq:List Value),Ay.rep m w xq Axq->
 Calls Tryz.prog 38 #[.agg ⟨Axm⟩,.agg ⟨Axq⟩] w (Ret fun v w'=>∃(r0:Aj),K r0/\(∃(cs0:List Value),v= .agg ⟨cs0⟩/\Bo.rep m w' r0 cs0)/\An [] w w')
def K2 (toks:List Au) (atx:Int) (deep:Int) (K:Aj->Prop):Prop:=
 ∀(m:List Nat) (w:World),MOk m w->∀(Awv:Option Addr) (Aww:Nat),toks.length<=Aww->SlR Cj m w Awv toks->
 Calls Tryz.prog 92 #[.slice Awv toks.length Aww,.q atx,.q deep] w (Ret fun v w'=>∃(r0:Aj),K r0/\(∃(cs0:List Value),v= .agg ⟨cs0⟩/\Bo.rep m w' r0 cs0)/\An [] w w')
def L7 (toks:List Au) (atx:Int) (deep:Int) (K:Aj->Prop):Prop:=
 ∀(m:List Nat) (w:World),MOk m w->∀(Awv:Option Addr) (Aww:Nat),toks.length<=Aww->SlR Cj m w Awv toks->
 Calls Tryz.prog 105 #[.slice Awv toks.length Aww,.q atx,.q deep] w (Ret fun v w'=>∃(r0:Aj),K r0/\(∃(cs0:List Value),v= .agg ⟨cs0⟩/\Bo.rep m w' r0 cs0)/\An [] w w')
def Da (cq:Aj) (d:Aj) (K:Aj->Prop):Prop:=
 ∀(m:List Nat) (w:World),MOk m w->∀(Axm:List Value),Bo.rep m w cq Axm->∀(dcs:List Value),Bo.rep m w d dcs->
 Calls Tryz.prog 36 #[.agg ⟨Axm⟩,.agg ⟨dcs⟩] w (Ret fun v w'=>∃(r0:Aj),K r0/\(∃(cs0:List Value),v= .agg ⟨cs0⟩/\Bo.rep m w' r0 cs0)/\An [] w w')
def Lt (toks:List Au) (atx:Int) (deep:Int) (K:Aj->Prop):Prop:=
 ∀(m:List Nat) (w:World),MOk m w->∀(Awv:Option Addr) (Aww:Nat),toks.length<=Aww->SlR Cj m w Awv toks->
 Calls Tryz.prog 117 #[.slice Awv toks.length Aww,.q atx,.q deep] w (Ret fun v w'=>∃(r0:Aj),K r0/\(∃(cs0:List Value),v= .agg ⟨cs0⟩/\Bo.rep m w' r0 cs0)/\An [] w w')
def Ei (cq:Aj) (toks:List Au) (deep:Int) (K:Aj->Prop):Prop:=
 ∀(m:List Nat) (w:World),MOk m w->∀(Axm:List Value),Bo.rep m w cq Axm->∀(Awv:Option Addr) (Aww:Nat),toks.length<=Aww->SlR Cj m w Awv toks->
 Calls Tryz.prog 75 #[.agg ⟨Axm⟩,.slice Awv toks.length Aww,.q deep] w (Ret fun v w'=>∃(r0:Aj),K r0/\(∃(cs0:List Value),v= .agg ⟨cs0⟩/\Bo.rep m w' r0 cs0)/\An [] w w')
def Jy (cq:Aj) (toks:List Au) (send:Int) (recv:Int) (K:Aj->Int->(List UInt8)->Prop):Prop:=
 ∀(m:List Nat) (w:World),MOk m w->∀(Axm:List Value),Bo.rep m w cq Axm->∀(Awv:Option Addr) (Aww:Nat),toks.length<=Aww->SlR Cj m w Awv toks->
 Calls Tryz.prog 114 #[.agg ⟨Axm⟩,.slice Awv toks.length Aww,.q send,.q recv] w (Ret fun v w'=>∃(r0:Aj) (r1:Int) (r2:List UInt8),K r0 r1 r2/\(∃(cs0:List Value),v= .tuple #[.agg ⟨cs0⟩,.q r1,.s r2]/\Bo.rep m w' r0 cs0)/\An [] w w')
def Ve (toks:List Au) (atx:Int) (xq:Ai) (K:Aj->Prop):Prop:=
 ∀(m:List Nat) (w:World),MOk m w->∀(Awv:Option Addr) (Aww:Nat),toks.length<=Aww->SlR Cj m w Awv toks->∀(Axq:List Value),Ay.rep m w xq Axq->
 Calls Tryz.prog 113 #[.slice Awv toks.length Aww,.q atx,.agg ⟨Axq⟩] w (Ret fun v w'=>∃(r0:Aj),K r0/\(∃(cs0:List Value),v= .agg ⟨cs0⟩/\Bo.rep m w' r0 cs0)/\An [] w w')
def L8 (cq:Aj) (toks:List Au) (K:Aj->Prop):Prop:=
 ∀(m:List Nat) (w:World),MOk m w->∀(Axm:List Value),Bo.rep m w cq Axm->∀(Awv:Option Addr) (Aww:Nat),toks.length<=Aww->SlR Cj m w Awv toks->
 Calls Tryz.prog 116 #[.agg ⟨Axm⟩,.slice Awv toks.length Aww] w (Ret fun v w'=>∃(r0:Aj),K r0/\(∃(cs0:List Value),v= .agg ⟨cs0⟩/\Bo.rep m w' r0 cs0)/\An [] w w')
def Sq (toks:List Au) (atx:Int) (K:Aj->Prop):Prop:=
 ∀(m:List Nat) (w:World),MOk m w->∀(Awv:Option Addr) (Aww:Nat),toks.length<=Aww->SlR Cj m w Awv toks->
 Calls Tryz.prog 37 #[.slice Awv toks.length Aww,.q atx] w (Ret fun v w'=>∃(r0:Aj),K r0/\(∃(cs0:List Value),v= .agg ⟨cs0⟩/\Bo.rep m w' r0 cs0)/\An [] w w')
def L9 (cq:Aj) (toks:List Au) (K:Aj->Int->Prop):Prop:=
 ∀(m:List Nat) (w:World),MOk m w->∀(Axm:List Value),Bo.rep m w cq Axm->∀(Awv:Option Addr) (Aww:Nat),toks.length<=Aww->SlR Cj m w Awv toks->
 Calls Tryz.prog 73 #[.agg ⟨Axm⟩,.slice Awv toks.length Aww] w (Ret fun v w'=>∃(r0:Aj) (r1:Int),K r0 r1/\(∃(cs0:List Value),v= .tuple #[.agg ⟨cs0⟩,.q r1]/\Bo.rep m w' r0 cs0)/\An [] w w')
def H9 (cq:Aj) (toks:List Au) (K:Aj->Prop):Prop:=
 ∀(m:List Nat) (w:World),MOk m w->∀(Axm:List Value),Bo.rep m w cq Axm->∀(Awv:Option Addr) (Aww:Nat),toks.length<=Aww->SlR Cj m w Awv toks->
 Calls Tryz.prog 74 #[.agg ⟨Axm⟩,.slice Awv toks.length Aww] w (Ret fun v w'=>∃(r0:Aj),K r0/\(∃(cs0:List Value),v= .agg ⟨cs0⟩/\Bo.rep m w' r0 cs0)/\An [] w w')
def Om (toks:List Au) (K:As->Prop):Prop:=
 ∀(m:List Nat) (w:World),MOk m w->∀(Awv:Option Addr) (Aww:Nat),toks.length<=Aww->SlR Cj m w Awv toks->
 Calls Tryz.prog 18 #[.slice Awv toks.length Aww] w (Ret fun v w'=>∃(r0:As),K r0/\(∃(cs0:List Value),v= .agg ⟨cs0⟩/\Kj.rep m w' r0 cs0)/\An [] w w')
def On (sx:List UInt8) (K:As->Prop):Prop:=
 ∀(m:List Nat) (w:World),MOk m w->
 Calls Tryz.prog 8 #[.s sx] w (Ret fun v w'=>∃(r0:As),K r0/\(∃(cs0:List Value),v= .agg ⟨cs0⟩/\Kj.rep m w' r0 cs0)/\An [] w w')
def Vf (sx:List UInt8) (K:Dl->Prop):Prop:=
 ∀(m:List Nat) (w:World),MOk m w->
 Calls Tryz.prog 17 #[.s sx] w (Ret fun v w'=>∃(r0:Dl),K r0/\(∃(cs0:List Value),v= .agg ⟨cs0⟩/\Sj.rep m w' r0 cs0)/\An [] w w')
def Mp (toks:List Au) (atx:Int) (K:As->Prop):Prop:=
 ∀(m:List Nat) (w:World),MOk m w->∀(Awv:Option Addr) (Aww:Nat),toks.length<=Aww->SlR Cj m w Awv toks->
 Calls Tryz.prog 122 #[.slice Awv toks.length Aww,.q atx] w (Ret fun v w'=>∃(r0:As),K r0/\(∃(cs0:List Value),v= .agg ⟨cs0⟩/\Kj.rep m w' r0 cs0)/\An [] w w')
def Y9 (sx:List UInt8) (atx:Int) (K:Np->Prop):Prop:=
 ∀(m:List Nat) (w:World),MOk m w->
 Calls Tryz.prog 33 #[.s sx,.q atx] w (Ret fun v w'=>∃(r0:Np),K r0/\(∃(cs0:List Value),v= .agg ⟨cs0⟩/\Vb.rep m w' r0 cs0)/\An [] w w')
def Fi (toks:List Au) (atx:Int) (n:Int) (deep:Int) (K:As->Prop):Prop:=
 ∀(m:List Nat) (w:World),MOk m w->∀(Awv:Option Addr) (Aww:Nat),toks.length<=Aww->SlR Cj m w Awv toks->
 Calls Tryz.prog 123 #[.slice Awv toks.length Aww,.q atx,.q n,.q deep] w (Ret fun v w'=>∃(r0:As),K r0/\(∃(cs0:List Value),v= .agg ⟨cs0⟩/\Kj.rep m w' r0 cs0)/\An [] w w')
def Kk (toks:List Au) (atx:Int) (deep:Int) (K:As->Prop):Prop:=
 ∀(m:List Nat) (w:World),MOk m w->∀(Awv:Option Addr) (Aww:Nat),toks.length<=Aww->SlR Cj m w Awv toks->
 Calls Tryz.prog 124 #[.slice Awv toks.length Aww,.q atx,.q deep] w (Ret fun v w'=>∃(r0:As),K r0/\(∃(cs0:List Value),v= .agg ⟨cs0⟩/\Kj.rep m w' r0 cs0)/\An [] w w')
def Aho (sx:List UInt8) (K:Int->Prop):Prop:=
 ∀(m:List Nat) (w:World),MOk m w->
 Calls Tryz.prog 125 #[.s sx] w (Ret fun v w'=>∃(r0:Int),K r0/\(v= .q r0)/\An [] w w')
def Wj (op:Int) (K:Int->Prop):Prop:=
 ∀(m:List Nat) (w:World),MOk m w->
 Calls Tryz.prog 126 #[.q op] w (Ret fun v w'=>∃(r0:Int),K r0/\(v= .q r0)/\An [] w w')
def Ma (K:Bool->Prop):Prop:=
 ∀(m:List Nat) (w:World),MOk m w->
 Calls Tryz.prog 6 #[] w (Ret fun v w'=>∃(r0:Bool),K r0/\(v= .bool r0)/\An [] w w')
def Qc (l:List Ai) (K:Bool->Prop):Prop:=
 ∀(m:List Nat) (w:World),MOk m w->∀(lA:Option Addr) (lC:Nat),l.length<=lC->SlR Ay m w lA l->
 Calls Tryz.prog 3 #[.slice lA l.length lC] w (Ret fun v w'=>∃(r0:Bool),K r0/\(v= .bool r0)/\An [] w w')
def Dh (Bbv:Int) (seq1:List Ai) (K:(List Int)->Prop):Prop:=
 ∀(m:List Nat) (w:World),MOk m w->∀(Ba1:Nat) (Baa:List Value),Ge m w ⟨Ba1,0,none⟩ Baa->(Cb .i64).rep m w Bbv Baa->∀(Ba2:Nat) (Bab:List Value),Ge m w ⟨Ba2,0,none⟩ Bab->(cSl Ay).rep m w seq1 Bab->
 Calls Tryz.prog 54 #[.slice none 0 0,.func (.func 55) #[] #[.pointer (some ⟨Ba1,0,none⟩),.pointer (some ⟨Ba2,0,none⟩)]] w (Ret fun v w'=>∃(r0:List Int),K r0/\(∃(a0:Option Addr) (c0:Nat),v= .slice a0 r0.length c0/\r0.length<=c0/\SlR (Cb .i64) m w' a0 r0)/\An [] w w')
end Go.Proofs.YtcakelelfklhdaaGreatDoor
