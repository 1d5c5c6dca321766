/- A part of the proof: conditions of the code, contracts, the plain law. -/
import Derived.Test.YtcakelelfklhdaaGreatDoorM1
import Derived.Test.YtcakelelfklhdaaGreatDoorRows
import Derived.Test.YtcakelelfklhdaaGreatDoorVcI
import Derived.Test.YtcakelelfklhdaaGreatDoorLv
namespace Go.Proofs.YtcakelelfklhdaaGreatDoor
open Go.Vc
def Ac7 (x0:Option Addr) (x1:Nat) (x2:Nat) (x3:Int) (x4:Int) (x5:Int) (K:Value->World->Prop) (w:World):Prop:=
 ∀x6 w1,x6=w.heap.size->w1=w.alloc (.cells #[.slice none 0 0,.q 0,.q 0] 29)->
 cond (x4==6)
 (Calls Tryz.prog 124 #[.slice x0 x1 x2,.q x3,.q x5] w1 (Ret fun x7 w2=>
 ∃x8 x9 x10 x11 x12,x7= .agg #[.slice x8 x9 x10,.q x11,.q x12]/\
 Ah w2 ⟨x6,0,none⟩ 3/\∀w3,w3=setCells w2 ⟨x6,0,none⟩ [.slice x8 x9 x10,.q x11,.q x12]->
 ∃x13 x14 x15 x16 x17,Ae w3 ⟨x6,0,none⟩ [.slice x13 x14 x15,.q x16,.q x17]/\
 K (.agg #[.slice x13 x14 x15,.q x16,.q x17]) w3))
 (Calls Tryz.prog 123 #[.slice x0 x1 x2,.q x3,.q (IntKind.i64.wrap (x4+1)),.q x5] w1 (Ret fun x18 w4=>
 ∃x19 x20 x21 x22 x23,x18= .agg #[.slice x19 x20 x21,.q x22,.q x23]/\
 ∀x24 w5,x24=w4.heap.size->w5=w4.alloc (.cells #[.slice none 0 0,.q 0,.q 0] 29)->
 Ah w5 ⟨x24,0,none⟩ 3/\∀w6,w6=setCells w5 ⟨x24,0,none⟩ [.slice x19 x20 x21,.q x22,.q x23]->
 ∃(I:World->Prop) (x25:World->Nat),I w6/\
 ∀(_x26:Nat->Value) (w7:World),I w7->
 ∃x27,w7.cell? ⟨x24,2,none⟩=some (.q x27)/\
 cond (x27==0)
 (∃x28,w7.cell? ⟨x24,1,none⟩=some (.q x28)/\
 Calls Tryz.prog 35 #[.slice x0 x1 x2,.q x28] w7 (Ret fun x29 w8=>
 ∃x30 x31 x32 x33,x29= .agg #[.q x30,.s x31,.q x32,.q x33]/\
 ∀x34 w9,x34=w8.heap.size->w9=w8.alloc (.cells #[.q 0,.s [],.q 0,.q 0] 57)->
 Ah w9 ⟨x34,0,none⟩ 4/\∀w10,w10=setCells w9 ⟨x34,0,none⟩ [.q x30,.s x31,.q x32,.q x33]->
 ∃x35,w10.cell? ⟨x34,1,none⟩=some (.s x35)/\
 Calls Tryz.prog 125 #[.s x35] w10 (Ret fun x36 w11=>
 ∃x37,x36= .q x37/\
 ∃(J:Bool->World->Prop),
 (∃x38,w11.cell? ⟨x34,0,none⟩=some (.q x38)/\
 cond (x38 !=4)
 (J true w11)
 (cond (x37==0)
 (J true w11)
 (Calls Tryz.prog 126 #[.q x37] w11 (Ret fun x39 w12=>
 ∃x40,x39= .q x40/\
 J (x40 !=x4) w12))))/\
 ∀(_x41:Nat->Value) (x42:Bool) (w13:World),J x42 w13->
 cond (x42)
 (∃x43 x44 x45 x46 x47,Ae w13 ⟨x24,0,none⟩ [.slice x43 x44 x45,.q x46,.q x47]/\
 Ah w13 ⟨x6,0,none⟩ 3/\∀w14,w14=setCells w13 ⟨x6,0,none⟩ [.slice x43 x44 x45,.q x46,.q x47]->
 ∃x48 x49 x50 x51 x52,Ae w14 ⟨x6,0,none⟩ [.slice x48 x49 x50,.q x51,.q x52]/\
 K (.agg #[.slice x48 x49 x50,.q x51,.q x52]) w14)
 (∃x53,w13.cell? ⟨x24,1,none⟩=some (.q x53)/\
 Calls Tryz.prog 123 #[.slice x0 x1 x2,.q (IntKind.i64.wrap (x53+1)),.q (IntKind.i64.wrap (x4+1)),.q x5] w13 (Ret fun x54 w15=>
 ∃x55 x56 x57 x58 x59,x54= .agg #[.slice x55 x56 x57,.q x58,.q x59]/\
 ∀x60 w16,x60=w15.heap.size->w16=w15.alloc (.cells #[.slice none 0 0,.q 0,.q 0] 29)->
 Ah w16 ⟨x60,0,none⟩ 3/\∀w17,w17=setCells w16 ⟨x60,0,none⟩ [.slice x55 x56 x57,.q x58,.q x59]->
 ∃x61,w17.cell? ⟨x60,2,none⟩=some (.q x61)/\
 cond (x61 !=0)
 (∃x62 x63 x64 x65 x66,Ae w17 ⟨x60,0,none⟩ [.slice x62 x63 x64,.q x65,.q x66]/\
 Ah w17 ⟨x6,0,none⟩ 3/\∀w18,w18=setCells w17 ⟨x6,0,none⟩ [.slice x62 x63 x64,.q x65,.q x66]->
 ∃x67 x68 x69 x70 x71,Ae w18 ⟨x6,0,none⟩ [.slice x67 x68 x69,.q x70,.q x71]/\
 K (.agg #[.slice x67 x68 x69,.q x70,.q x71]) w18)
 (∃x72,w17.cell? ⟨x34,3,none⟩=some (.q x72)/\
 ∀x73 w19,x73=w17.heap.size->w19=w17.alloc (.cells #[.q x37,.s [],.q 0,.q 2,.q x72] 59)->
 ∃x74 x75 x76,w19.cell? ⟨x24,0,none⟩=some (.slice x74 x75 x76)/\
 Bl Tryz.prog (Builtin.append_ #[22,22] 22 #[.slice (some ⟨x73,0,none⟩) 1 1,.slice x74 x75 x76]) (fun x77 w20=>
 ∃x78 x79 x80,x77= .slice x78 x79 x80/\
 ∃(J1:World->Prop),
 (∀w21,w21=w20.drew->
 ∃(S:World->Prop),S w21/\
 ∃x81 x82 x83,(∀u,S u->u.cell? ⟨x60,0,none⟩=some (.slice x81 x82 x83))/\
 ∃x84,(∀u,S u->u.cell? ⟨x60,1,none⟩=some (.q x84))/\
 Bl Tryz.prog (Builtin.append_ #[22,22] 22 #[.slice x78 x79 x80,.slice x81 x82 x83]) (fun x85 w22=>
 ∃x86 x87 x88,x85= .slice x86 x87 x88/\
 S w22/\
 Ah w22 ⟨x24,0,none⟩ 3/\∀w23,w23=setCells w22 ⟨x24,0,none⟩ [.slice x86 x87 x88,.q x84,.q 0]->
 J1 w23) w21)/\
 ∀(_x89:Nat->Value) (w24:World),J1 w24->
 cond (x4==3)
 (∃x90 x91 x92 x93 x94,Ae w24 ⟨x24,0,none⟩ [.slice x90 x91 x92,.q x93,.q x94]/\
 Ah w24 ⟨x6,0,none⟩ 3/\∀w25,w25=setCells w24 ⟨x6,0,none⟩ [.slice x90 x91 x92,.q x93,.q x94]->
 ∃x95 x96 x97 x98 x99,Ae w25 ⟨x6,0,none⟩ [.slice x95 x96 x97,.q x98,.q x99]/\
 K (.agg #[.slice x95 x96 x97,.q x98,.q x99]) w25)
 (I w24/\x25 w24<x25 w7)) w19))))))
 (∃Axb Axn Axq Axc Axt,Ae w7 ⟨x24,0,none⟩ [.slice Axb Axn Axq,.q Axc,.q Axt]/\
 Ah w7 ⟨x6,0,none⟩ 3/\∀w26,w26=setCells w7 ⟨x6,0,none⟩ [.slice Axb Axn Axq,.q Axc,.q Axt]->
 ∃Aw2 Axo Axr Axj Axp,Ae w26 ⟨x6,0,none⟩ [.slice Aw2 Axo Axr,.q Axj,.q Axp]/\
 K (.agg #[.slice Aw2 Axo Axr,.q Axj,.q Axp]) w26)))
theorem Ac8 (x0:Option Addr) (x1:Nat) (x2:Nat) (x3:Int) (x4:Int) (x5:Int) (K:Value->World->Prop) (w:World) (h:Ac7 x0 x1 x2 x3 x4 x5 K w):Calls Tryz.prog 123 #[.slice x0 x1 x2,.q x3,.q x4,.q x5] w (Ret K):=
 Ao { loops:=[(60,[])],Aww:=[(3862,[(48,.bool)]),(61823,[])] } Tryz.func123 (by kernel_rfl) h
def Ain (x0:Option Addr) (x1:Nat) (x2:Nat) (x3:Int) (x4:Int) (K:Value->World->Prop) (w:World):Prop:=
 ∀x5 w1,x5=w.heap.size->w1=w.alloc (.cells #[.slice none 0 0,.q 0,.q 0] 29)->
 Calls Tryz.prog 35 #[.slice x0 x1 x2,.q x3] w1 (Ret fun x6 w2=>
 ∃x7 x8 x9 x10,x6= .agg #[.q x7,.s x8,.q x9,.q x10]/\
 ∀x11 w3,x11=w2.heap.size->w3=w2.alloc (.cells #[.q 0,.s [],.q 0,.q 0] 57)->
 Ah w3 ⟨x11,0,none⟩ 4/\∀w4,w4=setCells w3 ⟨x11,0,none⟩ [.q x7,.s x8,.q x9,.q x10]->
 ∃x12,w4.cell? ⟨x11,0,none⟩=some (.q x12)/\
 cond (x12==2)
 (∃x13,w4.cell? ⟨x11,2,none⟩=some (.q x13)/\
 ∃x14,w4.cell? ⟨x11,3,none⟩=some (.q x14)/\
 ∀x15 w5,x15=w4.heap.size->w5=w4.alloc (.cells #[.q 1,.s [],.q x13,.q 0,.q x14] 59)->
 Ah w5 ⟨x5,0,none⟩ 3/\∀w6,w6=setCells w5 ⟨x5,0,none⟩ [.slice (some ⟨x15,0,none⟩) 1 1,.q (IntKind.i64.wrap (x3+1)),.q 0]->
 ∃x16 x17 x18 x19 x20,Ae w6 ⟨x5,0,none⟩ [.slice x16 x17 x18,.q x19,.q x20]/\
 K (.agg #[.slice x16 x17 x18,.q x19,.q x20]) w6)
 (∃x21,w4.cell? ⟨x11,0,none⟩=some (.q x21)/\
 cond (x21==1)
 (∃x22,w4.cell? ⟨x11,1,none⟩=some (.s x22)/\
 ∃x23,w4.cell? ⟨x11,3,none⟩=some (.q x23)/\
 ∀x24 w7,x24=w4.heap.size->w7=w4.alloc (.cells #[.q 2,.s x22,.q 0,.q 0,.q x23] 59)->
 Ah w7 ⟨x5,0,none⟩ 3/\∀w8,w8=setCells w7 ⟨x5,0,none⟩ [.slice (some ⟨x24,0,none⟩) 1 1,.q (IntKind.i64.wrap (x3+1)),.q 0]->
 ∃x25 x26 x27 x28 x29,Ae w8 ⟨x5,0,none⟩ [.slice x25 x26 x27,.q x28,.q x29]/\
 K (.agg #[.slice x25 x26 x27,.q x28,.q x29]) w8)
 (∃(J:Bool->World->Prop),
 (∃x30,w4.cell? ⟨x11,0,none⟩=some (.q x30)/\
 cond (x30 !=4)
 (J true w4)
 (∃x31,w4.cell? ⟨x11,1,none⟩=some (.s x31)/\
 cond (!(x31==[45]))
 (∃x32,w4.cell? ⟨x11,1,none⟩=some (.s x32)/\
 cond (!(x32==[33]))
 (∃x33,w4.cell? ⟨x11,1,none⟩=some (.s x33)/\
 J (!(x33==[40])) w4)
 (J false w4))
 (J false w4)))/\
 ∀(_x34:Nat->Value) (x35:Bool) (w9:World),J x35 w9->
 cond (x35)
 (Ah w9 ⟨x5,0,none⟩ 3/\∀w10,w10=setCells w9 ⟨x5,0,none⟩ [.slice none 0 0,.q x3,.q 11]->
 ∃x36 x37 x38 x39 x40,Ae w10 ⟨x5,0,none⟩ [.slice x36 x37 x38,.q x39,.q x40]/\
 K (.agg #[.slice x36 x37 x38,.q x39,.q x40]) w10)
 (cond (x4==24)
 (Ah w9 ⟨x5,0,none⟩ 3/\∀w11,w11=setCells w9 ⟨x5,0,none⟩ [.slice none 0 0,.q x3,.q 5]->
 ∃x41 x42 x43 x44 x45,Ae w11 ⟨x5,0,none⟩ [.slice x41 x42 x43,.q x44,.q x45]/\
 K (.agg #[.slice x41 x42 x43,.q x44,.q x45]) w11)
 (∃x46,w9.cell? ⟨x11,1,none⟩=some (.s x46)/\
 cond (x46==[40])
 (Calls Tryz.prog 123 #[.slice x0 x1 x2,.q (IntKind.i64.wrap (x3+1)),.q 1,.q (IntKind.i64.wrap (x4+1))] w9 (Ret fun x47 w12=>
 ∃x48 x49 x50 x51 x52,x47= .agg #[.slice x48 x49 x50,.q x51,.q x52]/\
 ∀x53 w13,x53=w12.heap.size->w13=w12.alloc (.cells #[.slice none 0 0,.q 0,.q 0] 29)->
 Ah w13 ⟨x53,0,none⟩ 3/\∀w14,w14=setCells w13 ⟨x53,0,none⟩ [.slice x48 x49 x50,.q x51,.q x52]->
 ∃x54,w14.cell? ⟨x53,2,none⟩=some (.q x54)/\
 cond (x54 !=0)
 (∃x55 x56 x57 x58 x59,Ae w14 ⟨x53,0,none⟩ [.slice x55 x56 x57,.q x58,.q x59]/\
 Ah w14 ⟨x5,0,none⟩ 3/\∀w15,w15=setCells w14 ⟨x5,0,none⟩ [.slice x55 x56 x57,.q x58,.q x59]->
 ∃x60 x61 x62 x63 x64,Ae w15 ⟨x5,0,none⟩ [.slice x60 x61 x62,.q x63,.q x64]/\
 K (.agg #[.slice x60 x61 x62,.q x63,.q x64]) w15)
 (∃x65,w14.cell? ⟨x53,1,none⟩=some (.q x65)/\
 Calls Tryz.prog 35 #[.slice x0 x1 x2,.q x65] w14 (Ret fun x66 w16=>
 ∃x67 x68 x69 x70,x66= .agg #[.q x67,.s x68,.q x69,.q x70]/\
 ∀x71 w17,x71=w16.heap.size->w17=w16.alloc (.cells #[.q 0,.s [],.q 0,.q 0] 57)->
 Ah w17 ⟨x71,0,none⟩ 4/\∀w18,w18=setCells w17 ⟨x71,0,none⟩ [.q x67,.s x68,.q x69,.q x70]->
 ∃(J1:Bool->World->Prop),
 (∃x72,w18.cell? ⟨x71,0,none⟩=some (.q x72)/\
 cond (x72 !=4)
 (J1 true w18)
 (∃x73,w18.cell? ⟨x71,1,none⟩=some (.s x73)/\
 J1 (!(x73==[41])) w18))/\
 ∀(_x74:Nat->Value) (x75:Bool) (w19:World),J1 x75 w19->
 cond (x75)
 (∃x76,w19.cell? ⟨x53,1,none⟩=some (.q x76)/\
 Ah w19 ⟨x5,0,none⟩ 3/\∀w20,w20=setCells w19 ⟨x5,0,none⟩ [.slice none 0 0,.q x76,.q 11]->
 ∃x77 x78 x79 x80 x81,Ae w20 ⟨x5,0,none⟩ [.slice x77 x78 x79,.q x80,.q x81]/\
 K (.agg #[.slice x77 x78 x79,.q x80,.q x81]) w20)
 (∃x82 x83 x84,w19.cell? ⟨x53,0,none⟩=some (.slice x82 x83 x84)/\
 ∃x85,w19.cell? ⟨x53,1,none⟩=some (.q x85)/\
 Ah w19 ⟨x5,0,none⟩ 3/\∀w21,w21=setCells w19 ⟨x5,0,none⟩ [.slice x82 x83 x84,.q (IntKind.i64.wrap (x85+1)),.q 0]->
 ∃x86 x87 x88 x89 x90,Ae w21 ⟨x5,0,none⟩ [.slice x86 x87 x88,.q x89,.q x90]/\
 K (.agg #[.slice x86 x87 x88,.q x89,.q x90]) w21)))))
 (Calls Tryz.prog 124 #[.slice x0 x1 x2,.q (IntKind.i64.wrap (x3+1)),.q (IntKind.i64.wrap (x4+1))] w9 (Ret fun x91 w22=>
 ∃x92 x93 x94 x95 x96,x91= .agg #[.slice x92 x93 x94,.q x95,.q x96]/\
 ∀x97 w23,x97=w22.heap.size->w23=w22.alloc (.cells #[.slice none 0 0,.q 0,.q 0] 29)->
 Ah w23 ⟨x97,0,none⟩ 3/\∀w24,w24=setCells w23 ⟨x97,0,none⟩ [.slice x92 x93 x94,.q x95,.q x96]->
 ∃x98,w24.cell? ⟨x97,2,none⟩=some (.q x98)/\
 cond (x98 !=0)
 (∃x99 Axb Axn Axq Axc,Ae w24 ⟨x97,0,none⟩ [.slice x99 Axb Axn,.q Axq,.q Axc]/\
 Ah w24 ⟨x5,0,none⟩ 3/\∀w25,w25=setCells w24 ⟨x5,0,none⟩ [.slice x99 Axb Axn,.q Axq,.q Axc]->
 ∃Axt Aw2 Axo Axr Axj,Ae w25 ⟨x5,0,none⟩ [.slice Axt Aw2 Axo,.q Axr,.q Axj]/\
 K (.agg #[.slice Axt Aw2 Axo,.q Axr,.q Axj]) w25)
 (∃(J2:Int->World->Prop),
 (∃Axp,w24.cell? ⟨x11,1,none⟩=some (.s Axp)/\
 cond (Axp==[33])
 (J2 4 w24)
 (J2 3 w24))/\
 ∀(_x110:Nat->Value) (Axx:Int) (w26:World),J2 Axx w26->
 ∀w27,w27=w26.drew->
 ∃(S:World->Prop),S w27/\
 ∃Ax5,(∀u,S u->u.cell? ⟨x11,3,none⟩=some (.q Ax5))/\
 ∃Ay0 Ays Ax9,(∀u,S u->u.cell? ⟨x97,0,none⟩=some (.slice Ay0 Ays Ax9))/\
 ∃Ayf,(∀u,S u->u.cell? ⟨x97,1,none⟩=some (.q Ayf))/\
 ∀Ayg w28,Ayg=w27.heap.size->w28=w27.alloc (.cells #[.q Axx,.s [],.q 0,.q 1,.q Ax5] 59)->
 S w28/\
 Bl Tryz.prog (Builtin.append_ #[22,22] 22 #[.slice (some ⟨Ayg,0,none⟩) 1 1,.slice Ay0 Ays Ax9]) (fun Ayh w29=>
 ∃Azj Ayi Ayj,Ayh= .slice Azj Ayi Ayj/\
 S w29/\
 Ah w29 ⟨x5,0,none⟩ 3/\∀w30,w30=setCells w29 ⟨x5,0,none⟩ [.slice Azj Ayi Ayj,.q Ayf,.q 0]->
 ∃Ayk Aya Ayl Az8 Azi,Ae w30 ⟨x5,0,none⟩ [.slice Ayk Aya Ayl,.q Az8,.q Azi]/\
 K (.agg #[.slice Ayk Aya Ayl,.q Az8,.q Azi]) w30) w28))))))))
theorem Aio (x0:Option Addr) (x1:Nat) (x2:Nat) (x3:Int) (x4:Int) (K:Value->World->Prop) (w:World) (h:Ain x0 x1 x2 x3 x4 K w):Calls Tryz.prog 124 #[.slice x0 x1 x2,.q x3,.q x4] w (Ret K):=
 Ao { Aww:=[(62,[(56,.bool)]),(2047,[(11,.int .i64)]),(16301,[(87,.bool)])] } Tryz.func124 (by kernel_rfl) h
def Ac9 (x0:Option Addr) (x1:Nat) (x2:Nat) (x3:Int) (K:Value->World->Prop) (w:World):Prop:=
 ∀x4 w1,x4=w.heap.size->w1=w.alloc (.cells #[.slice none 0 0,.q 0,.q 0] 29)->
 cond (decide (x3<0))
 (Ah w1 ⟨x4,0,none⟩ 3/\∀w2,w2=setCells w1 ⟨x4,0,none⟩ [.slice none 0 0,.q 0,.q 1]->
 ∃x5 x6 x7 x8 x9,Ae w2 ⟨x4,0,none⟩ [.slice x5 x6 x7,.q x8,.q x9]/\
 K (.agg #[.slice x5 x6 x7,.q x8,.q x9]) w2)
 (Calls Tryz.prog 123 #[.slice x0 x1 x2,.q x3,.q 1,.q 0] w1 (Ret fun x10 w3=>
 ∃x11 x12 x13 x14 x15,x10= .agg #[.slice x11 x12 x13,.q x14,.q x15]/\
 Ah w3 ⟨x4,0,none⟩ 3/\∀w4,w4=setCells w3 ⟨x4,0,none⟩ [.slice x11 x12 x13,.q x14,.q x15]->
 ∃x16 x17 x18 x19 x20,Ae w4 ⟨x4,0,none⟩ [.slice x16 x17 x18,.q x19,.q x20]/\
 K (.agg #[.slice x16 x17 x18,.q x19,.q x20]) w4))
theorem Ada (x0:Option Addr) (x1:Nat) (x2:Nat) (x3:Int) (K:Value->World->Prop) (w:World) (h:Ac9 x0 x1 x2 x3 K w):Calls Tryz.prog 122 #[.slice x0 x1 x2,.q x3] w (Ret K):=
 Ao {} Tryz.func122 (by kernel_rfl) h
def Agb (K:Value->World->Prop) (w:World):Prop:=
 Calls Tryz.prog 8 #[.s [109,97,105,110,32,123,32,112,114,105,110,116,32,97,32,45,32,40,98,32,45,32,49,41,32,59,32,112,114,105,110,116,32,45,40,97,43,98,41,59,32,125]] w (Ret fun x0 w1=>
 ∃x1 x2 x3 x4 x5,x0= .agg #[.slice x1 x2 x3,.q x4,.q x5]/\
 Calls Tryz.prog 7 #[.slice x1 x2 x3] w1 (Ret fun x6 w2=>
 ∃x7 x8,x6= .tuple #[.s x7,.q x8]/\
 Calls Tryz.prog 12 #[.slice x1 x2 x3,.q 4] w2 (Ret fun x9 w3=>
 ∃x10 x11,x9= .tuple #[.s x10,.bool x11]/\
 ∀(_x12:Nat->Value),
 K (.bool ((x7==[109,97,105,110,32,123,10,9,112,114,105,110,116,32,97,32,45,32,40,98,32,45,32,49,41,59,10,9,112,114,105,110,116,32,45,40,97,32,43,32,98,41,59,10,125,10])&&((x8==0)&&((x10==[97,32,45,32,40,98,32,45,32,49,41])&&x11)))) w3)))
theorem Agc (K:Value->World->Prop) (w:World) (h:Agb K w):Calls Tryz.prog 6 #[] w (Ret K):=
 Ao { Aw1:=[(62,[0])] } Tryz.func6 (by kernel_rfl) h
def Wy (x0:List UInt8) (K:Value->World->Prop) (w:World):Prop:=
 cond (decide ((x0.length:Int)>600))
 (Calls Tryz.prog 6 #[] w (Ret fun x1 w1=>
 ∃x2,x1= .bool x2/\
 K (.bool x2) w1))
 (Calls Tryz.prog 8 #[.s x0] w (Ret fun x3 w2=>
 ∃x4 x5 x6 x7 x8,x3= .agg #[.slice x4 x5 x6,.q x7,.q x8]/\
 ∀x9 w3,x9=w2.heap.size->w3=w2.alloc (.cells #[.slice none 0 0,.q 0,.q 0] 29)->
 Ah w3 ⟨x9,0,none⟩ 3/\∀w4,w4=setCells w3 ⟨x9,0,none⟩ [.slice x4 x5 x6,.q x7,.q x8]->
 ∃x10,w4.cell? ⟨x9,2,none⟩=some (.q x10)/\
 cond (x10 !=0)
 (Calls Tryz.prog 6 #[] w4 (Ret fun x11 w5=>
 ∃x12,x11= .bool x12/\
 K (.bool x12) w5))
 (∃x13 x14 x15,w4.cell? ⟨x9,0,none⟩=some (.slice x13 x14 x15)/\
 Calls Tryz.prog 7 #[.slice x13 x14 x15] w4 (Ret fun x16 w6=>
 ∃x17 x18,x16= .tuple #[.s x17,.q x18]/\
 Calls Tryz.prog 8 #[.s x17] w6 (Ret fun x19 w7=>
 ∃x20 x21 x22 x23 x24,x19= .agg #[.slice x20 x21 x22,.q x23,.q x24]/\
 ∀x25 w8,x25=w7.heap.size->w8=w7.alloc (.cells #[.slice none 0 0,.q 0,.q 0] 29)->
 Ah w8 ⟨x25,0,none⟩ 3/\∀w9,w9=setCells w8 ⟨x25,0,none⟩ [.slice x20 x21 x22,.q x23,.q x24]->
 ∃x26 x27 x28,w9.cell? ⟨x25,0,none⟩=some (.slice x26 x27 x28)/\
 Calls Tryz.prog 7 #[.slice x26 x27 x28] w9 (Ret fun x29 w10=>
 ∃x30 x31,x29= .tuple #[.s x30,.q x31]/\
 cond (x18==0)
 (cond (x31==0)
 (∃x32,w10.cell? ⟨x25,2,none⟩=some (.q x32)/\
 cond (x32==0)
 (∃x33 x34 x35,w10.cell? ⟨x9,0,none⟩=some (.slice x33 x34 x35)/\
 ∃x36 x37 x38,w10.cell? ⟨x25,0,none⟩=some (.slice x36 x37 x38)/\
 Calls Tryz.prog 10 #[.slice x33 x34 x35,.slice x36 x37 x38] w10 (Ret fun x39 w11=>
 ∃x40,x39= .bool x40/\
 cond (x40)
 (cond (x17==x30)
 (Calls Tryz.prog 6 #[] w11 (Ret fun x41 w12=>
 ∃x42,x41= .bool x42/\
 K (.bool x42) w12))
 (K (.bool false) w11))
 (K (.bool false) w11)))
 (K (.bool false) w10))
 (K (.bool false) w10))
 (K (.bool false) w10)))))))
theorem Wz (x0:List UInt8) (K:Value->World->Prop) (w:World) (h:Wy x0 K w):Calls Tryz.prog 4 #[.s x0] w (Ret K):=
 Ao {} Tryz.func4 (by kernel_rfl) h
def Mn (x0:List UInt8) (K:Value->World->Prop) (w:World):Prop:=
 ∃(I:Int->World->Prop) (x1:Int->World->Nat),I 0 w/\
 ∀(_x2:Nat->Value) (x3:Int) (w1:World),I x3 w1->
 cond (decide (x3<(x0.length:Int)))
 (((0:Int)<=x3/\x3<(x0.length:Int))/\
 Calls Tryz.prog 81 #[.int .u8 ((x0.getD x3.toNat 0).toNat:Int)] w1 (Ret fun x4 w2=>
 ∃x5,x4= .bool x5/\
 cond (!x5)
 (((0:Int)<=x3/\x3<=(x0.length:Int))/\
 K (.string (mkS (x0.take x3.toNat))) w2)
 (I (IntKind.i64.wrap (x3+1)) w2/\x1 (IntKind.i64.wrap (x3+1)) w2<x1 x3 w1)))
 (K (.s x0) w1)
theorem Mo (x0:List UInt8) (K:Value->World->Prop) (w:World) (h:Mn x0 K w):Calls Tryz.prog 80 #[.s x0,.func (.func 81) #[] #[]] w (Ret K):=
 Ao { loops:=[(26,[(8,.int .i64)])] } Tryz.func80 (by kernel_rfl) h
def Gy (x0:Nat) (x1:Option Addr) (x2:Nat) (_x3:Nat) (K:Value->World->Prop) (w:World):Prop:=
 ∃x4,w.cell? ⟨x0,3,none⟩=some (.q x4)/\
 Ah w ⟨x0,3,none⟩ 1/\∀w1,w1=w.setCell ⟨x0,3,none⟩ (.q (IntKind.i64.wrap (x4+1)))->
 ∃(I:Int->World->Prop) (x5:Int->World->Nat),I 0 w1/\
 ∀(_x6:Nat->Value) (x7:Int) (w2:World),I x7 w2->
 cond (decide (x7<(x2:Int)))
 (((0:Int)<=x7/\x7<(x2:Int))/\
 A3 x1 (fun x8=>
 ∃x9,w2.cell? (x8.add (x7.toNat*1))=some (.q x9)/\
 Calls Tryz.prog 89 #[.pointer (some ⟨x0,0,none⟩),.q x9] w2 (Ret fun _x10 w3=>
 I (IntKind.i64.wrap (x7+1)) w3/\x5 (IntKind.i64.wrap (x7+1)) w3<x5 x7 w2)))
 (∃x11,w2.cell? ⟨x0,3,none⟩=some (.q x11)/\
 Ah w2 ⟨x0,3,none⟩ 1/\∀w4,w4=w2.setCell ⟨x0,3,none⟩ (.q (IntKind.i64.wrap (x11-1)))->
 K (.tuple #[]) w4)
theorem Gz (x0:Nat) (x1:Option Addr) (x2:Nat) (x3:Nat) (K:Value->World->Prop) (w:World) (h:Gy x0 x1 x2 x3 K w):Calls Tryz.prog 60 #[.pointer (some ⟨x0,0,none⟩),.slice x1 x2 x3,.func (.func 89) #[.pointer (some ⟨x0,0,none⟩)] #[]] w (Ret K):=
 Ao { loops:=[(26,[(17,.int .i64)])] } Tryz.func60 (by kernel_rfl) h
def Hj (x0:Nat) (x1:Option Addr) (x2:Nat) (_x3:Nat) (K:Value->World->Prop) (w:World):Prop:=
 ∃x4,w.cell? ⟨x0,3,none⟩=some (.q x4)/\
 Ah w ⟨x0,3,none⟩ 1/\∀w1,w1=w.setCell ⟨x0,3,none⟩ (.q (IntKind.i64.wrap (x4+1)))->
 ∃(I:Int->World->Prop) (x5:Int->World->Nat),I 0 w1/\
 ∀(_x6:Nat->Value) (x7:Int) (w2:World),I x7 w2->
 cond (decide (x7<(x2:Int)))
 (((0:Int)<=x7/\x7<(x2:Int))/\
 A3 x1 (fun x8=>
 ∃x9,w2.cell? (x8.add (x7.toNat*1))=some (.q x9)/\
 Calls Tryz.prog 61 #[.pointer (some ⟨x0,0,none⟩),.q x9] w2 (Ret fun _x10 w3=>
 I (IntKind.i64.wrap (x7+1)) w3/\x5 (IntKind.i64.wrap (x7+1)) w3<x5 x7 w2)))
 (∃x11,w2.cell? ⟨x0,3,none⟩=some (.q x11)/\
 Ah w2 ⟨x0,3,none⟩ 1/\∀w4,w4=w2.setCell ⟨x0,3,none⟩ (.q (IntKind.i64.wrap (x11-1)))->
 K (.tuple #[]) w4)
theorem Hk (x0:Nat) (x1:Option Addr) (x2:Nat) (x3:Nat) (K:Value->World->Prop) (w:World) (h:Hj x0 x1 x2 x3 K w):Calls Tryz.prog 60 #[.pointer (some ⟨x0,0,none⟩),.slice x1 x2 x3,.func (.func 61) #[.pointer (some ⟨x0,0,none⟩)] #[]] w (Ret K):=
 Ao { loops:=[(26,[(17,.int .i64)])] } Tryz.func60 (by kernel_rfl) h
def Jp (x0:Nat) (x1:Nat) (K:Value->World->Prop) (w:World):Prop:=
 Calls Tryz.prog 54 #[.slice none 0 0,.func (.func 55) #[] #[.pointer (some ⟨x0,0,none⟩),.pointer (some ⟨x1,0,none⟩)]] w (Ret fun x2 w1=>
 ∃x3 x4 x5,x2= .slice x3 x4 x5/\
 K (.slice x3 x4 x5) w1)
theorem Jq (x0:Nat) (x1:Nat) (K:Value->World->Prop) (w:World) (h:Jp x0 x1 K w):Calls Tryz.prog 27 #[.func (.func 55) #[] #[.pointer (some ⟨x0,0,none⟩),.pointer (some ⟨x1,0,none⟩)]] w (Ret K):=
 Ao {} Tryz.func27 (by kernel_rfl) h
def Ft (x0:Nat) (x1:Nat) (K:Value->World->Prop) (w:World):Prop:=
 ∀x2 w1,x2=w.heap.size->w1=w.alloc (.cells #[.slice none 0 0] 47)->
 ∃(x3:List Nat) (x4:List (Int)),Ak3 Tryz.prog 55 #[.pointer (some ⟨x0,0,none⟩),.pointer (some ⟨x1,0,none⟩)] [.int .i64] x3 x4 w1/\
 ∃(I:List Nat->List (Int)->World->Prop) (x8:List (Int)->World->Prop) (_x9:Nat->List (Int)->World->Prop),I x3 [] w1/\
 (∀(x5:List Nat) (x10:List (Int)) (x11:Int) (w2 w3:World),I x5 x10 w2->Grown w1.heap.size w2 w3->(x10++[x11])<+:x4->
 ∃x12 x13 x14,w3.cell? ⟨x2,0,none⟩=some (.slice x12 x13 x14)/\
 ∀x15 w4,x15=w3.heap.size->w4=w3.alloc (.cells #[.q x11] 3)->
 Bl Tryz.prog (Builtin.append_ #[47,47] 47 #[.slice x12 x13 x14,.slice (some ⟨x15,0,none⟩) 1 1]) (fun x16 w5=>
 ∃x17 x18 x19,x16= .slice x17 x18 x19/\
 Ah w5 ⟨x2,0,none⟩ 1/\∀w6,w6=w5.setCell ⟨x2,0,none⟩ (.slice x17 x18 x19)->
 ∃x6,Amu x5 x6 w3 w6/\I x6 (x10++[x11]) w6) w4)/\
 (∀(x20:List (Int)) (w7 w8:World) (x21:Nat),x20<+:x4->x8 x20 w7->Grown w1.heap.size w7 w8->w1.heap.size<=x21->w8.heap[x21]? =some (.deferred (some []))->
 Ei (x21::[]) w8/\
 K (.slice none 0 0) (shut (x21::[]) w8))/\
 ∀(x7:List Nat) (w9 w10:World) (x22:Nat),I x7 x4 w9->Grown w1.heap.size w9 w10->w1.heap.size<=x22->w10.heap[x22]? =some (.deferred (some []))->
 ∃x23 x24 x25,w10.cell? ⟨x2,0,none⟩=some (.slice x23 x24 x25)/\
 Ei (x22::[]) w10/\
 K (.slice x23 x24 x25) (shut (x22::[]) w10)
theorem Fu (x0:Nat) (x1:Nat) (K:Value->World->Prop) (w:World) (h:Ft x0 x1 K w):Calls Tryz.prog 54 #[.slice none 0 0,.func (.func 55) #[] #[.pointer (some ⟨x0,0,none⟩),.pointer (some ⟨x1,0,none⟩)]] w (Ret K):=
 Abo { ranges:=[(26,[.int .i64])] } Tryz.func54 (by kernel_rfl) h
def Yr (x0:Nat) (x1:Nat) (x2:Nat) (K:Value->World->Prop) (w:World):Prop:=
 ∃(J:Bool->World->Prop),
 (∃x3,w.cell? ⟨x1,0,none⟩=some (.q x3)/\
 cond (decide (x3<0))
 (J true w)
 (∃x4,w.cell? ⟨x1,0,none⟩=some (.q x4)/\
 ∃x5 x6 x7,w.cell? ⟨x2,0,none⟩=some (.slice x5 x6 x7)/\
 J (decide (x4>=(x6:Int))) w))/\
 ∀(_x8:Nat->Value) (x9:Bool) (w1:World),J x9 w1->
 cond (x9)
 (Ei [] w1/\
 K (.tuple #[]) (shut [] w1))
 (∃x10,w1.cell? ⟨x1,0,none⟩=some (.q x10)/\
 ∃x11 x12 x13,w1.cell? ⟨x2,0,none⟩=some (.slice x11 x12 x13)/\
 ∃x14,w1.cell? ⟨x1,0,none⟩=some (.q x14)/\
 ((0:Int)<=x14/\x14<(x12:Int))/\
 A3 x11 (fun x15=>
 ∃x16,w1.cell? ((x15.add (x14.toNat*5)).add 3)=some (.q x16)/\
 ∃(I:Int->Int->World->Prop) (x17:Int->Int->World->Nat),I (IntKind.i64.wrap (x10+1)) 0 w1/\
 ∀(_x18:Nat->Value) (x19:Int) (x20:Int) (w2:World),I x19 x20 w2->
 cond (decide (x20<x16))
 (∃(J1:Bool->World->Prop),
 (∃x21 x22 x23,w2.cell? ⟨x2,0,none⟩=some (.slice x21 x22 x23)/\
 cond (decide (x19>=(x22:Int)))
 (J1 true w2)
 (M7 Tryz.prog x0 #[.q x19] (fun x25 w3=>
 J1 (!x25) w3) w2))/\
 ∀(_x26:Nat->Value) (x27:Bool) (w4:World),J1 x27 w4->
 cond (x27)
 (Ei [] w4/\
 K (.tuple #[]) (shut [] w4))
 (∃x28 x29 x30,w4.cell? ⟨x2,0,none⟩=some (.slice x28 x29 x30)/\
 Calls Tryz.prog 56 #[.slice x28 x29 x30,.q x19] w4 (Ret fun x31 w5=>
 ∃x32,x31= .q x32/\
 I x32 (IntKind.i64.wrap (x20+1)) w5/\x17 x32 (IntKind.i64.wrap (x20+1)) w5<x17 x19 x20 w2)))
 (Ei [] w2/\
 K (.tuple #[]) (shut [] w2))))
theorem Ys (x0:Nat) (x1:Nat) (x2:Nat) (K:Value->World->Prop) (w:World) (h:Yr x0 x1 x2 K w):Calls Tryz.prog 55 #[.func (.yield x0) #[] #[],.pointer (some ⟨x1,0,none⟩),.pointer (some ⟨x2,0,none⟩)] w (Ret K):=
 Abo { loops:=[(30,[(4,.int .i64),(20,.int .i64)])],Aww:=[(2,[(12,.bool)]),(1944,[(31,.bool)])] } Tryz.func55 (by kernel_rfl) h
end Go.Proofs.YtcakelelfklhdaaGreatDoor
namespace Go.Ty
open Go.Vc Go.Lv
structure Aj where
 op:Int
 name:List UInt8
 n:Int
 kids:Int
 at_:Int
 deriving DecidableEq,Inhabited
def A4:Cod Aj:=Ak8 (fun x=>(x.op,x.name,x.n,x.kids,x.at_)) (Lk (Cu .i64) (Lk Cy (Lk (Cu .i64) (Lk (Cu .i64) (Cu .i64)))))
theorem Bv {m:List Nat} {w:World} {x:Aj} {cs:List Value} (h:A4.rep m w x cs):cs=[.int .i64 x.op,.string (mkS x.name),.int .i64 x.n,.int .i64 x.kids,.int .i64 x.at_]:=by
 obtain⟨_,_,rfl,rfl,⟨_,_,rfl,rfl,⟨_,_,rfl,rfl,⟨_,_,rfl,rfl,rfl⟩⟩⟩⟩:=h
 exact rfl
theorem Bu {m:List Nat} {w:World} (x:Aj):A4.rep m w x [.int .i64 x.op,.string (mkS x.name),.int .i64 x.n,.int .i64 x.kids,.int .i64 x.at_]:=⟨[.int .i64 x.op],[.string (mkS x.name),.int .i64 x.n,.int .i64 x.kids,.int .i64 x.at_],rfl,rfl,⟨[.string (mkS x.name)],[.int .i64 x.n,.int .i64 x.kids,.int .i64 x.at_],rfl,rfl,⟨[.int .i64 x.n],[.int .i64 x.kids,.int .i64 x.at_],rfl,rfl,⟨[.int .i64 x.kids],[.int .i64 x.at_],rfl,rfl,rfl⟩⟩⟩⟩
structure B1 where
 addr:Value
 buf:List Int
 deriving Inhabited
structure Ab where
 l:List Aj
 b:B1
 deep:Int
 deriving Inhabited
structure Aq where
 kind:Int
 text:List UInt8
 n:Int
 at_:Int
 deriving DecidableEq,Inhabited
def Ci:Cod Aq:=Ak8 (fun x=>(x.kind,x.text,x.n,x.at_)) (Lk (Cu .i64) (Lk Cy (Lk (Cu .i64) (Cu .i64))))
theorem Dk {m:List Nat} {w:World} {x:Aq} {cs:List Value} (h:Ci.rep m w x cs):cs=[.int .i64 x.kind,.string (mkS x.text),.int .i64 x.n,.int .i64 x.at_]:=by
 obtain⟨_,_,rfl,rfl,⟨_,_,rfl,rfl,⟨_,_,rfl,rfl,rfl⟩⟩⟩:=h
 exact rfl
theorem Ux {m:List Nat} {w:World} (x:Aq):Ci.rep m w x [.int .i64 x.kind,.string (mkS x.text),.int .i64 x.n,.int .i64 x.at_]:=⟨[.int .i64 x.kind],[.string (mkS x.text),.int .i64 x.n,.int .i64 x.at_],rfl,rfl,⟨[.string (mkS x.text)],[.int .i64 x.n,.int .i64 x.at_],rfl,rfl,⟨[.int .i64 x.n],[.int .i64 x.at_],rfl,rfl,rfl⟩⟩⟩
structure Ai where
 l:List Aj
 n:Int
 at_:Int
 e_:Int
 deriving DecidableEq,Inhabited
def Bi:Cod Ai:=Ak8 (fun x=>(x.l,x.n,x.at_,x.e_)) (Lk (cSl A4) (Lk (Cu .i64) (Lk (Cu .i64) (Cu .i64))))
theorem Af {m:List Nat} {w:World} {x:Ai} {cs:List Value} (h:Bi.rep m w x cs):∃(a0:Option Addr) (c0:Nat),cs=[.slice a0 x.l.length c0,.int .i64 x.n,.int .i64 x.at_,.int .i64 x.e_]/\(x.l.length<=c0/\SlR A4 m w a0 x.l):=by
 obtain⟨_,_,rfl,⟨a0,c0,rfl,p0,q0⟩,⟨_,_,rfl,rfl,⟨_,_,rfl,rfl,rfl⟩⟩⟩:=h
 exact⟨a0,c0,rfl,⟨p0,q0⟩⟩
theorem Ac {m:List Nat} {w:World} (x:Ai) {a0:Option Addr} {c0:Nat} (h0:(x.l.length<=c0/\SlR A4 m w a0 x.l)):Bi.rep m w x [.slice a0 x.l.length c0,.int .i64 x.n,.int .i64 x.at_,.int .i64 x.e_]:=⟨[.slice a0 x.l.length c0],[.int .i64 x.n,.int .i64 x.at_,.int .i64 x.e_],rfl,⟨_,_,rfl,h0.1,h0.2⟩,⟨[.int .i64 x.n],[.int .i64 x.at_,.int .i64 x.e_],rfl,rfl,⟨[.int .i64 x.at_],[.int .i64 x.e_],rfl,rfl,rfl⟩⟩⟩
structure Ap where
 l:List Aj
 at_:Int
 e_:Int
 deriving DecidableEq,Inhabited
def Km:Cod Ap:=Ak8 (fun x=>(x.l,x.at_,x.e_)) (Lk (cSl A4) (Lk (Cu .i64) (Cu .i64)))
theorem Dw {m:List Nat} {w:World} {x:Ap} {cs:List Value} (h:Km.rep m w x cs):∃(a0:Option Addr) (c0:Nat),cs=[.slice a0 x.l.length c0,.int .i64 x.at_,.int .i64 x.e_]/\(x.l.length<=c0/\SlR A4 m w a0 x.l):=by
 obtain⟨_,_,rfl,⟨a0,c0,rfl,p0,q0⟩,⟨_,_,rfl,rfl,rfl⟩⟩:=h
 exact⟨a0,c0,rfl,⟨p0,q0⟩⟩
theorem Bw {m:List Nat} {w:World} (x:Ap) {a0:Option Addr} {c0:Nat} (h0:(x.l.length<=c0/\SlR A4 m w a0 x.l)):Km.rep m w x [.slice a0 x.l.length c0,.int .i64 x.at_,.int .i64 x.e_]:=⟨[.slice a0 x.l.length c0],[.int .i64 x.at_,.int .i64 x.e_],rfl,⟨_,_,rfl,h0.1,h0.2⟩,⟨[.int .i64 x.at_],[.int .i64 x.e_],rfl,rfl,rfl⟩⟩
structure Dm where
 l:List Aq
 at_:Int
 e_:Int
 deriving DecidableEq,Inhabited
def Sg:Cod Dm:=Ak8 (fun x=>(x.l,x.at_,x.e_)) (Lk (cSl Ci) (Lk (Cu .i64) (Cu .i64)))
theorem Aam {m:List Nat} {w:World} {x:Dm} {cs:List Value} (h:Sg.rep m w x cs):∃(a0:Option Addr) (c0:Nat),cs=[.slice a0 x.l.length c0,.int .i64 x.at_,.int .i64 x.e_]/\(x.l.length<=c0/\SlR Ci m w a0 x.l):=by
 obtain⟨_,_,rfl,⟨a0,c0,rfl,p0,q0⟩,⟨_,_,rfl,rfl,rfl⟩⟩:=h
 exact⟨a0,c0,rfl,⟨p0,q0⟩⟩
theorem Ol {m:List Nat} {w:World} (x:Dm) {a0:Option Addr} {c0:Nat} (h0:(x.l.length<=c0/\SlR Ci m w a0 x.l)):Sg.rep m w x [.slice a0 x.l.length c0,.int .i64 x.at_,.int .i64 x.e_]:=⟨[.slice a0 x.l.length c0],[.int .i64 x.at_,.int .i64 x.e_],rfl,⟨_,_,rfl,h0.1,h0.2⟩,⟨[.int .i64 x.at_],[.int .i64 x.e_],rfl,rfl,rfl⟩⟩
structure Nx where
 t:Aq
 next:Int
 e_:Int
 deriving DecidableEq,Inhabited
def Uy:Cod Nx:=Ak8 (fun x=>(x.t,x.next,x.e_)) (Lk Ci (Lk (Cu .i64) (Cu .i64)))
theorem Adb {m:List Nat} {w:World} {x:Nx} {cs:List Value} (h:Uy.rep m w x cs):cs=[.int .i64 x.t.kind,.string (mkS x.t.text),.int .i64 x.t.n,.int .i64 x.t.at_,.int .i64 x.next,.int .i64 x.e_]:=by
 obtain⟨_,_,rfl,⟨_,_,rfl,rfl,⟨_,_,rfl,rfl,⟨_,_,rfl,rfl,rfl⟩⟩⟩,⟨_,_,rfl,rfl,rfl⟩⟩:=h
 exact rfl
theorem Agd {m:List Nat} {w:World} (x:Nx):Uy.rep m w x [.int .i64 x.t.kind,.string (mkS x.t.text),.int .i64 x.t.n,.int .i64 x.t.at_,.int .i64 x.next,.int .i64 x.e_]:=⟨[.int .i64 x.t.kind,.string (mkS x.t.text),.int .i64 x.t.n,.int .i64 x.t.at_],[.int .i64 x.next,.int .i64 x.e_],rfl,⟨[.int .i64 x.t.kind],[.string (mkS x.t.text),.int .i64 x.t.n,.int .i64 x.t.at_],rfl,rfl,⟨[.string (mkS x.t.text)],[.int .i64 x.t.n,.int .i64 x.t.at_],rfl,rfl,⟨[.int .i64 x.t.n],[.int .i64 x.t.at_],rfl,rfl,rfl⟩⟩⟩,⟨[.int .i64 x.next],[.int .i64 x.e_],rfl,rfl,rfl⟩⟩
end Go.Ty
namespace Go.Proofs.YtcakelelfklhdaaGreatDoor
open Go.Vc Go.Lv Go.Ty
theorem Abt:Wx Tryz.prog 22 59 5 48:=⟨Tryz.t59,.agg #[.int .i64 0,.string (mkS []),.int .i64 0,.int .i64 0,.int .i64 0],by kernel_rfl,by kernel_rfl,by kernel_rfl,by kernel_rfl,by kernel_rfl,by kernel_rfl,by decide⟩
theorem Asu:Wx Tryz.prog 42 5 1 1:=⟨Tryz.t5,.int .u8 0,by kernel_rfl,by kernel_rfl,by kernel_rfl,by kernel_rfl,by kernel_rfl,by kernel_rfl,by decide⟩
theorem Avs:Wx Tryz.prog 47 3 1 8:=⟨Tryz.t3,.int .i64 0,by kernel_rfl,by kernel_rfl,by kernel_rfl,by kernel_rfl,by kernel_rfl,by kernel_rfl,by decide⟩
theorem Auv:Wx Tryz.prog 51 57 4 40:=⟨Tryz.t57,.agg #[.int .i64 0,.string (mkS []),.int .i64 0,.int .i64 0],by kernel_rfl,by kernel_rfl,by kernel_rfl,by kernel_rfl,by kernel_rfl,by kernel_rfl,by decide⟩
theorem Am5:∀i,Tryz.prog.info? 9=some i->i.zero=some (.string (mkS [])):=fun i hi=>by
 have h1:Tryz.prog.info? 9=some Tryz.t9:=by kernel_rfl
 rw [h1]at hi
 have h2:Tryz.t9.zero=some (.string (mkS [])):=by kernel_rfl
 exact Option.some.inj hi▸h2
theorem Am6:Wx Tryz.prog 74 9 1 16:=⟨Tryz.t9,.string (mkS []),by kernel_rfl,by kernel_rfl,by kernel_rfl,by kernel_rfl,by kernel_rfl,by kernel_rfl,by decide⟩
def L7 (v0:Int) (v1:List Aj) (xs:List (Int)):Prop:=
 ∀(m:List Nat) (w:World),MOk m w->∀(b0:Nat) (cs0:List Value),Ge m w ⟨b0,0,none⟩ cs0->(Cu .i64).rep m w v0 cs0->∀(b1:Nat) (cs1:List Value),Ge m w ⟨b1,0,none⟩ cs1->(cSl A4).rep m w v1 cs1->
 Asg Tryz.prog 55 #[.pointer (some ⟨b0,0,none⟩),.pointer (some ⟨b1,0,none⟩)] [.int .i64] m xs w
def K4 (l:List Aj) (K:(List UInt8)->Int->Prop):Prop:=
 ∀(m:List Nat) (w:World),MOk m w->∀(lA:Option Addr) (lC:Nat),l.length<=lC->SlR A4 m w lA l->
 Calls Tryz.prog 7 #[.slice lA l.length lC] w (Ret fun v w'=>∃(r0:List UInt8) (r1:Int),K r0 r1/\(v= .tuple #[.s r0,.q r1])/\Am [] w w')
def Ju (l:List Aj) (K:Int->Int->Prop):Prop:=
 ∀(m:List Nat) (w:World),MOk m w->∀(lA:Option Addr) (lC:Nat),l.length<=lC->SlR A4 m w lA l->
 Calls Tryz.prog 13 #[.slice lA l.length lC] w (Ret fun v w'=>∃(r0:Int) (r1:Int),K r0 r1/\(v= .tuple #[.q r0,.q r1])/\Am [] w w')
def Bp (wx:Ab) (i:Int) (K:(List Int)->Prop):Prop:=
 ∀(m:List Nat) (w:World),MOk m w->∀(wxb:Nat) (wxA:Option Addr) (wxC:Nat) (Av9:Option Addr) (Awa:Nat),Box w wxb [.slice Av9 (wx.l).length Awa,(wx.b.addr),.slice wxA (wx.b.buf).length wxC,.q (wx.deep)]->(wx.l).length<=Awa->SlR A4 m w Av9 wx.l->
 Calls Tryz.prog 14 #[.pointer (some ⟨wxb,0,none⟩),.q i] w (Ret fun v w'=>∃(r0:List Int),K r0/\(∃(a0:Option Addr) (c0:Nat),v= .slice a0 r0.length c0/\r0.length<=c0/\SlR (Cu .i64) m w' a0 r0)/\Am [] w w')
def D4 (wx:Ab) (i:Int) (K:Ab->Prop):Prop:=
 ∀(m:List Nat) (w:World),MOk m w->∀(wxb:Nat) (wxA:Option Addr) (wxC:Nat) (Awc:List Value) (Av9:Option Addr) (Awa:Nat),wxb∈m->(∀q,Vc.blk wxA=some q->q∈m/\q≠wxb)->Box w wxb [.slice Av9 (wx.l).length Awa,(wx.b.addr),.slice wxA (wx.b.buf).length wxC,.q (wx.deep)]->Rw w 0 5 1 wxA (wx.b.buf).length wxC Awc->El (Cu .u8) m w (wx.b.buf) Awc->(wx.l).length<=Awa->SlR A4 m w Av9 wx.l->Hv 1 wxb (wx.b.addr)->
 Calls Tryz.prog 15 #[.pointer (some ⟨wxb,0,none⟩),.q i] w (Ret fun _ w'=>∃(wx':Ab),K wx'/\(True)/\(∃A' C' xs',Box w' wxb [.slice Av9 (wx.l).length Awa,(wx'.b.addr),.slice A' (wx'.b.buf).length C',.q (wx'.deep)]/\Rw w' 0 5 1 A' (wx'.b.buf).length C' xs'/\El (Cu .u8) ((Vc.blk A').toList++m) w' (wx'.b.buf) xs'/\(∀q,Vc.blk A'=some q->q∈(Vc.blk wxA).toList\/w.heap.size<=q)/\Hv 1 wxb (wx'.b.addr))/\Am (wxb::(Vc.blk wxA).toList) w w')
def G8 (bq:Ab) (K:(List UInt8)->Prop):Prop:=
 ∀(m:List Nat) (w:World),MOk m w->∀(bqb:Nat) (bqA:Option Addr) (bqC:Nat) (Bh1:List Value) (Bew:Option Addr) (Bex:Nat),bqb∈m->(∀q,Vc.blk bqA=some q->q∈m/\q≠bqb)->Box w bqb [.slice Bew (bq.l).length Bex,(bq.b.addr),.slice bqA (bq.b.buf).length bqC,.q (bq.deep)]->Rw w 0 5 1 bqA (bq.b.buf).length bqC Bh1->El (Cu .u8) m w (bq.b.buf) Bh1->(bq.l).length<=Bex->SlR A4 m w Bew bq.l->Hv 1 bqb (bq.b.addr)->
 Calls Tryz.prog 16 #[.pointer (some ⟨bqb,1,none⟩)] w (Ret fun v w'=>∃(r0:List UInt8),K r0/\(v= .s r0)/\Am (bqb::(Vc.blk bqA).toList) w w')
def V7 (l:List Aj) (i:Int) (K:(List UInt8)->Bool->Prop):Prop:=
 ∀(m:List Nat) (w:World),MOk m w->∀(lA:Option Addr) (lC:Nat),l.length<=lC->SlR A4 m w lA l->
 Calls Tryz.prog 12 #[.slice lA l.length lC,.q i] w (Ret fun v w'=>∃(r0:List UInt8) (r1:Bool),K r0 r1/\(v= .tuple #[.s r0,.bool r1])/\Am [] w w')
def Jv (op:Int) (K:Int->Prop):Prop:=
 ∀(m:List Nat) (w:World),MOk m w->
 Calls Tryz.prog 21 #[.q op] w (Ret fun v w'=>∃(r0:Int),K r0/\(v= .q r0)/\Am [] w w')
def Ax (wx:Ab) (i:Int) (K:(List UInt8)->Prop):Prop:=
 ∀(m:List Nat) (w:World),MOk m w->∀(wxb:Nat) (wxA:Option Addr) (wxC:Nat) (Av9:Option Addr) (Awa:Nat),Box w wxb [.slice Av9 (wx.l).length Awa,(wx.b.addr),.slice wxA (wx.b.buf).length wxC,.q (wx.deep)]->(wx.l).length<=Awa->SlR A4 m w Av9 wx.l->
 Calls Tryz.prog 22 #[.pointer (some ⟨wxb,0,none⟩),.q i] w (Ret fun v w'=>∃(r0:List UInt8),K r0/\(v= .s r0)/\Am [] w w')
def P4 (l:List Aj) (i:Int) (K:Int->(List Aj)->Prop):Prop:=
 ∀(m:List Nat) (w:World),MOk m w->∀(lA:Option Addr) (lC:Nat),l.length<=lC->SlR A4 m w lA l->
 Calls Tryz.prog 28 #[.slice lA l.length lC,.q i] w (Ret fun v w'=>∃(r00:Int) (r01:List Aj),K r00 r01/\(∃(b00:Nat) (Bx2:List Value) (b01:Nat) (Bx3:List Value),v= .func (.func 55) #[] #[.pointer (some ⟨b00,0,none⟩),.pointer (some ⟨b01,0,none⟩)]/\(Ge m w' ⟨b00,0,none⟩ Bx2/\(Cu .i64).rep m w' r00 Bx2)/\(Ge m w' ⟨b01,0,none⟩ Bx3/\(cSl A4).rep m w' r01 Bx3))/\Am [] w w')
def Fj (Azl:Int) (seq1:List Aj) (K:(List Int)->Prop):Prop:=
 ∀(m:List Nat) (w:World),MOk m w->∀(Ay3:Nat) (Ayt:List Value),Ge m w ⟨Ay3,0,none⟩ Ayt->(Cu .i64).rep m w Azl Ayt->∀(Ay4:Nat) (Ayu:List Value),Ge m w ⟨Ay4,0,none⟩ Ayu->(cSl A4).rep m w seq1 Ayu->
 Calls Tryz.prog 27 #[.func (.func 55) #[] #[.pointer (some ⟨Ay3,0,none⟩),.pointer (some ⟨Ay4,0,none⟩)]] w (Ret fun v w'=>∃(r0:List Int),K r0/\(∃(a0:Option Addr) (c0:Nat),v= .slice a0 r0.length c0/\r0.length<=c0/\SlR (Cu .i64) m w' a0 r0)/\Am [] w w')
def L8 (i:Int) (K:(List UInt8)->Prop):Prop:=
 ∀(m:List Nat) (w:World),MOk m w->
 Calls Tryz.prog 30 #[.q i] w (Ret fun v w'=>∃(r0:List UInt8),K r0/\(v= .s r0)/\Am [] w w')
def Au (wx:Ab) (parts:List (List UInt8)) (K:Ab->Prop):Prop:=
 ∀(m:List Nat) (w:World),MOk m w->∀(wxb:Nat) (wxA:Option Addr) (wxC:Nat) (Awc:List Value) (Av9:Option Addr) (Awa:Nat),wxb∈m->(∀q,Vc.blk wxA=some q->q∈m/\q≠wxb)->Box w wxb [.slice Av9 (wx.l).length Awa,(wx.b.addr),.slice wxA (wx.b.buf).length wxC,.q (wx.deep)]->Rw w 0 5 1 wxA (wx.b.buf).length wxC Awc->El (Cu .u8) m w (wx.b.buf) Awc->(wx.l).length<=Awa->SlR A4 m w Av9 wx.l->Hv 1 wxb (wx.b.addr)->∀(Ba2:Option Addr) (Ba3:Nat),parts.length<=Ba3->SlR Cy m w Ba2 parts->
 Calls Tryz.prog 29 #[.pointer (some ⟨wxb,0,none⟩),.slice Ba2 parts.length Ba3] w (Ret fun _ w'=>∃(wx':Ab),K wx'/\(True)/\(∃A' C' xs',Box w' wxb [.slice Av9 (wx.l).length Awa,(wx'.b.addr),.slice A' (wx'.b.buf).length C',.q (wx'.deep)]/\Rw w' 0 5 1 A' (wx'.b.buf).length C' xs'/\El (Cu .u8) ((Vc.blk A').toList++m) w' (wx'.b.buf) xs'/\(∀q,Vc.blk A'=some q->q∈(Vc.blk wxA).toList\/w.heap.size<=q)/\Hv 1 wxb (wx'.b.addr))/\Am (wxb::(Vc.blk wxA).toList) w w')
def Jw (elems:List (List UInt8)) (sep:List UInt8) (K:(List UInt8)->Prop):Prop:=
 ∀(m:List Nat) (w:World),MOk m w->∀(Bh2:Option Addr) (Bh3:Nat),elems.length<=Bh3->SlR Cy m w Bh2 elems->
 Calls Tryz.prog 32 #[.slice Bh2 elems.length Bh3,.s sep] w (Ret fun v w'=>∃(r0:List UInt8),K r0/\(v= .s r0)/\Am [] w w')
def A9 (wx:Ab) (i:Int) (front:List (List UInt8)) (K:Ab->Prop):Prop:=
 ∀(m:List Nat) (w:World),MOk m w->∀(wxb:Nat) (wxA:Option Addr) (wxC:Nat) (Awc:List Value) (Av9:Option Addr) (Awa:Nat),wxb∈m->(∀q,Vc.blk wxA=some q->q∈m/\q≠wxb)->Box w wxb [.slice Av9 (wx.l).length Awa,(wx.b.addr),.slice wxA (wx.b.buf).length wxC,.q (wx.deep)]->Rw w 0 5 1 wxA (wx.b.buf).length wxC Awc->El (Cu .u8) m w (wx.b.buf) Awc->(wx.l).length<=Awa->SlR A4 m w Av9 wx.l->Hv 1 wxb (wx.b.addr)->∀(Ba4:Option Addr),SlR Cy m w Ba4 front->
 Calls Tryz.prog 31 #[.pointer (some ⟨wxb,0,none⟩),.q i,.slice Ba4 front.length front.length] w (Ret fun _ w'=>∃(wx':Ab),K wx'/\(True)/\(∃A' C' xs',Box w' wxb [.slice Av9 (wx.l).length Awa,(wx'.b.addr),.slice A' (wx'.b.buf).length C',.q (wx'.deep)]/\Rw w' 0 5 1 A' (wx'.b.buf).length C' xs'/\El (Cu .u8) ((Vc.blk A').toList++m) w' (wx'.b.buf) xs'/\(∀q,Vc.blk A'=some q->q∈(Vc.blk wxA).toList\/w.heap.size<=q)/\Hv 1 wxb (wx'.b.addr))/\Am (wxb::(Vc.blk wxA).toList) w w')
def P5 (op:Int) (K:(List UInt8)->Prop):Prop:=
 ∀(m:List Nat) (w:World),MOk m w->
 Calls Tryz.prog 48 #[.q op] w (Ret fun v w'=>∃(r0:List UInt8),K r0/\(v= .s r0)/\Am [] w w')
def D5 (wx:Ab) (i:Int) (level:Int) (K:(List UInt8)->Prop):Prop:=
 ∀(m:List Nat) (w:World),MOk m w->∀(wxb:Nat) (wxA:Option Addr) (wxC:Nat) (Av9:Option Addr) (Awa:Nat),Box w wxb [.slice Av9 (wx.l).length Awa,(wx.b.addr),.slice wxA (wx.b.buf).length wxC,.q (wx.deep)]->(wx.l).length<=Awa->SlR A4 m w Av9 wx.l->
 Calls Tryz.prog 49 #[.pointer (some ⟨wxb,0,none⟩),.q i,.q level] w (Ret fun v w'=>∃(r0:List UInt8),K r0/\(v= .s r0)/\Am [] w w')
def Ny (sx:List UInt8) (count:Int) (K:(List UInt8)->Prop):Prop:=
 ∀(m:List Nat) (w:World),MOk m w->
 Calls Tryz.prog 58 #[.s sx,.q count] w (Ret fun v w'=>∃(r0:List UInt8),K r0/\(v= .s r0)/\Am [] w w')
def Fk (bq:Ab) (sx:List UInt8) (K:Int->Value->Ab->Prop):Prop:=
 ∀(m:List Nat) (w:World),MOk m w->∀(bqb:Nat) (bqA:Option Addr) (bqC:Nat) (Bh1:List Value) (Bew:Option Addr) (Bex:Nat),bqb∈m->(∀q,Vc.blk bqA=some q->q∈m/\q≠bqb)->Box w bqb [.slice Bew (bq.l).length Bex,(bq.b.addr),.slice bqA (bq.b.buf).length bqC,.q (bq.deep)]->Rw w 0 5 1 bqA (bq.b.buf).length bqC Bh1->El (Cu .u8) m w (bq.b.buf) Bh1->(bq.l).length<=Bex->SlR A4 m w Bew bq.l->Hv 1 bqb (bq.b.addr)->
 Calls Tryz.prog 57 #[.pointer (some ⟨bqb,1,none⟩),.s sx] w (Ret fun v w'=>∃(r0:Int) (r1:Value) (bq':Ab),K r0 r1 bq'/\(v= .tuple #[.q r0,r1])/\(∃A' C' xs',Box w' bqb [.slice Bew (bq.l).length Bex,(bq'.b.addr),.slice A' (bq'.b.buf).length C',.q (bq'.deep)]/\Rw w' 0 5 1 A' (bq'.b.buf).length C' xs'/\El (Cu .u8) ((Vc.blk A').toList++m) w' (bq'.b.buf) xs'/\(∀q,Vc.blk A'=some q->q∈(Vc.blk bqA).toList\/w.heap.size<=q)/\Hv 1 bqb (bq'.b.addr))/\Am (bqb::(Vc.blk bqA).toList) w w')
def Bb (wx:Ab) (l:List Int) (K:Ab->Prop):Prop:=
 ∀(m:List Nat) (w:World),MOk m w->∀(wxb:Nat) (wxA:Option Addr) (wxC:Nat) (Awc:List Value) (Av9:Option Addr) (Awa:Nat),wxb∈m->(∀q,Vc.blk wxA=some q->q∈m/\q≠wxb)->Box w wxb [.slice Av9 (wx.l).length Awa,(wx.b.addr),.slice wxA (wx.b.buf).length wxC,.q (wx.deep)]->Rw w 0 5 1 wxA (wx.b.buf).length wxC Awc->El (Cu .u8) m w (wx.b.buf) Awc->(wx.l).length<=Awa->SlR A4 m w Av9 wx.l->Hv 1 wxb (wx.b.addr)->∀(lA:Option Addr) (lC:Nat),l.length<=lC->SlR (Cu .i64) m w lA l->
 Calls Tryz.prog 60 #[.pointer (some ⟨wxb,0,none⟩),.slice lA l.length lC,.func (.func 61) #[.pointer (some ⟨wxb,0,none⟩)] #[]] w (Ret fun _ w'=>∃(wx':Ab),K wx'/\(True)/\(∃A' C' xs',Box w' wxb [.slice Av9 (wx.l).length Awa,(wx'.b.addr),.slice A' (wx'.b.buf).length C',.q (wx'.deep)]/\Rw w' 0 5 1 A' (wx'.b.buf).length C' xs'/\El (Cu .u8) ((Vc.blk A').toList++m) w' (wx'.b.buf) xs'/\(∀q,Vc.blk A'=some q->q∈(Vc.blk wxA).toList\/w.heap.size<=q)/\Hv 1 wxb (wx'.b.addr))/\Am (wxb::(Vc.blk wxA).toList) w w')
def A5 (wx:Ab) (i:Int) (K:Ab->Prop):Prop:=
 ∀(m:List Nat) (w:World),MOk m w->∀(wxb:Nat) (wxA:Option Addr) (wxC:Nat) (Awc:List Value) (Av9:Option Addr) (Awa:Nat),wxb∈m->(∀q,Vc.blk wxA=some q->q∈m/\q≠wxb)->Box w wxb [.slice Av9 (wx.l).length Awa,(wx.b.addr),.slice wxA (wx.b.buf).length wxC,.q (wx.deep)]->Rw w 0 5 1 wxA (wx.b.buf).length wxC Awc->El (Cu .u8) m w (wx.b.buf) Awc->(wx.l).length<=Awa->SlR A4 m w Av9 wx.l->Hv 1 wxb (wx.b.addr)->
 Calls Tryz.prog 61 #[.pointer (some ⟨wxb,0,none⟩),.q i] w (Ret fun _ w'=>∃(wx':Ab),K wx'/\(True)/\(∃A' C' xs',Box w' wxb [.slice Av9 (wx.l).length Awa,(wx'.b.addr),.slice A' (wx'.b.buf).length C',.q (wx'.deep)]/\Rw w' 0 5 1 A' (wx'.b.buf).length C' xs'/\El (Cu .u8) ((Vc.blk A').toList++m) w' (wx'.b.buf) xs'/\(∀q,Vc.blk A'=some q->q∈(Vc.blk wxA).toList\/w.heap.size<=q)/\Hv 1 wxb (wx'.b.addr))/\Am (wxb::(Vc.blk wxA).toList) w w')
def Da (wx:Ab) (i:Int) (K:(List UInt8)->Prop):Prop:=
 ∀(m:List Nat) (w:World),MOk m w->∀(wxb:Nat) (wxA:Option Addr) (wxC:Nat) (Av9:Option Addr) (Awa:Nat),Box w wxb [.slice Av9 (wx.l).length Awa,(wx.b.addr),.slice wxA (wx.b.buf).length wxC,.q (wx.deep)]->(wx.l).length<=Awa->SlR A4 m w Av9 wx.l->
 Calls Tryz.prog 88 #[.pointer (some ⟨wxb,0,none⟩),.q i] w (Ret fun v w'=>∃(r0:List UInt8),K r0/\(v= .s r0)/\Am [] w w')
def Co (wx:Ab) (l:List Int) (K:Ab->Prop):Prop:=
 ∀(m:List Nat) (w:World),MOk m w->∀(wxb:Nat) (wxA:Option Addr) (wxC:Nat) (Awc:List Value) (Av9:Option Addr) (Awa:Nat),wxb∈m->(∀q,Vc.blk wxA=some q->q∈m/\q≠wxb)->Box w wxb [.slice Av9 (wx.l).length Awa,(wx.b.addr),.slice wxA (wx.b.buf).length wxC,.q (wx.deep)]->Rw w 0 5 1 wxA (wx.b.buf).length wxC Awc->El (Cu .u8) m w (wx.b.buf) Awc->(wx.l).length<=Awa->SlR A4 m w Av9 wx.l->Hv 1 wxb (wx.b.addr)->∀(lA:Option Addr) (lC:Nat),l.length<=lC->SlR (Cu .i64) m w lA l->
 Calls Tryz.prog 60 #[.pointer (some ⟨wxb,0,none⟩),.slice lA l.length lC,.func (.func 89) #[.pointer (some ⟨wxb,0,none⟩)] #[]] w (Ret fun _ w'=>∃(wx':Ab),K wx'/\(True)/\(∃A' C' xs',Box w' wxb [.slice Av9 (wx.l).length Awa,(wx'.b.addr),.slice A' (wx'.b.buf).length C',.q (wx'.deep)]/\Rw w' 0 5 1 A' (wx'.b.buf).length C' xs'/\El (Cu .u8) ((Vc.blk A').toList++m) w' (wx'.b.buf) xs'/\(∀q,Vc.blk A'=some q->q∈(Vc.blk wxA).toList\/w.heap.size<=q)/\Hv 1 wxb (wx'.b.addr))/\Am (wxb::(Vc.blk wxA).toList) w w')
def Hy (wx:Ab) (l:List Int) (K:(List UInt8)->Prop):Prop:=
 ∀(m:List Nat) (w:World),MOk m w->∀(wxb:Nat) (wxA:Option Addr) (wxC:Nat) (Av9:Option Addr) (Awa:Nat),Box w wxb [.slice Av9 (wx.l).length Awa,(wx.b.addr),.slice wxA (wx.b.buf).length wxC,.q (wx.deep)]->(wx.l).length<=Awa->SlR A4 m w Av9 wx.l->∀(lA:Option Addr) (lC:Nat),l.length<=lC->SlR (Cu .i64) m w lA l->
 Calls Tryz.prog 90 #[.pointer (some ⟨wxb,0,none⟩),.slice lA l.length lC] w (Ret fun v w'=>∃(r0:List UInt8),K r0/\(v= .s r0)/\Am [] w w')
def Cv (wx:Ab) (i:Int) (K:Ab->Prop):Prop:=
 ∀(m:List Nat) (w:World),MOk m w->∀(wxb:Nat) (wxA:Option Addr) (wxC:Nat) (Awc:List Value) (Av9:Option Addr) (Awa:Nat),wxb∈m->(∀q,Vc.blk wxA=some q->q∈m/\q≠wxb)->Box w wxb [.slice Av9 (wx.l).length Awa,(wx.b.addr),.slice wxA (wx.b.buf).length wxC,.q (wx.deep)]->Rw w 0 5 1 wxA (wx.b.buf).length wxC Awc->El (Cu .u8) m w (wx.b.buf) Awc->(wx.l).length<=Awa->SlR A4 m w Av9 wx.l->Hv 1 wxb (wx.b.addr)->
 Calls Tryz.prog 89 #[.pointer (some ⟨wxb,0,none⟩),.q i] w (Ret fun _ w'=>∃(wx':Ab),K wx'/\(True)/\(∃A' C' xs',Box w' wxb [.slice Av9 (wx.l).length Awa,(wx'.b.addr),.slice A' (wx'.b.buf).length C',.q (wx'.deep)]/\Rw w' 0 5 1 A' (wx'.b.buf).length C' xs'/\El (Cu .u8) ((Vc.blk A').toList++m) w' (wx'.b.buf) xs'/\(∀q,Vc.blk A'=some q->q∈(Vc.blk wxA).toList\/w.heap.size<=q)/\Hv 1 wxb (wx'.b.addr))/\Am (wxb::(Vc.blk wxA).toList) w w')
def P6 (xq:Aj) (most:Int) (K:(List UInt8)->Bool->Prop):Prop:=
 ∀(m:List Nat) (w:World),MOk m w->∀(Axs:List Value),A4.rep m w xq Axs->
 Calls Tryz.prog 23 #[.agg ⟨Axs⟩,.q most] w (Ret fun v w'=>∃(r0:List UInt8) (r1:Bool),K r0 r1/\(v= .tuple #[.s r0,.bool r1])/\Am [] w w')
def Om (op:Int) (K:Int->Prop):Prop:=
 ∀(m:List Nat) (w:World),MOk m w->
 Calls Tryz.prog 24 #[.q op] w (Ret fun v w'=>∃(r0:Int),K r0/\(v= .int .u8 r0)/\Am [] w w')
def K0 (xq:Aj) (K:Bool->Prop):Prop:=
 ∀(m:List Nat) (w:World),MOk m w->∀(Axs:List Value),A4.rep m w xq Axs->
 Calls Tryz.prog 25 #[.agg ⟨Axs⟩] w (Ret fun v w'=>∃(r0:Bool),K r0/\(v= .bool r0)/\Am [] w w')
def En (sx:List Int) (K:(List Int)->Prop):Prop:=
 ∀(m:List Nat) (w:World),MOk m w->∀(sxA:Option Addr) (sxC:Nat) (Bdo Aw6:List Value) (sxT:Nat) (Ay5:Nat×Nat),(∀b,Vc.blk sxA=some b->b∈m)->sx.length<=sxC->Wn w sxA Bdo Aw6 sxT Ay5->El (Cu .u8) m w sx Bdo->
 Calls Tryz.prog 26 #[.slice sxA sx.length sxC] w (Ret fun _ w'=>∃(sx':List Int),K sx'/\(True)/\(∃xs',Wn w' sxA xs' Aw6 sxT Ay5/\xs'.length=Bdo.length/\El (Cu .u8) m w' sx' xs')/\Am (Vc.blk sxA).toList w w')
def Hl (n:Int) (most:Int) (ahead:List UInt8) (again:Int) (behind:List UInt8) (K:(List UInt8)->Bool->Prop):Prop:=
 ∀(m:List Nat) (w:World),MOk m w->
 Calls Tryz.prog 50 #[.q n,.q most,.s ahead,.int .u8 again,.s behind] w (Ret fun v w'=>∃(r0:List UInt8) (r1:Bool),K r0 r1/\(v= .tuple #[.s r0,.bool r1])/\Am [] w w')
def F7 (xq:Aj) (K:Bool->Prop):Prop:=
 ∀(m:List Nat) (w:World),MOk m w->∀(Axs:List Value),A4.rep m w xq Axs->
 Calls Tryz.prog 51 #[.agg ⟨Axs⟩] w (Ret fun v w'=>∃(r0:Bool),K r0/\(v= .bool r0)/\Am [] w w')
def Jy (op:Int) (K:Bool->Prop):Prop:=
 ∀(m:List Nat) (w:World),MOk m w->
 Calls Tryz.prog 52 #[.q op] w (Ret fun v w'=>∃(r0:Bool),K r0/\(v= .bool r0)/\Am [] w w')
def On (sx:List UInt8) (K:Bool->Prop):Prop:=
 ∀(m:List Nat) (w:World),MOk m w->
 Calls Tryz.prog 53 #[.s sx] w (Ret fun v w'=>∃(r0:Bool),K r0/\(v= .bool r0)/\Am [] w w')
def G9 (xq:List Int) (count:Int) (K:(List Int)->Prop):Prop:=
 ∀(m:List Nat) (w:World),MOk m w->∀(xqA:Option Addr) (xqC:Nat),xq.length<=xqC->SlR (Cu .u8) m w xqA xq->
 Calls Tryz.prog 78 #[.slice xqA xq.length xqC,.q count] w (Ret fun v w'=>∃(r0:List Int),K r0/\(∃(a0:Option Addr) (c0:Nat),v= .slice a0 r0.length c0/\r0.length<=c0/\SlR (Cu .u8) m w' a0 r0)/\Am [] w w')
def Sh (l:List Aj) (i:Int) (K:Int->Prop):Prop:=
 ∀(m:List Nat) (w:World),MOk m w->∀(lA:Option Addr) (lC:Nat),l.length<=lC->SlR A4 m w lA l->
 Calls Tryz.prog 56 #[.slice lA l.length lC,.q i] w (Ret fun v w'=>∃(r0:Int),K r0/\(v= .q r0)/\Am [] w w')
def Jz (cq:Int) (K:Bool->Prop):Prop:=
 ∀(m:List Nat) (w:World),MOk m w->
 Calls Tryz.prog 79 #[.int .u8 cq] w (Ret fun v w'=>∃(r0:Bool),K r0/\(v= .bool r0)/\Am [] w w')
def Fv (sx:List UInt8) (K:(List UInt8)->Prop):Prop:=
 ∀(m:List Nat) (w:World),MOk m w->
 Calls Tryz.prog 80 #[.s sx,.func (.func 81) #[] #[]] w (Ret fun v w'=>∃(r0:List UInt8),K r0/\(v= .s r0)/\Am [] w w')
def Oo (sx:List UInt8) (K:Bool->Prop):Prop:=
 ∀(m:List Nat) (w:World),MOk m w->
 Calls Tryz.prog 82 #[.s sx] w (Ret fun v w'=>∃(r0:Bool),K r0/\(v= .bool r0)/\Am [] w w')
def Ru (K:(List (List UInt8))->Prop):Prop:=
 ∀(m:List Nat) (w:World),MOk m w->
 Calls Tryz.prog 95 #[] w (Ret fun v w'=>∃(r0:List (List UInt8)),K r0/\(∃(a0:Option Addr) (c0:Nat),v= .slice a0 r0.length c0/\r0.length<=c0/\SlR Cy m w' a0 r0)/\Am [] w w')
def C3 (xq:List (List UInt8)) (target:List UInt8) (K:Int->Bool->Prop):Prop:=
 ∀(m:List Nat) (w:World),MOk m w->∀(xqA:Option Addr) (xqC:Nat),xq.length<=xqC->SlR Cy m w xqA xq->
 Calls Tryz.prog 94 #[.slice xqA xq.length xqC,.s target] w (Ret fun v w'=>∃(r0:Int) (r1:Bool),K r0 r1/\(v= .tuple #[.q r0,.bool r1])/\Am [] w w')
def M8 (cq:Int) (K:Bool->Prop):Prop:=
 ∀(m:List Nat) (w:World),MOk m w->
 Calls Tryz.prog 93 #[.int .u8 cq] w (Ret fun v w'=>∃(r0:Bool),K r0/\(v= .bool r0)/\Am [] w w')
def L9 (cq:Int) (K:Bool->Prop):Prop:=
 ∀(m:List Nat) (w:World),MOk m w->
 Calls Tryz.prog 81 #[.int .u8 cq] w (Ret fun v w'=>∃(r0:Bool),K r0/\(v= .bool r0)/\Am [] w w')
def J0 (xq:List UInt8) (y:List UInt8) (K:Bool->Prop):Prop:=
 ∀(m:List Nat) (w:World),MOk m w->
 Calls Tryz.prog 106 #[.s xq,.s y] w (Ret fun v w'=>∃(r0:Bool),K r0/\(v= .bool r0)/\Am [] w w')
def E9 (xq:List UInt8) (K:Bool->Prop):Prop:=
 ∀(m:List Nat) (w:World),MOk m w->
 Calls Tryz.prog 107 #[.s xq] w (Ret fun v w'=>∃(r0:Bool),K r0/\(v= .bool r0)/\Am [] w w')
def Gl (xq:List UInt8) (K:Bool->Prop):Prop:=
 ∀(m:List Nat) (w:World),MOk m w->
 Calls Tryz.prog 118 #[.s xq] w (Ret fun v w'=>∃(r0:Bool),K r0/\(v= .bool r0)/\Am [] w w')
def Si (aq:List Aj) (bq:List Aj) (K:Bool->Prop):Prop:=
 ∀(m:List Nat) (w:World),MOk m w->∀(aqA:Option Addr) (aqC:Nat),aq.length<=aqC->SlR A4 m w aqA aq->∀(bqA:Option Addr) (bqC:Nat),bq.length<=bqC->SlR A4 m w bqA bq->
 Calls Tryz.prog 10 #[.slice aqA aq.length aqC,.slice bqA bq.length bqC] w (Ret fun v w'=>∃(r0:Bool),K r0/\(v= .bool r0)/\Am [] w w')
def Yt (xq:Aj) (kids:Int) (K:Bool->Prop):Prop:=
 ∀(m:List Nat) (w:World),MOk m w->∀(Axs:List Value),A4.rep m w xq Axs->
 Calls Tryz.prog 43 #[.agg ⟨Axs⟩,.q kids] w (Ret fun v w'=>∃(r0:Bool),K r0/\(v= .bool r0)/\Am [] w w')
def Yu (sx:List UInt8) (K:Bool->Prop):Prop:=
 ∀(m:List Nat) (w:World),MOk m w->
 Calls Tryz.prog 46 #[.s sx] w (Ret fun v w'=>∃(r0:Bool),K r0/\(v= .bool r0)/\Am [] w w')
def Cm (toks:List Aq) (atx:Int) (sx:List UInt8) (K:Bool->Prop):Prop:=
 ∀(m:List Nat) (w:World),MOk m w->∀(Av4:Option Addr) (Av5:Nat),toks.length<=Av5->SlR Ci m w Av4 toks->
 Calls Tryz.prog 70 #[.slice Av4 toks.length Av5,.q atx,.s sx] w (Ret fun v w'=>∃(r0:Bool),K r0/\(v= .bool r0)/\Am [] w w')
def Dp (toks:List Aq) (atx:Int) (K:Aq->Prop):Prop:=
 ∀(m:List Nat) (w:World),MOk m w->∀(Av4:Option Addr) (Av5:Nat),toks.length<=Av5->SlR Ci m w Av4 toks->
 Calls Tryz.prog 35 #[.slice Av4 toks.length Av5,.q atx] w (Ret fun v w'=>∃(r0:Aq),K r0/\(∃(cs0:List Value),v= .agg ⟨cs0⟩/\Ci.rep m w' r0 cs0)/\Am [] w w')
def D6 (atx:Int) (K:Ai->Prop):Prop:=
 ∀(m:List Nat) (w:World),MOk m w->
 Calls Tryz.prog 34 #[.q atx] w (Ret fun v w'=>∃(r0:Ai),K r0/\(∃(cs0:List Value),v= .agg ⟨cs0⟩/\Bi.rep m w' r0 cs0)/\Am [] w w')
def Uz (toks:List Aq) (atx:Int) (K:Ai->Prop):Prop:=
 ∀(m:List Nat) (w:World),MOk m w->∀(Av4:Option Addr) (Av5:Nat),toks.length<=Av5->SlR Ci m w Av4 toks->
 Calls Tryz.prog 121 #[.slice Av4 toks.length Av5,.q atx] w (Ret fun v w'=>∃(r0:Ai),K r0/\(∃(cs0:List Value),v= .agg ⟨cs0⟩/\Bi.rep m w' r0 cs0)/\Am [] w w')
def Db (cq:Ai) (toks:List Aq) (K:Ai->(List UInt8)->Prop):Prop:=
 ∀(m:List Nat) (w:World),MOk m w->∀(Awv:List Value),Bi.rep m w cq Awv->∀(Av4:Option Addr) (Av5:Nat),toks.length<=Av5->SlR Ci m w Av4 toks->
 Calls Tryz.prog 72 #[.agg ⟨Awv⟩,.slice Av4 toks.length Av5] w (Ret fun v w'=>∃(r0:Ai) (r1:List UInt8),K r0 r1/\(∃(cs0:List Value),v= .tuple #[.agg ⟨cs0⟩,.s r1]/\Bi.rep m w' r0 cs0)/\Am [] w w')
def Ak (cq:Ai) (toks:List Aq) (sx:List UInt8) (K:Ai->Prop):Prop:=
 ∀(m:List Nat) (w:World),MOk m w->∀(Awv:List Value),Bi.rep m w cq Awv->∀(Av4:Option Addr) (Av5:Nat),toks.length<=Av5->SlR Ci m w Av4 toks->
 Calls Tryz.prog 71 #[.agg ⟨Awv⟩,.slice Av4 toks.length Av5,.s sx] w (Ret fun v w'=>∃(r0:Ai),K r0/\(∃(cs0:List Value),v= .agg ⟨cs0⟩/\Bi.rep m w' r0 cs0)/\Am [] w w')
def Bj (cq:Ai) (toks:List Aq) (K:Ai->Prop):Prop:=
 ∀(m:List Nat) (w:World),MOk m w->∀(Awv:List Value),Bi.rep m w cq Awv->∀(Av4:Option Addr) (Av5:Nat),toks.length<=Av5->SlR Ci m w Av4 toks->
 Calls Tryz.prog 115 #[.agg ⟨Awv⟩,.slice Av4 toks.length Av5] w (Ret fun v w'=>∃(r0:Ai),K r0/\(∃(cs0:List Value),v= .agg ⟨cs0⟩/\Bi.rep m w' r0 cs0)/\Am [] w w')
def Ay (cq:Ai) (xq:Aj) (K:Ai->Prop):Prop:=
 ∀(m:List Nat) (w:World),MOk m w->∀(Awv:List Value),Bi.rep m w cq Awv->∀(Axs:List Value),A4.rep m w xq Axs->
 Calls Tryz.prog 38 #[.agg ⟨Awv⟩,.agg ⟨Axs⟩] w (Ret fun v w'=>∃(r0:Ai),K r0/\(∃(cs0:List Value),v= .agg ⟨cs0⟩/\Bi.rep m w' r0 cs0)/\Am [] w w')
def K5 (toks:List Aq) (atx:Int) (deep:Int) (K:Ai->Prop):Prop:=
 ∀(m:List Nat) (w:World),MOk m w->∀(Av4:Option Addr) (Av5:Nat),toks.length<=Av5->SlR Ci m w Av4 toks->
 Calls Tryz.prog 92 #[.slice Av4 toks.length Av5,.q atx,.q deep] w (Ret fun v w'=>∃(r0:Ai),K r0/\(∃(cs0:List Value),v= .agg ⟨cs0⟩/\Bi.rep m w' r0 cs0)/\Am [] w w')
def Ma (toks:List Aq) (atx:Int) (deep:Int) (K:Ai->Prop):Prop:=
 ∀(m:List Nat) (w:World),MOk m w->∀(Av4:Option Addr) (Av5:Nat),toks.length<=Av5->SlR Ci m w Av4 toks->
 Calls Tryz.prog 105 #[.slice Av4 toks.length Av5,.q atx,.q deep] w (Ret fun v w'=>∃(r0:Ai),K r0/\(∃(cs0:List Value),v= .agg ⟨cs0⟩/\Bi.rep m w' r0 cs0)/\Am [] w w')
def Dc (cq:Ai) (d:Ai) (K:Ai->Prop):Prop:=
 ∀(m:List Nat) (w:World),MOk m w->∀(Awv:List Value),Bi.rep m w cq Awv->∀(dcs:List Value),Bi.rep m w d dcs->
 Calls Tryz.prog 36 #[.agg ⟨Awv⟩,.agg ⟨dcs⟩] w (Ret fun v w'=>∃(r0:Ai),K r0/\(∃(cs0:List Value),v= .agg ⟨cs0⟩/\Bi.rep m w' r0 cs0)/\Am [] w w')
def Lw (toks:List Aq) (atx:Int) (deep:Int) (K:Ai->Prop):Prop:=
 ∀(m:List Nat) (w:World),MOk m w->∀(Av4:Option Addr) (Av5:Nat),toks.length<=Av5->SlR Ci m w Av4 toks->
 Calls Tryz.prog 117 #[.slice Av4 toks.length Av5,.q atx,.q deep] w (Ret fun v w'=>∃(r0:Ai),K r0/\(∃(cs0:List Value),v= .agg ⟨cs0⟩/\Bi.rep m w' r0 cs0)/\Am [] w w')
def Es (cq:Ai) (toks:List Aq) (deep:Int) (K:Ai->Prop):Prop:=
 ∀(m:List Nat) (w:World),MOk m w->∀(Awv:List Value),Bi.rep m w cq Awv->∀(Av4:Option Addr) (Av5:Nat),toks.length<=Av5->SlR Ci m w Av4 toks->
 Calls Tryz.prog 75 #[.agg ⟨Awv⟩,.slice Av4 toks.length Av5,.q deep] w (Ret fun v w'=>∃(r0:Ai),K r0/\(∃(cs0:List Value),v= .agg ⟨cs0⟩/\Bi.rep m w' r0 cs0)/\Am [] w w')
def J7 (cq:Ai) (toks:List Aq) (send:Int) (recv:Int) (K:Ai->Int->(List UInt8)->Prop):Prop:=
 ∀(m:List Nat) (w:World),MOk m w->∀(Awv:List Value),Bi.rep m w cq Awv->∀(Av4:Option Addr) (Av5:Nat),toks.length<=Av5->SlR Ci m w Av4 toks->
 Calls Tryz.prog 114 #[.agg ⟨Awv⟩,.slice Av4 toks.length Av5,.q send,.q recv] w (Ret fun v w'=>∃(r0:Ai) (r1:Int) (r2:List UInt8),K r0 r1 r2/\(∃(cs0:List Value),v= .tuple #[.agg ⟨cs0⟩,.q r1,.s r2]/\Bi.rep m w' r0 cs0)/\Am [] w w')
def U0 (toks:List Aq) (atx:Int) (xq:Aj) (K:Ai->Prop):Prop:=
 ∀(m:List Nat) (w:World),MOk m w->∀(Av4:Option Addr) (Av5:Nat),toks.length<=Av5->SlR Ci m w Av4 toks->∀(Axs:List Value),A4.rep m w xq Axs->
 Calls Tryz.prog 113 #[.slice Av4 toks.length Av5,.q atx,.agg ⟨Axs⟩] w (Ret fun v w'=>∃(r0:Ai),K r0/\(∃(cs0:List Value),v= .agg ⟨cs0⟩/\Bi.rep m w' r0 cs0)/\Am [] w w')
def Mb (cq:Ai) (toks:List Aq) (K:Ai->Prop):Prop:=
 ∀(m:List Nat) (w:World),MOk m w->∀(Awv:List Value),Bi.rep m w cq Awv->∀(Av4:Option Addr) (Av5:Nat),toks.length<=Av5->SlR Ci m w Av4 toks->
 Calls Tryz.prog 116 #[.agg ⟨Awv⟩,.slice Av4 toks.length Av5] w (Ret fun v w'=>∃(r0:Ai),K r0/\(∃(cs0:List Value),v= .agg ⟨cs0⟩/\Bi.rep m w' r0 cs0)/\Am [] w w')
def Sj (toks:List Aq) (atx:Int) (K:Ai->Prop):Prop:=
 ∀(m:List Nat) (w:World),MOk m w->∀(Av4:Option Addr) (Av5:Nat),toks.length<=Av5->SlR Ci m w Av4 toks->
 Calls Tryz.prog 37 #[.slice Av4 toks.length Av5,.q atx] w (Ret fun v w'=>∃(r0:Ai),K r0/\(∃(cs0:List Value),v= .agg ⟨cs0⟩/\Bi.rep m w' r0 cs0)/\Am [] w w')
def Mc (cq:Ai) (toks:List Aq) (K:Ai->Int->Prop):Prop:=
 ∀(m:List Nat) (w:World),MOk m w->∀(Awv:List Value),Bi.rep m w cq Awv->∀(Av4:Option Addr) (Av5:Nat),toks.length<=Av5->SlR Ci m w Av4 toks->
 Calls Tryz.prog 73 #[.agg ⟨Awv⟩,.slice Av4 toks.length Av5] w (Ret fun v w'=>∃(r0:Ai) (r1:Int),K r0 r1/\(∃(cs0:List Value),v= .tuple #[.agg ⟨cs0⟩,.q r1]/\Bi.rep m w' r0 cs0)/\Am [] w w')
def H8 (cq:Ai) (toks:List Aq) (K:Ai->Prop):Prop:=
 ∀(m:List Nat) (w:World),MOk m w->∀(Awv:List Value),Bi.rep m w cq Awv->∀(Av4:Option Addr) (Av5:Nat),toks.length<=Av5->SlR Ci m w Av4 toks->
 Calls Tryz.prog 74 #[.agg ⟨Awv⟩,.slice Av4 toks.length Av5] w (Ret fun v w'=>∃(r0:Ai),K r0/\(∃(cs0:List Value),v= .agg ⟨cs0⟩/\Bi.rep m w' r0 cs0)/\Am [] w w')
def Oq (toks:List Aq) (K:Ap->Prop):Prop:=
 ∀(m:List Nat) (w:World),MOk m w->∀(Av4:Option Addr) (Av5:Nat),toks.length<=Av5->SlR Ci m w Av4 toks->
 Calls Tryz.prog 18 #[.slice Av4 toks.length Av5] w (Ret fun v w'=>∃(r0:Ap),K r0/\(∃(cs0:List Value),v= .agg ⟨cs0⟩/\Km.rep m w' r0 cs0)/\Am [] w w')
def Md (sx:List UInt8) (K:Ap->Prop):Prop:=
 ∀(m:List Nat) (w:World),MOk m w->
 Calls Tryz.prog 8 #[.s sx] w (Ret fun v w'=>∃(r0:Ap),K r0/\(∃(cs0:List Value),v= .agg ⟨cs0⟩/\Km.rep m w' r0 cs0)/\Am [] w w')
def U1 (sx:List UInt8) (K:Dm->Prop):Prop:=
 ∀(m:List Nat) (w:World),MOk m w->
 Calls Tryz.prog 17 #[.s sx] w (Ret fun v w'=>∃(r0:Dm),K r0/\(∃(cs0:List Value),v= .agg ⟨cs0⟩/\Sg.rep m w' r0 cs0)/\Am [] w w')
def Ms (toks:List Aq) (atx:Int) (K:Ap->Prop):Prop:=
 ∀(m:List Nat) (w:World),MOk m w->∀(Av4:Option Addr) (Av5:Nat),toks.length<=Av5->SlR Ci m w Av4 toks->
 Calls Tryz.prog 122 #[.slice Av4 toks.length Av5,.q atx] w (Ret fun v w'=>∃(r0:Ap),K r0/\(∃(cs0:List Value),v= .agg ⟨cs0⟩/\Km.rep m w' r0 cs0)/\Am [] w w')
def Yv (sx:List UInt8) (atx:Int) (K:Nx->Prop):Prop:=
 ∀(m:List Nat) (w:World),MOk m w->
 Calls Tryz.prog 33 #[.s sx,.q atx] w (Ret fun v w'=>∃(r0:Nx),K r0/\(∃(cs0:List Value),v= .agg ⟨cs0⟩/\Uy.rep m w' r0 cs0)/\Am [] w w')
def Fl (toks:List Aq) (atx:Int) (n:Int) (deep:Int) (K:Ap->Prop):Prop:=
 ∀(m:List Nat) (w:World),MOk m w->∀(Av4:Option Addr) (Av5:Nat),toks.length<=Av5->SlR Ci m w Av4 toks->
 Calls Tryz.prog 123 #[.slice Av4 toks.length Av5,.q atx,.q n,.q deep] w (Ret fun v w'=>∃(r0:Ap),K r0/\(∃(cs0:List Value),v= .agg ⟨cs0⟩/\Km.rep m w' r0 cs0)/\Am [] w w')
def Kn (toks:List Aq) (atx:Int) (deep:Int) (K:Ap->Prop):Prop:=
 ∀(m:List Nat) (w:World),MOk m w->∀(Av4:Option Addr) (Av5:Nat),toks.length<=Av5->SlR Ci m w Av4 toks->
 Calls Tryz.prog 124 #[.slice Av4 toks.length Av5,.q atx,.q deep] w (Ret fun v w'=>∃(r0:Ap),K r0/\(∃(cs0:List Value),v= .agg ⟨cs0⟩/\Km.rep m w' r0 cs0)/\Am [] w w')
def Age (sx:List UInt8) (K:Int->Prop):Prop:=
 ∀(m:List Nat) (w:World),MOk m w->
 Calls Tryz.prog 125 #[.s sx] w (Ret fun v w'=>∃(r0:Int),K r0/\(v= .q r0)/\Am [] w w')
def V8 (op:Int) (K:Int->Prop):Prop:=
 ∀(m:List Nat) (w:World),MOk m w->
 Calls Tryz.prog 126 #[.q op] w (Ret fun v w'=>∃(r0:Int),K r0/\(v= .q r0)/\Am [] w w')
def Me (K:Bool->Prop):Prop:=
 ∀(m:List Nat) (w:World),MOk m w->
 Calls Tryz.prog 6 #[] w (Ret fun v w'=>∃(r0:Bool),K r0/\(v= .bool r0)/\Am [] w w')
def P7 (sx:List UInt8) (K:Bool->Prop):Prop:=
 ∀(m:List Nat) (w:World),MOk m w->
 Calls Tryz.prog 4 #[.s sx] w (Ret fun v w'=>∃(r0:Bool),K r0/\(v= .bool r0)/\Am [] w w')
def Dg (Azl:Int) (seq1:List Aj) (K:(List Int)->Prop):Prop:=
 ∀(m:List Nat) (w:World),MOk m w->∀(Ay3:Nat) (Ayt:List Value),Ge m w ⟨Ay3,0,none⟩ Ayt->(Cu .i64).rep m w Azl Ayt->∀(Ay4:Nat) (Ayu:List Value),Ge m w ⟨Ay4,0,none⟩ Ayu->(cSl A4).rep m w seq1 Ayu->
 Calls Tryz.prog 54 #[.slice none 0 0,.func (.func 55) #[] #[.pointer (some ⟨Ay3,0,none⟩),.pointer (some ⟨Ay4,0,none⟩)]] w (Ret fun v w'=>∃(r0:List Int),K r0/\(∃(a0:Option Addr) (c0:Nat),v= .slice a0 r0.length c0/\r0.length<=c0/\SlR (Cu .i64) m w' a0 r0)/\Am [] w w')
end Go.Proofs.YtcakelelfklhdaaGreatDoor
