/- A part of the proof: conditions of the code, contracts, the plain law. -/
import Derived.Test.YtcakelelfklhdaaGreatDoorRows
import Derived.Test.YtcakelelfklhdaaGreatDoorVcI
namespace Go.Proofs.YtcakelelfklhdaaGreatDoor
open Go.Vc
def Adi (x0:Option Addr) (x1:Nat) (x2:Nat) (K:Value->World->Prop) (w:World):Prop:=
 Calls Tryz.prog 13 #[.slice x0 x1 x2] w (Ret fun x3 w1=>
 ∃x4 x5,x3= .tuple #[.q x4,.q x5]/\
 cond (x5 !=0)
 (K (.tuple #[.s [],.q x5]) w1)
 (∀x6 w2,x6=w1.heap.size->w2=w1.alloc (.cells #[.slice x0 x1 x2,.pointer none,.slice none 0 0,.q 0] 46)->
 Calls Tryz.prog 14 #[.pointer (some ⟨x6,0,none⟩),.q 0] w2 (Ret fun x7 w3=>
 ∃x8 x9 x10,x7= .slice x8 x9 x10/\
 ∃(I:Int->World->Prop) (x11:Int->World->Nat),I 0 w3/\
 ∀(_x12:Nat->Value) (x13:Int) (w4:World),I x13 w4->
 cond (decide (x13<(x9:Int)))
 (((0:Int)<=x13/\x13<(x9:Int))/\
 A5 x8 (fun x14=>
 ∃x15,w4.cell? (x14.add (x13.toNat*1))=some (.q x15)/\
 Calls Tryz.prog 15 #[.pointer (some ⟨x6,0,none⟩),.q x15] w4 (Ret fun _x16 w5=>
 I (IntKind.i64.wrap (x13+1)) w5/\x11 (IntKind.i64.wrap (x13+1)) w5<x11 x13 w4)))
 (Calls Tryz.prog 16 #[.pointer (some ⟨x6,1,none⟩)] w4 (Ret fun x17 w6=>
 ∃x18,x17= .s x18/\
 K (.tuple #[.s x18,.q 0]) w6)))))
theorem Adj (x0:Option Addr) (x1:Nat) (x2:Nat) (K:Value->World->Prop) (w:World) (h:Adi x0 x1 x2 K w):Calls Tryz.prog 7 #[.slice x0 x1 x2] w (Ret K):=
 Ao { loops:=[(122,[(23,.int .i64)])] } Tryz.func7 (by kernel_rfl) h
def Adk (x0:Option Addr) (x1:Nat) (x2:Nat) (x3:Int) (K:Value->World->Prop) (w:World):Prop:=
 Calls Tryz.prog 13 #[.slice x0 x1 x2] w (Ret fun x4 w1=>
 ∃x5 x6,x4= .tuple #[.q x5,.q x6]/\
 ∃(J:Bool->World->Prop),
 (cond (x6 !=0)
 (J true w1)
 (cond (decide (x3<0))
 (J true w1)
 (cond (decide (x3>=(x1:Int)))
 (J true w1)
 (((0:Int)<=x3/\x3<(x1:Int))/\
 A5 x0 (fun x7=>
 ∃x8,w1.cell? (x7.add (x3.toNat*5))=some (.q x8)/\
 Calls Tryz.prog 21 #[.q x8] w1 (Ret fun x9 w2=>
 ∃x10,x9= .q x10/\
 J (x10==0) w2))))))/\
 ∀(_x11:Nat->Value) (x12:Bool) (w3:World),J x12 w3->
 cond (x12)
 (K (.tuple #[.s [],.bool false]) w3)
 (∀x13 w4,x13=w3.heap.size->w4=w3.alloc (.cells #[.slice x0 x1 x2,.pointer none,.slice none 0 0,.q 0] 46)->
 Calls Tryz.prog 22 #[.pointer (some ⟨x13,0,none⟩),.q x3] w4 (Ret fun x14 w5=>
 ∃x15,x14= .s x15/\
 K (.tuple #[.s x15,.bool true]) w5)))
theorem Adl (x0:Option Addr) (x1:Nat) (x2:Nat) (x3:Int) (K:Value->World->Prop) (w:World) (h:Adk x0 x1 x2 x3 K w):Calls Tryz.prog 12 #[.slice x0 x1 x2,.q x3] w (Ret K):=
 Ao { Axo:=[(13,[(33,.bool)])] } Tryz.func12 (by kernel_rfl) h
def Rd (x0:Nat) (x1:Int) (K:Value->World->Prop) (w:World):Prop:=
 ∃x2 x3 x4,w.cell? ⟨x0,0,none⟩=some (.slice x2 x3 x4)/\
 Calls Tryz.prog 28 #[.slice x2 x3 x4,.q x1] w (Ret fun x5 w1=>
 Calls Tryz.prog 27 #[x5] w1 (Ret fun x6 w2=>
 ∃x7 x8 x9,x6= .slice x7 x8 x9/\
 K (.slice x7 x8 x9) w2))
theorem Re (x0:Nat) (x1:Int) (K:Value->World->Prop) (w:World) (h:Rd x0 x1 K w):Calls Tryz.prog 14 #[.pointer (some ⟨x0,0,none⟩),.q x1] w (Ret K):=
 Ao {} Tryz.func14 (by kernel_rfl) h
def Rf (x0:Nat) (x1:Int) (K:Value->World->Prop) (w:World):Prop:=
 ∃(J:Option Addr->Option Addr->Nat->Nat->World->Prop),
 (∀w1,w1=w.drew->
 ∃(S:World->Prop),S w1/\
 ∃x2 x3 x4,(∀u,S u->u.cell? ⟨x0,0,none⟩=some (.slice x2 x3 x4))/\
 ((0:Int)<=x1/\x1<(x3:Int))/\
 A5 x2 (fun x5=>
 ∃x6 x7 x8 x9 x10,(∀u,S u->Ad u (x5.add (x1.toNat*5)) [.q x6,.s x7,.q x8,.q x9,.q x10])/\
 (Calls Tryz.prog 14 #[.pointer (some ⟨x0,0,none⟩),.q x1] w1 (Ret fun x11 w2=>
 ∃x12 x13 x14,x11= .slice x12 x13 x14/\
 S w2/\
 ∀x15 w3,x15=w2.heap.size->w3=w2.alloc (.cells #[.q 0,.s [],.q 0,.q 0,.q 0] 59)->
 S w3/\
 Af w3 ⟨x15,0,none⟩ 5/\∀w4,w4=setCells w3 ⟨x15,0,none⟩ [.q x6,.s x7,.q x8,.q x9,.q x10]->
 J (some ⟨x15,0,none⟩) x12 x13 x14 w4))/\
 (∀x16 w5,x16=w1.heap.size->w5=w1.alloc (.cells #[.q 0,.s [],.q 0,.q 0,.q 0] 59)->
 S w5/\
 Calls Tryz.prog 14 #[.pointer (some ⟨x0,0,none⟩),.q x1] w5 (Ret fun x17 w6=>
 ∃x18 x19 x20,x17= .slice x18 x19 x20/\
 S w6/\
 Af w6 ⟨x16,0,none⟩ 5/\∀w7,w7=setCells w6 ⟨x16,0,none⟩ [.q x6,.s x7,.q x8,.q x9,.q x10]->
 J (some ⟨x16,0,none⟩) x18 x19 x20 w7))))/\
 ∀(_x21:Nat->Value) (x22:Option Addr) (x23:Option Addr) (x24:Nat) (x25:Nat) (w8:World),J x22 x23 x24 x25 w8->
 A5 x22 (fun x26=>
 ∃x27,w8.cell? x26=some (.q x27)/\
 cond (x27==38)
 (A5 x22 (fun x28=>
 ∃x29,w8.cell? (x28.add 2)=some (.q x29)/\
 cond (decide (x29>0))
 (∀w9,w9=w8.drew->
 ∃(S1:World->Prop),S1 w9/\
 A5 x22 (fun x30=>
 A5 x22 (fun x31=>
 ∃x32,(∀u,S1 u->u.cell? (x30.add 1)=some (.s x32))/\
 ∃x33,(∀u,S1 u->u.cell? (x31.add 2)=some (.q x33))/\
 Calls Tryz.prog 30 #[.q x33] w9 (Ret fun x34 w10=>
 ∃x35,x34= .s x35/\
 S1 w10/\
 ∀x36 w11,x36=w10.heap.size->w11=w10.alloc (.cells #[.s [99,104,97,110,32],.s x32,.s [91],.s x35,.s [93,59]] 9)->
 Calls Tryz.prog 29 #[.pointer (some ⟨x0,0,none⟩),.slice (some ⟨x36,0,none⟩) 5 5] w11 (Ret fun _x37 w12=>
 K (.tuple #[]) w12)))))
 (A5 x22 (fun x38=>
 ∃x39,w8.cell? (x38.add 1)=some (.s x39)/\
 ∀x40 w13,x40=w8.heap.size->w13=w8.alloc (.cells #[.s [99,104,97,110,32],.s x39,.s [59]] 9)->
 Calls Tryz.prog 29 #[.pointer (some ⟨x0,0,none⟩),.slice (some ⟨x40,0,none⟩) 3 3] w13 (Ret fun _x41 w14=>
 K (.tuple #[]) w14)))))
 (cond (x27==40)
 (Bl Tryz.prog (Instr.makeSlice 74 (.q 0) (.q (x24:Int))) (fun x42 w15=>
 ∃x43 x44 x45,x42= .slice x43 x44 x45/\
 ((0:Int)<=(IntKind.i64.wrap ((x24:Int)-1))/\(IntKind.i64.wrap ((x24:Int)-1))<=(x25:Int))/\
 ∃(I:Option Addr->Nat->Nat->Int->World->Prop) (x46:Option Addr->Nat->Nat->Int->World->Nat),I x43 x44 x45 0 w15/\
 ∀(_x47:Nat->Value) (x48:Option Addr) (x49:Nat) (x50:Nat) (x51:Int) (w16:World),I x48 x49 x50 x51 w16->
 cond (decide (x51<(((IntKind.i64.wrap ((x24:Int)-1)).toNat:Nat):Int)))
 (((0:Int)<=x51/\x51<(((IntKind.i64.wrap ((x24:Int)-1)).toNat:Nat):Int))/\
 A5 (Hp x23 0 x25 1) (fun x52=>
 ∃x53,w16.cell? (x52.add (x51.toNat*1))=some (.q x53)/\
 ∃x54 x55 x56,w16.cell? ⟨x0,0,none⟩=some (.slice x54 x55 x56)/\
 ((0:Int)<=x53/\x53<(x55:Int))/\
 A5 x54 (fun x57=>
 ∃x58,w16.cell? ((x57.add (x53.toNat*5)).add 1)=some (.s x58)/\
 ∀x59 w17,x59=w16.heap.size->w17=w16.alloc (.cells #[.s x58] 9)->
 Bl Tryz.prog (Builtin.append_ #[74,74] 74 #[.slice x48 x49 x50,.slice (some ⟨x59,0,none⟩) 1 1]) (fun x60 w18=>
 ∃x61 x62 x63,x60= .slice x61 x62 x63/\
 I x61 x62 x63 (IntKind.i64.wrap (x51+1)) w18/\x46 x61 x62 x63 (IntKind.i64.wrap (x51+1)) w18<x46 x48 x49 x50 x51 w16) w17)))
 (∀w19,w19=w16.drew->
 ∃(S2:World->Prop),S2 w19/\
 ((0:Int)<=(IntKind.i64.wrap ((x24:Int)-1))/\(IntKind.i64.wrap ((x24:Int)-1))<(x24:Int))/\
 A5 x23 (fun x64=>
 A5 x22 (fun x65=>
 ∃x66,(∀u,S2 u->u.cell? (x64.add ((IntKind.i64.wrap ((x24:Int)-1)).toNat*1))=some (.q x66))/\
 ∃x67,(∀u,S2 u->u.cell? (x65.add 1)=some (.s x67))/\
 Calls Tryz.prog 32 #[.slice x48 x49 x50,.s [44,32]] w19 (Ret fun x68 w20=>
 ∃x69,x68= .s x69/\
 S2 w20/\
 ∀x70 w21,x70=w20.heap.size->w21=w20.alloc (.cells #[.s [112,114,111,99,32],.s x67,.s [40],.s x69,.s [41]] 9)->
 S2 w21/\
 Calls Tryz.prog 31 #[.pointer (some ⟨x0,0,none⟩),.q x66,.slice (some ⟨x70,0,none⟩) 5 5] w21 (Ret fun _x71 w22=>
 K (.tuple #[]) w22)))))) w8)
 (((0:Int)<=0/\0<(x24:Int))/\
 A5 x23 (fun x72=>
 ∃x73,w8.cell? (x72.add (0*1))=some (.q x73)/\
 ∀x74 w23,x74=w8.heap.size->w23=w8.alloc (.cells #[.s [109,97,105,110]] 9)->
 Calls Tryz.prog 31 #[.pointer (some ⟨x0,0,none⟩),.q x73,.slice (some ⟨x74,0,none⟩) 1 1] w23 (Ret fun _x75 w24=>
 K (.tuple #[]) w24)))))
theorem Rg (x0:Nat) (x1:Int) (K:Value->World->Prop) (w:World) (h:Rf x0 x1 K w):Calls Tryz.prog 15 #[.pointer (some ⟨x0,0,none⟩),.q x1] w (Ret K):=
 Ao { loops:=[(3818,[(6,.slice),(56,.int .i64)])],Axo:=[(1,[(4,.pointer),(5,.slice)])] } Tryz.func15 (by kernel_rfl) h
def Rh (x0:Nat) (x1:Int) (K:Value->World->Prop) (w:World):Prop:=
 ∃(J:Option Addr->Option Addr->Nat->Nat->World->Prop),
 (∀w1,w1=w.drew->
 ∃(S:World->Prop),S w1/\
 ∃x2 x3 x4,(∀u,S u->u.cell? ⟨x0,0,none⟩=some (.slice x2 x3 x4))/\
 ((0:Int)<=x1/\x1<(x3:Int))/\
 A5 x2 (fun x5=>
 ∃x6 x7 x8 x9 x10,(∀u,S u->Ad u (x5.add (x1.toNat*5)) [.q x6,.s x7,.q x8,.q x9,.q x10])/\
 (Calls Tryz.prog 14 #[.pointer (some ⟨x0,0,none⟩),.q x1] w1 (Ret fun x11 w2=>
 ∃x12 x13 x14,x11= .slice x12 x13 x14/\
 S w2/\
 ∀x15 w3,x15=w2.heap.size->w3=w2.alloc (.cells #[.q 0,.s [],.q 0,.q 0,.q 0] 59)->
 S w3/\
 Af w3 ⟨x15,0,none⟩ 5/\∀w4,w4=setCells w3 ⟨x15,0,none⟩ [.q x6,.s x7,.q x8,.q x9,.q x10]->
 J (some ⟨x15,0,none⟩) x12 x13 x14 w4))/\
 (∀x16 w5,x16=w1.heap.size->w5=w1.alloc (.cells #[.q 0,.s [],.q 0,.q 0,.q 0] 59)->
 S w5/\
 Calls Tryz.prog 14 #[.pointer (some ⟨x0,0,none⟩),.q x1] w5 (Ret fun x17 w6=>
 ∃x18 x19 x20,x17= .slice x18 x19 x20/\
 S w6/\
 Af w6 ⟨x16,0,none⟩ 5/\∀w7,w7=setCells w6 ⟨x16,0,none⟩ [.q x6,.s x7,.q x8,.q x9,.q x10]->
 J (some ⟨x16,0,none⟩) x18 x19 x20 w7))))/\
 ∀(_x21:Nat->Value) (x22:Option Addr) (x23:Option Addr) (x24:Nat) (x25:Nat) (w8:World),J x22 x23 x24 x25 w8->
 A5 x22 (fun x26=>
 ∃x27,w8.cell? x26=some (.q x27)/\
 Calls Tryz.prog 21 #[.q x27] w8 (Ret fun x28 w9=>
 ∃x29,x28= .q x29/\
 A5 x22 (fun x30=>
 ∃x31,w9.cell? x30=some (.q x31)/\
 cond (x31==1)
 (A5 x22 (fun x32=>
 ∃x33,w9.cell? (x32.add 2)=some (.q x33)/\
 Calls Tryz.prog 30 #[.q x33] w9 (Ret fun x34 w10=>
 ∃x35,x34= .s x35/\
 K (.s x35) w10)))
 (A5 x22 (fun x36=>
 ∃x37,w9.cell? x36=some (.q x37)/\
 cond (x37==2)
 (A5 x22 (fun x38=>
 ∃x39,w9.cell? (x38.add 1)=some (.s x39)/\
 K (.s x39) w9))
 (cond ((x24:Int)==1)
 (∀w11,w11=w9.drew->
 ∃(S1:World->Prop),S1 w11/\
 A5 x22 (fun x40=>
 ((0:Int)<=0/\0<(x24:Int))/\
 A5 x23 (fun x41=>
 ∃x42,(∀u,S1 u->u.cell? x40=some (.q x42))/\
 ∃x43,(∀u,S1 u->u.cell? (x41.add (0*1))=some (.q x43))/\
 Calls Tryz.prog 48 #[.q x42] w11 (Ret fun x44 w12=>
 ∃x45,x44= .s x45/\
 S1 w12/\
 Calls Tryz.prog 49 #[.pointer (some ⟨x0,0,none⟩),.q x43,.q x29] w12 (Ret fun x46 w13=>
 ∃x47,x46= .s x47/\
 ((x45.length+x47.length:Nat):Int)<=IntKind.i64.max/\
 K (.string (mkS (x45++x47))) w13)))))
 (∃(J1:Int->World->Prop),
 (cond (x29==3)
 (J1 4 w9)
 (J1 x29 w9))/\
 ∀(_x48:Nat->Value) (x49:Int) (w14:World),J1 x49 w14->
 ∀w15,w15=w14.drew->
 ∃(S2:World->Prop),S2 w15/\
 ((0:Int)<=0/\0<(x24:Int))/\
 A5 x23 (fun x50=>
 A5 x22 (fun x51=>
 ((0:Int)<=1/\1<(x24:Int))/\
 A5 x23 (fun x52=>
 ∃x53,(∀u,S2 u->u.cell? (x50.add (0*1))=some (.q x53))/\
 ∃x54,(∀u,S2 u->u.cell? x51=some (.q x54))/\
 ∃x55,(∀u,S2 u->u.cell? (x52.add (1*1))=some (.q x55))/\
 Calls Tryz.prog 49 #[.pointer (some ⟨x0,0,none⟩),.q x53,.q x49] w15 (Ret fun x56 w16=>
 ∃x57,x56= .s x57/\
 S2 w16/\
 ((x57.length+[32].length:Nat):Int)<=IntKind.i64.max/\
 Calls Tryz.prog 48 #[.q x54] w16 (Ret fun x58 w17=>
 ∃x59,x58= .s x59/\
 S2 w17/\
 (((x57++[32]).length+x59.length:Nat):Int)<=IntKind.i64.max/\
 ((((x57++[32])++x59).length+[32].length:Nat):Int)<=IntKind.i64.max/\
 Calls Tryz.prog 49 #[.pointer (some ⟨x0,0,none⟩),.q x55,.q (IntKind.i64.wrap (x29+1))] w17 (Ret fun x60 w18=>
 ∃x61,x60= .s x61/\
 (((((x57++[32])++x59)++[32]).length+x61.length:Nat):Int)<=IntKind.i64.max/\
 K (.string (mkS ((((x57++[32])++x59)++[32])++x61))) w18)))))))))))))
theorem Ri (x0:Nat) (x1:Int) (K:Value->World->Prop) (w:World) (h:Rh x0 x1 K w):Calls Tryz.prog 22 #[.pointer (some ⟨x0,0,none⟩),.q x1] w (Ret K):=
 Ao { Axo:=[(3,[(5,.pointer),(6,.slice)]),(63,[(8,.int .i64)])] } Tryz.func22 (by kernel_rfl) h
def Rj (x0:Nat) (x1:Option Addr) (x2:Nat) (x3:Nat) (K:Value->World->Prop) (w:World):Prop:=
 ∀w1,w1=w.drew->
 ∃(S:World->Prop),S w1/\
 ∃x4,(∀u,S u->u.cell? ⟨x0,3,none⟩=some (.q x4))/\
 Calls Tryz.prog 58 #[.s [9],.q x4] w1 (Ret fun x5 w2=>
 ∃x6,x5= .s x6/\
 Calls Tryz.prog 32 #[.slice x1 x2 x3,.s []] w2 (Ret fun x7 w3=>
 ∃x8,x7= .s x8/\
 ((x6.length+x8.length:Nat):Int)<=IntKind.i64.max/\
 (((x6++x8).length+[10].length:Nat):Int)<=IntKind.i64.max/\
 Calls Tryz.prog 57 #[.pointer (some ⟨x0,1,none⟩),.string (mkS ((x6++x8)++[10]))] w3 (Ret fun x9 w4=>
 ∃x10 x11,x9= .tuple #[.q x10,x11]/\
 K (.tuple #[]) w4)))
theorem Rk (x0:Nat) (x1:Option Addr) (x2:Nat) (x3:Nat) (K:Value->World->Prop) (w:World) (h:Rj x0 x1 x2 x3 K w):Calls Tryz.prog 29 #[.pointer (some ⟨x0,0,none⟩),.slice x1 x2 x3] w (Ret K):=
 Ao {} Tryz.func29 (by kernel_rfl) h
def P1 (x0:Nat) (x1:Int) (x2:Option Addr) (x3:Nat) (x4:Nat) (K:Value->World->Prop) (w:World):Prop:=
 ∀x5 w1,x5=w.heap.size->w1=w.alloc (.cells #[.s [32,123]] 9)->
 Bl Tryz.prog (Builtin.append_ #[74,74] 74 #[.slice x2 x3 x4,.slice (some ⟨x5,0,none⟩) 1 1]) (fun x6 w2=>
 ∃x7 x8 x9,x6= .slice x7 x8 x9/\
 Calls Tryz.prog 29 #[.pointer (some ⟨x0,0,none⟩),.slice x7 x8 x9] w2 (Ret fun _x10 w3=>
 Calls Tryz.prog 14 #[.pointer (some ⟨x0,0,none⟩),.q x1] w3 (Ret fun x11 w4=>
 ∃x12 x13 x14,x11= .slice x12 x13 x14/\
 Calls Tryz.prog 60 #[.pointer (some ⟨x0,0,none⟩),.slice x12 x13 x14,.func (.func 61) #[.pointer (some ⟨x0,0,none⟩)] #[]] w4 (Ret fun _x15 w5=>
 ∀x16 w6,x16=w5.heap.size->w6=w5.alloc (.cells #[.s [125]] 9)->
 Calls Tryz.prog 29 #[.pointer (some ⟨x0,0,none⟩),.slice (some ⟨x16,0,none⟩) 1 1] w6 (Ret fun _x17 w7=>
 K (.tuple #[]) w7))))) w1
theorem P2 (x0:Nat) (x1:Int) (x2:Option Addr) (x3:Nat) (x4:Nat) (K:Value->World->Prop) (w:World) (h:P1 x0 x1 x2 x3 x4 K w):Calls Tryz.prog 31 #[.pointer (some ⟨x0,0,none⟩),.q x1,.slice x2 x3 x4] w (Ret K):=
 Ao {} Tryz.func31 (by kernel_rfl) h
def Rl (x0:Nat) (x1:Int) (x2:Int) (K:Value->World->Prop) (w:World):Prop:=
 Calls Tryz.prog 22 #[.pointer (some ⟨x0,0,none⟩),.q x1] w (Ret fun x3 w1=>
 ∃x4,x3= .s x4/\
 ∃x5 x6 x7,w1.cell? ⟨x0,0,none⟩=some (.slice x5 x6 x7)/\
 ((0:Int)<=x1/\x1<(x6:Int))/\
 A5 x5 (fun x8=>
 ∃x9,w1.cell? (x8.add (x1.toNat*5))=some (.q x9)/\
 Calls Tryz.prog 21 #[.q x9] w1 (Ret fun x10 w2=>
 ∃x11,x10= .q x11/\
 cond (decide (x11<x2))
 ((([40].length+x4.length:Nat):Int)<=IntKind.i64.max/\
 ((([40]++x4).length+[41].length:Nat):Int)<=IntKind.i64.max/\
 K (.string (mkS (([40]++x4)++[41]))) w2)
 (K (.s x4) w2))))
theorem Rm (x0:Nat) (x1:Int) (x2:Int) (K:Value->World->Prop) (w:World) (h:Rl x0 x1 x2 K w):Calls Tryz.prog 49 #[.pointer (some ⟨x0,0,none⟩),.q x1,.q x2] w (Ret K):=
 Ao {} Tryz.func49 (by kernel_rfl) h
def Rn (x0:Nat) (x1:Int) (K:Value->World->Prop) (w:World):Prop:=
 ∃(J:Option Addr->Option Addr->Nat->Nat->World->Prop),
 (∀w1,w1=w.drew->
 ∃(S:World->Prop),S w1/\
 ∃x2 x3 x4,(∀u,S u->u.cell? ⟨x0,0,none⟩=some (.slice x2 x3 x4))/\
 ((0:Int)<=x1/\x1<(x3:Int))/\
 A5 x2 (fun x5=>
 ∃x6 x7 x8 x9 x10,(∀u,S u->Ad u (x5.add (x1.toNat*5)) [.q x6,.s x7,.q x8,.q x9,.q x10])/\
 (Calls Tryz.prog 14 #[.pointer (some ⟨x0,0,none⟩),.q x1] w1 (Ret fun x11 w2=>
 ∃x12 x13 x14,x11= .slice x12 x13 x14/\
 S w2/\
 ∀x15 w3,x15=w2.heap.size->w3=w2.alloc (.cells #[.q 0,.s [],.q 0,.q 0,.q 0] 59)->
 S w3/\
 Af w3 ⟨x15,0,none⟩ 5/\∀w4,w4=setCells w3 ⟨x15,0,none⟩ [.q x6,.s x7,.q x8,.q x9,.q x10]->
 J (some ⟨x15,0,none⟩) x12 x13 x14 w4))/\
 (∀x16 w5,x16=w1.heap.size->w5=w1.alloc (.cells #[.q 0,.s [],.q 0,.q 0,.q 0] 59)->
 S w5/\
 Calls Tryz.prog 14 #[.pointer (some ⟨x0,0,none⟩),.q x1] w5 (Ret fun x17 w6=>
 ∃x18 x19 x20,x17= .slice x18 x19 x20/\
 S w6/\
 Af w6 ⟨x16,0,none⟩ 5/\∀w7,w7=setCells w6 ⟨x16,0,none⟩ [.q x6,.s x7,.q x8,.q x9,.q x10]->
 J (some ⟨x16,0,none⟩) x18 x19 x20 w7))))/\
 ∀(_x21:Nat->Value) (x22:Option Addr) (x23:Option Addr) (x24:Nat) (x25:Nat) (w8:World),J x22 x23 x24 x25 w8->
 A5 x22 (fun x26=>
 ∃x27,w8.cell? x26=some (.q x27)/\
 cond (x27==18)
 (∀w9,w9=w8.drew->
 ∃(S1:World->Prop),S1 w9/\
 A5 x22 (fun x28=>
 ((0:Int)<=0/\0<(x24:Int))/\
 A5 x23 (fun x29=>
 ∃x30,(∀u,S1 u->u.cell? (x28.add 1)=some (.s x30))/\
 ∃x31,(∀u,S1 u->u.cell? (x29.add (0*1))=some (.q x31))/\
 Calls Tryz.prog 22 #[.pointer (some ⟨x0,0,none⟩),.q x31] w9 (Ret fun x32 w10=>
 ∃x33,x32= .s x33/\
 S1 w10/\
 ∀x34 w11,x34=w10.heap.size->w11=w10.alloc (.cells #[.s [118,97,114,32],.s x30,.s [32,61,32],.s x33,.s [59]] 9)->
 Calls Tryz.prog 29 #[.pointer (some ⟨x0,0,none⟩),.slice (some ⟨x34,0,none⟩) 5 5] w11 (Ret fun _x35 w12=>
 K (.tuple #[]) w12)))))
 (cond (x27==19)
 (∀w13,w13=w8.drew->
 ∃(S2:World->Prop),S2 w13/\
 A5 x22 (fun x36=>
 ((0:Int)<=0/\0<(x24:Int))/\
 A5 x23 (fun x37=>
 ∃x38,(∀u,S2 u->u.cell? (x36.add 1)=some (.s x38))/\
 ∃x39,(∀u,S2 u->u.cell? (x37.add (0*1))=some (.q x39))/\
 Calls Tryz.prog 22 #[.pointer (some ⟨x0,0,none⟩),.q x39] w13 (Ret fun x40 w14=>
 ∃x41,x40= .s x41/\
 S2 w14/\
 ∀x42 w15,x42=w14.heap.size->w15=w14.alloc (.cells #[.s x38,.s [32,61,32],.s x41,.s [59]] 9)->
 Calls Tryz.prog 29 #[.pointer (some ⟨x0,0,none⟩),.slice (some ⟨x42,0,none⟩) 4 4] w15 (Ret fun _x43 w16=>
 K (.tuple #[]) w16)))))
 (cond (x27==20)
 (∀w17,w17=w8.drew->
 ∃(S3:World->Prop),S3 w17/\
 A5 x22 (fun x44=>
 ((0:Int)<=0/\0<(x24:Int))/\
 A5 x23 (fun x45=>
 ∃x46,(∀u,S3 u->u.cell? (x44.add 1)=some (.s x46))/\
 ∃x47,(∀u,S3 u->u.cell? (x45.add (0*1))=some (.q x47))/\
 Calls Tryz.prog 22 #[.pointer (some ⟨x0,0,none⟩),.q x47] w17 (Ret fun x48 w18=>
 ∃x49,x48= .s x49/\
 S3 w18/\
 ∀x50 w19,x50=w18.heap.size->w19=w18.alloc (.cells #[.s x46,.s [32,61,32,114,97,110,100,111,109,40],.s x49,.s [41,59]] 9)->
 Calls Tryz.prog 29 #[.pointer (some ⟨x0,0,none⟩),.slice (some ⟨x50,0,none⟩) 4 4] w19 (Ret fun _x51 w20=>
 K (.tuple #[]) w20)))))
 (cond (x27==21)
 (∀w21,w21=w8.drew->
 ∃(S4:World->Prop),S4 w21/\
 ((0:Int)<=0/\0<(x24:Int))/\
 A5 x23 (fun x52=>
 ((0:Int)<=1/\1<(x24:Int))/\
 A5 x23 (fun x53=>
 ∃x54,(∀u,S4 u->u.cell? (x52.add (0*1))=some (.q x54))/\
 ∃x55,(∀u,S4 u->u.cell? (x53.add (1*1))=some (.q x55))/\
 Calls Tryz.prog 88 #[.pointer (some ⟨x0,0,none⟩),.q x54] w21 (Ret fun x56 w22=>
 ∃x57,x56= .s x57/\
 S4 w22/\
 Calls Tryz.prog 22 #[.pointer (some ⟨x0,0,none⟩),.q x55] w22 (Ret fun x58 w23=>
 ∃x59,x58= .s x59/\
 ∀x60 w24,x60=w23.heap.size->w24=w23.alloc (.cells #[.s x57,.s [32,33,32],.s x59,.s [59]] 9)->
 Calls Tryz.prog 29 #[.pointer (some ⟨x0,0,none⟩),.slice (some ⟨x60,0,none⟩) 4 4] w24 (Ret fun _x61 w25=>
 K (.tuple #[]) w25))))))
 (cond (x27==22)
 (∀w26,w26=w8.drew->
 ∃(S5:World->Prop),S5 w26/\
 ((0:Int)<=0/\0<(x24:Int))/\
 A5 x23 (fun x62=>
 A5 x22 (fun x63=>
 ∃x64,(∀u,S5 u->u.cell? (x62.add (0*1))=some (.q x64))/\
 ∃x65,(∀u,S5 u->u.cell? (x63.add 1)=some (.s x65))/\
 Calls Tryz.prog 88 #[.pointer (some ⟨x0,0,none⟩),.q x64] w26 (Ret fun x66 w27=>
 ∃x67,x66= .s x67/\
 S5 w27/\
 ∀x68 w28,x68=w27.heap.size->w28=w27.alloc (.cells #[.s x67,.s [32,63,32],.s x65,.s [59]] 9)->
 Calls Tryz.prog 29 #[.pointer (some ⟨x0,0,none⟩),.slice (some ⟨x68,0,none⟩) 4 4] w28 (Ret fun _x69 w29=>
 K (.tuple #[]) w29)))))
 (cond (x27==23)
 (((0:Int)<=0/\0<(x24:Int))/\
 A5 x23 (fun x70=>
 ∃x71,w8.cell? (x70.add (0*1))=some (.q x71)/\
 Calls Tryz.prog 22 #[.pointer (some ⟨x0,0,none⟩),.q x71] w8 (Ret fun x72 w30=>
 ∃x73,x72= .s x73/\
 ∀x74 w31,x74=w30.heap.size->w31=w30.alloc (.cells #[.s [105,102,32],.s x73,.s [32,123]] 9)->
 Calls Tryz.prog 29 #[.pointer (some ⟨x0,0,none⟩),.slice (some ⟨x74,0,none⟩) 3 3] w31 (Ret fun _x75 w32=>
 ((0:Int)<=1/\1<(x24:Int))/\
 A5 x23 (fun x76=>
 ∃x77,w32.cell? (x76.add (1*1))=some (.q x77)/\
 Calls Tryz.prog 14 #[.pointer (some ⟨x0,0,none⟩),.q x77] w32 (Ret fun x78 w33=>
 ∃x79 x80 x81,x78= .slice x79 x80 x81/\
 Calls Tryz.prog 60 #[.pointer (some ⟨x0,0,none⟩),.slice x79 x80 x81,.func (.func 61) #[.pointer (some ⟨x0,0,none⟩)] #[]] w33 (Ret fun _x82 w34=>
 ∃(J1:World->Prop),
 (cond ((x24:Int)==3)
 (∀x83 w35,x83=w34.heap.size->w35=w34.alloc (.cells #[.s [125,32,101,108,115,101,32,123]] 9)->
 Calls Tryz.prog 29 #[.pointer (some ⟨x0,0,none⟩),.slice (some ⟨x83,0,none⟩) 1 1] w35 (Ret fun _x84 w36=>
 ((0:Int)<=2/\2<(x24:Int))/\
 A5 x23 (fun x85=>
 ∃x86,w36.cell? (x85.add (2*1))=some (.q x86)/\
 Calls Tryz.prog 14 #[.pointer (some ⟨x0,0,none⟩),.q x86] w36 (Ret fun x87 w37=>
 ∃x88 x89 x90,x87= .slice x88 x89 x90/\
 Calls Tryz.prog 60 #[.pointer (some ⟨x0,0,none⟩),.slice x88 x89 x90,.func (.func 61) #[.pointer (some ⟨x0,0,none⟩)] #[]] w37 (Ret fun _x91 w38=>
 J1 w38)))))
 (J1 w34))/\
 ∀(_x92:Nat->Value) (w39:World),J1 w39->
 ∀x93 w40,x93=w39.heap.size->w40=w39.alloc (.cells #[.s [125]] 9)->
 Calls Tryz.prog 29 #[.pointer (some ⟨x0,0,none⟩),.slice (some ⟨x93,0,none⟩) 1 1] w40 (Ret fun _x94 w41=>
 K (.tuple #[]) w41))))))))
 (cond (x27==24)
 (∀w42,w42=w8.drew->
 ∃(S6:World->Prop),S6 w42/\
 ((0:Int)<=1/\1<(x24:Int))/\
 A5 x23 (fun x95=>
 ((0:Int)<=0/\0<(x24:Int))/\
 A5 x23 (fun x96=>
 ∃x97,(∀u,S6 u->u.cell? (x95.add (1*1))=some (.q x97))/\
 ∃x98,(∀u,S6 u->u.cell? (x96.add (0*1))=some (.q x98))/\
 Calls Tryz.prog 22 #[.pointer (some ⟨x0,0,none⟩),.q x98] w42 (Ret fun x99 w43=>
 ∃Axy,x99= .s Axy/\
 S6 w43/\
 ∀Ax6 w44,Ax6=w43.heap.size->w44=w43.alloc (.cells #[.s [119,104,105,108,101,32],.s Axy] 9)->
 S6 w44/\
 Calls Tryz.prog 31 #[.pointer (some ⟨x0,0,none⟩),.q x97,.slice (some ⟨Ax6,0,none⟩) 2 2] w44 (Ret fun _x102 w45=>
 K (.tuple #[]) w45)))))
 (cond (x27==25)
 (∀Axz w46,Axz=w8.heap.size->w46=w8.alloc (.cells #[.s [115,101,108,101,99,116,32,123]] 9)->
 Calls Tryz.prog 29 #[.pointer (some ⟨x0,0,none⟩),.slice (some ⟨Axz,0,none⟩) 1 1] w46 (Ret fun _x104 w47=>
 Calls Tryz.prog 60 #[.pointer (some ⟨x0,0,none⟩),.slice x23 x24 x25,.func (.func 89) #[.pointer (some ⟨x0,0,none⟩)] #[]] w47 (Ret fun _x105 w48=>
 ∀Ax7 w49,Ax7=w48.heap.size->w49=w48.alloc (.cells #[.s [125]] 9)->
 Calls Tryz.prog 29 #[.pointer (some ⟨x0,0,none⟩),.slice (some ⟨Ax7,0,none⟩) 1 1] w49 (Ret fun _x107 w50=>
 K (.tuple #[]) w50))))
 (cond (x27==26)
 (∀w51,w51=w8.drew->
 ∃(S7:World->Prop),S7 w51/\
 A5 x22 (fun Ax3=>
 ∃Ax8,(∀u,S7 u->u.cell? (Ax3.add 1)=some (.s Ax8))/\
 Calls Tryz.prog 90 #[.pointer (some ⟨x0,0,none⟩),.slice x23 x24 x25] w51 (Ret fun Azh w52=>
 ∃Ayj,Azh= .s Ayj/\
 S7 w52/\
 ∀Azm w53,Azm=w52.heap.size->w53=w52.alloc (.cells #[.s [115,116,97,114,116,32],.s Ax8,.s [40],.s Ayj,.s [41,59]] 9)->
 Calls Tryz.prog 29 #[.pointer (some ⟨x0,0,none⟩),.slice (some ⟨Azm,0,none⟩) 5 5] w53 (Ret fun _x113 w54=>
 K (.tuple #[]) w54))))
 (cond (x27==27)
 (((0:Int)<=0/\0<(x24:Int))/\
 A5 x23 (fun Ay5=>
 ∃Ays,w8.cell? (Ay5.add (0*1))=some (.q Ays)/\
 Calls Tryz.prog 22 #[.pointer (some ⟨x0,0,none⟩),.q Ays] w8 (Ret fun Ayw w55=>
 ∃Ay6,Ayw= .s Ay6/\
 ∀Ayx w56,Ayx=w55.heap.size->w56=w55.alloc (.cells #[.s [115,108,101,101,112,32],.s Ay6,.s [59]] 9)->
 Calls Tryz.prog 29 #[.pointer (some ⟨x0,0,none⟩),.slice (some ⟨Ayx,0,none⟩) 3 3] w56 (Ret fun _x119 w57=>
 K (.tuple #[]) w57))))
 (cond (x27==28)
 (((0:Int)<=0/\0<(x24:Int))/\
 A5 x23 (fun Ayy=>
 ∃Ayz,w8.cell? (Ayy.add (0*1))=some (.q Ayz)/\
 Calls Tryz.prog 22 #[.pointer (some ⟨x0,0,none⟩),.q Ayz] w8 (Ret fun Ay0 w58=>
 ∃Ayt,Ay0= .s Ayt/\
 ∀Ay1 w59,Ay1=w58.heap.size->w59=w58.alloc (.cells #[.s [112,114,105,110,116,32],.s Ayt,.s [59]] 9)->
 Calls Tryz.prog 29 #[.pointer (some ⟨x0,0,none⟩),.slice (some ⟨Ay1,0,none⟩) 3 3] w59 (Ret fun _x125 w60=>
 K (.tuple #[]) w60))))
 (cond (x27==29)
 (((0:Int)<=0/\0<(x24:Int))/\
 A5 x23 (fun Azn=>
 ∃Azs,w8.cell? (Azn.add (0*1))=some (.q Azs)/\
 Calls Tryz.prog 22 #[.pointer (some ⟨x0,0,none⟩),.q Azs] w8 (Ret fun Bbf w61=>
 ∃Az2,Bbf= .s Az2/\
 ∀Azt w62,Azt=w61.heap.size->w62=w61.alloc (.cells #[.s [97,115,115,101,114,116,32],.s Az2,.s [59]] 9)->
 Calls Tryz.prog 29 #[.pointer (some ⟨x0,0,none⟩),.slice (some ⟨Azt,0,none⟩) 3 3] w62 (Ret fun _x131 w63=>
 K (.tuple #[]) w63))))
 (cond (x27==30)
 (∀Ax0 w64,Ax0=w8.heap.size->w64=w8.alloc (.cells #[.s [115,107,105,112,59]] 9)->
 Calls Tryz.prog 29 #[.pointer (some ⟨x0,0,none⟩),.slice (some ⟨Ax0,0,none⟩) 1 1] w64 (Ret fun _x133 w65=>
 K (.tuple #[]) w65))
 (cond (x27==31)
 (∀Az3 w66,Az3=w8.heap.size->w66=w8.alloc (.cells #[.s [115,116,111,112,59]] 9)->
 Calls Tryz.prog 29 #[.pointer (some ⟨x0,0,none⟩),.slice (some ⟨Az3,0,none⟩) 1 1] w66 (Ret fun _x135 w67=>
 K (.tuple #[]) w67))
 (K (.tuple #[]) w8)))))))))))))))
theorem Ro (x0:Nat) (x1:Int) (K:Value->World->Prop) (w:World) (h:Rn x0 x1 K w):Calls Tryz.prog 61 #[.pointer (some ⟨x0,0,none⟩),.q x1] w (Ret K):=
 Ao { Axo:=[(1,[(4,.pointer),(5,.slice)]),(245755,[])] } Tryz.func61 (by kernel_rfl) h
def Sd (x0:Nat) (x1:Int) (K:Value->World->Prop) (w:World):Prop:=
 Calls Tryz.prog 14 #[.pointer (some ⟨x0,0,none⟩),.q x1] w (Ret fun x2 w1=>
 ∃x3 x4 x5,x2= .slice x3 x4 x5/\
 cond ((x4:Int)==1)
 (∀w2,w2=w1.drew->
 ∃(S:World->Prop),S w2/\
 ((0:Int)<=0/\0<(x4:Int))/\
 A5 x3 (fun x6=>
 ∃x7 x8 x9,(∀u,S u->u.cell? ⟨x0,0,none⟩=some (.slice x7 x8 x9))/\
 ((0:Int)<=x1/\x1<(x8:Int))/\
 A5 x7 (fun x10=>
 ∃x11,(∀u,S u->u.cell? ((x10.add (x1.toNat*5)).add 1)=some (.s x11))/\
 ((x11.length+[91].length:Nat):Int)<=IntKind.i64.max/\
 ∃x12,(∀u,S u->u.cell? (x6.add (0*1))=some (.q x12))/\
 Calls Tryz.prog 22 #[.pointer (some ⟨x0,0,none⟩),.q x12] w2 (Ret fun x13 w3=>
 ∃x14,x13= .s x14/\
 S w3/\
 (((x11++[91]).length+x14.length:Nat):Int)<=IntKind.i64.max/\
 ((((x11++[91])++x14).length+[93].length:Nat):Int)<=IntKind.i64.max/\
 K (.string (mkS (((x11++[91])++x14)++[93]))) w3))))
 (∃x15 x16 x17,w1.cell? ⟨x0,0,none⟩=some (.slice x15 x16 x17)/\
 ((0:Int)<=x1/\x1<(x16:Int))/\
 A5 x15 (fun x18=>
 ∃x19,w1.cell? ((x18.add (x1.toNat*5)).add 1)=some (.s x19)/\
 K (.s x19) w1)))
theorem Se (x0:Nat) (x1:Int) (K:Value->World->Prop) (w:World) (h:Sd x0 x1 K w):Calls Tryz.prog 88 #[.pointer (some ⟨x0,0,none⟩),.q x1] w (Ret K):=
 Ao {} Tryz.func88 (by kernel_rfl) h
def Pb (x0:Nat) (x1:Int) (K:Value->World->Prop) (w:World):Prop:=
 ∃(J:Option Addr->Option Addr->Nat->Nat->World->Prop),
 (∀w1,w1=w.drew->
 ∃(S:World->Prop),S w1/\
 ∃x2 x3 x4,(∀u,S u->u.cell? ⟨x0,0,none⟩=some (.slice x2 x3 x4))/\
 ((0:Int)<=x1/\x1<(x3:Int))/\
 A5 x2 (fun x5=>
 ∃x6 x7 x8 x9 x10,(∀u,S u->Ad u (x5.add (x1.toNat*5)) [.q x6,.s x7,.q x8,.q x9,.q x10])/\
 (Calls Tryz.prog 14 #[.pointer (some ⟨x0,0,none⟩),.q x1] w1 (Ret fun x11 w2=>
 ∃x12 x13 x14,x11= .slice x12 x13 x14/\
 S w2/\
 ∀x15 w3,x15=w2.heap.size->w3=w2.alloc (.cells #[.q 0,.s [],.q 0,.q 0,.q 0] 59)->
 S w3/\
 Af w3 ⟨x15,0,none⟩ 5/\∀w4,w4=setCells w3 ⟨x15,0,none⟩ [.q x6,.s x7,.q x8,.q x9,.q x10]->
 J (some ⟨x15,0,none⟩) x12 x13 x14 w4))/\
 (∀x16 w5,x16=w1.heap.size->w5=w1.alloc (.cells #[.q 0,.s [],.q 0,.q 0,.q 0] 59)->
 S w5/\
 Calls Tryz.prog 14 #[.pointer (some ⟨x0,0,none⟩),.q x1] w5 (Ret fun x17 w6=>
 ∃x18 x19 x20,x17= .slice x18 x19 x20/\
 S w6/\
 Af w6 ⟨x16,0,none⟩ 5/\∀w7,w7=setCells w6 ⟨x16,0,none⟩ [.q x6,.s x7,.q x8,.q x9,.q x10]->
 J (some ⟨x16,0,none⟩) x18 x19 x20 w7))))/\
 ∀(_x21:Nat->Value) (x22:Option Addr) (x23:Option Addr) (x24:Nat) (x25:Nat) (w8:World),J x22 x23 x24 x25 w8->
 ∃(J1:Option Addr->Nat->Nat->List UInt8->World->Prop),
 (A5 x22 (fun x26=>
 ∃x27,w8.cell? (x26.add 2)=some (.q x27)/\
 cond (x27==1)
 (((0:Int)<=0/\0<(x24:Int))/\
 A5 x23 (fun x28=>
 ∃x29,w8.cell? (x28.add (0*1))=some (.q x29)/\
 Calls Tryz.prog 22 #[.pointer (some ⟨x0,0,none⟩),.q x29] w8 (Ret fun x30 w9=>
 ∃x31,x30= .s x31/\
 (([119,104,101,110,32].length+x31.length:Nat):Int)<=IntKind.i64.max/\
 ((([119,104,101,110,32]++x31).length+[58,32].length:Nat):Int)<=IntKind.i64.max/\
 (([99,97,115,101,32].length+(([119,104,101,110,32]++x31)++[58,32]).length:Nat):Int)<=IntKind.i64.max/\
 ((0:Int)<=1/\1<=(x24:Int))/\
 J1 (Hp x23 1 x25 1) (x24-1) (x25-1) ([99,97,115,101,32]++(([119,104,101,110,32]++x31)++[58,32])) w9)))
 (J1 x23 x24 x25 [99,97,115,101,32] w8)))/\
 ∀(_x32:Nat->Value) (x33:Option Addr) (x34:Nat) (x35:Nat) (x36:List UInt8) (w10:World),J1 x33 x34 x35 x36 w10->
 A5 x22 (fun x37=>
 ∃x38,w10.cell? x37=some (.q x38)/\
 cond (x38==34)
 (∀w11,w11=w10.drew->
 ∃(S1:World->Prop),S1 w11/\
 ((0:Int)<=1/\1<(x34:Int))/\
 A5 x33 (fun x39=>
 ((0:Int)<=0/\0<(x34:Int))/\
 A5 x33 (fun x40=>
 A5 x22 (fun x41=>
 ∃x42,(∀u,S1 u->u.cell? (x39.add (1*1))=some (.q x42))/\
 ∃x43,(∀u,S1 u->u.cell? (x40.add (0*1))=some (.q x43))/\
 ∃x44,(∀u,S1 u->u.cell? (x41.add 1)=some (.s x44))/\
 Calls Tryz.prog 88 #[.pointer (some ⟨x0,0,none⟩),.q x43] w11 (Ret fun x45 w12=>
 ∃x46,x45= .s x46/\
 S1 w12/\
 ∀x47 w13,x47=w12.heap.size->w13=w12.alloc (.cells #[.s x36,.s x46,.s [32,63,32],.s x44] 9)->
 S1 w13/\
 Calls Tryz.prog 31 #[.pointer (some ⟨x0,0,none⟩),.q x42,.slice (some ⟨x47,0,none⟩) 4 4] w13 (Ret fun _x48 w14=>
 K (.tuple #[]) w14))))))
 (cond (x38==35)
 (∀w15,w15=w10.drew->
 ∃(S2:World->Prop),S2 w15/\
 ((0:Int)<=2/\2<(x34:Int))/\
 A5 x33 (fun x49=>
 ((0:Int)<=0/\0<(x34:Int))/\
 A5 x33 (fun x50=>
 ((0:Int)<=1/\1<(x34:Int))/\
 A5 x33 (fun x51=>
 ∃x52,(∀u,S2 u->u.cell? (x49.add (2*1))=some (.q x52))/\
 ∃x53,(∀u,S2 u->u.cell? (x50.add (0*1))=some (.q x53))/\
 ∃x54,(∀u,S2 u->u.cell? (x51.add (1*1))=some (.q x54))/\
 Calls Tryz.prog 88 #[.pointer (some ⟨x0,0,none⟩),.q x53] w15 (Ret fun x55 w16=>
 ∃x56,x55= .s x56/\
 S2 w16/\
 Calls Tryz.prog 22 #[.pointer (some ⟨x0,0,none⟩),.q x54] w16 (Ret fun x57 w17=>
 ∃x58,x57= .s x58/\
 S2 w17/\
 ∀x59 w18,x59=w17.heap.size->w18=w17.alloc (.cells #[.s x36,.s x56,.s [32,33,32],.s x58] 9)->
 S2 w18/\
 Calls Tryz.prog 31 #[.pointer (some ⟨x0,0,none⟩),.q x52,.slice (some ⟨x59,0,none⟩) 4 4] w18 (Ret fun _x60 w19=>
 K (.tuple #[]) w19)))))))
 (cond (x38==36)
 (∀w20,w20=w10.drew->
 ∃(S3:World->Prop),S3 w20/\
 ((0:Int)<=1/\1<(x34:Int))/\
 A5 x33 (fun x61=>
 ((0:Int)<=0/\0<(x34:Int))/\
 A5 x33 (fun x62=>
 ∃x63,(∀u,S3 u->u.cell? (x61.add (1*1))=some (.q x63))/\
 ∃x64,(∀u,S3 u->u.cell? (x62.add (0*1))=some (.q x64))/\
 Calls Tryz.prog 22 #[.pointer (some ⟨x0,0,none⟩),.q x64] w20 (Ret fun x65 w21=>
 ∃x66,x65= .s x66/\
 S3 w21/\
 ∀x67 w22,x67=w21.heap.size->w22=w21.alloc (.cells #[.s x36,.s [97,102,116,101,114,32],.s x66] 9)->
 S3 w22/\
 Calls Tryz.prog 31 #[.pointer (some ⟨x0,0,none⟩),.q x63,.slice (some ⟨x67,0,none⟩) 3 3] w22 (Ret fun _x68 w23=>
 K (.tuple #[]) w23)))))
 (((0:Int)<=0/\0<(x34:Int))/\
 A5 x33 (fun x69=>
 ∃x70,w10.cell? (x69.add (0*1))=some (.q x70)/\
 ∀x71 w24,x71=w10.heap.size->w24=w10.alloc (.cells #[.s [101,108,115,101]] 9)->
 Calls Tryz.prog 31 #[.pointer (some ⟨x0,0,none⟩),.q x70,.slice (some ⟨x71,0,none⟩) 1 1] w24 (Ret fun _x72 w25=>
 K (.tuple #[]) w25))))))
theorem Pd (x0:Nat) (x1:Int) (K:Value->World->Prop) (w:World) (h:Pb x0 x1 K w):Calls Tryz.prog 89 #[.pointer (some ⟨x0,0,none⟩),.q x1] w (Ret K):=
 Ao { Axo:=[(1,[(4,.pointer),(5,.slice)]),(7,[(5,.slice),(6,.string)])] } Tryz.func89 (by kernel_rfl) h
def P3 (x0:Nat) (x1:Option Addr) (x2:Nat) (_x3:Nat) (K:Value->World->Prop) (w:World):Prop:=
 Bl Tryz.prog (Instr.makeSlice 74 (.q 0) (.q (x2:Int))) (fun x4 w1=>
 ∃x5 x6 x7,x4= .slice x5 x6 x7/\
 ∃(I:Option Addr->Nat->Nat->Int->World->Prop) (x8:Option Addr->Nat->Nat->Int->World->Nat),I x5 x6 x7 0 w1/\
 ∀(_x9:Nat->Value) (x10:Option Addr) (x11:Nat) (x12:Nat) (x13:Int) (w2:World),I x10 x11 x12 x13 w2->
 cond (decide (x13<(x2:Int)))
 (((0:Int)<=x13/\x13<(x2:Int))/\
 A5 x1 (fun x14=>
 ∃x15,w2.cell? (x14.add (x13.toNat*1))=some (.q x15)/\
 Calls Tryz.prog 22 #[.pointer (some ⟨x0,0,none⟩),.q x15] w2 (Ret fun x16 w3=>
 ∃x17,x16= .s x17/\
 ∀x18 w4,x18=w3.heap.size->w4=w3.alloc (.cells #[.s x17] 9)->
 Bl Tryz.prog (Builtin.append_ #[74,74] 74 #[.slice x10 x11 x12,.slice (some ⟨x18,0,none⟩) 1 1]) (fun x19 w5=>
 ∃x20 x21 x22,x19= .slice x20 x21 x22/\
 I x20 x21 x22 (IntKind.i64.wrap (x13+1)) w5/\x8 x20 x21 x22 (IntKind.i64.wrap (x13+1)) w5<x8 x10 x11 x12 x13 w2) w4)))
 (Calls Tryz.prog 32 #[.slice x10 x11 x12,.s [44,32]] w2 (Ret fun x23 w6=>
 ∃x24,x23= .s x24/\
 K (.s x24) w6))) w
theorem P4 (x0:Nat) (x1:Option Addr) (x2:Nat) (x3:Nat) (K:Value->World->Prop) (w:World) (h:P3 x0 x1 x2 x3 K w):Calls Tryz.prog 90 #[.pointer (some ⟨x0,0,none⟩),.slice x1 x2 x3] w (Ret K):=
 Ao { loops:=[(58,[(5,.slice),(13,.int .i64)])] } Tryz.func90 (by kernel_rfl) h
def Aah (x0:Option Addr) (x1:Nat) (_x2:Nat) (K:Value->World->Prop) (w:World):Prop:=
 ∀x3 w1,x3=w.heap.size->w1=w.alloc (.cells #[.int .u8 85] 5)->
 ∃(I:Option Addr->Nat->Nat->Int->World->Prop) (x4:Option Addr->Nat->Nat->Int->World->Nat),I (some ⟨x3,0,none⟩) 1 1 0 w1/\
 ∀(_x5:Nat->Value) (x6:Option Addr) (x7:Nat) (x8:Nat) (x9:Int) (w2:World),I x6 x7 x8 x9 w2->
 cond (decide (x9<(x1:Int)))
 (((0:Int)<=x9/\x9<(x1:Int))/\
 A5 x0 (fun x10=>
 ∃x11 x12 x13 x14 x15,Ad w2 (x10.add (x9.toNat*5)) [.q x11,.s x12,.q x13,.q x14,.q x15]/\
 ∀x16 w3,x16=w2.heap.size->w3=w2.alloc (.cells #[.q 0,.s [],.q 0,.q 0,.q 0] 59)->
 Af w3 ⟨x16,0,none⟩ 5/\∀w4,w4=setCells w3 ⟨x16,0,none⟩ [.q x11,.s x12,.q x13,.q x14,.q x15]->
 cond ((x7:Int)==0)
 (K (.tuple #[.q x9,.q 3]) w4)
 (((0:Int)<=(IntKind.i64.wrap ((x7:Int)-1))/\(IntKind.i64.wrap ((x7:Int)-1))<(x7:Int))/\
 A5 x6 (fun x17=>
 ∃x18,w4.cell? (x17.add ((IntKind.i64.wrap ((x7:Int)-1)).toNat*1))=some (.int .u8 x18)/\
 ∃x19 x20 x21 x22 x23,Ad w4 ⟨x16,0,none⟩ [.q x19,.s x20,.q x21,.q x22,.q x23]/\
 Calls Tryz.prog 23 #[.agg #[.q x19,.s x20,.q x21,.q x22,.q x23],.q (IntKind.i64.wrap ((x1:Int)+1))] w4 (Ret fun x24 w5=>
 ∃x25 x26,x24= .tuple #[.s x25,.bool x26]/\
 ∃(J:Bool->World->Prop),
 (∃x27,w5.cell? ⟨x16,0,none⟩=some (.q x27)/\
 Calls Tryz.prog 24 #[.q x27] w5 (Ret fun x28 w6=>
 ∃x29,x28= .int .u8 x29/\
 cond (x29 !=x18)
 (J true w6)
 (cond (!x26)
 (J true w6)
 (∃x30 x31 x32 x33 x34,Ad w6 ⟨x16,0,none⟩ [.q x30,.s x31,.q x32,.q x33,.q x34]/\
 Calls Tryz.prog 25 #[.agg #[.q x30,.s x31,.q x32,.q x33,.q x34]] w6 (Ret fun x35 w7=>
 ∃x36,x35= .bool x36/\
 J (!x36) w7)))))/\
 ∀(_x37:Nat->Value) (x38:Bool) (w8:World),J x38 w8->
 cond (x38)
 (K (.tuple #[.q x9,.q 3]) w8)
 (Bl Tryz.prog (convert 9 42 (.s x25)) (fun x39 w9=>
 ∃x40 x41 x42,x39= .slice x40 x41 x42/\
 Calls Tryz.prog 26 #[.slice x40 x41 x42] w9 (Ret fun _x43 w10=>
 ((0:Int)<=(IntKind.i64.wrap ((x7:Int)-1))/\(IntKind.i64.wrap ((x7:Int)-1))<=(x8:Int))/\
 Bl Tryz.prog (Builtin.append_ #[42,42] 42 #[.slice (Hp x6 0 x8 1) ((IntKind.i64.wrap ((x7:Int)-1)).toNat) x8,.slice x40 x41 x42]) (fun x44 w11=>
 ∃x45 x46 x47,x44= .slice x45 x46 x47/\
 I x45 x46 x47 (IntKind.i64.wrap (x9+1)) w11/\x4 x45 x46 x47 (IntKind.i64.wrap (x9+1)) w11<x4 x6 x7 x8 x9 w2) w10)) w8))))))
 (cond (decide ((x7:Int)>0))
 (K (.tuple #[.q (x1:Int),.q 3]) w2)
 (K (.tuple #[.q 0,.q 0]) w2))
theorem Aai (x0:Option Addr) (x1:Nat) (x2:Nat) (K:Value->World->Prop) (w:World) (h:Aah x0 x1 x2 K w):Calls Tryz.prog 13 #[.slice x0 x1 x2] w (Ret K):=
 Ao { loops:=[(58,[(4,.slice),(14,.int .i64)])],Axo:=[(59806,[(50,.bool)])] } Tryz.func13 (by kernel_rfl) h
def Adm (x0:Int) (x1:List UInt8) (x2:Int) (x3:Int) (x4:Int) (x5:Int) (K:Value->World->Prop) (w:World):Prop:=
 ∀x6 w1,x6=w.heap.size->w1=w.alloc (.cells #[.q x0,.s x1,.q x2,.q x3,.q x4] 59)->
 ∃(J:List UInt8->World->Prop),
 (∃x7,w1.cell? ⟨x6,0,none⟩=some (.q x7)/\
 ∃(J1:Bool->World->Prop),
 (cond (x7==3)
 (J1 (x7==3) w1)
 (cond (x7==4)
 (J1 (x7==4) w1)
 (cond (x7==18)
 (J1 (x7==18) w1)
 (cond (x7==19)
 (J1 (x7==19) w1)
 (cond (x7==20)
 (J1 (x7==20) w1)
 (cond (x7==27)
 (J1 (x7==27) w1)
 (cond (x7==28)
 (J1 (x7==28) w1)
 (J1 (x7==29) w1))))))))/\
 ∀(_x8:Nat->Value) (x9:Bool) (w2:World),J1 x9 w2->
 cond (x9)
 (J [69] w2)
 (cond (x7==21)
 (J [82,69] w2)
 (cond (x7==22)
 (J [82] w2)
 (cond (x7==23)
 (∃x10,w2.cell? ⟨x6,3,none⟩=some (.q x10)/\
 cond (x10==3)
 (J [69,66,66] w2)
 (J [69,66] w2))
 (∃(J2:Bool->World->Prop),
 (cond (x7==24)
 (J2 (x7==24) w2)
 (J2 (x7==36) w2))/\
 ∀(_x11:Nat->Value) (x12:Bool) (w3:World),J2 x12 w3->
 cond (x12)
 (J [69,66] w3)
 (cond (x7==25)
 (∃x13,w3.cell? ⟨x6,3,none⟩=some (.q x13)/\
 Calls Tryz.prog 50 #[.q x13,.q x5,.s [67],.int .u8 67,.s []] w3 (Ret fun x14 w4=>
 ∃x15 x16,x14= .tuple #[.s x15,.bool x16]/\
 K (.tuple #[.s x15,.bool x16]) w4))
 (cond (x7==26)
 (∃x17,w3.cell? ⟨x6,3,none⟩=some (.q x17)/\
 Calls Tryz.prog 50 #[.q x17,.q x5,.s [],.int .u8 69,.s []] w3 (Ret fun x18 w5=>
 ∃x19 x20,x18= .tuple #[.s x19,.bool x20]/\
 K (.tuple #[.s x19,.bool x20]) w5))
 (cond (x7==32)
 (∃x21,w3.cell? ⟨x6,3,none⟩=some (.q x21)/\
 Calls Tryz.prog 50 #[.q x21,.q x5,.s [],.int .u8 83,.s []] w3 (Ret fun x22 w6=>
 ∃x23 x24,x22= .tuple #[.s x23,.bool x24]/\
 K (.tuple #[.s x23,.bool x24]) w6))
 (cond (x7==33)
 (∃x25,w3.cell? ⟨x6,3,none⟩=some (.q x25)/\
 cond (x25==1)
 (J [69] w3)
 (J [] w3))
 (cond (x7==34)
 (J [82,66] w3)
 (cond (x7==35)
 (J [82,69,66] w3)
 (∃(J3:Bool->World->Prop),
 (cond (x7==37)
 (J3 (x7==37) w3)
 (J3 (x7==41) w3))/\
 ∀(_x26:Nat->Value) (x27:Bool) (w7:World),J3 x27 w7->
 cond (x27)
 (J [66] w7)
 (cond (x7==40)
 (∃x28,w7.cell? ⟨x6,3,none⟩=some (.q x28)/\
 Calls Tryz.prog 50 #[.q x28,.q x5,.s [],.int .u8 80,.s [66]] w7 (Ret fun x29 w8=>
 ∃x30 x31,x29= .tuple #[.s x30,.bool x31]/\
 K (.tuple #[.s x30,.bool x31]) w8))
 (cond (x7==42)
 (∃x32,w7.cell? ⟨x6,3,none⟩=some (.q x32)/\
 Calls Tryz.prog 50 #[.q x32,.q x5,.s [],.int .u8 68,.s []] w7 (Ret fun x33 w9=>
 ∃x34 x35,x33= .tuple #[.s x34,.bool x35]/\
 K (.tuple #[.s x34,.bool x35]) w9))
 (J [] w7)))))))))))))))/\
 ∀(_x36:Nat->Value) (x37:List UInt8) (w10:World),J x37 w10->
 ∃(J4:List UInt8->World->Prop),
 (∃(J5:Bool->World->Prop),
 (∃x38,w10.cell? ⟨x6,0,none⟩=some (.q x38)/\
 cond (decide (x38>=5))
 (∃x39,w10.cell? ⟨x6,0,none⟩=some (.q x39)/\
 J5 (decide (x39<=17)) w10)
 (J5 false w10))/\
 ∀(_x40:Nat->Value) (x41:Bool) (w11:World),J5 x41 w11->
 cond (x41)
 (J4 [69,69] w11)
 (J4 x37 w11))/\
 ∀(_x42:Nat->Value) (x43:List UInt8) (w12:World),J4 x43 w12->
 ∃(J6:List UInt8->World->Prop),
 (∃x44 x45 x46 x47 x48,Ad w12 ⟨x6,0,none⟩ [.q x44,.s x45,.q x46,.q x47,.q x48]/\
 Calls Tryz.prog 51 #[.agg #[.q x44,.s x45,.q x46,.q x47,.q x48]] w12 (Ret fun x49 w13=>
 ∃x50,x49= .bool x50/\
 cond (x50)
 ((([69].length+x43.length:Nat):Int)<=IntKind.i64.max/\
 J6 ([69]++x43) w13)
 (J6 x43 w13)))/\
 ∀(_x51:Nat->Value) (x52:List UInt8) (w14:World),J6 x52 w14->
 ∀w15,w15=w14.drew->
 ∃x53,w15.cell? ⟨x6,3,none⟩=some (.q x53)/\
 K (.tuple #[.s x52,.bool ((x52.length:Int)==x53)]) w15
theorem Adn (x0:Int) (x1:List UInt8) (x2:Int) (x3:Int) (x4:Int) (x5:Int) (K:Value->World->Prop) (w:World) (h:Adm x0 x1 x2 x3 x4 x5 K w):Calls Tryz.prog 23 #[.agg #[.q x0,.s x1,.q x2,.q x3,.q x4],.q x5] w (Ret K):=
 Ao { Axo:=[(7,[(6,.string)]),(15,[(6,.string)]),(30,[(89,.bool)]),(31,[(6,.string)]),(58,[(9,.bool)]),(15103,[(27,.bool)]),(247463935,[(63,.bool)])] } Tryz.func23 (by kernel_rfl) h
def Aaj (x0:Int) (K:Value->World->Prop) (w:World):Prop:=
 ∀(_x1:Nat->Value),
 cond (((decide (x0>=1))&&(decide (x0<=17))))
 (K (.int .u8 69) w)
 (∀(_x2:Nat->Value),
 cond (((decide (x0>=18))&&(decide (x0<=31))))
 (K (.int .u8 83) w)
 (∀(_x3:Nat->Value),
 cond (((decide (x0>=34))&&(decide (x0<=37))))
 (K (.int .u8 67) w)
 (cond (x0==32)
 (K (.int .u8 66) w)
 (cond (x0==33)
 (K (.int .u8 82) w)
 (∃(J:Bool->World->Prop),
 (cond (x0==38)
 (J (x0==38) w)
 (cond (x0==40)
 (J (x0==40) w)
 (J (x0==41) w)))/\
 ∀(_x4:Nat->Value) (x5:Bool) (w1:World),J x5 w1->
 cond (x5)
 (K (.int .u8 68) w1)
 (cond (x0==39)
 (K (.int .u8 80) w1)
 (cond (x0==42)
 (K (.int .u8 85) w1)
 (K (.int .u8 0) w1))))))))
theorem Aak (x0:Int) (K:Value->World->Prop) (w:World) (h:Aaj x0 K w):Calls Tryz.prog 24 #[.q x0] w (Ret K):=
 Ao { Axo:=[(943,[(29,.bool)])],Axr:=[(24,[3]),(102,[10]),(414,[17])] } Tryz.func24 (by kernel_rfl) h
def Yu (x0:Int) (x1:List UInt8) (x2:Int) (x3:Int) (x4:Int) (K:Value->World->Prop) (w:World):Prop:=
 ∀x5 w1,x5=w.heap.size->w1=w.alloc (.cells #[.q x0,.s x1,.q x2,.q x3,.q x4] 59)->
 ∃(J:Int->World->Prop),
 (∃x6,w1.cell? ⟨x5,0,none⟩=some (.q x6)/\
 cond (x6==1)
 (J 999999999999999999 w1)
 (∃x7,w1.cell? ⟨x5,0,none⟩=some (.q x7)/\
 cond (x7==38)
 (J 16 w1)
 (∃x8 x9 x10 x11 x12,Ad w1 ⟨x5,0,none⟩ [.q x8,.s x9,.q x10,.q x11,.q x12]/\
 Calls Tryz.prog 51 #[.agg #[.q x8,.s x9,.q x10,.q x11,.q x12]] w1 (Ret fun x13 w2=>
 ∃x14,x13= .bool x14/\
 cond (x14)
 (J 1 w2)
 (J 0 w2)))))/\
 ∀(_x15:Nat->Value) (x16:Int) (w3:World),J x16 w3->
 ∃(J1:Bool->World->Prop),
 (∀w4,w4=w3.drew->
 ∃(S:World->Prop),S w4/\
 ∃x17,(∀u,S u->u.cell? ⟨x5,0,none⟩=some (.q x17))/\
 ∃x18,(∀u,S u->u.cell? ⟨x5,1,none⟩=some (.s x18))/\
 Calls Tryz.prog 52 #[.q x17] w4 (Ret fun x19 w5=>
 ∃x20,x19= .bool x20/\
 S w5/\
 cond (!(x20==(!(x18==[]))))
 (J1 true w5)
 (∃x21,w5.cell? ⟨x5,0,none⟩=some (.q x21)/\
 S w5/\
 Calls Tryz.prog 52 #[.q x21] w5 (Ret fun x22 w6=>
 ∃x23,x22= .bool x23/\
 S w6/\
 cond (x23)
 (∃x24,w6.cell? ⟨x5,1,none⟩=some (.s x24)/\
 S w6/\
 Calls Tryz.prog 53 #[.s x24] w6 (Ret fun x25 w7=>
 ∃x26,x25= .bool x26/\
 J1 (!x26) w7))
 (J1 false w6)))))/\
 ∀(_x27:Nat->Value) (x28:Bool) (w8:World),J1 x28 w8->
 cond (x28)
 (K (.bool false) w8)
 (∃x29,w8.cell? ⟨x5,2,none⟩=some (.q x29)/\
 cond (decide (x29>=0))
 (∃x30,w8.cell? ⟨x5,2,none⟩=some (.q x30)/\
 K (.bool (decide (x30<=x16))) w8)
 (K (.bool false) w8))
theorem Yv (x0:Int) (x1:List UInt8) (x2:Int) (x3:Int) (x4:Int) (K:Value->World->Prop) (w:World) (h:Yu x0 x1 x2 x3 x4 K w):Calls Tryz.prog 25 #[.agg #[.q x0,.s x1,.q x2,.q x3,.q x4]] w (Ret K):=
 Ao { Axo:=[(7,[(3,.int .i64)]),(30,[(32,.bool)])] } Tryz.func25 (by kernel_rfl) h
def Aal (x0:Int) (K:Value->World->Prop) (w:World):Prop:=
 ∃(J:Bool->World->Prop),
 (cond (x0==2)
 (J (x0==2) w)
 (cond (x0==18)
 (J (x0==18) w)
 (cond (x0==19)
 (J (x0==19) w)
 (cond (x0==20)
 (J (x0==20) w)
 (cond (x0==22)
 (J (x0==22) w)
 (cond (x0==26)
 (J (x0==26) w)
 (cond (x0==33)
 (J (x0==33) w)
 (cond (x0==34)
 (J (x0==34) w)
 (cond (x0==38)
 (J (x0==38) w)
 (cond (x0==39)
 (J (x0==39) w)
 (J (x0==40) w)))))))))))/\
 ∀(_x1:Nat->Value) (x2:Bool) (w1:World),J x2 w1->
 cond (x2)
 (K (.bool true) w1)
 (K (.bool false) w1)
theorem Aam (x0:Int) (K:Value->World->Prop) (w:World) (h:Aal x0 K w):Calls Tryz.prog 52 #[.q x0] w (Ret K):=
 Ao { Axo:=[(26,[(4,.bool)])] } Tryz.func52 (by kernel_rfl) h
def Wu (x0:Int) (x1:List UInt8) (x2:Int) (x3:Int) (x4:Int) (K:Value->World->Prop) (w:World):Prop:=
 ∀x5 w1,x5=w.heap.size->w1=w.alloc (.cells #[.q x0,.s x1,.q x2,.q x3,.q x4] 59)->
 ∃x6,w1.cell? ⟨x5,2,none⟩=some (.q x6)/\
 cond (x6==1)
 (∃x7,w1.cell? ⟨x5,0,none⟩=some (.q x7)/\
 cond (x7==34)
 (K (.bool true) w1)
 (∃x8,w1.cell? ⟨x5,0,none⟩=some (.q x8)/\
 cond (x8==35)
 (K (.bool true) w1)
 (∃x9,w1.cell? ⟨x5,0,none⟩=some (.q x9)/\
 K (.bool (x9==36)) w1)))
 (K (.bool false) w1)
theorem Wv (x0:Int) (x1:List UInt8) (x2:Int) (x3:Int) (x4:Int) (K:Value->World->Prop) (w:World) (h:Wu x0 x1 x2 x3 x4 K w):Calls Tryz.prog 51 #[.agg #[.q x0,.s x1,.q x2,.q x3,.q x4]] w (Ret K):=
 Ao {} Tryz.func51 (by kernel_rfl) h
def Ado (x0:Int) (x1:Int) (x2:List UInt8) (x3:Int) (x4:List UInt8) (K:Value->World->Prop) (w:World):Prop:=
 cond (decide ((IntKind.i64.wrap ((IntKind.i64.wrap ((if x1<x0 then x1 else x0)-(x2.length:Int)))-(x4.length:Int)))<0))
 (K (.tuple #[.s [],.bool false]) w)
 (∀x5 w1,x5=w.heap.size->w1=w.alloc (.cells #[.int .u8 x3] 5)->
 Calls Tryz.prog 78 #[.slice (some ⟨x5,0,none⟩) 1 1,.q (IntKind.i64.wrap ((IntKind.i64.wrap ((if x1<x0 then x1 else x0)-(x2.length:Int)))-(x4.length:Int)))] w1 (Ret fun x6 w2=>
 ∃x7 x8 x9,x6= .slice x7 x8 x9/\
 Bl Tryz.prog (convert 42 9 (.slice x7 x8 x9)) (fun x10 w3=>
 ∃x11,x10= .s x11/\
 ((x2.length+x11.length:Nat):Int)<=IntKind.i64.max/\
 (((x2++x11).length+x4.length:Nat):Int)<=IntKind.i64.max/\
 K (.tuple #[.string (mkS ((x2++x11)++x4)),.bool true]) w3) w2))
theorem Adp (x0:Int) (x1:Int) (x2:List UInt8) (x3:Int) (x4:List UInt8) (K:Value->World->Prop) (w:World) (h:Ado x0 x1 x2 x3 x4 K w):Calls Tryz.prog 50 #[.q x0,.q x1,.s x2,.int .u8 x3,.s x4] w (Ret K):=
 Ao {} Tryz.func50 (by kernel_rfl) h
def Adq (x0:Option Addr) (x1:Nat) (x2:Nat) (x3:Int) (K:Value->World->Prop) (w:World):Prop:=
 ∀x4 w1,x4=w.heap.size->w1=w.alloc (.cells #[.slice x0 x1 x2] 22)->
 ∀x5 w2,x5=w1.heap.size->w2=w1.alloc (.cells #[.q x3] 3)->
 K (.func (.func 55) #[] #[.pointer (some ⟨x5,0,none⟩),.pointer (some ⟨x4,0,none⟩)]) w2
theorem Adr (x0:Option Addr) (x1:Nat) (x2:Nat) (x3:Int) (K:Value->World->Prop) (w:World) (h:Adq x0 x1 x2 x3 K w):Calls Tryz.prog 28 #[.slice x0 x1 x2,.q x3] w (Ret K):=
 Ao {} Tryz.func28 (by kernel_rfl) h
def Agj (x0:Option Addr) (x1:Nat) (_x2:Nat) (x3:Int) (K:Value->World->Prop) (w:World):Prop:=
 ∀(_x4:Nat->Value),
 cond (((decide (x3<0))||(decide (x3>=(x1:Int)))))
 (K (.q (x1:Int)) w)
 (∃(I:Int->Int->World->Prop) (x5:Int->Int->World->Nat),I x3 1 w/\
 ∀(_x6:Nat->Value) (x7:Int) (x8:Int) (w1:World),I x7 x8 w1->
 ∀(_x9:Nat->Value),
 cond (((decide (x8>0))&&(decide (x7<(x1:Int)))))
 (((0:Int)<=x7/\x7<(x1:Int))/\
 A5 x0 (fun x10=>
 ∃x11,w1.cell? ((x10.add (x7.toNat*5)).add 3)=some (.q x11)/\
 I (IntKind.i64.wrap (x7+1)) (IntKind.i64.wrap (x8+(IntKind.i64.wrap ((if(x1:Int)<(if 0>x11 then 0 else x11)then(x1:Int)else(if 0>x11 then 0 else x11))-1)))) w1/\x5 (IntKind.i64.wrap (x7+1)) (IntKind.i64.wrap (x8+(IntKind.i64.wrap ((if(x1:Int)<(if 0>x11 then 0 else x11)then(x1:Int)else(if 0>x11 then 0 else x11))-1)))) w1<x5 x7 x8 w1))
 (K (.q x7) w1))
theorem Agk (x0:Option Addr) (x1:Nat) (x2:Nat) (x3:Int) (K:Value->World->Prop) (w:World) (h:Agj x0 x1 x2 x3 K w):Calls Tryz.prog 56 #[.slice x0 x1 x2,.q x3] w (Ret K):=
 Ao { loops:=[(58,[(1,.int .i64),(5,.int .i64)])],Axr:=[(12,[13]),(464,[23])] } Tryz.func56 (by kernel_rfl) h
def Kz (x0:Option Addr) (x1:Nat) (_x2:Nat) (K:Value->World->Prop) (w:World):Prop:=
 ∃(I:Int->Int->World->Prop) (x3:Int->Int->World->Nat),I 0 (IntKind.i64.wrap ((x1:Int)-1)) w/\
 ∀(_x4:Nat->Value) (x5:Int) (x6:Int) (w1:World),I x5 x6 w1->
 cond (decide (x5<x6))
 (∃(J:World->Prop),
 (∀w2,w2=w1.drew->
 ((0:Int)<=x6/\x6<(x1:Int))/\
 A5 x0 (fun x7=>
 ∃x8,w2.cell? (x7.add (x6.toNat*1))=some (.int .u8 x8)/\
 ((0:Int)<=x5/\x5<(x1:Int))/\
 A5 x0 (fun x9=>
 ∃x10,w2.cell? (x9.add (x5.toNat*1))=some (.int .u8 x10)/\
 ((0:Int)<=x5/\x5<(x1:Int))/\
 A5 x0 (fun x11=>
 Af w2 (x11.add (x5.toNat*1)) 1/\∀w3,w3=w2.setCell (x11.add (x5.toNat*1)) (.int .u8 x8)->
 ((0:Int)<=x6/\x6<(x1:Int))/\
 A5 x0 (fun x12=>
 Af w3 (x12.add (x6.toNat*1)) 1/\∀w4,w4=w3.setCell (x12.add (x6.toNat*1)) (.int .u8 x10)->
 J w4)))))/\
 ∀(_x13:Nat->Value) (w5:World),J w5->
 I (IntKind.i64.wrap (x5+1)) (IntKind.i64.wrap (x6-1)) w5/\x3 (IntKind.i64.wrap (x5+1)) (IntKind.i64.wrap (x6-1)) w5<x3 x5 x6 w1)
 (K (.tuple #[]) w1)
theorem K0 (x0:Option Addr) (x1:Nat) (x2:Nat) (K:Value->World->Prop) (w:World) (h:Kz x0 x1 x2 K w):Calls Tryz.prog 26 #[.slice x0 x1 x2] w (Ret K):=
 Ao { loops:=[(6,[(2,.int .i64),(3,.int .i64)])],Axo:=[(25,[])] } Tryz.func26 (by kernel_rfl) h
def Aan (x0:List UInt8) (K:Value->World->Prop) (w:World):Prop:=
 cond (!(x0==[]))
 (cond (decide ((x0.length:Int)<=16))
 (((0:Int)<=0/\0<(x0.length:Int))/\
 Calls Tryz.prog 79 #[.int .u8 ((x0.getD 0 0).toNat:Int)] w (Ret fun x1 w1=>
 ∃x2,x1= .bool x2/\
 cond (x2)
 (Calls Tryz.prog 80 #[.s x0,.func (.func 81) #[] #[]] w1 (Ret fun x3 w2=>
 ∃x4,x3= .s x4/\
 cond (x4==x0)
 (Calls Tryz.prog 82 #[.s x0] w2 (Ret fun x5 w3=>
 ∃x6,x5= .bool x6/\
 K (.bool (!x6)) w3))
 (K (.bool false) w2)))
 (K (.bool false) w1)))
 (K (.bool false) w))
 (K (.bool false) w)
theorem Aao (x0:List UInt8) (K:Value->World->Prop) (w:World) (h:Aan x0 K w):Calls Tryz.prog 53 #[.s x0] w (Ret K):=
 Ao {} Tryz.func53 (by kernel_rfl) h
def Aap (x0:List UInt8) (K:Value->World->Prop) (w:World):Prop:=
 Calls Tryz.prog 95 #[] w (Ret fun x1 w1=>
 ∃x2 x3 x4,x1= .slice x2 x3 x4/\
 Calls Tryz.prog 94 #[.slice x2 x3 x4,.s x0] w1 (Ret fun x5 w2=>
 ∃x6 x7,x5= .tuple #[.q x6,.bool x7]/\
 K (.bool x7) w2))
theorem Aaq (x0:List UInt8) (K:Value->World->Prop) (w:World) (h:Aap x0 K w):Calls Tryz.prog 82 #[.s x0] w (Ret K):=
 Ao {} Tryz.func82 (by kernel_rfl) h
def Ww (x0:Int) (K:Value->World->Prop) (w:World):Prop:=
 ∀(_x1:Nat->Value),
 K (.bool ((x0==95)||((decide ((Px .u8 x0 32)>=97))&&(decide ((Px .u8 x0 32)<=122))))) w
theorem Wx (x0:Int) (K:Value->World->Prop) (w:World) (h:Ww x0 K w):Calls Tryz.prog 79 #[.int .u8 x0] w (Ret K):=
 Ao { Axr:=[(6,[2])] } Tryz.func79 (by kernel_rfl) h
def Yw (x0:Int) (K:Value->World->Prop) (w:World):Prop:=
 ∀(_x1:Nat->Value),
 K (.bool ((decide (x0>=48))&&(decide (x0<=57)))) w
theorem Yx (x0:Int) (K:Value->World->Prop) (w:World) (h:Yw x0 K w):Calls Tryz.prog 93 #[.int .u8 x0] w (Ret K):=
 Ao { Axr:=[(6,[2])] } Tryz.func93 (by kernel_rfl) h
end Go.Proofs.YtcakelelfklhdaaGreatDoor
namespace Go.Proofs.YtcakelelfklhdaaGreatDoor
open Go.Vc
def Wy (x0:Int) (K:Value->World->Prop) (w:World):Prop:=
 Calls Tryz.prog 79 #[.int .u8 x0] w (Ret fun x1 w1=>
 ∃x2,x1= .bool x2/\
 cond (x2)
 (K (.bool true) w1)
 (Calls Tryz.prog 93 #[.int .u8 x0] w1 (Ret fun x3 w2=>
 ∃x4,x3= .bool x4/\
 K (.bool x4) w2)))
theorem Wz (x0:Int) (K:Value->World->Prop) (w:World) (h:Wy x0 K w):Calls Tryz.prog 81 #[.int .u8 x0] w (Ret K):=
 Ao {} Tryz.func81 (by kernel_rfl) h
def Yy (K:Value->World->Prop) (w:World):Prop:=
 ∀x0 w1,x0=w.heap.size->w1=w.alloc (.cells #[.s [97,102,116,101,114],.s [97,115,115,101,114,116],.s [99,97,115,101],.s [99,104,97,110],.s [101,108,115,101],.s [105,102],.s [109,97,105,110],.s [112,114,105,110,116],.s [112,114,111,99],.s [114,97,110,100,111,109],.s [115,101,108,101,99,116],.s [115,107,105,112],.s [115,108,101,101,112],.s [115,116,97,114,116],.s [115,116,111,112],.s [118,97,114],.s [119,104,101,110],.s [119,104,105,108,101]] 9)->
 K (.slice (some ⟨x0,0,none⟩) 18 18) w1
theorem Yz (K:Value->World->Prop) (w:World) (h:Yy K w):Calls Tryz.prog 95 #[] w (Ret K):=
 Ao {} Tryz.func95 (by kernel_rfl) h
def Hb (x0:Option Addr) (x1:Nat) (_x2:Nat) (x3:List UInt8) (K:Value->World->Prop) (w:World):Prop:=
 ∃(I:Int->Int->World->Prop) (x4:Int->Int->World->Nat),I 0 (x1:Int) w/\
 ∀(_x5:Nat->Value) (x6:Int) (x7:Int) (w1:World),I x6 x7 w1->
 cond (decide (x6<x7))
 ((0:Int)<=1/\
 ((0:Int)<=(IntKind.i64.wrap ((IntKind.u64.wrap (IntKind.i64.wrap (x6+x7))).fdiv (2^(min 1 IntKind.u64.bits))))/\(IntKind.i64.wrap ((IntKind.u64.wrap (IntKind.i64.wrap (x6+x7))).fdiv (2^(min 1 IntKind.u64.bits))))<(x1:Int))/\
 A5 x0 (fun x8=>
 ∃x9,w1.cell? (x8.add ((IntKind.i64.wrap ((IntKind.u64.wrap (IntKind.i64.wrap (x6+x7))).fdiv (2^(min 1 IntKind.u64.bits)))).toNat*1))=some (.s x9)/\
 Calls Tryz.prog 106 #[.s x9,.s x3] w1 (Ret fun x10 w2=>
 ∃x11,x10= .bool x11/\
 cond (x11)
 (I (IntKind.i64.wrap ((IntKind.i64.wrap ((IntKind.u64.wrap (IntKind.i64.wrap (x6+x7))).fdiv (2^(min 1 IntKind.u64.bits))))+1)) x7 w2/\x4 (IntKind.i64.wrap ((IntKind.i64.wrap ((IntKind.u64.wrap (IntKind.i64.wrap (x6+x7))).fdiv (2^(min 1 IntKind.u64.bits))))+1)) x7 w2<x4 x6 x7 w1)
 (I x6 (IntKind.i64.wrap ((IntKind.u64.wrap (IntKind.i64.wrap (x6+x7))).fdiv (2^(min 1 IntKind.u64.bits)))) w2/\x4 x6 (IntKind.i64.wrap ((IntKind.u64.wrap (IntKind.i64.wrap (x6+x7))).fdiv (2^(min 1 IntKind.u64.bits)))) w2<x4 x6 x7 w1))))
 (cond (decide (x6<(x1:Int)))
 (((0:Int)<=x6/\x6<(x1:Int))/\
 A5 x0 (fun x12=>
 ∃x13,w1.cell? (x12.add (x6.toNat*1))=some (.s x13)/\
 cond (x13==x3)
 (K (.tuple #[.q x6,.bool true]) w1)
 (((0:Int)<=x6/\x6<(x1:Int))/\
 A5 x0 (fun x14=>
 ∃x15,w1.cell? (x14.add (x6.toNat*1))=some (.s x15)/\
 Calls Tryz.prog 107 #[.s x15] w1 (Ret fun x16 w3=>
 ∃x17,x16= .bool x17/\
 cond (x17)
 (Calls Tryz.prog 107 #[.s x3] w3 (Ret fun x18 w4=>
 ∃x19,x18= .bool x19/\
 K (.tuple #[.q x6,.bool x19]) w4))
 (K (.tuple #[.q x6,.bool false]) w3))))))
 (K (.tuple #[.q x6,.bool false]) w1))
theorem Hc (x0:Option Addr) (x1:Nat) (x2:Nat) (x3:List UInt8) (K:Value->World->Prop) (w:World) (h:Hb x0 x1 x2 x3 K w):Calls Tryz.prog 94 #[.slice x0 x1 x2,.s x3] w (Ret K):=
 Ao { loops:=[(60,[(7,.int .i64),(8,.int .i64)])] } Tryz.func94 (by kernel_rfl) h
def Sf (x0:List UInt8) (x1:List UInt8) (K:Value->World->Prop) (w:World):Prop:=
 Calls Tryz.prog 118 #[.s x0] w (Ret fun x2 w1=>
 ∃x3,x2= .bool x3/\
 cond (x3)
 (Calls Tryz.prog 118 #[.s x1] w1 (Ret fun x4 w2=>
 ∃x5,x4= .bool x5/\
 cond (!x5)
 (K (.bool true) w2)
 (K (.bool (Op.bytesLess x0 x1)) w2)))
 (K (.bool (Op.bytesLess x0 x1)) w1))
theorem Sg (x0:List UInt8) (x1:List UInt8) (K:Value->World->Prop) (w:World) (h:Sf x0 x1 K w):Calls Tryz.prog 106 #[.s x0,.s x1] w (Ret K):=
 Ao {} Tryz.func106 (by kernel_rfl) h
def Ob (x0:List UInt8) (K:Value->World->Prop) (w:World):Prop:=
 K (.bool (!(x0==x0))) w
theorem Oc (x0:List UInt8) (K:Value->World->Prop) (w:World) (h:Ob x0 K w):Calls Tryz.prog 107 #[.s x0] w (Ret K):=
 Ao {} Tryz.func107 (by kernel_rfl) h
def Rp (x0:List UInt8) (K:Value->World->Prop) (w:World):Prop:=
 K (.bool (!(x0==x0))) w
theorem Rq (x0:List UInt8) (K:Value->World->Prop) (w:World) (h:Rp x0 K w):Calls Tryz.prog 118 #[.s x0] w (Ret K):=
 Ao {} Tryz.func118 (by kernel_rfl) h
def Aar (x0:Int) (K:Value->World->Prop) (w:World):Prop:=
 cond (x0==17)
 (K (.q 1) w)
 (cond (x0==16)
 (K (.q 2) w)
 (∀(_x1:Nat->Value),
 cond (((decide (x0>=10))&&(decide (x0<=15))))
 (K (.q 3) w)
 (∀(_x2:Nat->Value),
 cond (((x0==5)||(x0==6)))
 (K (.q 4) w)
 (∀(_x3:Nat->Value),
 cond (((decide (x0>=7))&&(decide (x0<=9))))
 (K (.q 5) w)
 (∀(_x4:Nat->Value),
 cond (((x0==3)||(x0==4)))
 (K (.q 6) w)
 (∀(_x5:Nat->Value),
 cond (((x0==1)||(x0==2)))
 (K (.q 7) w)
 (K (.q 0) w)))))))
theorem Aas (x0:Int) (K:Value->World->Prop) (w:World) (h:Aar x0 K w):Calls Tryz.prog 21 #[.q x0] w (Ret K):=
 Ao { Axr:=[(414,[9]),(1662,[16]),(6654,[23]),(26622,[30]),(106494,[37])] } Tryz.func21 (by kernel_rfl) h
def Ajk (x0:Option Addr) (x1:Nat) (x2:Nat) (x3:Int) (K:Value->World->Prop) (w:World):Prop:=
 ∀(_x4:Nat->Value),
 cond (((decide (x3<0))||(decide (x3>=(x1:Int)))))
 (K (.q (x1:Int)) w)
 (∃(I:Int->Int->World->Prop) (x5:Int->Int->World->Nat),I (IntKind.i64.wrap (x3+1)) 0 w/\
 ∀(_x6:Nat->Value) (x7:Int) (x8:Int) (w1:World),I x7 x8 w1->
 ∃(J:Bool->World->Prop),
 (((0:Int)<=x3/\x3<(x1:Int))/\
 A5 x0 (fun x9=>
 ∃x10,w1.cell? ((x9.add (x3.toNat*5)).add 3)=some (.q x10)/\
 cond (decide (x8<x10))
 (J (decide (x7<(x1:Int))) w1)
 (J false w1)))/\
 ∀(_x11:Nat->Value) (x12:Bool) (w2:World),J x12 w2->
 cond (x12)
 (Calls Tryz.prog 76 #[.slice x0 x1 x2,.q x7] w2 (Ret fun x13 w3=>
 ∃x14,x13= .q x14/\
 I x14 (IntKind.i64.wrap (x8+1)) w3/\x5 x14 (IntKind.i64.wrap (x8+1)) w3<x5 x7 x8 w1))
 (K (.q x7) w2))
theorem Ajl (x0:Option Addr) (x1:Nat) (x2:Nat) (x3:Int) (K:Value->World->Prop) (w:World) (h:Ajk x0 x1 x2 x3 K w):Calls Tryz.prog 76 #[.slice x0 x1 x2,.q x3] w (Ret K):=
 Ao { loops:=[(122,[(5,.int .i64),(6,.int .i64)])],Axo:=[(488,[(31,.bool)])],Axr:=[(12,[14])] } Tryz.func76 (by kernel_rfl) h
def Agl (x0:Option Addr) (x1:Nat) (x2:Nat) (x3:Int) (K:Value->World->Prop) (w:World):Prop:=
 ∀(_x4:Nat->Value),
 cond (((decide (x3<0))||(decide (x3>=(x1:Int)))))
 (K (.slice none 0 0) w)
 (∃(I:Option Addr->Nat->Nat->Int->Int->World->Prop) (x5:Option Addr->Nat->Nat->Int->Int->World->Nat),I none 0 0 (IntKind.i64.wrap (x3+1)) 0 w/\
 ∀(_x6:Nat->Value) (x7:Option Addr) (x8:Nat) (x9:Nat) (x10:Int) (x11:Int) (w1:World),I x7 x8 x9 x10 x11 w1->
 ∃(J:Bool->World->Prop),
 (((0:Int)<=x3/\x3<(x1:Int))/\
 A5 x0 (fun x12=>
 ∃x13,w1.cell? ((x12.add (x3.toNat*5)).add 3)=some (.q x13)/\
 cond (decide (x11<x13))
 (J (decide (x10<(x1:Int))) w1)
 (J false w1)))/\
 ∀(_x14:Nat->Value) (x15:Bool) (w2:World),J x15 w2->
 cond (x15)
 (∀x16 w3,x16=w2.heap.size->w3=w2.alloc (.cells #[.q x10] 3)->
 Bl Tryz.prog (Builtin.append_ #[47,47] 47 #[.slice x7 x8 x9,.slice (some ⟨x16,0,none⟩) 1 1]) (fun x17 w4=>
 ∃x18 x19 x20,x17= .slice x18 x19 x20/\
 Calls Tryz.prog 76 #[.slice x0 x1 x2,.q x10] w4 (Ret fun x21 w5=>
 ∃x22,x21= .q x22/\
 I x18 x19 x20 x22 (IntKind.i64.wrap (x11+1)) w5/\x5 x18 x19 x20 x22 (IntKind.i64.wrap (x11+1)) w5<x5 x7 x8 x9 x10 x11 w1)) w3)
 (K (.slice x7 x8 x9) w2))
theorem Agm (x0:Option Addr) (x1:Nat) (x2:Nat) (x3:Int) (K:Value->World->Prop) (w:World) (h:Agl x0 x1 x2 x3 K w):Calls Tryz.prog 39 #[.slice x0 x1 x2,.q x3] w (Ret K):=
 Ao { loops:=[(250,[(5,.slice),(6,.int .i64),(7,.int .i64)])],Axo:=[(1000,[(31,.bool)])],Axr:=[(28,[15])] } Tryz.func39 (by kernel_rfl) h
def Amh (x0:Option Addr) (x1:Nat) (x2:Nat) (x3:Int) (K:Value->World->Prop) (w:World):Prop:=
 ∃(I:Int->World->Prop) (x4:Int->World->Nat),I 0 w/\
 ∀(_x5:Nat->Value) (x6:Int) (w1:World),I x6 w1->
 ∀(_x7:Nat->Value),
 cond (((decide (x6<x3))&&(decide (x6<(x1:Int)))))
 (Calls Tryz.prog 39 #[.slice x0 x1 x2,.q x6] w1 (Ret fun x8 w2=>
 ∃x9 x10 x11,x8= .slice x9 x10 x11/\
 ∃(I1:Int->World->Prop) (x12:Int->World->Nat),I1 0 w2/\
 ∀(_x13:Nat->Value) (x14:Int) (w3:World),I1 x14 w3->
 cond (decide (x14<(x10:Int)))
 (((0:Int)<=x14/\x14<(x10:Int))/\
 A5 x9 (fun x15=>
 ∃x16,w3.cell? (x15.add (x14.toNat*1))=some (.q x16)/\
 cond (x16==x3)
 (K (.q x6) w3)
 (I1 (IntKind.i64.wrap (x14+1)) w3/\x12 (IntKind.i64.wrap (x14+1)) w3<x12 x14 w3)))
 (I (IntKind.i64.wrap (x6+1)) w3/\x4 (IntKind.i64.wrap (x6+1)) w3<x4 x6 w1)))
 (K (.q (-1)) w1)
theorem Ami (x0:Option Addr) (x1:Nat) (x2:Nat) (x3:Int) (K:Value->World->Prop) (w:World) (h:Amh x0 x1 x2 x3 K w):Calls Tryz.prog 19 #[.slice x0 x1 x2,.q x3] w (Ret K):=
 Ao { loops:=[(26,[(5,.int .i64)]),(3366,[(7,.int .i64)])],Axr:=[(208,[16])] } Tryz.func19 (by kernel_rfl) h
def Agn (x0:Option Addr) (x1:Nat) (_x2:Nat) (x3:Option Addr) (x4:Nat) (_x5:Nat) (K:Value->World->Prop) (w:World):Prop:=
 cond ((x1:Int) !=(x4:Int))
 (K (.bool false) w)
 (∃(I:Int->World->Prop) (x6:Int->World->Nat),I 0 w/\
 ∀(_x7:Nat->Value) (x8:Int) (w1:World),I x8 w1->
 cond (decide (x8<(x1:Int)))
 (∃(J:Bool->World->Prop),
 (∀w2,w2=w1.drew->
 ((0:Int)<=x8/\x8<(x1:Int))/\
 A5 x0 (fun x9=>
 ∃x10,w2.cell? (x9.add (x8.toNat*5))=some (.q x10)/\
 ((0:Int)<=x8/\x8<(x4:Int))/\
 A5 x3 (fun x11=>
 ∃x12,w2.cell? (x11.add (x8.toNat*5))=some (.q x12)/\
 cond (x10 !=x12)
 (J true w2)
 (((0:Int)<=x8/\x8<(x1:Int))/\
 A5 x0 (fun x13=>
 ∃x14,w2.cell? ((x13.add (x8.toNat*5)).add 1)=some (.s x14)/\
 ((0:Int)<=x8/\x8<(x4:Int))/\
 A5 x3 (fun x15=>
 ∃x16,w2.cell? ((x15.add (x8.toNat*5)).add 1)=some (.s x16)/\
 cond (!(x14==x16))
 (J true w2)
 (((0:Int)<=x8/\x8<(x1:Int))/\
 A5 x0 (fun x17=>
 ∃x18,w2.cell? ((x17.add (x8.toNat*5)).add 2)=some (.q x18)/\
 ((0:Int)<=x8/\x8<(x4:Int))/\
 A5 x3 (fun x19=>
 ∃x20,w2.cell? ((x19.add (x8.toNat*5)).add 2)=some (.q x20)/\
 cond (x18 !=x20)
 (J true w2)
 (((0:Int)<=x8/\x8<(x1:Int))/\
 A5 x0 (fun x21=>
 ∃x22,w2.cell? ((x21.add (x8.toNat*5)).add 3)=some (.q x22)/\
 ((0:Int)<=x8/\x8<(x4:Int))/\
 A5 x3 (fun x23=>
 ∃x24,w2.cell? ((x23.add (x8.toNat*5)).add 3)=some (.q x24)/\
 J (x22 !=x24) w2))))))))))))/\
 ∀(_x25:Nat->Value) (x26:Bool) (w3:World),J x26 w3->
 cond (x26)
 (K (.bool false) w3)
 (I (IntKind.i64.wrap (x8+1)) w3/\x6 (IntKind.i64.wrap (x8+1)) w3<x6 x8 w1))
 (K (.bool true) w1))
theorem Ago (x0:Option Addr) (x1:Nat) (x2:Nat) (x3:Option Addr) (x4:Nat) (x5:Nat) (K:Value->World->Prop) (w:World) (h:Agn x0 x1 x2 x3 x4 x5 K w):Calls Tryz.prog 10 #[.slice x0 x1 x2,.slice x3 x4 x5] w (Ret K):=
 Ao { loops:=[(58,[(5,.int .i64)])],Axo:=[(932,[(66,.bool)])] } Tryz.func10 (by kernel_rfl) h
def Agp (x0:Option Addr) (x1:Nat) (x2:Nat) (x3:Int) (K:Value->World->Prop) (w:World):Prop:=
 Calls Tryz.prog 19 #[.slice x0 x1 x2,.q x3] w (Ret fun x4 w1=>
 ∃x5,x4= .q x5/\
 ∃(I:Int->Int->World->Prop) (x6:Int->Int->World->Nat),I x5 0 w1/\
 ∀(_x7:Nat->Value) (x8:Int) (x9:Int) (w2:World),I x8 x9 w2->
 cond (decide (x8>=0))
 (Calls Tryz.prog 19 #[.slice x0 x1 x2,.q x8] w2 (Ret fun x10 w3=>
 ∃x11,x10= .q x11/\
 I x11 (IntKind.i64.wrap (x9+1)) w3/\x6 x11 (IntKind.i64.wrap (x9+1)) w3<x6 x8 x9 w2))
 (K (.q x9) w2))
theorem Agq (x0:Option Addr) (x1:Nat) (x2:Nat) (x3:Int) (K:Value->World->Prop) (w:World) (h:Agp x0 x1 x2 x3 K w):Calls Tryz.prog 9 #[.slice x0 x1 x2,.q x3] w (Ret K):=
 Ao { loops:=[(58,[(1,.int .i64),(5,.int .i64)])] } Tryz.func9 (by kernel_rfl) h
def Amj (x0:Option Addr) (x1:Nat) (x2:Nat) (K:Value->World->Prop) (w:World):Prop:=
 Calls Tryz.prog 11 #[.slice x0 x1 x2] w (Ret fun x3 w1=>
 ∃x4 x5,x3= .agg #[.q x4,.q x5]/\
 Bl Tryz.prog (do eqGuard .eql 34 (.tmp 4) (.tmp 5) (.agg #[.q x4,.q x5]) (.agg #[.q 0,.q 0]);binOp .eql 34 (.agg #[.q x4,.q x5]) (.agg #[.q 0,.q 0])) (fun x6 w2=>
 ∃x7,x6= .bool x7/\
 K (.bool x7) w2) w1)
theorem Amk (x0:Option Addr) (x1:Nat) (x2:Nat) (K:Value->World->Prop) (w:World) (h:Amj x0 x1 x2 K w):Calls Tryz.prog 5 #[.slice x0 x1 x2] w (Ret K):=
 Ao {} Tryz.func5 (by kernel_rfl) h
def Ads (x0:Option Addr) (x1:Nat) (x2:Nat) (K:Value->World->Prop) (w:World):Prop:=
 ∀x3 w1,x3=w.heap.size->w1=w.alloc (.cells #[.q 0,.q 0] 34)->
 Calls Tryz.prog 20 #[.slice x0 x1 x2,.q 0,.s [85]] w1 (Ret fun x4 w2=>
 ∃x5 x6,x4= .agg #[.q x5,.bool x6]/\
 ∀x7 w3,x7=w2.heap.size->w3=w2.alloc (.cells #[.q 0,.bool false] 61)->
 Af w3 ⟨x7,0,none⟩ 2/\∀w4,w4=setCells w3 ⟨x7,0,none⟩ [.q x5,.bool x6]->
 ∃(J:Bool->World->Prop),
 (∃x8,w4.cell? ⟨x7,1,none⟩=some (.bool x8)/\
 cond (x8)
 (∃x9,w4.cell? ⟨x7,0,none⟩=some (.q x9)/\
 J (x9==(x1:Int)) w4)
 (J false w4))/\
 ∀(_x10:Nat->Value) (x11:Bool) (w5:World),J x11 w5->
 cond (x11)
 (Af w5 ⟨x3,0,none⟩ 2/\∀w6,w6=setCells w5 ⟨x3,0,none⟩ [.q 0,.q 0]->
 ∃x12 x13,Ad w6 ⟨x3,0,none⟩ [.q x12,.q x13]/\
 K (.agg #[.q x12,.q x13]) w6)
 (∃x14,w5.cell? ⟨x7,0,none⟩=some (.q x14)/\
 Af w5 ⟨x3,0,none⟩ 2/\∀w7,w7=setCells w5 ⟨x3,0,none⟩ [.q x14,.q 3]->
 ∃x15 x16,Ad w7 ⟨x3,0,none⟩ [.q x15,.q x16]/\
 K (.agg #[.q x15,.q x16]) w7))
theorem Adt (x0:Option Addr) (x1:Nat) (x2:Nat) (K:Value->World->Prop) (w:World) (h:Ads x0 x1 x2 K w):Calls Tryz.prog 11 #[.slice x0 x1 x2] w (Ret K):=
 Ao { Axo:=[(14,[(14,.bool)])] } Tryz.func11 (by kernel_rfl) h
def Adu (x0:Option Addr) (x1:Nat) (x2:Nat) (x3:Int) (x4:List UInt8) (K:Value->World->Prop) (w:World):Prop:=
 ∀x5 w1,x5=w.heap.size->w1=w.alloc (.cells #[.q 0,.bool false] 61)->
 cond (decide (x3>=(x1:Int)))
 (Af w1 ⟨x5,0,none⟩ 2/\∀w2,w2=setCells w1 ⟨x5,0,none⟩ [.q (x1:Int),.bool false]->
 ∃x6 x7,Ad w2 ⟨x5,0,none⟩ [.q x6,.bool x7]/\
 K (.agg #[.q x6,.bool x7]) w2)
 (((0:Int)<=x3/\x3<(x1:Int))/\
 A5 x0 (fun x8=>
 ∃x9 x10 x11 x12 x13,Ad w1 (x8.add (x3.toNat*5)) [.q x9,.s x10,.q x11,.q x12,.q x13]/\
 ∀x14 w3,x14=w1.heap.size->w3=w1.alloc (.cells #[.q 0,.s [],.q 0,.q 0,.q 0] 59)->
 ∀x15 w4,x15=w3.heap.size->w4=w3.alloc (.cells #[.q 0,.bool false] 61)->
 ∀x16 w5,x16=w4.heap.size->w5=w4.alloc (.cells #[.q 0,.bool false] 61)->
 Af w5 ⟨x14,0,none⟩ 5/\∀w6,w6=setCells w5 ⟨x14,0,none⟩ [.q x9,.s x10,.q x11,.q x12,.q x13]->
 Af w6 ⟨x15,0,none⟩ 2/\∀w7,w7=setCells w6 ⟨x15,0,none⟩ [.q x3,.bool false]->
 Af w7 ⟨x16,0,none⟩ 2/\∀w8,w8=setCells w7 ⟨x16,0,none⟩ [.q (IntKind.i64.wrap (x3+1)),.bool true]->
 ∃(J:World->Prop),
 (cond (x4==[69])
 (∃x17 x18 x19 x20 x21,Ad w8 ⟨x14,0,none⟩ [.q x17,.s x18,.q x19,.q x20,.q x21]/\
 ∃x22 x23,Ad w8 ⟨x15,0,none⟩ [.q x22,.bool x23]/\
 ∃x24 x25,Ad w8 ⟨x16,0,none⟩ [.q x24,.bool x25]/\
 Calls Tryz.prog 40 #[.slice x0 x1 x2,.agg #[.q x17,.s x18,.q x19,.q x20,.q x21],.agg #[.q x22,.bool x23],.agg #[.q x24,.bool x25]] w8 (Ret fun x26 w9=>
 ∃x27 x28,x26= .agg #[.q x27,.bool x28]/\
 Af w9 ⟨x5,0,none⟩ 2/\∀w10,w10=setCells w9 ⟨x5,0,none⟩ [.q x27,.bool x28]->
 ∃x29 x30,Ad w10 ⟨x5,0,none⟩ [.q x29,.bool x30]/\
 K (.agg #[.q x29,.bool x30]) w10))
 (cond (x4==[83])
 (∃x31 x32 x33 x34 x35,Ad w8 ⟨x14,0,none⟩ [.q x31,.s x32,.q x33,.q x34,.q x35]/\
 ∃x36 x37,Ad w8 ⟨x15,0,none⟩ [.q x36,.bool x37]/\
 ∃x38 x39,Ad w8 ⟨x16,0,none⟩ [.q x38,.bool x39]/\
 Calls Tryz.prog 41 #[.slice x0 x1 x2,.agg #[.q x31,.s x32,.q x33,.q x34,.q x35],.agg #[.q x36,.bool x37],.agg #[.q x38,.bool x39]] w8 (Ret fun x40 w11=>
 ∃x41 x42,x40= .agg #[.q x41,.bool x42]/\
 Af w11 ⟨x5,0,none⟩ 2/\∀w12,w12=setCells w11 ⟨x5,0,none⟩ [.q x41,.bool x42]->
 ∃x43 x44,Ad w12 ⟨x5,0,none⟩ [.q x43,.bool x44]/\
 K (.agg #[.q x43,.bool x44]) w12))
 (cond (x4==[67])
 (∃x45 x46 x47 x48 x49,Ad w8 ⟨x14,0,none⟩ [.q x45,.s x46,.q x47,.q x48,.q x49]/\
 ∃x50 x51,Ad w8 ⟨x15,0,none⟩ [.q x50,.bool x51]/\
 ∃x52 x53,Ad w8 ⟨x16,0,none⟩ [.q x52,.bool x53]/\
 Calls Tryz.prog 42 #[.slice x0 x1 x2,.agg #[.q x45,.s x46,.q x47,.q x48,.q x49],.agg #[.q x50,.bool x51],.agg #[.q x52,.bool x53]] w8 (Ret fun x54 w13=>
 ∃x55 x56,x54= .agg #[.q x55,.bool x56]/\
 Af w13 ⟨x5,0,none⟩ 2/\∀w14,w14=setCells w13 ⟨x5,0,none⟩ [.q x55,.bool x56]->
 ∃x57 x58,Ad w14 ⟨x5,0,none⟩ [.q x57,.bool x58]/\
 K (.agg #[.q x57,.bool x58]) w14))
 (cond (x4==[82])
 (∃(J1:Bool->World->Prop),
 (∃x59,w8.cell? ⟨x14,0,none⟩=some (.q x59)/\
 cond (x59==33)
 (∃x60 x61 x62 x63 x64,Ad w8 ⟨x14,0,none⟩ [.q x60,.s x61,.q x62,.q x63,.q x64]/\
 Calls Tryz.prog 43 #[.agg #[.q x60,.s x61,.q x62,.q x63,.q x64],.q 0] w8 (Ret fun x65 w15=>
 ∃x66,x65= .bool x66/\
 cond (x66)
 (J1 true w15)
 (∃x67 x68 x69 x70 x71,Ad w15 ⟨x14,0,none⟩ [.q x67,.s x68,.q x69,.q x70,.q x71]/\
 Calls Tryz.prog 43 #[.agg #[.q x67,.s x68,.q x69,.q x70,.q x71],.q 1] w15 (Ret fun x72 w16=>
 ∃x73,x72= .bool x73/\
 J1 x73 w16))))
 (J1 false w8))/\
 ∀(_x74:Nat->Value) (x75:Bool) (w17:World),J1 x75 w17->
 cond (x75)
 (∃x76 x77,Ad w17 ⟨x16,0,none⟩ [.q x76,.bool x77]/\
 ∃x78,w17.cell? ⟨x14,3,none⟩=some (.q x78)/\
 Calls Tryz.prog 44 #[.slice x0 x1 x2,.agg #[.q x76,.bool x77],.s [69],.q x78] w17 (Ret fun x79 w18=>
 ∃x80 x81,x79= .agg #[.q x80,.bool x81]/\
 Af w18 ⟨x5,0,none⟩ 2/\∀w19,w19=setCells w18 ⟨x5,0,none⟩ [.q x80,.bool x81]->
 ∃x82 x83,Ad w19 ⟨x5,0,none⟩ [.q x82,.bool x83]/\
 K (.agg #[.q x82,.bool x83]) w19))
 (J w17))
 (cond (x4==[66])
 (∃(J2:Bool->World->Prop),
 (∃x84,w8.cell? ⟨x14,0,none⟩=some (.q x84)/\
 cond (x84==32)
 (∃x85,w8.cell? ⟨x14,3,none⟩=some (.q x85)/\
 cond (decide (x85>=0))
 (∃x86 x87 x88 x89 x90,Ad w8 ⟨x14,0,none⟩ [.q x86,.s x87,.q x88,.q x89,.q x90]/\
 ∃x91,w8.cell? ⟨x14,3,none⟩=some (.q x91)/\
 Calls Tryz.prog 45 #[.agg #[.q x86,.s x87,.q x88,.q x89,.q x90],.q x91] w8 (Ret fun x92 w20=>
 ∃x93,x92= .bool x93/\
 J2 x93 w20))
 (J2 false w8))
 (J2 false w8))/\
 ∀(_x94:Nat->Value) (x95:Bool) (w21:World),J2 x95 w21->
 cond (x95)
 (∃x96 x97,Ad w21 ⟨x16,0,none⟩ [.q x96,.bool x97]/\
 ∃x98,w21.cell? ⟨x14,3,none⟩=some (.q x98)/\
 Calls Tryz.prog 44 #[.slice x0 x1 x2,.agg #[.q x96,.bool x97],.s [83],.q x98] w21 (Ret fun x99 w22=>
 ∃Axy Ax6,x99= .agg #[.q Axy,.bool Ax6]/\
 Af w22 ⟨x5,0,none⟩ 2/\∀w23,w23=setCells w22 ⟨x5,0,none⟩ [.q Axy,.bool Ax6]->
 ∃Ax9 Axz,Ad w23 ⟨x5,0,none⟩ [.q Ax9,.bool Axz]/\
 K (.agg #[.q Ax9,.bool Axz]) w23))
 (J w21))
 (cond (x4==[80])
 (∃(J3:Bool->World->Prop),
 (∃Ayd,w8.cell? ⟨x14,0,none⟩=some (.q Ayd)/\
 cond (Ayd==39)
 (∃Axs Ax7 Aya Ax3 Ax8,Ad w8 ⟨x14,0,none⟩ [.q Axs,.s Ax7,.q Aya,.q Ax3,.q Ax8]/\
 Calls Tryz.prog 43 #[.agg #[.q Axs,.s Ax7,.q Aya,.q Ax3,.q Ax8],.q 0] w8 (Ret fun Azh w24=>
 ∃Ayj,Azh= .bool Ayj/\
 J3 Ayj w24))
 (J3 false w8))/\
 ∀(_x112:Nat->Value) (Aza:Bool) (w25:World),J3 Aza w25->
 cond (Aza)
 (∃Ay5 Ays,Ad w25 ⟨x16,0,none⟩ [.q Ay5,.bool Ays]/\
 Af w25 ⟨x5,0,none⟩ 2/\∀w26,w26=setCells w25 ⟨x5,0,none⟩ [.q Ay5,.bool Ays]->
 ∃Ayw Ay6,Ad w26 ⟨x5,0,none⟩ [.q Ayw,.bool Ay6]/\
 K (.agg #[.q Ayw,.bool Ay6]) w26)
 (J w25))
 (cond (x4==[85])
 (∃(J4:Bool->World->Prop),
 (∃Ayx,w8.cell? ⟨x14,0,none⟩=some (.q Ayx)/\
 cond (Ayx==42)
 (∃Azi,w8.cell? ⟨x14,3,none⟩=some (.q Azi)/\
 cond (decide (Azi>=0))
 (∃Ayy Ayz Ay0 Ayt Ay1,Ad w8 ⟨x14,0,none⟩ [.q Ayy,.s Ayz,.q Ay0,.q Ayt,.q Ay1]/\
 ∃Azu,w8.cell? ⟨x14,3,none⟩=some (.q Azu)/\
 Calls Tryz.prog 45 #[.agg #[.q Ayy,.s Ayz,.q Ay0,.q Ayt,.q Ay1],.q Azu] w8 (Ret fun Azn w27=>
 ∃Azs,Azn= .bool Azs/\
 J4 Azs w27))
 (J4 false w8))
 (J4 false w8))/\
 ∀(_x128:Nat->Value) (Az2:Bool) (w28:World),J4 Az2 w28->
 cond (Az2)
 (∃Azt Bcc,Ad w28 ⟨x16,0,none⟩ [.q Azt,.bool Bcc]/\
 ∃Ax0,w28.cell? ⟨x14,3,none⟩=some (.q Ax0)/\
 Calls Tryz.prog 44 #[.slice x0 x1 x2,.agg #[.q Azt,.bool Bcc],.s [68],.q Ax0] w28 (Ret fun Bbg w29=>
 ∃Az3 Baj,Bbg= .agg #[.q Az3,.bool Baj]/\
 Af w29 ⟨x5,0,none⟩ 2/\∀w30,w30=setCells w29 ⟨x5,0,none⟩ [.q Az3,.bool Baj]->
 ∃Bbh Bak,Ad w30 ⟨x5,0,none⟩ [.q Bbh,.bool Bak]/\
 K (.agg #[.q Bbh,.bool Bak]) w30))
 (J w28))
 (cond (x4==[68])
 (∃Az9,w8.cell? ⟨x14,0,none⟩=some (.q Az9)/\
 cond (Az9==38)
 (∃(J5:Bool->World->Prop),
 (∃Bbi,w8.cell? ⟨x14,1,none⟩=some (.s Bbi)/\
 Calls Tryz.prog 46 #[.s Bbi] w8 (Ret fun Bbj w31=>
 ∃Bcd,Bbj= .bool Bcd/\
 cond (Bcd)
 (∃Bal,w31.cell? ⟨x14,3,none⟩=some (.q Bal)/\
 cond (Bal==0)
 (∃Bce,w31.cell? ⟨x14,2,none⟩=some (.q Bce)/\
 cond (decide (Bce>=0))
 (∃Bam,w31.cell? ⟨x14,2,none⟩=some (.q Bam)/\
 J5 (decide (Bam<=16)) w31)
 (J5 false w31))
 (J5 false w31))
 (J5 false w31)))/\
 ∀(_x145:Nat->Value) (Ban:Bool) (w32:World),J5 Ban w32->
 cond (Ban)
 (∃Bao Bb3,Ad w32 ⟨x16,0,none⟩ [.q Bao,.bool Bb3]/\
 Af w32 ⟨x5,0,none⟩ 2/\∀w33,w33=setCells w32 ⟨x5,0,none⟩ [.q Bao,.bool Bb3]->
 ∃Bap Bcf,Ad w33 ⟨x5,0,none⟩ [.q Bap,.bool Bcf]/\
 K (.agg #[.q Bap,.bool Bcf]) w33)
 (J w32))
 (cond (Az9==41)
 (∃Baq Bb4 Bar Bas Bbk,Ad w8 ⟨x14,0,none⟩ [.q Baq,.s Bb4,.q Bar,.q Bas,.q Bbk]/\
 Calls Tryz.prog 45 #[.agg #[.q Baq,.s Bb4,.q Bar,.q Bas,.q Bbk],.q 1] w8 (Ret fun Bbl w34=>
 ∃Bcg,Bbl= .bool Bcg/\
 cond (Bcg)
 (∃Bbm Bbn,Ad w34 ⟨x16,0,none⟩ [.q Bbm,.bool Bbn]/\
 Calls Tryz.prog 47 #[.slice x0 x1 x2,.agg #[.q Bbm,.bool Bbn],.s [66]] w34 (Ret fun Bbo w35=>
 ∃Bat Bbp,Bbo= .agg #[.q Bat,.bool Bbp]/\
 Af w35 ⟨x5,0,none⟩ 2/\∀w36,w36=setCells w35 ⟨x5,0,none⟩ [.q Bat,.bool Bbp]->
 ∃Bau Bbq,Ad w36 ⟨x5,0,none⟩ [.q Bau,.bool Bbq]/\
 K (.agg #[.q Bau,.bool Bbq]) w36))
 (J w34)))
 (cond (Az9==40)
 (∃(J6:Bool->World->Prop),
 (∃Bav,w8.cell? ⟨x14,3,none⟩=some (.q Bav)/\
 cond (decide (Bav>=1))
 (∃Bch Baw Bax Bbr Bci,Ad w8 ⟨x14,0,none⟩ [.q Bch,.s Baw,.q Bax,.q Bbr,.q Bci]/\
 ∃Bcj,w8.cell? ⟨x14,3,none⟩=some (.q Bcj)/\
 Calls Tryz.prog 43 #[.agg #[.q Bch,.s Baw,.q Bax,.q Bbr,.q Bci],.q Bcj] w8 (Ret fun Bbs w37=>
 ∃Bay,Bbs= .bool Bay/\
 J6 Bay w37))
 (J6 false w8))/\
 ∀(_x174:Nat->Value) (Bd6:Bool) (w38:World),J6 Bd6 w38->
 cond (Bd6)
 (∃Bd7 Bd8,Ad w38 ⟨x16,0,none⟩ [.q Bd7,.bool Bd8]/\
 ∃Be6,w38.cell? ⟨x14,3,none⟩=some (.q Be6)/\
 Calls Tryz.prog 44 #[.slice x0 x1 x2,.agg #[.q Bd7,.bool Bd8],.s [80],.q (IntKind.i64.wrap (Be6-1))] w38 (Ret fun Bge w39=>
 ∃Bd9 Bea,Bge= .agg #[.q Bd9,.bool Bea]/\
 Calls Tryz.prog 47 #[.slice x0 x1 x2,.agg #[.q Bd9,.bool Bea],.s [66]] w39 (Ret fun Be7 w40=>
 ∃Beb Bec,Be7= .agg #[.q Beb,.bool Bec]/\
 Af w40 ⟨x5,0,none⟩ 2/\∀w41,w41=setCells w40 ⟨x5,0,none⟩ [.q Beb,.bool Bec]->
 ∃Be8 Be9,Ad w41 ⟨x5,0,none⟩ [.q Be8,.bool Be9]/\
 K (.agg #[.q Be8,.bool Be9]) w41)))
 (J w38))
 (J w8))))
 (J w8)))))))))/\
 ∀(_x187:Nat->Value) (w42:World),J w42->
 ∃Bed Bee,Ad w42 ⟨x15,0,none⟩ [.q Bed,.bool Bee]/\
 Af w42 ⟨x5,0,none⟩ 2/\∀w43,w43=setCells w42 ⟨x5,0,none⟩ [.q Bed,.bool Bee]->
 ∃Bef Beg,Ad w43 ⟨x5,0,none⟩ [.q Bef,.bool Beg]/\
 K (.agg #[.q Bef,.bool Beg]) w43))
theorem Adv (x0:Option Addr) (x1:Nat) (x2:Nat) (x3:Int) (x4:List UInt8) (K:Value->World->Prop) (w:World) (h:Adu x0 x1 x2 x3 x4 K w):Calls Tryz.prog 20 #[.slice x0 x1 x2,.q x3,.s x4] w (Ret K):=
 Ao { Axo:=[(15,[]),(31486,[(60,.bool)]),(125950,[(81,.bool)]),(503806,[(95,.bool)]),(2015230,[(112,.bool)]),(128974826,[(141,.bool)]),(2063597246,[(160,.bool)])] } Tryz.func20 (by kernel_rfl) h
def Ajm (x0:Option Addr) (x1:Nat) (x2:Nat) (x3:Int) (x4:Bool) (x5:List UInt8) (x6:Int) (K:Value->World->Prop) (w:World):Prop:=
 ∀x7 w1,x7=w.heap.size->w1=w.alloc (.cells #[.q x3,.bool x4] 61)->
 ∀x8 w2,x8=w1.heap.size->w2=w1.alloc (.cells #[.q 0,.bool false] 61)->
 ∃(I:Int->World->Prop) (x9:Int->World->Nat),I 0 w2/\
 ∀(_x10:Nat->Value) (x11:Int) (w3:World),I x11 w3->
 ∃(J:Bool->World->Prop),
 (cond (decide (x11<x6))
 (∃x12,w3.cell? ⟨x7,1,none⟩=some (.bool x12)/\
 J x12 w3)
 (J false w3))/\
 ∀(_x13:Nat->Value) (x14:Bool) (w4:World),J x14 w4->
 cond (x14)
 (∃x15,w4.cell? ⟨x7,0,none⟩=some (.q x15)/\
 Calls Tryz.prog 20 #[.slice x0 x1 x2,.q x15,.s x5] w4 (Ret fun x16 w5=>
 ∃x17 x18,x16= .agg #[.q x17,.bool x18]/\
 Af w5 ⟨x7,0,none⟩ 2/\∀w6,w6=setCells w5 ⟨x7,0,none⟩ [.q x17,.bool x18]->
 I (IntKind.i64.wrap (x11+1)) w6/\x9 (IntKind.i64.wrap (x11+1)) w6<x9 x11 w3))
 (∃x19 x20,Ad w4 ⟨x7,0,none⟩ [.q x19,.bool x20]/\
 Af w4 ⟨x8,0,none⟩ 2/\∀w7,w7=setCells w4 ⟨x8,0,none⟩ [.q x19,.bool x20]->
 ∃x21 x22,Ad w7 ⟨x8,0,none⟩ [.q x21,.bool x22]/\
 K (.agg #[.q x21,.bool x22]) w7)
theorem Ajn (x0:Option Addr) (x1:Nat) (x2:Nat) (x3:Int) (x4:Bool) (x5:List UInt8) (x6:Int) (K:Value->World->Prop) (w:World) (h:Ajm x0 x1 x2 x3 x4 x5 x6 K w):Calls Tryz.prog 44 #[.slice x0 x1 x2,.agg #[.q x3,.bool x4],.s x5,.q x6] w (Ret K):=
 Ao { loops:=[(26,[(9,.int .i64)])],Axo:=[(104,[(16,.bool)])] } Tryz.func44 (by kernel_rfl) h
def Ajo (x0:Option Addr) (x1:Nat) (x2:Nat) (x3:Int) (x4:Bool) (x5:List UInt8) (K:Value->World->Prop) (w:World):Prop:=
 ∀x6 w1,x6=w.heap.size->w1=w.alloc (.cells #[.q x3,.bool x4] 61)->
 ∀x7 w2,x7=w1.heap.size->w2=w1.alloc (.cells #[.q 0,.bool false] 61)->
 ∃(I:Int->World->Prop) (x8:Int->World->Nat),I 0 w2/\
 ∀(_x9:Nat->Value) (x10:Int) (w3:World),I x10 w3->
 ∃(J:Bool->World->Prop),
 (cond (decide (x10<(x5.length:Int)))
 (∃x11,w3.cell? ⟨x6,1,none⟩=some (.bool x11)/\
 J x11 w3)
 (J false w3))/\
 ∀(_x12:Nat->Value) (x13:Bool) (w4:World),J x13 w4->
 cond (x13)
 (∃(J1:World->Prop),
 (∀w5,w5=w4.drew->
 ∃x14,w5.cell? ⟨x6,0,none⟩=some (.q x14)/\
 (((0:Int)<=(IntKind.i64.wrap (x10+1))/\(IntKind.i64.wrap (x10+1))<=(x5.length:Int))/\(0:Int)<=x10/\x10<=((IntKind.i64.wrap (x10+1)).toNat:Int))/\
 Calls Tryz.prog 20 #[.slice x0 x1 x2,.q x14,.string (mkS ((x5.take (IntKind.i64.wrap (x10+1)).toNat).drop x10.toNat))] w5 (Ret fun x15 w6=>
 ∃x16 x17,x15= .agg #[.q x16,.bool x17]/\
 Af w6 ⟨x6,0,none⟩ 2/\∀w7,w7=setCells w6 ⟨x6,0,none⟩ [.q x16,.bool x17]->
 J1 w7))/\
 ∀(_x18:Nat->Value) (w8:World),J1 w8->
 I (IntKind.i64.wrap (x10+1)) w8/\x8 (IntKind.i64.wrap (x10+1)) w8<x8 x10 w3)
 (∃x19 x20,Ad w4 ⟨x6,0,none⟩ [.q x19,.bool x20]/\
 Af w4 ⟨x7,0,none⟩ 2/\∀w9,w9=setCells w4 ⟨x7,0,none⟩ [.q x19,.bool x20]->
 ∃x21 x22,Ad w9 ⟨x7,0,none⟩ [.q x21,.bool x22]/\
 K (.agg #[.q x21,.bool x22]) w9)
theorem Ajp (x0:Option Addr) (x1:Nat) (x2:Nat) (x3:Int) (x4:Bool) (x5:List UInt8) (K:Value->World->Prop) (w:World) (h:Ajo x0 x1 x2 x3 x4 x5 K w):Calls Tryz.prog 47 #[.slice x0 x1 x2,.agg #[.q x3,.bool x4],.s x5] w (Ret K):=
 Ao { loops:=[(26,[(7,.int .i64)])],Axo:=[(104,[(15,.bool)]),(105,[])] } Tryz.func47 (by kernel_rfl) h
def Agr (x0:Option Addr) (x1:Nat) (x2:Nat) (x3:Int) (x4:List UInt8) (x5:Int) (x6:Int) (x7:Int) (x8:Int) (x9:Bool) (x10:Int) (x11:Bool) (K:Value->World->Prop) (w:World):Prop:=
 ∀x12 w1,x12=w.heap.size->w1=w.alloc (.cells #[.q x3,.s x4,.q x5,.q x6,.q x7] 59)->
 ∀x13 w2,x13=w1.heap.size->w2=w1.alloc (.cells #[.q x8,.bool x9] 61)->
 ∀x14 w3,x14=w2.heap.size->w3=w2.alloc (.cells #[.q x10,.bool x11] 61)->
 ∀x15 w4,x15=w3.heap.size->w4=w3.alloc (.cells #[.q 0,.bool false] 61)->
 ∃(J:Bool->World->Prop),
 (∃x16,w4.cell? ⟨x12,0,none⟩=some (.q x16)/\
 cond (x16==1)
 (∃x17,w4.cell? ⟨x12,1,none⟩=some (.s x17)/\
 cond (x17==[])
 (∃x18,w4.cell? ⟨x12,3,none⟩=some (.q x18)/\
 cond (x18==0)
 (∃x19,w4.cell? ⟨x12,2,none⟩=some (.q x19)/\
 cond (decide (x19>=0))
 (∃x20,w4.cell? ⟨x12,2,none⟩=some (.q x20)/\
 J (decide (x20<=999999999999999999)) w4)
 (J false w4))
 (J false w4))
 (J false w4))
 (J false w4))/\
 ∀(_x21:Nat->Value) (x22:Bool) (w5:World),J x22 w5->
 cond (x22)
 (∃x23 x24,Ad w5 ⟨x14,0,none⟩ [.q x23,.bool x24]/\
 Af w5 ⟨x15,0,none⟩ 2/\∀w6,w6=setCells w5 ⟨x15,0,none⟩ [.q x23,.bool x24]->
 ∃x25 x26,Ad w6 ⟨x15,0,none⟩ [.q x25,.bool x26]/\
 K (.agg #[.q x25,.bool x26]) w6)
 (∃(J1:Bool->World->Prop),
 (∃x27,w5.cell? ⟨x12,0,none⟩=some (.q x27)/\
 cond (x27==2)
 (∃x28 x29 x30 x31 x32,Ad w5 ⟨x12,0,none⟩ [.q x28,.s x29,.q x30,.q x31,.q x32]/\
 Calls Tryz.prog 43 #[.agg #[.q x28,.s x29,.q x30,.q x31,.q x32],.q 0] w5 (Ret fun x33 w7=>
 ∃x34,x33= .bool x34/\
 J1 x34 w7))
 (J1 false w5))/\
 ∀(_x35:Nat->Value) (x36:Bool) (w8:World),J1 x36 w8->
 cond (x36)
 (∃x37 x38,Ad w8 ⟨x14,0,none⟩ [.q x37,.bool x38]/\
 Af w8 ⟨x15,0,none⟩ 2/\∀w9,w9=setCells w8 ⟨x15,0,none⟩ [.q x37,.bool x38]->
 ∃x39 x40,Ad w9 ⟨x15,0,none⟩ [.q x39,.bool x40]/\
 K (.agg #[.q x39,.bool x40]) w9)
 (∃(J2:Bool->World->Prop),
 (∃x41,w8.cell? ⟨x12,0,none⟩=some (.q x41)/\
 cond (x41==3)
 (∃x42 x43 x44 x45 x46,Ad w8 ⟨x12,0,none⟩ [.q x42,.s x43,.q x44,.q x45,.q x46]/\
 Calls Tryz.prog 45 #[.agg #[.q x42,.s x43,.q x44,.q x45,.q x46],.q 1] w8 (Ret fun x47 w10=>
 ∃x48,x47= .bool x48/\
 J2 x48 w10))
 (∃x49,w8.cell? ⟨x12,0,none⟩=some (.q x49)/\
 cond (x49==4)
 (∃x50 x51 x52 x53 x54,Ad w8 ⟨x12,0,none⟩ [.q x50,.s x51,.q x52,.q x53,.q x54]/\
 Calls Tryz.prog 45 #[.agg #[.q x50,.s x51,.q x52,.q x53,.q x54],.q 1] w8 (Ret fun x55 w11=>
 ∃x56,x55= .bool x56/\
 J2 x56 w11))
 (J2 false w8)))/\
 ∀(_x57:Nat->Value) (x58:Bool) (w12:World),J2 x58 w12->
 cond (x58)
 (∃x59 x60,Ad w12 ⟨x14,0,none⟩ [.q x59,.bool x60]/\
 Calls Tryz.prog 47 #[.slice x0 x1 x2,.agg #[.q x59,.bool x60],.s [69]] w12 (Ret fun x61 w13=>
 ∃x62 x63,x61= .agg #[.q x62,.bool x63]/\
 Af w13 ⟨x15,0,none⟩ 2/\∀w14,w14=setCells w13 ⟨x15,0,none⟩ [.q x62,.bool x63]->
 ∃x64 x65,Ad w14 ⟨x15,0,none⟩ [.q x64,.bool x65]/\
 K (.agg #[.q x64,.bool x65]) w14))
 (∃(J3:Bool->World->Prop),
 (∃x66,w12.cell? ⟨x12,0,none⟩=some (.q x66)/\
 cond (decide (x66>=5))
 (∃x67,w12.cell? ⟨x12,0,none⟩=some (.q x67)/\
 cond (decide (x67<=17))
 (∃x68 x69 x70 x71 x72,Ad w12 ⟨x12,0,none⟩ [.q x68,.s x69,.q x70,.q x71,.q x72]/\
 Calls Tryz.prog 45 #[.agg #[.q x68,.s x69,.q x70,.q x71,.q x72],.q 2] w12 (Ret fun x73 w15=>
 ∃x74,x73= .bool x74/\
 J3 x74 w15))
 (J3 false w12))
 (J3 false w12))/\
 ∀(_x75:Nat->Value) (x76:Bool) (w16:World),J3 x76 w16->
 cond (x76)
 (∃x77 x78,Ad w16 ⟨x14,0,none⟩ [.q x77,.bool x78]/\
 Calls Tryz.prog 47 #[.slice x0 x1 x2,.agg #[.q x77,.bool x78],.s [69,69]] w16 (Ret fun x79 w17=>
 ∃x80 x81,x79= .agg #[.q x80,.bool x81]/\
 Af w17 ⟨x15,0,none⟩ 2/\∀w18,w18=setCells w17 ⟨x15,0,none⟩ [.q x80,.bool x81]->
 ∃x82 x83,Ad w18 ⟨x15,0,none⟩ [.q x82,.bool x83]/\
 K (.agg #[.q x82,.bool x83]) w18))
 (∃x84 x85,Ad w16 ⟨x13,0,none⟩ [.q x84,.bool x85]/\
 Af w16 ⟨x15,0,none⟩ 2/\∀w19,w19=setCells w16 ⟨x15,0,none⟩ [.q x84,.bool x85]->
 ∃x86 x87,Ad w19 ⟨x15,0,none⟩ [.q x86,.bool x87]/\
 K (.agg #[.q x86,.bool x87]) w19))))
theorem Ags (x0:Option Addr) (x1:Nat) (x2:Nat) (x3:Int) (x4:List UInt8) (x5:Int) (x6:Int) (x7:Int) (x8:Int) (x9:Bool) (x10:Int) (x11:Bool) (K:Value->World->Prop) (w:World) (h:Agr x0 x1 x2 x3 x4 x5 x6 x7 x8 x9 x10 x11 K w):Calls Tryz.prog 40 #[.slice x0 x1 x2,.agg #[.q x3,.s x4,.q x5,.q x6,.q x7],.agg #[.q x8,.bool x9],.agg #[.q x10,.bool x11]] w (Ret K):=
 Ao { Axo:=[(12,[(9,.bool)]),(51,[(34,.bool)]),(207,[(43,.bool)]),(831,[(59,.bool)])] } Tryz.func40 (by kernel_rfl) h
def Agt (x0:Option Addr) (x1:Nat) (x2:Nat) (x3:Int) (x4:List UInt8) (x5:Int) (x6:Int) (x7:Int) (x8:Int) (x9:Bool) (x10:Int) (x11:Bool) (K:Value->World->Prop) (w:World):Prop:=
 ∀x12 w1,x12=w.heap.size->w1=w.alloc (.cells #[.q x3,.s x4,.q x5,.q x6,.q x7] 59)->
 ∀x13 w2,x13=w1.heap.size->w2=w1.alloc (.cells #[.q x8,.bool x9] 61)->
 ∀x14 w3,x14=w2.heap.size->w3=w2.alloc (.cells #[.q x10,.bool x11] 61)->
 ∀x15 w4,x15=w3.heap.size->w4=w3.alloc (.cells #[.q 0,.bool false] 61)->
 ∃(J:World->Prop),
 (∃x16,w4.cell? ⟨x12,0,none⟩=some (.q x16)/\
 ∃(J1:Bool->World->Prop),
 (cond (x16==18)
 (J1 (x16==18) w4)
 (cond (x16==19)
 (J1 (x16==19) w4)
 (J1 (x16==20) w4)))/\
 ∀(_x17:Nat->Value) (x18:Bool) (w5:World),J1 x18 w5->
 cond (x18)
 (∃x19 x20 x21 x22 x23,Ad w5 ⟨x12,0,none⟩ [.q x19,.s x20,.q x21,.q x22,.q x23]/\
 Calls Tryz.prog 43 #[.agg #[.q x19,.s x20,.q x21,.q x22,.q x23],.q 1] w5 (Ret fun x24 w6=>
 ∃x25,x24= .bool x25/\
 cond (x25)
 (∃x26 x27,Ad w6 ⟨x14,0,none⟩ [.q x26,.bool x27]/\
 Calls Tryz.prog 47 #[.slice x0 x1 x2,.agg #[.q x26,.bool x27],.s [69]] w6 (Ret fun x28 w7=>
 ∃x29 x30,x28= .agg #[.q x29,.bool x30]/\
 Af w7 ⟨x15,0,none⟩ 2/\∀w8,w8=setCells w7 ⟨x15,0,none⟩ [.q x29,.bool x30]->
 ∃x31 x32,Ad w8 ⟨x15,0,none⟩ [.q x31,.bool x32]/\
 K (.agg #[.q x31,.bool x32]) w8))
 (J w6)))
 (cond (x16==21)
 (∃x33 x34 x35 x36 x37,Ad w5 ⟨x12,0,none⟩ [.q x33,.s x34,.q x35,.q x36,.q x37]/\
 Calls Tryz.prog 45 #[.agg #[.q x33,.s x34,.q x35,.q x36,.q x37],.q 2] w5 (Ret fun x38 w9=>
 ∃x39,x38= .bool x39/\
 cond (x39)
 (∃x40 x41,Ad w9 ⟨x14,0,none⟩ [.q x40,.bool x41]/\
 Calls Tryz.prog 47 #[.slice x0 x1 x2,.agg #[.q x40,.bool x41],.s [82,69]] w9 (Ret fun x42 w10=>
 ∃x43 x44,x42= .agg #[.q x43,.bool x44]/\
 Af w10 ⟨x15,0,none⟩ 2/\∀w11,w11=setCells w10 ⟨x15,0,none⟩ [.q x43,.bool x44]->
 ∃x45 x46,Ad w11 ⟨x15,0,none⟩ [.q x45,.bool x46]/\
 K (.agg #[.q x45,.bool x46]) w11))
 (J w9)))
 (cond (x16==22)
 (∃x47 x48 x49 x50 x51,Ad w5 ⟨x12,0,none⟩ [.q x47,.s x48,.q x49,.q x50,.q x51]/\
 Calls Tryz.prog 43 #[.agg #[.q x47,.s x48,.q x49,.q x50,.q x51],.q 1] w5 (Ret fun x52 w12=>
 ∃x53,x52= .bool x53/\
 cond (x53)
 (∃x54 x55,Ad w12 ⟨x14,0,none⟩ [.q x54,.bool x55]/\
 Calls Tryz.prog 47 #[.slice x0 x1 x2,.agg #[.q x54,.bool x55],.s [82]] w12 (Ret fun x56 w13=>
 ∃x57 x58,x56= .agg #[.q x57,.bool x58]/\
 Af w13 ⟨x15,0,none⟩ 2/\∀w14,w14=setCells w13 ⟨x15,0,none⟩ [.q x57,.bool x58]->
 ∃x59 x60,Ad w14 ⟨x15,0,none⟩ [.q x59,.bool x60]/\
 K (.agg #[.q x59,.bool x60]) w14))
 (J w12)))
 (cond (x16==23)
 (∃x61 x62 x63 x64 x65,Ad w5 ⟨x12,0,none⟩ [.q x61,.s x62,.q x63,.q x64,.q x65]/\
 Calls Tryz.prog 45 #[.agg #[.q x61,.s x62,.q x63,.q x64,.q x65],.q 2] w5 (Ret fun x66 w15=>
 ∃x67,x66= .bool x67/\
 cond (x67)
 (∃x68 x69,Ad w15 ⟨x14,0,none⟩ [.q x68,.bool x69]/\
 Calls Tryz.prog 47 #[.slice x0 x1 x2,.agg #[.q x68,.bool x69],.s [69,66]] w15 (Ret fun x70 w16=>
 ∃x71 x72,x70= .agg #[.q x71,.bool x72]/\
 Af w16 ⟨x15,0,none⟩ 2/\∀w17,w17=setCells w16 ⟨x15,0,none⟩ [.q x71,.bool x72]->
 ∃x73 x74,Ad w17 ⟨x15,0,none⟩ [.q x73,.bool x74]/\
 K (.agg #[.q x73,.bool x74]) w17))
 (∃x75 x76 x77 x78 x79,Ad w15 ⟨x12,0,none⟩ [.q x75,.s x76,.q x77,.q x78,.q x79]/\
 Calls Tryz.prog 45 #[.agg #[.q x75,.s x76,.q x77,.q x78,.q x79],.q 3] w15 (Ret fun x80 w18=>
 ∃x81,x80= .bool x81/\
 cond (x81)
 (∃x82 x83,Ad w18 ⟨x14,0,none⟩ [.q x82,.bool x83]/\
 Calls Tryz.prog 47 #[.slice x0 x1 x2,.agg #[.q x82,.bool x83],.s [69,66,66]] w18 (Ret fun x84 w19=>
 ∃x85 x86,x84= .agg #[.q x85,.bool x86]/\
 Af w19 ⟨x15,0,none⟩ 2/\∀w20,w20=setCells w19 ⟨x15,0,none⟩ [.q x85,.bool x86]->
 ∃x87 x88,Ad w20 ⟨x15,0,none⟩ [.q x87,.bool x88]/\
 K (.agg #[.q x87,.bool x88]) w20))
 (J w18)))))
 (cond (x16==24)
 (∃x89 x90 x91 x92 x93,Ad w5 ⟨x12,0,none⟩ [.q x89,.s x90,.q x91,.q x92,.q x93]/\
 Calls Tryz.prog 45 #[.agg #[.q x89,.s x90,.q x91,.q x92,.q x93],.q 2] w5 (Ret fun x94 w21=>
 ∃x95,x94= .bool x95/\
 cond (x95)
 (∃x96 x97,Ad w21 ⟨x14,0,none⟩ [.q x96,.bool x97]/\
 Calls Tryz.prog 47 #[.slice x0 x1 x2,.agg #[.q x96,.bool x97],.s [69,66]] w21 (Ret fun x98 w22=>
 ∃x99 Axy,x98= .agg #[.q x99,.bool Axy]/\
 Af w22 ⟨x15,0,none⟩ 2/\∀w23,w23=setCells w22 ⟨x15,0,none⟩ [.q x99,.bool Axy]->
 ∃Ax6 Ax9,Ad w23 ⟨x15,0,none⟩ [.q Ax6,.bool Ax9]/\
 K (.agg #[.q Ax6,.bool Ax9]) w23))
 (J w21)))
 (cond (x16==25)
 (∃(J2:Bool->World->Prop),
 (∃Axz,w5.cell? ⟨x12,3,none⟩=some (.q Axz)/\
 cond (decide (Axz>=1))
 (∃Ayd Axs Ax7 Aya Ax3,Ad w5 ⟨x12,0,none⟩ [.q Ayd,.s Axs,.q Ax7,.q Aya,.q Ax3]/\
 ∃Ax8,w5.cell? ⟨x12,3,none⟩=some (.q Ax8)/\
 Calls Tryz.prog 45 #[.agg #[.q Ayd,.s Axs,.q Ax7,.q Aya,.q Ax3],.q Ax8] w5 (Ret fun Azh w24=>
 ∃Ayj,Azh= .bool Ayj/\
 J2 Ayj w24))
 (J2 false w5))/\
 ∀(_x112:Nat->Value) (Aza:Bool) (w25:World),J2 Aza w25->
 cond (Aza)
 (∃Ay5 Ays,Ad w25 ⟨x14,0,none⟩ [.q Ay5,.bool Ays]/\
 ∃Ayw,w25.cell? ⟨x12,3,none⟩=some (.q Ayw)/\
 Calls Tryz.prog 44 #[.slice x0 x1 x2,.agg #[.q Ay5,.bool Ays],.s [67],.q Ayw] w25 (Ret fun Ay6 w26=>
 ∃Ayx Azi,Ay6= .agg #[.q Ayx,.bool Azi]/\
 Af w26 ⟨x15,0,none⟩ 2/\∀w27,w27=setCells w26 ⟨x15,0,none⟩ [.q Ayx,.bool Azi]->
 ∃Ayy Ayz,Ad w27 ⟨x15,0,none⟩ [.q Ayy,.bool Ayz]/\
 K (.agg #[.q Ayy,.bool Ayz]) w27))
 (J w25))
 (cond (x16==26)
 (∃(J3:Bool->World->Prop),
 (∃Ay0,w5.cell? ⟨x12,3,none⟩=some (.q Ay0)/\
 cond (decide (Ay0>=0))
 (∃Ayt Ay1 Azu Azn Azs,Ad w5 ⟨x12,0,none⟩ [.q Ayt,.s Ay1,.q Azu,.q Azn,.q Azs]/\
 ∃Bbf,w5.cell? ⟨x12,3,none⟩=some (.q Bbf)/\
 Calls Tryz.prog 43 #[.agg #[.q Ayt,.s Ay1,.q Azu,.q Azn,.q Azs],.q Bbf] w5 (Ret fun Az2 w28=>
 ∃Azt,Az2= .bool Azt/\
 J3 Azt w28))
 (J3 false w5))/\
 ∀(_x131:Nat->Value) (Ax0:Bool) (w29:World),J3 Ax0 w29->
 cond (Ax0)
 (∃Bbg Az3,Ad w29 ⟨x14,0,none⟩ [.q Bbg,.bool Az3]/\
 ∃Baj,w29.cell? ⟨x12,3,none⟩=some (.q Baj)/\
 Calls Tryz.prog 44 #[.slice x0 x1 x2,.agg #[.q Bbg,.bool Az3],.s [69],.q Baj] w29 (Ret fun Bbh w30=>
 ∃Bak Az9,Bbh= .agg #[.q Bak,.bool Az9]/\
 Af w30 ⟨x15,0,none⟩ 2/\∀w31,w31=setCells w30 ⟨x15,0,none⟩ [.q Bak,.bool Az9]->
 ∃Bbi Bbj,Ad w31 ⟨x15,0,none⟩ [.q Bbi,.bool Bbj]/\
 K (.agg #[.q Bbi,.bool Bbj]) w31))
 (J w29))
 (∃(J4:Bool->World->Prop),
 (cond (x16==27)
 (J4 (x16==27) w5)
 (cond (x16==28)
 (J4 (x16==28) w5)
 (J4 (x16==29) w5)))/\
 ∀(_x141:Nat->Value) (Bal:Bool) (w32:World),J4 Bal w32->
 cond (Bal)
 (∃Bce Bam Bc1 Ban Bao,Ad w32 ⟨x12,0,none⟩ [.q Bce,.s Bam,.q Bc1,.q Ban,.q Bao]/\
 Calls Tryz.prog 45 #[.agg #[.q Bce,.s Bam,.q Bc1,.q Ban,.q Bao],.q 1] w32 (Ret fun Bb3 w33=>
 ∃Bap,Bb3= .bool Bap/\
 cond (Bap)
 (∃Bcf Baq,Ad w33 ⟨x14,0,none⟩ [.q Bcf,.bool Baq]/\
 Calls Tryz.prog 47 #[.slice x0 x1 x2,.agg #[.q Bcf,.bool Baq],.s [69]] w33 (Ret fun Bb4 w34=>
 ∃Bar Bas,Bb4= .agg #[.q Bar,.bool Bas]/\
 Af w34 ⟨x15,0,none⟩ 2/\∀w35,w35=setCells w34 ⟨x15,0,none⟩ [.q Bar,.bool Bas]->
 ∃Bbk Bbl,Ad w35 ⟨x15,0,none⟩ [.q Bbk,.bool Bbl]/\
 K (.agg #[.q Bbk,.bool Bbl]) w35))
 (J w33)))
 (∃(J5:Bool->World->Prop),
 (cond (x16==30)
 (J5 (x16==30) w32)
 (J5 (x16==31) w32))/\
 ∀(_x157:Nat->Value) (Bbm:Bool) (w36:World),J5 Bbm w36->
 cond (Bbm)
 (∃Bbn Bbo Bat Bbp Bau,Ad w36 ⟨x12,0,none⟩ [.q Bbn,.s Bbo,.q Bat,.q Bbp,.q Bau]/\
 Calls Tryz.prog 45 #[.agg #[.q Bbn,.s Bbo,.q Bat,.q Bbp,.q Bau],.q 0] w36 (Ret fun Bbq w37=>
 ∃Bav,Bbq= .bool Bav/\
 cond (Bav)
 (∃Bch Baw,Ad w37 ⟨x14,0,none⟩ [.q Bch,.bool Baw]/\
 Af w37 ⟨x15,0,none⟩ 2/\∀w38,w38=setCells w37 ⟨x15,0,none⟩ [.q Bch,.bool Baw]->
 ∃Bax Bbr,Ad w38 ⟨x15,0,none⟩ [.q Bax,.bool Bbr]/\
 K (.agg #[.q Bax,.bool Bbr]) w38)
 (J w37)))
 (J w36))))))))))/\
 ∀(_x170:Nat->Value) (w39:World),J w39->
 ∃Bcj Bbs,Ad w39 ⟨x13,0,none⟩ [.q Bcj,.bool Bbs]/\
 Af w39 ⟨x15,0,none⟩ 2/\∀w40,w40=setCells w39 ⟨x15,0,none⟩ [.q Bcj,.bool Bbs]->
 ∃Bay Bck,Ad w40 ⟨x15,0,none⟩ [.q Bay,.bool Bck]/\
 K (.agg #[.q Bay,.bool Bck]) w40
theorem Agu (x0:Option Addr) (x1:Nat) (x2:Nat) (x3:Int) (x4:List UInt8) (x5:Int) (x6:Int) (x7:Int) (x8:Int) (x9:Bool) (x10:Int) (x11:Bool) (K:Value->World->Prop) (w:World) (h:Agt x0 x1 x2 x3 x4 x5 x6 x7 x8 x9 x10 x11 K w):Calls Tryz.prog 41 #[.slice x0 x1 x2,.agg #[.q x3,.s x4,.q x5,.q x6,.q x7],.agg #[.q x8,.bool x9],.agg #[.q x10,.bool x11]] w (Ret K):=
 Ao { Axo:=[(3,[]),(26,[(11,.bool)]),(110590,[(63,.bool)]),(442366,[(79,.bool)]),(442367,[(85,.bool)]),(1769471,[(94,.bool)])] } Tryz.func41 (by kernel_rfl) h
def Aat (x0:Option Addr) (x1:Nat) (x2:Nat) (x3:Int) (x4:List UInt8) (x5:Int) (x6:Int) (x7:Int) (x8:Int) (x9:Bool) (x10:Int) (x11:Bool) (K:Value->World->Prop) (w:World):Prop:=
 ∀x12 w1,x12=w.heap.size->w1=w.alloc (.cells #[.q x3,.s x4,.q x5,.q x6,.q x7] 59)->
 ∀x13 w2,x13=w1.heap.size->w2=w1.alloc (.cells #[.q x8,.bool x9] 61)->
 ∀x14 w3,x14=w2.heap.size->w3=w2.alloc (.cells #[.q x10,.bool x11] 61)->
 ∀x15 w4,x15=w3.heap.size->w4=w3.alloc (.cells #[.q 0,.bool false] 61)->
 ∃x16,w4.cell? ⟨x12,0,none⟩=some (.q x16)/\
 cond (x16==37)
 (∃x17 x18 x19 x20 x21,Ad w4 ⟨x12,0,none⟩ [.q x17,.s x18,.q x19,.q x20,.q x21]/\
 Calls Tryz.prog 45 #[.agg #[.q x17,.s x18,.q x19,.q x20,.q x21],.q 1] w4 (Ret fun x22 w5=>
 ∃x23,x22= .bool x23/\
 cond (x23)
 (∃x24 x25,Ad w5 ⟨x14,0,none⟩ [.q x24,.bool x25]/\
 Calls Tryz.prog 47 #[.slice x0 x1 x2,.agg #[.q x24,.bool x25],.s [66]] w5 (Ret fun x26 w6=>
 ∃x27 x28,x26= .agg #[.q x27,.bool x28]/\
 Af w6 ⟨x15,0,none⟩ 2/\∀w7,w7=setCells w6 ⟨x15,0,none⟩ [.q x27,.bool x28]->
 ∃x29 x30,Ad w7 ⟨x15,0,none⟩ [.q x29,.bool x30]/\
 K (.agg #[.q x29,.bool x30]) w7))
 (∃x31 x32,Ad w5 ⟨x13,0,none⟩ [.q x31,.bool x32]/\
 Af w5 ⟨x15,0,none⟩ 2/\∀w8,w8=setCells w5 ⟨x15,0,none⟩ [.q x31,.bool x32]->
 ∃x33 x34,Ad w8 ⟨x15,0,none⟩ [.q x33,.bool x34]/\
 K (.agg #[.q x33,.bool x34]) w8)))
 (∃(J:List UInt8->World->Prop),
 (∃x35,w4.cell? ⟨x12,0,none⟩=some (.q x35)/\
 cond (x35==34)
 (J [82,66] w4)
 (cond (x35==35)
 (J [82,69,66] w4)
 (cond (x35==36)
 (J [69,66] w4)
 (∃x36 x37,Ad w4 ⟨x13,0,none⟩ [.q x36,.bool x37]/\
 Af w4 ⟨x15,0,none⟩ 2/\∀w9,w9=setCells w4 ⟨x15,0,none⟩ [.q x36,.bool x37]->
 ∃x38 x39,Ad w9 ⟨x15,0,none⟩ [.q x38,.bool x39]/\
 K (.agg #[.q x38,.bool x39]) w9))))/\
 ∀(_x40:Nat->Value) (x41:List UInt8) (w10:World),J x41 w10->
 ∃(J1:List UInt8->World->Prop),
 (∃x42,w10.cell? ⟨x12,2,none⟩=some (.q x42)/\
 cond (x42==1)
 ((([69].length+x41.length:Nat):Int)<=IntKind.i64.max/\
 J1 ([69]++x41) w10)
 (J1 x41 w10))/\
 ∀(_x43:Nat->Value) (x44:List UInt8) (w11:World),J1 x44 w11->
 ∃(J2:Bool->World->Prop),
 (∀w12,w12=w11.drew->
 ∃(S:World->Prop),S w12/\
 ∃x45,(∀u,S u->u.cell? ⟨x12,2,none⟩=some (.q x45))/\
 cond (decide (x45<0))
 (J2 true w12)
 (∃x46,(∀u,S u->u.cell? ⟨x12,2,none⟩=some (.q x46))/\
 cond (decide (x46>1))
 (J2 true w12)
 (∃x47,(∀u,S u->u.cell? ⟨x12,3,none⟩=some (.q x47))/\
 cond (x47 !=(x44.length:Int))
 (J2 true w12)
 (∃x48,(∀u,S u->u.cell? ⟨x12,0,none⟩=some (.q x48))/\
 ∃x49,(∀u,S u->u.cell? ⟨x12,1,none⟩=some (.s x49))/\
 Calls Tryz.prog 46 #[.s x49] w12 (Ret fun x50 w13=>
 ∃x51,x50= .bool x51/\
 S w13/\
 cond (!((x48==34)==x51))
 (J2 true w13)
 (∃x52,(∀u,(fun u=>u=w13) u->u.cell? ⟨x12,0,none⟩=some (.q x52))/\
 cond (x52 !=34)
 (∃x53,(∀u,(fun u=>u=w13) u->u.cell? ⟨x12,1,none⟩=some (.s x53))/\
 J2 (!(x53==[])) w13)
 (J2 false w13)))))))/\
 ∀(_x54:Nat->Value) (x55:Bool) (w14:World),J2 x55 w14->
 cond (x55)
 (∃x56 x57,Ad w14 ⟨x13,0,none⟩ [.q x56,.bool x57]/\
 Af w14 ⟨x15,0,none⟩ 2/\∀w15,w15=setCells w14 ⟨x15,0,none⟩ [.q x56,.bool x57]->
 ∃x58 x59,Ad w15 ⟨x15,0,none⟩ [.q x58,.bool x59]/\
 K (.agg #[.q x58,.bool x59]) w15)
 (∃x60 x61,Ad w14 ⟨x14,0,none⟩ [.q x60,.bool x61]/\
 Calls Tryz.prog 47 #[.slice x0 x1 x2,.agg #[.q x60,.bool x61],.s x44] w14 (Ret fun x62 w16=>
 ∃x63 x64,x62= .agg #[.q x63,.bool x64]/\
 Af w16 ⟨x15,0,none⟩ 2/\∀w17,w17=setCells w16 ⟨x15,0,none⟩ [.q x63,.bool x64]->
 ∃x65 x66,Ad w17 ⟨x15,0,none⟩ [.q x65,.bool x66]/\
 K (.agg #[.q x65,.bool x66]) w17)))
theorem Aau (x0:Option Addr) (x1:Nat) (x2:Nat) (x3:Int) (x4:List UInt8) (x5:Int) (x6:Int) (x7:Int) (x8:Int) (x9:Bool) (x10:Int) (x11:Bool) (K:Value->World->Prop) (w:World) (h:Aat x0 x1 x2 x3 x4 x5 x6 x7 x8 x9 x10 x11 K w):Calls Tryz.prog 42 #[.slice x0 x1 x2,.agg #[.q x3,.s x4,.q x5,.q x6,.q x7],.agg #[.q x8,.bool x9],.agg #[.q x10,.bool x11]] w (Ret K):=
 Ao { Axo:=[(15,[(9,.string)]),(31,[(9,.string)]),(126,[(66,.bool)])] } Tryz.func42 (by kernel_rfl) h
def Agv (x0:Int) (x1:List UInt8) (x2:Int) (x3:Int) (x4:Int) (x5:Int) (K:Value->World->Prop) (w:World):Prop:=
 ∀x6 w1,x6=w.heap.size->w1=w.alloc (.cells #[.q x0,.s x1,.q x2,.q x3,.q x4] 59)->
 ∃x7,w1.cell? ⟨x6,1,none⟩=some (.s x7)/\
 Calls Tryz.prog 46 #[.s x7] w1 (Ret fun x8 w2=>
 ∃x9,x8= .bool x9/\
 cond (x9)
 (∃x10,w2.cell? ⟨x6,2,none⟩=some (.q x10)/\
 cond (x10==0)
 (∃x11,w2.cell? ⟨x6,3,none⟩=some (.q x11)/\
 K (.bool (x11==x5)) w2)
 (K (.bool false) w2))
 (K (.bool false) w2))
theorem Agw (x0:Int) (x1:List UInt8) (x2:Int) (x3:Int) (x4:Int) (x5:Int) (K:Value->World->Prop) (w:World) (h:Agv x0 x1 x2 x3 x4 x5 K w):Calls Tryz.prog 43 #[.agg #[.q x0,.s x1,.q x2,.q x3,.q x4],.q x5] w (Ret K):=
 Ao {} Tryz.func43 (by kernel_rfl) h
def Agx (x0:Int) (x1:List UInt8) (x2:Int) (x3:Int) (x4:Int) (x5:Int) (K:Value->World->Prop) (w:World):Prop:=
 ∀x6 w1,x6=w.heap.size->w1=w.alloc (.cells #[.q x0,.s x1,.q x2,.q x3,.q x4] 59)->
 ∃x7,w1.cell? ⟨x6,1,none⟩=some (.s x7)/\
 cond (x7==[])
 (∃x8,w1.cell? ⟨x6,2,none⟩=some (.q x8)/\
 cond (x8==0)
 (∃x9,w1.cell? ⟨x6,3,none⟩=some (.q x9)/\
 K (.bool (x9==x5)) w1)
 (K (.bool false) w1))
 (K (.bool false) w1)
theorem Agy (x0:Int) (x1:List UInt8) (x2:Int) (x3:Int) (x4:Int) (x5:Int) (K:Value->World->Prop) (w:World) (h:Agx x0 x1 x2 x3 x4 x5 K w):Calls Tryz.prog 45 #[.agg #[.q x0,.s x1,.q x2,.q x3,.q x4],.q x5] w (Ret K):=
 Ao {} Tryz.func45 (by kernel_rfl) h
def Aml (x0:Option Addr) (x1:Nat) (x2:Nat) (x3:Int) (x4:List UInt8) (K:Value->World->Prop) (w:World):Prop:=
 Calls Tryz.prog 35 #[.slice x0 x1 x2,.q x3] w (Ret fun x5 w1=>
 ∃x6 x7 x8 x9,x5= .agg #[.q x6,.s x7,.q x8,.q x9]/\
 ∀x10 w2,x10=w1.heap.size->w2=w1.alloc (.cells #[.q 0,.s [],.q 0,.q 0] 57)->
 Af w2 ⟨x10,0,none⟩ 4/\∀w3,w3=setCells w2 ⟨x10,0,none⟩ [.q x6,.s x7,.q x8,.q x9]->
 ∃x11,w3.cell? ⟨x10,0,none⟩=some (.q x11)/\
 cond (x11==3)
 (∃x12,w3.cell? ⟨x10,1,none⟩=some (.s x12)/\
 K (.bool (x12==x4)) w3)
 (∃x13,w3.cell? ⟨x10,0,none⟩=some (.q x13)/\
 cond (x13==4)
 (∃x14,w3.cell? ⟨x10,1,none⟩=some (.s x14)/\
 K (.bool (x14==x4)) w3)
 (K (.bool false) w3)))
theorem Amm (x0:Option Addr) (x1:Nat) (x2:Nat) (x3:Int) (x4:List UInt8) (K:Value->World->Prop) (w:World) (h:Aml x0 x1 x2 x3 x4 K w):Calls Tryz.prog 70 #[.slice x0 x1 x2,.q x3,.s x4] w (Ret K):=
 Ao {} Tryz.func70 (by kernel_rfl) h
def Agz (x0:Int) (K:Value->World->Prop) (w:World):Prop:=
 ∀x1 w1,x1=w.heap.size->w1=w.alloc (.cells #[.slice none 0 0,.q 0,.q 0,.q 0] 82)->
 Af w1 ⟨x1,0,none⟩ 4/\∀w2,w2=setCells w1 ⟨x1,0,none⟩ [.slice none 0 0,.q 0,.q x0,.q 0]->
 ∃x2 x3 x4 x5 x6 x7,Ad w2 ⟨x1,0,none⟩ [.slice x2 x3 x4,.q x5,.q x6,.q x7]/\
 K (.agg #[.slice x2 x3 x4,.q x5,.q x6,.q x7]) w2
theorem Ag0 (x0:Int) (K:Value->World->Prop) (w:World) (h:Agz x0 K w):Calls Tryz.prog 34 #[.q x0] w (Ret K):=
 Ao {} Tryz.func34 (by kernel_rfl) h
end Go.Proofs.YtcakelelfklhdaaGreatDoor
namespace Go.Proofs.YtcakelelfklhdaaGreatDoor
open Go.Vc
def Ajq (x0:Option Addr) (x1:Nat) (x2:Nat) (x3:Int) (K:Value->World->Prop) (w:World):Prop:=
 ∀x4 w1,x4=w.heap.size->w1=w.alloc (.cells #[.slice none 0 0,.q 0,.q 0,.q 0] 82)->
 Calls Tryz.prog 34 #[.q x3] w1 (Ret fun x5 w2=>
 ∃x6 x7 x8 x9 x10 x11,x5= .agg #[.slice x6 x7 x8,.q x9,.q x10,.q x11]/\
 Calls Tryz.prog 72 #[.agg #[.slice x6 x7 x8,.q x9,.q x10,.q x11],.slice x0 x1 x2] w2 (Ret fun x12 w3=>
 ∃x13 x14 x15 x16 x17 x18 x19,x12= .tuple #[.agg #[.slice x13 x14 x15,.q x16,.q x17,.q x18],.s x19]/\
 ∀x20 w4,x20=w3.heap.size->w4=w3.alloc (.cells #[.slice none 0 0,.q 0,.q 0,.q 0] 82)->
 Af w4 ⟨x20,0,none⟩ 4/\∀w5,w5=setCells w4 ⟨x20,0,none⟩ [.slice x13 x14 x15,.q x16,.q x17,.q x18]->
 ∃(J:World->Prop),
 (∃(J1:Bool->World->Prop),
 (∃x21,w5.cell? ⟨x20,3,none⟩=some (.q x21)/\
 cond (x21==0)
 (∃x22,w5.cell? ⟨x20,2,none⟩=some (.q x22)/\
 Calls Tryz.prog 70 #[.slice x0 x1 x2,.q x22,.s [91]] w5 (Ret fun x23 w6=>
 ∃x24,x23= .bool x24/\
 J1 x24 w6))
 (J1 false w5))/\
 ∀(_x25:Nat->Value) (x26:Bool) (w7:World),J1 x26 w7->
 cond (x26)
 (∃x27 x28 x29 x30 x31 x32,Ad w7 ⟨x20,0,none⟩ [.slice x27 x28 x29,.q x30,.q x31,.q x32]/\
 Calls Tryz.prog 71 #[.agg #[.slice x27 x28 x29,.q x30,.q x31,.q x32],.slice x0 x1 x2,.s [91]] w7 (Ret fun x33 w8=>
 ∃x34 x35 x36 x37 x38 x39,x33= .agg #[.slice x34 x35 x36,.q x37,.q x38,.q x39]/\
 Calls Tryz.prog 115 #[.agg #[.slice x34 x35 x36,.q x37,.q x38,.q x39],.slice x0 x1 x2] w8 (Ret fun x40 w9=>
 ∃x41 x42 x43 x44 x45 x46,x40= .agg #[.slice x41 x42 x43,.q x44,.q x45,.q x46]/\
 Calls Tryz.prog 71 #[.agg #[.slice x41 x42 x43,.q x44,.q x45,.q x46],.slice x0 x1 x2,.s [93]] w9 (Ret fun x47 w10=>
 ∃x48 x49 x50 x51 x52 x53,x47= .agg #[.slice x48 x49 x50,.q x51,.q x52,.q x53]/\
 Af w10 ⟨x20,0,none⟩ 4/\∀w11,w11=setCells w10 ⟨x20,0,none⟩ [.slice x48 x49 x50,.q x51,.q x52,.q x53]->
 J w11))))
 (J w7))/\
 ∀(_x54:Nat->Value) (w12:World),J w12->
 ∀w13,w13=w12.drew->
 ∃(S:World->Prop),S w13/\
 ∃x55 x56 x57 x58 x59 x60,(∀u,S u->Ad u ⟨x20,0,none⟩ [.slice x55 x56 x57,.q x58,.q x59,.q x60])/\
 Calls Tryz.prog 35 #[.slice x0 x1 x2,.q x3] w13 (Ret fun x61 w14=>
 ∃x62 x63 x64 x65,x61= .agg #[.q x62,.s x63,.q x64,.q x65]/\
 S w14/\
 Calls Tryz.prog 38 #[.agg #[.slice x55 x56 x57,.q x58,.q x59,.q x60],.agg #[.q 33,.s x19,.q 0,.q 0,.q x65]] w14 (Ret fun x66 w15=>
 ∃x67 x68 x69 x70 x71 x72,x66= .agg #[.slice x67 x68 x69,.q x70,.q x71,.q x72]/\
 Af w15 ⟨x4,0,none⟩ 4/\∀w16,w16=setCells w15 ⟨x4,0,none⟩ [.slice x67 x68 x69,.q x70,.q x71,.q x72]->
 ∃x73 x74 x75 x76 x77 x78,Ad w16 ⟨x4,0,none⟩ [.slice x73 x74 x75,.q x76,.q x77,.q x78]/\
 K (.agg #[.slice x73 x74 x75,.q x76,.q x77,.q x78]) w16))))
theorem Ajr (x0:Option Addr) (x1:Nat) (x2:Nat) (x3:Int) (K:Value->World->Prop) (w:World) (h:Ajq x0 x1 x2 x3 K w):Calls Tryz.prog 121 #[.slice x0 x1 x2,.q x3] w (Ret K):=
 Ao { Axo:=[(7,[]),(14,[(22,.bool)])] } Tryz.func121 (by kernel_rfl) h
def Adw (x0:Option Addr) (x1:Nat) (x2:Nat) (x3:Int) (x4:Int) (K:Value->World->Prop) (w:World):Prop:=
 ∀x5 w1,x5=w.heap.size->w1=w.alloc (.cells #[.slice none 0 0,.q 0,.q 0,.q 0] 82)->
 Calls Tryz.prog 34 #[.q x3] w1 (Ret fun x6 w2=>
 ∃x7 x8 x9 x10 x11 x12,x6= .agg #[.slice x7 x8 x9,.q x10,.q x11,.q x12]/\
 ∀x13 w3,x13=w2.heap.size->w3=w2.alloc (.cells #[.slice none 0 0,.q 0,.q 0,.q 0] 82)->
 Af w3 ⟨x13,0,none⟩ 4/\∀w4,w4=setCells w3 ⟨x13,0,none⟩ [.slice x7 x8 x9,.q x10,.q x11,.q x12]->
 ∃(J:Bool->World->Prop),
 (Calls Tryz.prog 70 #[.slice x0 x1 x2,.q x3,.s [123]] w4 (Ret fun x14 w5=>
 ∃x15,x14= .bool x15/\
 cond (x15)
 (J (decide (x4>24)) w5)
 (J false w5)))/\
 ∀(_x16:Nat->Value) (x17:Bool) (w6:World),J x17 w6->
 cond (x17)
 (Af w6 ⟨x13,3,none⟩ 1/\∀w7,w7=w6.setCell ⟨x13,3,none⟩ (.q 5)->
 ∃x18 x19 x20 x21 x22 x23,Ad w7 ⟨x13,0,none⟩ [.slice x18 x19 x20,.q x21,.q x22,.q x23]/\
 Af w7 ⟨x5,0,none⟩ 4/\∀w8,w8=setCells w7 ⟨x5,0,none⟩ [.slice x18 x19 x20,.q x21,.q x22,.q x23]->
 ∃x24 x25 x26 x27 x28 x29,Ad w8 ⟨x5,0,none⟩ [.slice x24 x25 x26,.q x27,.q x28,.q x29]/\
 K (.agg #[.slice x24 x25 x26,.q x27,.q x28,.q x29]) w8)
 (∃x30 x31 x32 x33 x34 x35,Ad w6 ⟨x13,0,none⟩ [.slice x30 x31 x32,.q x33,.q x34,.q x35]/\
 Calls Tryz.prog 71 #[.agg #[.slice x30 x31 x32,.q x33,.q x34,.q x35],.slice x0 x1 x2,.s [123]] w6 (Ret fun x36 w9=>
 ∃x37 x38 x39 x40 x41 x42,x36= .agg #[.slice x37 x38 x39,.q x40,.q x41,.q x42]/\
 Af w9 ⟨x13,0,none⟩ 4/\∀w10,w10=setCells w9 ⟨x13,0,none⟩ [.slice x37 x38 x39,.q x40,.q x41,.q x42]->
 ∃(I:World->Prop) (x43:World->Nat),I w10/\
 ∀(_x44:Nat->Value) (w11:World),I w11->
 ∃(J1:Bool->World->Prop),
 (∃x45,w11.cell? ⟨x13,3,none⟩=some (.q x45)/\
 cond (x45==0)
 (∃x46,w11.cell? ⟨x13,2,none⟩=some (.q x46)/\
 Calls Tryz.prog 70 #[.slice x0 x1 x2,.q x46,.s [125]] w11 (Ret fun x47 w12=>
 ∃x48,x47= .bool x48/\
 J1 (!x48) w12))
 (J1 false w11))/\
 ∀(_x49:Nat->Value) (x50:Bool) (w13:World),J1 x50 w13->
 cond (x50)
 (∀w14,w14=w13.drew->
 ∃(S:World->Prop),S w14/\
 ∃x51 x52 x53 x54 x55 x56,(∀u,S u->Ad u ⟨x13,0,none⟩ [.slice x51 x52 x53,.q x54,.q x55,.q x56])/\
 ∃x57,(∀u,S u->u.cell? ⟨x13,2,none⟩=some (.q x57))/\
 Calls Tryz.prog 105 #[.slice x0 x1 x2,.q x57,.q x4] w14 (Ret fun x58 w15=>
 ∃x59 x60 x61 x62 x63 x64,x58= .agg #[.slice x59 x60 x61,.q x62,.q x63,.q x64]/\
 S w15/\
 Calls Tryz.prog 36 #[.agg #[.slice x51 x52 x53,.q x54,.q x55,.q x56],.agg #[.slice x59 x60 x61,.q x62,.q x63,.q x64]] w15 (Ret fun x65 w16=>
 ∃x66 x67 x68 x69 x70 x71,x65= .agg #[.slice x66 x67 x68,.q x69,.q x70,.q x71]/\
 Af w16 ⟨x13,0,none⟩ 4/\∀w17,w17=setCells w16 ⟨x13,0,none⟩ [.slice x66 x67 x68,.q x69,.q x70,.q x71]->
 I w17/\x43 w17<x43 w11)))
 (∃x72 x73 x74 x75 x76 x77,Ad w13 ⟨x13,0,none⟩ [.slice x72 x73 x74,.q x75,.q x76,.q x77]/\
 Calls Tryz.prog 71 #[.agg #[.slice x72 x73 x74,.q x75,.q x76,.q x77],.slice x0 x1 x2,.s [125]] w13 (Ret fun x78 w18=>
 ∃x79 x80 x81 x82 x83 x84,x78= .agg #[.slice x79 x80 x81,.q x82,.q x83,.q x84]/\
 Af w18 ⟨x13,0,none⟩ 4/\∀w19,w19=setCells w18 ⟨x13,0,none⟩ [.slice x79 x80 x81,.q x82,.q x83,.q x84]->
 ∀w20,w20=w19.drew->
 ∃(S1:World->Prop),S1 w20/\
 ∃x85 x86 x87 x88 x89 x90,(∀u,S1 u->Ad u ⟨x13,0,none⟩ [.slice x85 x86 x87,.q x88,.q x89,.q x90])/\
 Calls Tryz.prog 35 #[.slice x0 x1 x2,.q x3] w20 (Ret fun x91 w21=>
 ∃x92 x93 x94 x95,x91= .agg #[.q x92,.s x93,.q x94,.q x95]/\
 S1 w21/\
 Calls Tryz.prog 38 #[.agg #[.slice x85 x86 x87,.q x88,.q x89,.q x90],.agg #[.q 32,.s [],.q 0,.q 0,.q x95]] w21 (Ret fun x96 w22=>
 ∃x97 x98 x99 Axy Ax6 Ax9,x96= .agg #[.slice x97 x98 x99,.q Axy,.q Ax6,.q Ax9]/\
 Af w22 ⟨x5,0,none⟩ 4/\∀w23,w23=setCells w22 ⟨x5,0,none⟩ [.slice x97 x98 x99,.q Axy,.q Ax6,.q Ax9]->
 ∃Axz Ayd Axs Ax7 Aya Ax3,Ad w23 ⟨x5,0,none⟩ [.slice Axz Ayd Axs,.q Ax7,.q Aya,.q Ax3]/\
 K (.agg #[.slice Axz Ayd Axs,.q Ax7,.q Aya,.q Ax3]) w23)))))))
theorem Adx (x0:Option Addr) (x1:Nat) (x2:Nat) (x3:Int) (x4:Int) (K:Value->World->Prop) (w:World) (h:Adw x0 x1 x2 x3 x4 K w):Calls Tryz.prog 92 #[.slice x0 x1 x2,.q x3,.q x4] w (Ret K):=
 Ao { loops:=[(124,[])],Axo:=[(14,[(16,.bool)]),(496,[(31,.bool)])] } Tryz.func92 (by kernel_rfl) h
def Aav (x0:Option Addr) (x1:Nat) (x2:Nat) (x3:Int) (x4:Int) (K:Value->World->Prop) (w:World):Prop:=
 ∀x5 w1,x5=w.heap.size->w1=w.alloc (.cells #[.slice none 0 0,.q 0,.q 0,.q 0] 82)->
 Calls Tryz.prog 35 #[.slice x0 x1 x2,.q x3] w1 (Ret fun x6 w2=>
 ∃x7 x8 x9 x10,x6= .agg #[.q x7,.s x8,.q x9,.q x10]/\
 ∀x11 w3,x11=w2.heap.size->w3=w2.alloc (.cells #[.q 0,.s [],.q 0,.q 0,.q 0] 59)->
 Af w3 ⟨x11,0,none⟩ 5/\∀w4,w4=setCells w3 ⟨x11,0,none⟩ [.q 0,.s [],.q 0,.q 0,.q x10]->
 Calls Tryz.prog 70 #[.slice x0 x1 x2,.q x3,.s [101,108,115,101]] w4 (Ret fun x12 w5=>
 ∃x13,x12= .bool x13/\
 cond (x13)
 (Af w5 ⟨x11,0,none⟩ 1/\∀w6,w6=w5.setCell ⟨x11,0,none⟩ (.q 37)->
 ∀w7,w7=w6.drew->
 ∃(S:World->Prop),S w7/\
 ∃x14 x15 x16 x17 x18,(∀u,S u->Ad u ⟨x11,0,none⟩ [.q x14,.s x15,.q x16,.q x17,.q x18])/\
 Calls Tryz.prog 34 #[.q x3] w7 (Ret fun x19 w8=>
 ∃x20 x21 x22 x23 x24 x25,x19= .agg #[.slice x20 x21 x22,.q x23,.q x24,.q x25]/\
 S w8/\
 Calls Tryz.prog 71 #[.agg #[.slice x20 x21 x22,.q x23,.q x24,.q x25],.slice x0 x1 x2,.s [101,108,115,101]] w8 (Ret fun x26 w9=>
 ∃x27 x28 x29 x30 x31 x32,x26= .agg #[.slice x27 x28 x29,.q x30,.q x31,.q x32]/\
 S w9/\
 Calls Tryz.prog 75 #[.agg #[.slice x27 x28 x29,.q x30,.q x31,.q x32],.slice x0 x1 x2,.q (IntKind.i64.wrap (x4+1))] w9 (Ret fun x33 w10=>
 ∃x34 x35 x36 x37 x38 x39,x33= .agg #[.slice x34 x35 x36,.q x37,.q x38,.q x39]/\
 S w10/\
 Calls Tryz.prog 38 #[.agg #[.slice x34 x35 x36,.q x37,.q x38,.q x39],.agg #[.q x14,.s x15,.q x16,.q x17,.q x18]] w10 (Ret fun x40 w11=>
 ∃x41 x42 x43 x44 x45 x46,x40= .agg #[.slice x41 x42 x43,.q x44,.q x45,.q x46]/\
 Af w11 ⟨x5,0,none⟩ 4/\∀w12,w12=setCells w11 ⟨x5,0,none⟩ [.slice x41 x42 x43,.q x44,.q x45,.q x46]->
 ∃x47 x48 x49 x50 x51 x52,Ad w12 ⟨x5,0,none⟩ [.slice x47 x48 x49,.q x50,.q x51,.q x52]/\
 K (.agg #[.slice x47 x48 x49,.q x50,.q x51,.q x52]) w12)))))
 (Calls Tryz.prog 34 #[.q x3] w5 (Ret fun x53 w13=>
 ∃x54 x55 x56 x57 x58 x59,x53= .agg #[.slice x54 x55 x56,.q x57,.q x58,.q x59]/\
 Calls Tryz.prog 71 #[.agg #[.slice x54 x55 x56,.q x57,.q x58,.q x59],.slice x0 x1 x2,.s [99,97,115,101]] w13 (Ret fun x60 w14=>
 ∃x61 x62 x63 x64 x65 x66,x60= .agg #[.slice x61 x62 x63,.q x64,.q x65,.q x66]/\
 ∀x67 w15,x67=w14.heap.size->w15=w14.alloc (.cells #[.slice none 0 0,.q 0,.q 0,.q 0] 82)->
 Af w15 ⟨x67,0,none⟩ 4/\∀w16,w16=setCells w15 ⟨x67,0,none⟩ [.slice x61 x62 x63,.q x64,.q x65,.q x66]->
 ∃(J:World->Prop),
 (∃(J1:Bool->World->Prop),
 (∃x68,w16.cell? ⟨x67,3,none⟩=some (.q x68)/\
 cond (x68==0)
 (∃x69,w16.cell? ⟨x67,2,none⟩=some (.q x69)/\
 Calls Tryz.prog 70 #[.slice x0 x1 x2,.q x69,.s [119,104,101,110]] w16 (Ret fun x70 w17=>
 ∃x71,x70= .bool x71/\
 J1 x71 w17))
 (J1 false w16))/\
 ∀(_x72:Nat->Value) (x73:Bool) (w18:World),J1 x73 w18->
 cond (x73)
 (Af w18 ⟨x11,2,none⟩ 1/\∀w19,w19=w18.setCell ⟨x11,2,none⟩ (.q 1)->
 ∃x74 x75 x76 x77 x78 x79,Ad w19 ⟨x67,0,none⟩ [.slice x74 x75 x76,.q x77,.q x78,.q x79]/\
 Calls Tryz.prog 71 #[.agg #[.slice x74 x75 x76,.q x77,.q x78,.q x79],.slice x0 x1 x2,.s [119,104,101,110]] w19 (Ret fun x80 w20=>
 ∃x81 x82 x83 x84 x85 x86,x80= .agg #[.slice x81 x82 x83,.q x84,.q x85,.q x86]/\
 Calls Tryz.prog 115 #[.agg #[.slice x81 x82 x83,.q x84,.q x85,.q x86],.slice x0 x1 x2] w20 (Ret fun x87 w21=>
 ∃x88 x89 x90 x91 x92 x93,x87= .agg #[.slice x88 x89 x90,.q x91,.q x92,.q x93]/\
 Calls Tryz.prog 71 #[.agg #[.slice x88 x89 x90,.q x91,.q x92,.q x93],.slice x0 x1 x2,.s [58]] w21 (Ret fun x94 w22=>
 ∃x95 x96 x97 x98 x99 Axy,x94= .agg #[.slice x95 x96 x97,.q x98,.q x99,.q Axy]/\
 Af w22 ⟨x67,0,none⟩ 4/\∀w23,w23=setCells w22 ⟨x67,0,none⟩ [.slice x95 x96 x97,.q x98,.q x99,.q Axy]->
 J w23))))
 (J w18))/\
 ∀(_x101:Nat->Value) (w24:World),J w24->
 ∃(J2:World->Prop),
 (∃(J3:Bool->World->Prop),
 (∃Ax9,w24.cell? ⟨x67,3,none⟩=some (.q Ax9)/\
 cond (Ax9==0)
 (∃Axz,w24.cell? ⟨x67,2,none⟩=some (.q Axz)/\
 Calls Tryz.prog 70 #[.slice x0 x1 x2,.q Axz,.s [97,102,116,101,114]] w24 (Ret fun Ayd w25=>
 ∃Axs,Ayd= .bool Axs/\
 J3 Axs w25))
 (J3 false w24))/\
 ∀(_x106:Nat->Value) (Aya:Bool) (w26:World),J3 Aya w26->
 cond (Aya)
 (Af w26 ⟨x11,0,none⟩ 1/\∀w27,w27=w26.setCell ⟨x11,0,none⟩ (.q 36)->
 ∃Ax3 Ax8 Azh Ayj Azm Aza,Ad w27 ⟨x67,0,none⟩ [.slice Ax3 Ax8 Azh,.q Ayj,.q Azm,.q Aza]/\
 Calls Tryz.prog 71 #[.agg #[.slice Ax3 Ax8 Azh,.q Ayj,.q Azm,.q Aza],.slice x0 x1 x2,.s [97,102,116,101,114]] w27 (Ret fun Ay5 w28=>
 ∃Ays Ayw Ay6 Ayx Azi Ayy,Ay5= .agg #[.slice Ays Ayw Ay6,.q Ayx,.q Azi,.q Ayy]/\
 Calls Tryz.prog 115 #[.agg #[.slice Ays Ayw Ay6,.q Ayx,.q Azi,.q Ayy],.slice x0 x1 x2] w28 (Ret fun Ayz w29=>
 ∃Ay0 Ayt Ay1 Azu Azn Azs,Ayz= .agg #[.slice Ay0 Ayt Ay1,.q Azu,.q Azn,.q Azs]/\
 Af w29 ⟨x67,0,none⟩ 4/\∀w30,w30=setCells w29 ⟨x67,0,none⟩ [.slice Ay0 Ayt Ay1,.q Azu,.q Azn,.q Azs]->
 J2 w30)))
 (∃Bbf Az2 Azt Bcc Ax0 Bbg,Ad w26 ⟨x67,0,none⟩ [.slice Bbf Az2 Azt,.q Bcc,.q Ax0,.q Bbg]/\
 Calls Tryz.prog 114 #[.agg #[.slice Bbf Az2 Azt,.q Bcc,.q Ax0,.q Bbg],.slice x0 x1 x2,.q 35,.q 34] w26 (Ret fun Az3 w31=>
 ∃Baj Bbh Bak Az9 Bbi Bbj Bcd Bal,Az3= .tuple #[.agg #[.slice Baj Bbh Bak,.q Az9,.q Bbi,.q Bbj],.q Bcd,.s Bal]/\
 Af w31 ⟨x67,0,none⟩ 4/\∀w32,w32=setCells w31 ⟨x67,0,none⟩ [.slice Baj Bbh Bak,.q Az9,.q Bbi,.q Bbj]->
 Af w32 ⟨x11,0,none⟩ 1/\∀w33,w33=w32.setCell ⟨x11,0,none⟩ (.q Bcd)->
 Af w33 ⟨x11,1,none⟩ 1/\∀w34,w34=w33.setCell ⟨x11,1,none⟩ (.s Bal)->
 J2 w34)))/\
 ∀(_x143:Nat->Value) (w35:World),J2 w35->
 ∀w36,w36=w35.drew->
 ∃(S1:World->Prop),S1 w36/\
 ∃Bam Bc1 Ban Bao Bb3 Bap,(∀u,S1 u->Ad u ⟨x67,0,none⟩ [.slice Bam Bc1 Ban,.q Bao,.q Bb3,.q Bap])/\
 ∃Bcf Baq Bb4 Bar Bas,(∀u,S1 u->Ad u ⟨x11,0,none⟩ [.q Bcf,.s Baq,.q Bb4,.q Bar,.q Bas])/\
 Calls Tryz.prog 75 #[.agg #[.slice Bam Bc1 Ban,.q Bao,.q Bb3,.q Bap],.slice x0 x1 x2,.q (IntKind.i64.wrap (x4+1))] w36 (Ret fun Bbk w37=>
 ∃Bbl Bcg Bbm Bbn Bbo Bat,Bbk= .agg #[.slice Bbl Bcg Bbm,.q Bbn,.q Bbo,.q Bat]/\
 S1 w37/\
 Calls Tryz.prog 38 #[.agg #[.slice Bbl Bcg Bbm,.q Bbn,.q Bbo,.q Bat],.agg #[.q Bcf,.s Baq,.q Bb4,.q Bar,.q Bas]] w37 (Ret fun Bbp w38=>
 ∃Bau Bbq Bav Bch Baw Bax,Bbp= .agg #[.slice Bau Bbq Bav,.q Bch,.q Baw,.q Bax]/\
 Af w38 ⟨x5,0,none⟩ 4/\∀w39,w39=setCells w38 ⟨x5,0,none⟩ [.slice Bau Bbq Bav,.q Bch,.q Baw,.q Bax]->
 ∃Bbr Bci Bcj Bbs Bay Bck,Ad w39 ⟨x5,0,none⟩ [.slice Bbr Bci Bcj,.q Bbs,.q Bay,.q Bck]/\
 K (.agg #[.slice Bbr Bci Bcj,.q Bbs,.q Bay,.q Bck]) w39)))))))
theorem Aaw (x0:Option Addr) (x1:Nat) (x2:Nat) (x3:Int) (x4:Int) (K:Value->World->Prop) (w:World) (h:Aav x0 x1 x2 x3 x4 K w):Calls Tryz.prog 117 #[.slice x0 x1 x2,.q x3,.q x4] w (Ret K):=
 Ao { Axo:=[(31,[]),(62,[(40,.bool)]),(63,[]),(126,[(57,.bool)])] } Tryz.func117 (by kernel_rfl) h
def Ajs (x0:Option Addr) (x1:Nat) (x2:Nat) (x3:Int) (x4:Int) (x5:List UInt8) (x6:Int) (x7:Int) (x8:Int) (K:Value->World->Prop) (w:World):Prop:=
 ∀x9 w1,x9=w.heap.size->w1=w.alloc (.cells #[.q x4,.s x5,.q x6,.q x7,.q x8] 59)->
 ∀x10 w2,x10=w1.heap.size->w2=w1.alloc (.cells #[.slice none 0 0,.q 0,.q 0,.q 0] 82)->
 Calls Tryz.prog 34 #[.q x3] w2 (Ret fun x11 w3=>
 ∃x12 x13 x14 x15 x16 x17,x11= .agg #[.slice x12 x13 x14,.q x15,.q x16,.q x17]/\
 Calls Tryz.prog 72 #[.agg #[.slice x12 x13 x14,.q x15,.q x16,.q x17],.slice x0 x1 x2] w3 (Ret fun x18 w4=>
 ∃x19 x20 x21 x22 x23 x24 x25,x18= .tuple #[.agg #[.slice x19 x20 x21,.q x22,.q x23,.q x24],.s x25]/\
 ∀x26 w5,x26=w4.heap.size->w5=w4.alloc (.cells #[.slice none 0 0,.q 0,.q 0,.q 0] 82)->
 Af w5 ⟨x26,0,none⟩ 4/\∀w6,w6=setCells w5 ⟨x26,0,none⟩ [.slice x19 x20 x21,.q x22,.q x23,.q x24]->
 ∃x27 x28 x29 x30 x31 x32,Ad w6 ⟨x26,0,none⟩ [.slice x27 x28 x29,.q x30,.q x31,.q x32]/\
 Calls Tryz.prog 71 #[.agg #[.slice x27 x28 x29,.q x30,.q x31,.q x32],.slice x0 x1 x2,.s [61]] w6 (Ret fun x33 w7=>
 ∃x34 x35 x36 x37 x38 x39,x33= .agg #[.slice x34 x35 x36,.q x37,.q x38,.q x39]/\
 Af w7 ⟨x26,0,none⟩ 4/\∀w8,w8=setCells w7 ⟨x26,0,none⟩ [.slice x34 x35 x36,.q x37,.q x38,.q x39]->
 Af w8 ⟨x9,0,none⟩ 1/\∀w9,w9=w8.setCell ⟨x9,0,none⟩ (.q 19)->
 Af w9 ⟨x9,1,none⟩ 1/\∀w10,w10=w9.setCell ⟨x9,1,none⟩ (.s x25)->
 ∃(J:World->Prop),
 (∃(J1:Bool->World->Prop),
 (∃x40,w10.cell? ⟨x26,3,none⟩=some (.q x40)/\
 cond (x40==0)
 (∃x41,w10.cell? ⟨x26,2,none⟩=some (.q x41)/\
 Calls Tryz.prog 70 #[.slice x0 x1 x2,.q x41,.s [114,97,110,100,111,109]] w10 (Ret fun x42 w11=>
 ∃x43,x42= .bool x43/\
 J1 x43 w11))
 (J1 false w10))/\
 ∀(_x44:Nat->Value) (x45:Bool) (w12:World),J1 x45 w12->
 cond (x45)
 (Af w12 ⟨x9,0,none⟩ 1/\∀w13,w13=w12.setCell ⟨x9,0,none⟩ (.q 20)->
 ∃x46 x47 x48 x49 x50 x51,Ad w13 ⟨x26,0,none⟩ [.slice x46 x47 x48,.q x49,.q x50,.q x51]/\
 Calls Tryz.prog 71 #[.agg #[.slice x46 x47 x48,.q x49,.q x50,.q x51],.slice x0 x1 x2,.s [114,97,110,100,111,109]] w13 (Ret fun x52 w14=>
 ∃x53 x54 x55 x56 x57 x58,x52= .agg #[.slice x53 x54 x55,.q x56,.q x57,.q x58]/\
 Calls Tryz.prog 71 #[.agg #[.slice x53 x54 x55,.q x56,.q x57,.q x58],.slice x0 x1 x2,.s [40]] w14 (Ret fun x59 w15=>
 ∃x60 x61 x62 x63 x64 x65,x59= .agg #[.slice x60 x61 x62,.q x63,.q x64,.q x65]/\
 Calls Tryz.prog 115 #[.agg #[.slice x60 x61 x62,.q x63,.q x64,.q x65],.slice x0 x1 x2] w15 (Ret fun x66 w16=>
 ∃x67 x68 x69 x70 x71 x72,x66= .agg #[.slice x67 x68 x69,.q x70,.q x71,.q x72]/\
 Calls Tryz.prog 71 #[.agg #[.slice x67 x68 x69,.q x70,.q x71,.q x72],.slice x0 x1 x2,.s [41]] w16 (Ret fun x73 w17=>
 ∃x74 x75 x76 x77 x78 x79,x73= .agg #[.slice x74 x75 x76,.q x77,.q x78,.q x79]/\
 Af w17 ⟨x26,0,none⟩ 4/\∀w18,w18=setCells w17 ⟨x26,0,none⟩ [.slice x74 x75 x76,.q x77,.q x78,.q x79]->
 J w18)))))
 (∃x80 x81 x82 x83 x84 x85,Ad w12 ⟨x26,0,none⟩ [.slice x80 x81 x82,.q x83,.q x84,.q x85]/\
 Calls Tryz.prog 115 #[.agg #[.slice x80 x81 x82,.q x83,.q x84,.q x85],.slice x0 x1 x2] w12 (Ret fun x86 w19=>
 ∃x87 x88 x89 x90 x91 x92,x86= .agg #[.slice x87 x88 x89,.q x90,.q x91,.q x92]/\
 Af w19 ⟨x26,0,none⟩ 4/\∀w20,w20=setCells w19 ⟨x26,0,none⟩ [.slice x87 x88 x89,.q x90,.q x91,.q x92]->
 J w20)))/\
 ∀(_x93:Nat->Value) (w21:World),J w21->
 ∀w22,w22=w21.drew->
 ∃(S:World->Prop),S w22/\
 ∃x94 x95 x96 x97 x98 x99,(∀u,S u->Ad u ⟨x26,0,none⟩ [.slice x94 x95 x96,.q x97,.q x98,.q x99])/\
 ∃Axy Ax6 Ax9 Axz Ayd,(∀u,S u->Ad u ⟨x9,0,none⟩ [.q Axy,.s Ax6,.q Ax9,.q Axz,.q Ayd])/\
 Calls Tryz.prog 71 #[.agg #[.slice x94 x95 x96,.q x97,.q x98,.q x99],.slice x0 x1 x2,.s [59]] w22 (Ret fun Axs w23=>
 ∃Ax7 Aya Ax3 Ax8 Azh Ayj,Axs= .agg #[.slice Ax7 Aya Ax3,.q Ax8,.q Azh,.q Ayj]/\
 S w23/\
 Calls Tryz.prog 38 #[.agg #[.slice Ax7 Aya Ax3,.q Ax8,.q Azh,.q Ayj],.agg #[.q Axy,.s Ax6,.q Ax9,.q Axz,.q Ayd]] w23 (Ret fun Azm w24=>
 ∃Aza Ay5 Ays Ayw Ay6 Ayx,Azm= .agg #[.slice Aza Ay5 Ays,.q Ayw,.q Ay6,.q Ayx]/\
 Af w24 ⟨x10,0,none⟩ 4/\∀w25,w25=setCells w24 ⟨x10,0,none⟩ [.slice Aza Ay5 Ays,.q Ayw,.q Ay6,.q Ayx]->
 ∃Azi Ayy Ayz Ay0 Ayt Ay1,Ad w25 ⟨x10,0,none⟩ [.slice Azi Ayy Ayz,.q Ay0,.q Ayt,.q Ay1]/\
 K (.agg #[.slice Azi Ayy Ayz,.q Ay0,.q Ayt,.q Ay1]) w25)))))
theorem Ajt (x0:Option Addr) (x1:Nat) (x2:Nat) (x3:Int) (x4:Int) (x5:List UInt8) (x6:Int) (x7:Int) (x8:Int) (K:Value->World->Prop) (w:World) (h:Ajs x0 x1 x2 x3 x4 x5 x6 x7 x8 K w):Calls Tryz.prog 113 #[.slice x0 x1 x2,.q x3,.agg #[.q x4,.s x5,.q x6,.q x7,.q x8]] w (Ret K):=
 Ao { Axo:=[(31,[]),(62,[(30,.bool)])] } Tryz.func113 (by kernel_rfl) h
def Ag1 (x0:Option Addr) (x1:Nat) (x2:Nat) (x3:Int) (x4:Int) (K:Value->World->Prop) (w:World):Prop:=
 ∀x5 w1,x5=w.heap.size->w1=w.alloc (.cells #[.slice none 0 0,.q 0,.q 0,.q 0] 82)->
 Calls Tryz.prog 35 #[.slice x0 x1 x2,.q x3] w1 (Ret fun x6 w2=>
 ∃x7 x8 x9 x10,x6= .agg #[.q x7,.s x8,.q x9,.q x10]/\
 ∀x11 w3,x11=w2.heap.size->w3=w2.alloc (.cells #[.q 0,.s [],.q 0,.q 0] 57)->
 Af w3 ⟨x11,0,none⟩ 4/\∀w4,w4=setCells w3 ⟨x11,0,none⟩ [.q x7,.s x8,.q x9,.q x10]->
 ∃x12,w4.cell? ⟨x11,3,none⟩=some (.q x12)/\
 ∀x13 w5,x13=w4.heap.size->w5=w4.alloc (.cells #[.q 0,.s [],.q 0,.q 0,.q 0] 59)->
 Af w5 ⟨x13,0,none⟩ 5/\∀w6,w6=setCells w5 ⟨x13,0,none⟩ [.q 0,.s [],.q 0,.q 0,.q x12]->
 Calls Tryz.prog 34 #[.q x3] w6 (Ret fun x14 w7=>
 ∃x15 x16 x17 x18 x19 x20,x14= .agg #[.slice x15 x16 x17,.q x18,.q x19,.q x20]/\
 ∀x21 w8,x21=w7.heap.size->w8=w7.alloc (.cells #[.slice none 0 0,.q 0,.q 0,.q 0] 82)->
 Af w8 ⟨x21,0,none⟩ 4/\∀w9,w9=setCells w8 ⟨x21,0,none⟩ [.slice x15 x16 x17,.q x18,.q x19,.q x20]->
 ∃(J:Bool->World->Prop),
 (∃x22,w9.cell? ⟨x11,0,none⟩=some (.q x22)/\
 cond (x22==1)
 (Calls Tryz.prog 70 #[.slice x0 x1 x2,.q (IntKind.i64.wrap (x3+1)),.s [61]] w9 (Ret fun x23 w10=>
 ∃x24,x23= .bool x24/\
 J x24 w10))
 (J false w9))/\
 ∀(_x25:Nat->Value) (x26:Bool) (w11:World),J x26 w11->
 cond (x26)
 (∃x27 x28 x29 x30 x31,Ad w11 ⟨x13,0,none⟩ [.q x27,.s x28,.q x29,.q x30,.q x31]/\
 Calls Tryz.prog 113 #[.slice x0 x1 x2,.q x3,.agg #[.q x27,.s x28,.q x29,.q x30,.q x31]] w11 (Ret fun x32 w12=>
 ∃x33 x34 x35 x36 x37 x38,x32= .agg #[.slice x33 x34 x35,.q x36,.q x37,.q x38]/\
 Af w12 ⟨x5,0,none⟩ 4/\∀w13,w13=setCells w12 ⟨x5,0,none⟩ [.slice x33 x34 x35,.q x36,.q x37,.q x38]->
 ∃x39 x40 x41 x42 x43 x44,Ad w13 ⟨x5,0,none⟩ [.slice x39 x40 x41,.q x42,.q x43,.q x44]/\
 K (.agg #[.slice x39 x40 x41,.q x42,.q x43,.q x44]) w13))
 (∃x45,w11.cell? ⟨x11,0,none⟩=some (.q x45)/\
 cond (x45==1)
 (∃x46 x47 x48 x49 x50 x51,Ad w11 ⟨x21,0,none⟩ [.slice x46 x47 x48,.q x49,.q x50,.q x51]/\
 Calls Tryz.prog 114 #[.agg #[.slice x46 x47 x48,.q x49,.q x50,.q x51],.slice x0 x1 x2,.q 21,.q 22] w11 (Ret fun x52 w14=>
 ∃x53 x54 x55 x56 x57 x58 x59 x60,x52= .tuple #[.agg #[.slice x53 x54 x55,.q x56,.q x57,.q x58],.q x59,.s x60]/\
 Af w14 ⟨x21,0,none⟩ 4/\∀w15,w15=setCells w14 ⟨x21,0,none⟩ [.slice x53 x54 x55,.q x56,.q x57,.q x58]->
 Af w15 ⟨x13,0,none⟩ 1/\∀w16,w16=w15.setCell ⟨x13,0,none⟩ (.q x59)->
 Af w16 ⟨x13,1,none⟩ 1/\∀w17,w17=w16.setCell ⟨x13,1,none⟩ (.s x60)->
 ∀w18,w18=w17.drew->
 ∃(S:World->Prop),S w18/\
 ∃x61 x62 x63 x64 x65 x66,(∀u,S u->Ad u ⟨x21,0,none⟩ [.slice x61 x62 x63,.q x64,.q x65,.q x66])/\
 ∃x67 x68 x69 x70 x71,(∀u,S u->Ad u ⟨x13,0,none⟩ [.q x67,.s x68,.q x69,.q x70,.q x71])/\
 Calls Tryz.prog 71 #[.agg #[.slice x61 x62 x63,.q x64,.q x65,.q x66],.slice x0 x1 x2,.s [59]] w18 (Ret fun x72 w19=>
 ∃x73 x74 x75 x76 x77 x78,x72= .agg #[.slice x73 x74 x75,.q x76,.q x77,.q x78]/\
 S w19/\
 Calls Tryz.prog 38 #[.agg #[.slice x73 x74 x75,.q x76,.q x77,.q x78],.agg #[.q x67,.s x68,.q x69,.q x70,.q x71]] w19 (Ret fun x79 w20=>
 ∃x80 x81 x82 x83 x84 x85,x79= .agg #[.slice x80 x81 x82,.q x83,.q x84,.q x85]/\
 Af w20 ⟨x5,0,none⟩ 4/\∀w21,w21=setCells w20 ⟨x5,0,none⟩ [.slice x80 x81 x82,.q x83,.q x84,.q x85]->
 ∃x86 x87 x88 x89 x90 x91,Ad w21 ⟨x5,0,none⟩ [.slice x86 x87 x88,.q x89,.q x90,.q x91]/\
 K (.agg #[.slice x86 x87 x88,.q x89,.q x90,.q x91]) w21))))
 (∃x92,w11.cell? ⟨x11,0,none⟩=some (.q x92)/\
 cond (x92 !=3)
 (Af w11 ⟨x21,3,none⟩ 1/\∀w22,w22=w11.setCell ⟨x21,3,none⟩ (.q 11)->
 ∃x93 x94 x95 x96 x97 x98,Ad w22 ⟨x21,0,none⟩ [.slice x93 x94 x95,.q x96,.q x97,.q x98]/\
 Af w22 ⟨x5,0,none⟩ 4/\∀w23,w23=setCells w22 ⟨x5,0,none⟩ [.slice x93 x94 x95,.q x96,.q x97,.q x98]->
 ∃x99 Axy Ax6 Ax9 Axz Ayd,Ad w23 ⟨x5,0,none⟩ [.slice x99 Axy Ax6,.q Ax9,.q Axz,.q Ayd]/\
 K (.agg #[.slice x99 Axy Ax6,.q Ax9,.q Axz,.q Ayd]) w23)
 (∃Axs,w11.cell? ⟨x11,1,none⟩=some (.s Axs)/\
 cond (Axs==[118,97,114])
 (Af w11 ⟨x13,0,none⟩ 1/\∀w24,w24=w11.setCell ⟨x13,0,none⟩ (.q 18)->
 ∃Ax7 Aya Ax3 Ax8 Azh Ayj,Ad w24 ⟨x21,0,none⟩ [.slice Ax7 Aya Ax3,.q Ax8,.q Azh,.q Ayj]/\
 Calls Tryz.prog 71 #[.agg #[.slice Ax7 Aya Ax3,.q Ax8,.q Azh,.q Ayj],.slice x0 x1 x2,.s [118,97,114]] w24 (Ret fun Azm w25=>
 ∃Aza Ay5 Ays Ayw Ay6 Ayx,Azm= .agg #[.slice Aza Ay5 Ays,.q Ayw,.q Ay6,.q Ayx]/\
 Calls Tryz.prog 72 #[.agg #[.slice Aza Ay5 Ays,.q Ayw,.q Ay6,.q Ayx],.slice x0 x1 x2] w25 (Ret fun Azi w26=>
 ∃Ayy Ayz Ay0 Ayt Ay1 Azu Azn,Azi= .tuple #[.agg #[.slice Ayy Ayz Ay0,.q Ayt,.q Ay1,.q Azu],.s Azn]/\
 Af w26 ⟨x21,0,none⟩ 4/\∀w27,w27=setCells w26 ⟨x21,0,none⟩ [.slice Ayy Ayz Ay0,.q Ayt,.q Ay1,.q Azu]->
 Af w27 ⟨x13,1,none⟩ 1/\∀w28,w28=w27.setCell ⟨x13,1,none⟩ (.s Azn)->
 ∀w29,w29=w28.drew->
 ∃(S1:World->Prop),S1 w29/\
 ∃Azs Bbf Az2 Azt Bcc Ax0,(∀u,S1 u->Ad u ⟨x21,0,none⟩ [.slice Azs Bbf Az2,.q Azt,.q Bcc,.q Ax0])/\
 ∃Bbg Az3 Baj Bbh Bak,(∀u,S1 u->Ad u ⟨x13,0,none⟩ [.q Bbg,.s Az3,.q Baj,.q Bbh,.q Bak])/\
 Calls Tryz.prog 71 #[.agg #[.slice Azs Bbf Az2,.q Azt,.q Bcc,.q Ax0],.slice x0 x1 x2,.s [61]] w29 (Ret fun Az9 w30=>
 ∃Bbi Bbj Bcd Bal Bce Bam,Az9= .agg #[.slice Bbi Bbj Bcd,.q Bal,.q Bce,.q Bam]/\
 S1 w30/\
 Calls Tryz.prog 115 #[.agg #[.slice Bbi Bbj Bcd,.q Bal,.q Bce,.q Bam],.slice x0 x1 x2] w30 (Ret fun Bc1 w31=>
 ∃Ban Bao Bb3 Bap Bcf Baq,Bc1= .agg #[.slice Ban Bao Bb3,.q Bap,.q Bcf,.q Baq]/\
 S1 w31/\
 Calls Tryz.prog 71 #[.agg #[.slice Ban Bao Bb3,.q Bap,.q Bcf,.q Baq],.slice x0 x1 x2,.s [59]] w31 (Ret fun Bb4 w32=>
 ∃Bar Bas Bbk Bbl Bcg Bbm,Bb4= .agg #[.slice Bar Bas Bbk,.q Bbl,.q Bcg,.q Bbm]/\
 S1 w32/\
 Calls Tryz.prog 38 #[.agg #[.slice Bar Bas Bbk,.q Bbl,.q Bcg,.q Bbm],.agg #[.q Bbg,.s Az3,.q Baj,.q Bbh,.q Bak]] w32 (Ret fun Bbn w33=>
 ∃Bbo Bat Bbp Bau Bbq Bav,Bbn= .agg #[.slice Bbo Bat Bbp,.q Bau,.q Bbq,.q Bav]/\
 Af w33 ⟨x5,0,none⟩ 4/\∀w34,w34=setCells w33 ⟨x5,0,none⟩ [.slice Bbo Bat Bbp,.q Bau,.q Bbq,.q Bav]->
 ∃Bch Baw Bax Bbr Bci Bcj,Ad w34 ⟨x5,0,none⟩ [.slice Bch Baw Bax,.q Bbr,.q Bci,.q Bcj]/\
 K (.agg #[.slice Bch Baw Bax,.q Bbr,.q Bci,.q Bcj]) w34)))))))
 (cond (Axs==[115,116,97,114,116])
 (Af w11 ⟨x13,0,none⟩ 1/\∀w35,w35=w11.setCell ⟨x13,0,none⟩ (.q 26)->
 ∃Bbs Bay Bck Bd6 Bd7 Bd8,Ad w35 ⟨x21,0,none⟩ [.slice Bbs Bay Bck,.q Bd6,.q Bd7,.q Bd8]/\
 Calls Tryz.prog 71 #[.agg #[.slice Bbs Bay Bck,.q Bd6,.q Bd7,.q Bd8],.slice x0 x1 x2,.s [115,116,97,114,116]] w35 (Ret fun Be6 w36=>
 ∃Bge Bd9 Bea Be7 Beb Bec,Be6= .agg #[.slice Bge Bd9 Bea,.q Be7,.q Beb,.q Bec]/\
 Calls Tryz.prog 72 #[.agg #[.slice Bge Bd9 Bea,.q Be7,.q Beb,.q Bec],.slice x0 x1 x2] w36 (Ret fun Be8 w37=>
 ∃Be9 Bg0 Bed Bee Bef Beg Bg1,Be8= .tuple #[.agg #[.slice Be9 Bg0 Bed,.q Bee,.q Bef,.q Beg],.s Bg1]/\
 Af w37 ⟨x21,0,none⟩ 4/\∀w38,w38=setCells w37 ⟨x21,0,none⟩ [.slice Be9 Bg0 Bed,.q Bee,.q Bef,.q Beg]->
 Af w38 ⟨x13,1,none⟩ 1/\∀w39,w39=w38.setCell ⟨x13,1,none⟩ (.s Bg1)->
 ∀w40,w40=w39.drew->
 ∃(S2:World->Prop),S2 w40/\
 ∃Boj Bg2 Bg3 Bg4 Bg5 Bg6,(∀u,S2 u->Ad u ⟨x21,0,none⟩ [.slice Boj Bg2 Bg3,.q Bg4,.q Bg5,.q Bg6])/\
 ∃Bg7 Bg8 Bg9 Bha Bhb,(∀u,S2 u->Ad u ⟨x13,0,none⟩ [.q Bg7,.s Bg8,.q Bg9,.q Bha,.q Bhb])/\
 Calls Tryz.prog 116 #[.agg #[.slice Boj Bg2 Bg3,.q Bg4,.q Bg5,.q Bg6],.slice x0 x1 x2] w40 (Ret fun Bkj w41=>
 ∃Bkk Bhc Bhd Bhe Bhf Bhg,Bkj= .agg #[.slice Bkk Bhc Bhd,.q Bhe,.q Bhf,.q Bhg]/\
 S2 w41/\
 Calls Tryz.prog 71 #[.agg #[.slice Bkk Bhc Bhd,.q Bhe,.q Bhf,.q Bhg],.slice x0 x1 x2,.s [59]] w41 (Ret fun Bkl w42=>
 ∃Bkm Bhh Bhi Bhj Bhk Bhl,Bkl= .agg #[.slice Bkm Bhh Bhi,.q Bhj,.q Bhk,.q Bhl]/\
 S2 w42/\
 Calls Tryz.prog 38 #[.agg #[.slice Bkm Bhh Bhi,.q Bhj,.q Bhk,.q Bhl],.agg #[.q Bg7,.s Bg8,.q Bg9,.q Bha,.q Bhb]] w42 (Ret fun Bkn w43=>
 ∃Bko Bhm Bhn Bho Bhp Bhq,Bkn= .agg #[.slice Bko Bhm Bhn,.q Bho,.q Bhp,.q Bhq]/\
 Af w43 ⟨x5,0,none⟩ 4/\∀w44,w44=setCells w43 ⟨x5,0,none⟩ [.slice Bko Bhm Bhn,.q Bho,.q Bhp,.q Bhq]->
 ∃Bhr Bhs Bht Bhu Bhv Bhw,Ad w44 ⟨x5,0,none⟩ [.slice Bhr Bhs Bht,.q Bhu,.q Bhv,.q Bhw]/\
 K (.agg #[.slice Bhr Bhs Bht,.q Bhu,.q Bhv,.q Bhw]) w44))))))
 (cond (Axs==[115,108,101,101,112])
 (Af w11 ⟨x13,0,none⟩ 1/\∀w45,w45=w11.setCell ⟨x13,0,none⟩ (.q 27)->
 ∀w46,w46=w45.drew->
 ∃(S3:World->Prop),S3 w46/\
 ∃Bhx Bhy Bhz Bh0 Bh1 Bh2,(∀u,S3 u->Ad u ⟨x21,0,none⟩ [.slice Bhx Bhy Bhz,.q Bh0,.q Bh1,.q Bh2])/\
 ∃Bkp Bh3 Bh4 Bh5 Bh6,(∀u,S3 u->Ad u ⟨x13,0,none⟩ [.q Bkp,.s Bh3,.q Bh4,.q Bh5,.q Bh6])/\
 Calls Tryz.prog 71 #[.agg #[.slice Bhx Bhy Bhz,.q Bh0,.q Bh1,.q Bh2],.slice x0 x1 x2,.s [115,108,101,101,112]] w46 (Ret fun Bkq w47=>
 ∃Bh7 Bkr Bh8 Bh9 Bia Bib,Bkq= .agg #[.slice Bh7 Bkr Bh8,.q Bh9,.q Bia,.q Bib]/\
 S3 w47/\
 Calls Tryz.prog 115 #[.agg #[.slice Bh7 Bkr Bh8,.q Bh9,.q Bia,.q Bib],.slice x0 x1 x2] w47 (Ret fun Bks w48=>
 ∃Bic Bkt Bid Bie Bif Big,Bks= .agg #[.slice Bic Bkt Bid,.q Bie,.q Bif,.q Big]/\
 S3 w48/\
 Calls Tryz.prog 71 #[.agg #[.slice Bic Bkt Bid,.q Bie,.q Bif,.q Big],.slice x0 x1 x2,.s [59]] w48 (Ret fun Bku w49=>
 ∃Bih Bkv Bii Bij Bik Bil,Bku= .agg #[.slice Bih Bkv Bii,.q Bij,.q Bik,.q Bil]/\
 S3 w49/\
 Calls Tryz.prog 38 #[.agg #[.slice Bih Bkv Bii,.q Bij,.q Bik,.q Bil],.agg #[.q Bkp,.s Bh3,.q Bh4,.q Bh5,.q Bh6]] w49 (Ret fun Bkw w50=>
 ∃Bim Bin Bio Bip Biq Bir,Bkw= .agg #[.slice Bim Bin Bio,.q Bip,.q Biq,.q Bir]/\
 Af w50 ⟨x5,0,none⟩ 4/\∀w51,w51=setCells w50 ⟨x5,0,none⟩ [.slice Bim Bin Bio,.q Bip,.q Biq,.q Bir]->
 ∃Bis Bok Bol Bom Bon Boo,Ad w51 ⟨x5,0,none⟩ [.slice Bis Bok Bol,.q Bom,.q Bon,.q Boo]/\
 K (.agg #[.slice Bis Bok Bol,.q Bom,.q Bon,.q Boo]) w51)))))
 (cond (Axs==[112,114,105,110,116])
 (Af w11 ⟨x13,0,none⟩ 1/\∀w52,w52=w11.setCell ⟨x13,0,none⟩ (.q 28)->
 ∀w53,w53=w52.drew->
 ∃(S4:World->Prop),S4 w53/\
 ∃Bop Boq Bor Bos Bot Bou,(∀u,S4 u->Ad u ⟨x21,0,none⟩ [.slice Bop Boq Bor,.q Bos,.q Bot,.q Bou])/\
 ∃Bov Bow Boy Boz Bo0,(∀u,S4 u->Ad u ⟨x13,0,none⟩ [.q Bov,.s Bow,.q Boy,.q Boz,.q Bo0])/\
 Calls Tryz.prog 71 #[.agg #[.slice Bop Boq Bor,.q Bos,.q Bot,.q Bou],.slice x0 x1 x2,.s [112,114,105,110,116]] w53 (Ret fun Cbf w54=>
 ∃Bo1 Bo2 Bo3 Bo4 Bo5 Bo6,Cbf= .agg #[.slice Bo1 Bo2 Bo3,.q Bo4,.q Bo5,.q Bo6]/\
 S4 w54/\
 Calls Tryz.prog 115 #[.agg #[.slice Bo1 Bo2 Bo3,.q Bo4,.q Bo5,.q Bo6],.slice x0 x1 x2] w54 (Ret fun Cbg w55=>
 ∃Bo7 Bo8 Bo9 Bpa Bpb Bpc,Cbg= .agg #[.slice Bo7 Bo8 Bo9,.q Bpa,.q Bpb,.q Bpc]/\
 S4 w55/\
 Calls Tryz.prog 71 #[.agg #[.slice Bo7 Bo8 Bo9,.q Bpa,.q Bpb,.q Bpc],.slice x0 x1 x2,.s [59]] w55 (Ret fun Cbh w56=>
 ∃Bpd Bpe Bpf Bpg Bph Bpi,Cbh= .agg #[.slice Bpd Bpe Bpf,.q Bpg,.q Bph,.q Bpi]/\
 S4 w56/\
 Calls Tryz.prog 38 #[.agg #[.slice Bpd Bpe Bpf,.q Bpg,.q Bph,.q Bpi],.agg #[.q Bov,.s Bow,.q Boy,.q Boz,.q Bo0]] w56 (Ret fun Cbi w57=>
 ∃Bpj Bpk Bpl Bpm Bpn Bpo,Cbi= .agg #[.slice Bpj Bpk Bpl,.q Bpm,.q Bpn,.q Bpo]/\
 Af w57 ⟨x5,0,none⟩ 4/\∀w58,w58=setCells w57 ⟨x5,0,none⟩ [.slice Bpj Bpk Bpl,.q Bpm,.q Bpn,.q Bpo]->
 ∃Bpp Bpq Bpr Bps Bpt Bpu,Ad w58 ⟨x5,0,none⟩ [.slice Bpp Bpq Bpr,.q Bps,.q Bpt,.q Bpu]/\
 K (.agg #[.slice Bpp Bpq Bpr,.q Bps,.q Bpt,.q Bpu]) w58)))))
 (cond (Axs==[97,115,115,101,114,116])
 (Af w11 ⟨x13,0,none⟩ 1/\∀w59,w59=w11.setCell ⟨x13,0,none⟩ (.q 29)->
 ∀w60,w60=w59.drew->
 ∃(S5:World->Prop),S5 w60/\
 ∃Bpv Bpw Bpx Bpy Bpz Bp0,(∀u,S5 u->Ad u ⟨x21,0,none⟩ [.slice Bpv Bpw Bpx,.q Bpy,.q Bpz,.q Bp0])/\
 ∃Bp1 Bp2 Bp3 Bp4 Bp5,(∀u,S5 u->Ad u ⟨x13,0,none⟩ [.q Bp1,.s Bp2,.q Bp3,.q Bp4,.q Bp5])/\
 Calls Tryz.prog 71 #[.agg #[.slice Bpv Bpw Bpx,.q Bpy,.q Bpz,.q Bp0],.slice x0 x1 x2,.s [97,115,115,101,114,116]] w60 (Ret fun Cbj w61=>
 ∃Bp6 Bp7 Bp8 Bp9 Bqa Bqb,Cbj= .agg #[.slice Bp6 Bp7 Bp8,.q Bp9,.q Bqa,.q Bqb]/\
 S5 w61/\
 Calls Tryz.prog 115 #[.agg #[.slice Bp6 Bp7 Bp8,.q Bp9,.q Bqa,.q Bqb],.slice x0 x1 x2] w61 (Ret fun Cbk w62=>
 ∃Bqc Bqd Bqe Bqf Bqg Bqh,Cbk= .agg #[.slice Bqc Bqd Bqe,.q Bqf,.q Bqg,.q Bqh]/\
 S5 w62/\
 Calls Tryz.prog 71 #[.agg #[.slice Bqc Bqd Bqe,.q Bqf,.q Bqg,.q Bqh],.slice x0 x1 x2,.s [59]] w62 (Ret fun Cbl w63=>
 ∃Bqi Bqj Bqk Bql Bqm Bqn,Cbl= .agg #[.slice Bqi Bqj Bqk,.q Bql,.q Bqm,.q Bqn]/\
 S5 w63/\
 Calls Tryz.prog 38 #[.agg #[.slice Bqi Bqj Bqk,.q Bql,.q Bqm,.q Bqn],.agg #[.q Bp1,.s Bp2,.q Bp3,.q Bp4,.q Bp5]] w63 (Ret fun Cbm w64=>
 ∃Bqo Bqp Bqq Bqr Bqs Bqt,Cbm= .agg #[.slice Bqo Bqp Bqq,.q Bqr,.q Bqs,.q Bqt]/\
 Af w64 ⟨x5,0,none⟩ 4/\∀w65,w65=setCells w64 ⟨x5,0,none⟩ [.slice Bqo Bqp Bqq,.q Bqr,.q Bqs,.q Bqt]->
 ∃Bqu Bqv Bqw Bqx Bqy Bqz,Ad w65 ⟨x5,0,none⟩ [.slice Bqu Bqv Bqw,.q Bqx,.q Bqy,.q Bqz]/\
 K (.agg #[.slice Bqu Bqv Bqw,.q Bqx,.q Bqy,.q Bqz]) w65)))))
 (cond (Axs==[115,107,105,112])
 (Af w11 ⟨x13,0,none⟩ 1/\∀w66,w66=w11.setCell ⟨x13,0,none⟩ (.q 30)->
 ∀w67,w67=w66.drew->
 ∃(S6:World->Prop),S6 w67/\
 ∃Bq0 Bq1 Bq2 Bq3 Bq4 Bq5,(∀u,S6 u->Ad u ⟨x21,0,none⟩ [.slice Bq0 Bq1 Bq2,.q Bq3,.q Bq4,.q Bq5])/\
 ∃Bq6 Bq7 Bq8 Bq9 Bra,(∀u,S6 u->Ad u ⟨x13,0,none⟩ [.q Bq6,.s Bq7,.q Bq8,.q Bq9,.q Bra])/\
 Calls Tryz.prog 71 #[.agg #[.slice Bq0 Bq1 Bq2,.q Bq3,.q Bq4,.q Bq5],.slice x0 x1 x2,.s [115,107,105,112]] w67 (Ret fun Cbn w68=>
 ∃Brb Brc Brd Bre Brf Brg,Cbn= .agg #[.slice Brb Brc Brd,.q Bre,.q Brf,.q Brg]/\
 S6 w68/\
 Calls Tryz.prog 71 #[.agg #[.slice Brb Brc Brd,.q Bre,.q Brf,.q Brg],.slice x0 x1 x2,.s [59]] w68 (Ret fun Cbo w69=>
 ∃Brh Bri Brj Brk Brl Brm,Cbo= .agg #[.slice Brh Bri Brj,.q Brk,.q Brl,.q Brm]/\
 S6 w69/\
 Calls Tryz.prog 38 #[.agg #[.slice Brh Bri Brj,.q Brk,.q Brl,.q Brm],.agg #[.q Bq6,.s Bq7,.q Bq8,.q Bq9,.q Bra]] w69 (Ret fun Cbp w70=>
 ∃Brn Bro Brp Brq Brr Brs,Cbp= .agg #[.slice Brn Bro Brp,.q Brq,.q Brr,.q Brs]/\
 Af w70 ⟨x5,0,none⟩ 4/\∀w71,w71=setCells w70 ⟨x5,0,none⟩ [.slice Brn Bro Brp,.q Brq,.q Brr,.q Brs]->
 ∃Brt Bru Brv Brw Brx Bry,Ad w71 ⟨x5,0,none⟩ [.slice Brt Bru Brv,.q Brw,.q Brx,.q Bry]/\
 K (.agg #[.slice Brt Bru Brv,.q Brw,.q Brx,.q Bry]) w71))))
 (cond (Axs==[115,116,111,112])
 (Af w11 ⟨x13,0,none⟩ 1/\∀w72,w72=w11.setCell ⟨x13,0,none⟩ (.q 31)->
 ∀w73,w73=w72.drew->
 ∃(S7:World->Prop),S7 w73/\
 ∃Brz Br0 Br1 Br2 Br3 Br4,(∀u,S7 u->Ad u ⟨x21,0,none⟩ [.slice Brz Br0 Br1,.q Br2,.q Br3,.q Br4])/\
 ∃Br5 Br6 Br7 Br8 Br9,(∀u,S7 u->Ad u ⟨x13,0,none⟩ [.q Br5,.s Br6,.q Br7,.q Br8,.q Br9])/\
 Calls Tryz.prog 71 #[.agg #[.slice Brz Br0 Br1,.q Br2,.q Br3,.q Br4],.slice x0 x1 x2,.s [115,116,111,112]] w73 (Ret fun Cbq w74=>
 ∃Bsa Bsb Bsc Bsd Bse Bsf,Cbq= .agg #[.slice Bsa Bsb Bsc,.q Bsd,.q Bse,.q Bsf]/\
 S7 w74/\
 Calls Tryz.prog 71 #[.agg #[.slice Bsa Bsb Bsc,.q Bsd,.q Bse,.q Bsf],.slice x0 x1 x2,.s [59]] w74 (Ret fun Cbr w75=>
 ∃Bsg Bsh Bsi Bsj Bsk Bsl,Cbr= .agg #[.slice Bsg Bsh Bsi,.q Bsj,.q Bsk,.q Bsl]/\
 S7 w75/\
 Calls Tryz.prog 38 #[.agg #[.slice Bsg Bsh Bsi,.q Bsj,.q Bsk,.q Bsl],.agg #[.q Br5,.s Br6,.q Br7,.q Br8,.q Br9]] w75 (Ret fun Cbs w76=>
 ∃Bsm Bsn Bso Bsp Bsq Bsr,Cbs= .agg #[.slice Bsm Bsn Bso,.q Bsp,.q Bsq,.q Bsr]/\
 Af w76 ⟨x5,0,none⟩ 4/\∀w77,w77=setCells w76 ⟨x5,0,none⟩ [.slice Bsm Bsn Bso,.q Bsp,.q Bsq,.q Bsr]->
 ∃Bss Bst Bsu Bsv Bsw Bsx,Ad w77 ⟨x5,0,none⟩ [.slice Bss Bst Bsu,.q Bsv,.q Bsw,.q Bsx]/\
 K (.agg #[.slice Bss Bst Bsu,.q Bsv,.q Bsw,.q Bsx]) w77))))
 (cond (Axs==[119,104,105,108,101])
 (Af w11 ⟨x13,0,none⟩ 1/\∀w78,w78=w11.setCell ⟨x13,0,none⟩ (.q 24)->
 ∀w79,w79=w78.drew->
 ∃(S8:World->Prop),S8 w79/\
 ∃Bsy Bsz Bs0 Bs1 Bs2 Bs3,(∀u,S8 u->Ad u ⟨x21,0,none⟩ [.slice Bsy Bsz Bs0,.q Bs1,.q Bs2,.q Bs3])/\
 ∃Bs4 Bs5 Bs6 Bs7 Bs8,(∀u,S8 u->Ad u ⟨x13,0,none⟩ [.q Bs4,.s Bs5,.q Bs6,.q Bs7,.q Bs8])/\
 Calls Tryz.prog 71 #[.agg #[.slice Bsy Bsz Bs0,.q Bs1,.q Bs2,.q Bs3],.slice x0 x1 x2,.s [119,104,105,108,101]] w79 (Ret fun Cbt w80=>
 ∃Bs9 Bta Btb Btc Btd Bte,Cbt= .agg #[.slice Bs9 Bta Btb,.q Btc,.q Btd,.q Bte]/\
 S8 w80/\
 Calls Tryz.prog 115 #[.agg #[.slice Bs9 Bta Btb,.q Btc,.q Btd,.q Bte],.slice x0 x1 x2] w80 (Ret fun Cbu w81=>
 ∃Btf Btg Bth Bti Btj Btk,Cbu= .agg #[.slice Btf Btg Bth,.q Bti,.q Btj,.q Btk]/\
 S8 w81/\
 Calls Tryz.prog 75 #[.agg #[.slice Btf Btg Bth,.q Bti,.q Btj,.q Btk],.slice x0 x1 x2,.q (IntKind.i64.wrap (x4+1))] w81 (Ret fun Cbw w82=>
 ∃Btl Btm Btn Bto Btp Btq,Cbw= .agg #[.slice Btl Btm Btn,.q Bto,.q Btp,.q Btq]/\
 S8 w82/\
 Calls Tryz.prog 38 #[.agg #[.slice Btl Btm Btn,.q Bto,.q Btp,.q Btq],.agg #[.q Bs4,.s Bs5,.q Bs6,.q Bs7,.q Bs8]] w82 (Ret fun Cbx w83=>
 ∃Btr Bts Btt Btu Btv Btw,Cbx= .agg #[.slice Btr Bts Btt,.q Btu,.q Btv,.q Btw]/\
 Af w83 ⟨x5,0,none⟩ 4/\∀w84,w84=setCells w83 ⟨x5,0,none⟩ [.slice Btr Bts Btt,.q Btu,.q Btv,.q Btw]->
 ∃Btx Bty Btz Bt0 Bt1 Bt2,Ad w84 ⟨x5,0,none⟩ [.slice Btx Bty Btz,.q Bt0,.q Bt1,.q Bt2]/\
 K (.agg #[.slice Btx Bty Btz,.q Bt0,.q Bt1,.q Bt2]) w84)))))
 (cond (Axs==[105,102])
 (Af w11 ⟨x13,0,none⟩ 1/\∀w85,w85=w11.setCell ⟨x13,0,none⟩ (.q 23)->
 ∃Bt3 Bt4 Bt5 Bt6 Bt7 Bt8,Ad w85 ⟨x21,0,none⟩ [.slice Bt3 Bt4 Bt5,.q Bt6,.q Bt7,.q Bt8]/\
 Calls Tryz.prog 71 #[.agg #[.slice Bt3 Bt4 Bt5,.q Bt6,.q Bt7,.q Bt8],.slice x0 x1 x2,.s [105,102]] w85 (Ret fun Cby w86=>
 ∃Bt9 Bua Bub Buc Bud Bue,Cby= .agg #[.slice Bt9 Bua Bub,.q Buc,.q Bud,.q Bue]/\
 Calls Tryz.prog 115 #[.agg #[.slice Bt9 Bua Bub,.q Buc,.q Bud,.q Bue],.slice x0 x1 x2] w86 (Ret fun Cbz w87=>
 ∃Buf Bug Buh Bui Buj Buk,Cbz= .agg #[.slice Buf Bug Buh,.q Bui,.q Buj,.q Buk]/\
 Calls Tryz.prog 75 #[.agg #[.slice Buf Bug Buh,.q Bui,.q Buj,.q Buk],.slice x0 x1 x2,.q (IntKind.i64.wrap (x4+1))] w87 (Ret fun Cb0 w88=>
 ∃Bul Bum Bun Buo Bup Buq,Cb0= .agg #[.slice Bul Bum Bun,.q Buo,.q Bup,.q Buq]/\
 Af w88 ⟨x21,0,none⟩ 4/\∀w89,w89=setCells w88 ⟨x21,0,none⟩ [.slice Bul Bum Bun,.q Buo,.q Bup,.q Buq]->
 ∃(J1:World->Prop),
 (∃(J2:Bool->World->Prop),
 (∃Bur,w89.cell? ⟨x21,3,none⟩=some (.q Bur)/\
 cond (Bur==0)
 (∃Bus,w89.cell? ⟨x21,2,none⟩=some (.q Bus)/\
 Calls Tryz.prog 70 #[.slice x0 x1 x2,.q Bus,.s [101,108,115,101]] w89 (Ret fun Cb1 w90=>
 ∃But,Cb1= .bool But/\
 J2 But w90))
 (J2 false w89))/\
 ∀(_x518:Nat->Value) (Buu:Bool) (w91:World),J2 Buu w91->
 cond (Buu)
 (∃Buv Buw Bux Buy Buz Bu0,Ad w91 ⟨x21,0,none⟩ [.slice Buv Buw Bux,.q Buy,.q Buz,.q Bu0]/\
 Calls Tryz.prog 71 #[.agg #[.slice Buv Buw Bux,.q Buy,.q Buz,.q Bu0],.slice x0 x1 x2,.s [101,108,115,101]] w91 (Ret fun Cb2 w92=>
 ∃Bu1 Bu2 Bu3 Bu4 Bu5 Bu6,Cb2= .agg #[.slice Bu1 Bu2 Bu3,.q Bu4,.q Bu5,.q Bu6]/\
 Calls Tryz.prog 75 #[.agg #[.slice Bu1 Bu2 Bu3,.q Bu4,.q Bu5,.q Bu6],.slice x0 x1 x2,.q (IntKind.i64.wrap (x4+1))] w92 (Ret fun Cb3 w93=>
 ∃Bu7 Bu8 Bu9 Bva Bvb Bvc,Cb3= .agg #[.slice Bu7 Bu8 Bu9,.q Bva,.q Bvb,.q Bvc]/\
 Af w93 ⟨x21,0,none⟩ 4/\∀w94,w94=setCells w93 ⟨x21,0,none⟩ [.slice Bu7 Bu8 Bu9,.q Bva,.q Bvb,.q Bvc]->
 J1 w94)))
 (J1 w91))/\
 ∀(_x540:Nat->Value) (w95:World),J1 w95->
 ∃Bvd Bve Bvf Bvg Bvh Bvi,Ad w95 ⟨x21,0,none⟩ [.slice Bvd Bve Bvf,.q Bvg,.q Bvh,.q Bvi]/\
 ∃Bvj Bvk Bvl Bvm Bvn,Ad w95 ⟨x13,0,none⟩ [.q Bvj,.s Bvk,.q Bvl,.q Bvm,.q Bvn]/\
 Calls Tryz.prog 38 #[.agg #[.slice Bvd Bve Bvf,.q Bvg,.q Bvh,.q Bvi],.agg #[.q Bvj,.s Bvk,.q Bvl,.q Bvm,.q Bvn]] w95 (Ret fun Cb4 w96=>
 ∃Bvo Bvp Bvq Bvr Bvs Bvt,Cb4= .agg #[.slice Bvo Bvp Bvq,.q Bvr,.q Bvs,.q Bvt]/\
 Af w96 ⟨x5,0,none⟩ 4/\∀w97,w97=setCells w96 ⟨x5,0,none⟩ [.slice Bvo Bvp Bvq,.q Bvr,.q Bvs,.q Bvt]->
 ∃Bvu Bvv Bvw Bvx Bvy Bvz,Ad w97 ⟨x5,0,none⟩ [.slice Bvu Bvv Bvw,.q Bvx,.q Bvy,.q Bvz]/\
 K (.agg #[.slice Bvu Bvv Bvw,.q Bvx,.q Bvy,.q Bvz]) w97)))))
 (cond (Axs==[115,101,108,101,99,116])
 (Af w11 ⟨x13,0,none⟩ 1/\∀w98,w98=w11.setCell ⟨x13,0,none⟩ (.q 25)->
 ∃Bv0 Bv1 Bv2 Bv3 Bv4 Bv5,Ad w98 ⟨x21,0,none⟩ [.slice Bv0 Bv1 Bv2,.q Bv3,.q Bv4,.q Bv5]/\
 Calls Tryz.prog 71 #[.agg #[.slice Bv0 Bv1 Bv2,.q Bv3,.q Bv4,.q Bv5],.slice x0 x1 x2,.s [115,101,108,101,99,116]] w98 (Ret fun Cb5 w99=>
 ∃Bv6 Bv7 Bv8 Bv9 Bwa Bwb,Cb5= .agg #[.slice Bv6 Bv7 Bv8,.q Bv9,.q Bwa,.q Bwb]/\
 Calls Tryz.prog 71 #[.agg #[.slice Bv6 Bv7 Bv8,.q Bv9,.q Bwa,.q Bwb],.slice x0 x1 x2,.s [123]] w99 (Ret fun Cb6 Bmh=>
 ∃Bwc Bwd Bwe Bwf Bwg Bwh,Cb6= .agg #[.slice Bwc Bwd Bwe,.q Bwf,.q Bwg,.q Bwh]/\
 Af Bmh ⟨x21,0,none⟩ 4/\∀Bgf,Bgf=setCells Bmh ⟨x21,0,none⟩ [.slice Bwc Bwd Bwe,.q Bwf,.q Bwg,.q Bwh]->
 ∃(J3:World->Prop),
 (∃Bwi,Bgf.cell? ⟨x21,3,none⟩=some (.q Bwi)/\
 cond (Bwi==0)
 (∀Beh,Beh=Bgf.drew->
 ∃(S9:World->Prop),S9 Beh/\
 ∃Bwj Bwk Bwl Bwm Bwn Bwo,(∀u,S9 u->Ad u ⟨x21,0,none⟩ [.slice Bwj Bwk Bwl,.q Bwm,.q Bwn,.q Bwo])/\
 ∃Bwp,(∀u,S9 u->u.cell? ⟨x21,2,none⟩=some (.q Bwp))/\
 Calls Tryz.prog 117 #[.slice x0 x1 x2,.q Bwp,.q x4] Beh (Ret fun Cb7 Bit=>
 ∃Bwq Bwr Bws Bwt Bwu Bwv,Cb7= .agg #[.slice Bwq Bwr Bws,.q Bwt,.q Bwu,.q Bwv]/\
 S9 Bit/\
 Calls Tryz.prog 36 #[.agg #[.slice Bwj Bwk Bwl,.q Bwm,.q Bwn,.q Bwo],.agg #[.slice Bwq Bwr Bws,.q Bwt,.q Bwu,.q Bwv]] Bit (Ret fun Cb8 Bkx=>
 ∃Bww Bwx Bwy Bwz Bw0 Bw1,Cb8= .agg #[.slice Bww Bwx Bwy,.q Bwz,.q Bw0,.q Bw1]/\
 Af Bkx ⟨x21,0,none⟩ 4/\∀Bmi,Bmi=setCells Bkx ⟨x21,0,none⟩ [.slice Bww Bwx Bwy,.q Bwz,.q Bw0,.q Bw1]->
 J3 Bmi)))
 (J3 Bgf))/\
 ∀(_x607:Nat->Value) (Bmj:World),J3 Bmj->
 ∃(I:World->Prop) (Bw2:World->Nat),I Bmj/\
 ∀(_x609:Nat->Value) (Azv:World),I Azv->
 ∃(J4:Bool->World->Prop),
 (∃Bw3,Azv.cell? ⟨x21,3,none⟩=some (.q Bw3)/\
 cond (Bw3==0)
 (∃Bw4,Azv.cell? ⟨x21,2,none⟩=some (.q Bw4)/\
 Calls Tryz.prog 70 #[.slice x0 x1 x2,.q Bw4,.s [125]] Azv (Ret fun Cb9 Bky=>
 ∃Bw5,Cb9= .bool Bw5/\
 J4 (!Bw5) Bky))
 (J4 false Azv))/\
 ∀(_x614:Nat->Value) (Bw6:Bool) (Bkz:World),J4 Bw6 Bkz->
 cond (Bw6)
 (∀Bgg,Bgg=Bkz.drew->
 ∃(S10:World->Prop),S10 Bgg/\
 ∃Bw7 Bw8 Bw9 Bxa Bxb Bxc,(∀u,S10 u->Ad u ⟨x21,0,none⟩ [.slice Bw7 Bw8 Bw9,.q Bxa,.q Bxb,.q Bxc])/\
 ∃Bxd,(∀u,S10 u->u.cell? ⟨x21,2,none⟩=some (.q Bxd))/\
 Calls Tryz.prog 117 #[.slice x0 x1 x2,.q Bxd,.q x4] Bgg (Ret fun Cca Bk0=>
 ∃Bxe Bxf Bxg Bxh Bxi Bxj,Cca= .agg #[.slice Bxe Bxf Bxg,.q Bxh,.q Bxi,.q Bxj]/\
 S10 Bk0/\
 Calls Tryz.prog 36 #[.agg #[.slice Bw7 Bw8 Bw9,.q Bxa,.q Bxb,.q Bxc],.agg #[.slice Bxe Bxf Bxg,.q Bxh,.q Bxi,.q Bxj]] Bk0 (Ret fun Ccb Bmk=>
 ∃Bxk Bxl Bxm Bxn Bxo Bxp,Ccb= .agg #[.slice Bxk Bxl Bxm,.q Bxn,.q Bxo,.q Bxp]/\
 Af Bmk ⟨x21,0,none⟩ 4/\∀Biu,Biu=setCells Bmk ⟨x21,0,none⟩ [.slice Bxk Bxl Bxm,.q Bxn,.q Bxo,.q Bxp]->
 I Biu/\Bw2 Biu<Bw2 Azv)))
 (∀Bgh,Bgh=Bkz.drew->
 ∃(S11:World->Prop),S11 Bgh/\
 ∃Bxq Bxr Bxs Bxt Bxu Bxv,(∀u,S11 u->Ad u ⟨x21,0,none⟩ [.slice Bxq Bxr Bxs,.q Bxt,.q Bxu,.q Bxv])/\
 ∃Bxw Bxx Bxy Bxz Bx0,(∀u,S11 u->Ad u ⟨x13,0,none⟩ [.q Bxw,.s Bxx,.q Bxy,.q Bxz,.q Bx0])/\
 Calls Tryz.prog 71 #[.agg #[.slice Bxq Bxr Bxs,.q Bxt,.q Bxu,.q Bxv],.slice x0 x1 x2,.s [125]] Bgh (Ret fun Ccc Bk1=>
 ∃Bx1 Bx2 Bx3 Bx4 Bx5 Bx6,Ccc= .agg #[.slice Bx1 Bx2 Bx3,.q Bx4,.q Bx5,.q Bx6]/\
 S11 Bk1/\
 Calls Tryz.prog 38 #[.agg #[.slice Bx1 Bx2 Bx3,.q Bx4,.q Bx5,.q Bx6],.agg #[.q Bxw,.s Bxx,.q Bxy,.q Bxz,.q Bx0]] Bk1 (Ret fun Ccd Bml=>
 ∃Bx7 Bx8 Bx9 Bya Byb Byc,Ccd= .agg #[.slice Bx7 Bx8 Bx9,.q Bya,.q Byb,.q Byc]/\
 Af Bml ⟨x5,0,none⟩ 4/\∀Bk2,Bk2=setCells Bml ⟨x5,0,none⟩ [.slice Bx7 Bx8 Bx9,.q Bya,.q Byb,.q Byc]->
 ∃Byd Bye Byf Byg Byh Byi,Ad Bk2 ⟨x5,0,none⟩ [.slice Byd Bye Byf,.q Byg,.q Byh,.q Byi]/\
 K (.agg #[.slice Byd Bye Byf,.q Byg,.q Byh,.q Byi]) Bk2))))))
 (Af w11 ⟨x21,3,none⟩ 1/\∀Biv,Biv=w11.setCell ⟨x21,3,none⟩ (.q 11)->
 ∃Byj Byk Byl Bym Byn Byo,Ad Biv ⟨x21,0,none⟩ [.slice Byj Byk Byl,.q Bym,.q Byn,.q Byo]/\
 Af Biv ⟨x5,0,none⟩ 4/\∀Bk3,Bk3=setCells Biv ⟨x5,0,none⟩ [.slice Byj Byk Byl,.q Bym,.q Byn,.q Byo]->
 ∃Byp Byq Byr Bys Byt Byu,Ad Bk3 ⟨x5,0,none⟩ [.slice Byp Byq Byr,.q Bys,.q Byt,.q Byu]/\
 K (.agg #[.slice Byp Byq Byr,.q Bys,.q Byt,.q Byu]) Bk3)))))))))))))))
theorem Ag2 (x0:Option Addr) (x1:Nat) (x2:Nat) (x3:Int) (x4:Int) (K:Value->World->Prop) (w:World) (h:Ag1 x0 x1 x2 x3 x4 K w):Calls Tryz.prog 105 #[.slice x0 x1 x2,.q x3,.q x4] w (Ret K):=
 Ao { loops:=[(68551704540,[])],Axo:=[(62,[(26,.bool)]),(2142240763,[]),(4284481526,[(185,.bool)]),(8568963067,[]),(274206818160,[(223,.bool)])] } Tryz.func105 (by kernel_rfl) h
end Go.Proofs.YtcakelelfklhdaaGreatDoor
