/- A part of the proof: conditions of the code, contracts, the plain law. -/
import Derived.Test.YtcakelelfklhdaaGreatDoorRows
import Derived.Test.YtcakelelfklhdaaGreatDoorVcI
namespace Go.Proofs.YtcakelelfklhdaaGreatDoor
open Go.Vc
def Acu (x0:Option Addr) (x1:Nat) (x2:Nat) (K:Value->World->Prop) (w:World):Prop:=
 Calls Tryz.prog 13 #[.slice x0 x1 x2] w (Ret fun x3 w1=>
 ∃x4 x5,x3= .tuple #[.q x4,.q x5]/\
 cond (x5 !=0)
 (K (.tuple #[.s [],.q x5]) w1)
 (∀x6 w2,x6=w1.heap.size->w2=w1.alloc (.cells #[.slice x0 x1 x2,.pointer none,.slice none 0 0,.q 0] 46)->
 Calls Tryz.prog 14 #[.pointer (some ⟨x6,0,none⟩),.q 0] w2 (Ret fun x7 w3=>
 ∃x8 x9 x10,x7= .slice x8 x9 x10/\
 ∃(I:Int->World->Prop) (x11:Int->World->Nat),I 0 w3/\
 ∀(_x12:Nat->Value) (x13:Int) (w4:World),I x13 w4->
 cond (decide (x13<(x9:Int)))
 (((0:Int)<=x13/\x13<(x9:Int))/\
 A3 x8 (fun x14=>
 ∃x15,w4.cell? (x14.add (x13.toNat*1))=some (.q x15)/\
 Calls Tryz.prog 15 #[.pointer (some ⟨x6,0,none⟩),.q x15] w4 (Ret fun _x16 w5=>
 I (IntKind.i64.wrap (x13+1)) w5/\x11 (IntKind.i64.wrap (x13+1)) w5<x11 x13 w4)))
 (Calls Tryz.prog 16 #[.pointer (some ⟨x6,1,none⟩)] w4 (Ret fun x17 w6=>
 ∃x18,x17= .s x18/\
 K (.tuple #[.s x18,.q 0]) w6)))))
theorem Acv (x0:Option Addr) (x1:Nat) (x2:Nat) (K:Value->World->Prop) (w:World) (h:Acu x0 x1 x2 K w):Calls Tryz.prog 7 #[.slice x0 x1 x2] w (Ret K):=
 Ao { loops:=[(122,[(23,.int .i64)])] } Tryz.func7 (by kernel_rfl) h
def Acw (x0:Option Addr) (x1:Nat) (x2:Nat) (x3:Int) (K:Value->World->Prop) (w:World):Prop:=
 Calls Tryz.prog 13 #[.slice x0 x1 x2] w (Ret fun x4 w1=>
 ∃x5 x6,x4= .tuple #[.q x5,.q x6]/\
 ∃(J:Bool->World->Prop),
 (cond (x6 !=0)
 (J true w1)
 (cond (decide (x3<0))
 (J true w1)
 (cond (decide (x3>=(x1:Int)))
 (J true w1)
 (((0:Int)<=x3/\x3<(x1:Int))/\
 A3 x0 (fun x7=>
 ∃x8,w1.cell? (x7.add (x3.toNat*5))=some (.q x8)/\
 Calls Tryz.prog 21 #[.q x8] w1 (Ret fun x9 w2=>
 ∃x10,x9= .q x10/\
 J (x10==0) w2))))))/\
 ∀(_x11:Nat->Value) (x12:Bool) (w3:World),J x12 w3->
 cond (x12)
 (K (.tuple #[.s [],.bool false]) w3)
 (∀x13 w4,x13=w3.heap.size->w4=w3.alloc (.cells #[.slice x0 x1 x2,.pointer none,.slice none 0 0,.q 0] 46)->
 Calls Tryz.prog 22 #[.pointer (some ⟨x13,0,none⟩),.q x3] w4 (Ret fun x14 w5=>
 ∃x15,x14= .s x15/\
 K (.tuple #[.s x15,.bool true]) w5)))
theorem Acx (x0:Option Addr) (x1:Nat) (x2:Nat) (x3:Int) (K:Value->World->Prop) (w:World) (h:Acw x0 x1 x2 x3 K w):Calls Tryz.prog 12 #[.slice x0 x1 x2,.q x3] w (Ret K):=
 Ao { Aww:=[(13,[(33,.bool)])] } Tryz.func12 (by kernel_rfl) h
def Q9 (x0:Nat) (x1:Int) (K:Value->World->Prop) (w:World):Prop:=
 ∃x2 x3 x4,w.cell? ⟨x0,0,none⟩=some (.slice x2 x3 x4)/\
 Calls Tryz.prog 28 #[.slice x2 x3 x4,.q x1] w (Ret fun x5 w1=>
 Calls Tryz.prog 27 #[x5] w1 (Ret fun x6 w2=>
 ∃x7 x8 x9,x6= .slice x7 x8 x9/\
 K (.slice x7 x8 x9) w2))
theorem Ra (x0:Nat) (x1:Int) (K:Value->World->Prop) (w:World) (h:Q9 x0 x1 K w):Calls Tryz.prog 14 #[.pointer (some ⟨x0,0,none⟩),.q x1] w (Ret K):=
 Ao {} Tryz.func14 (by kernel_rfl) h
def Rb (x0:Nat) (x1:Int) (K:Value->World->Prop) (w:World):Prop:=
 ∃(J:Option Addr->Option Addr->Nat->Nat->World->Prop),
 (∀w1,w1=w.drew->
 ∃(S:World->Prop),S w1/\
 ∃x2 x3 x4,(∀u,S u->u.cell? ⟨x0,0,none⟩=some (.slice x2 x3 x4))/\
 ((0:Int)<=x1/\x1<(x3:Int))/\
 A3 x2 (fun x5=>
 ∃x6 x7 x8 x9 x10,(∀u,S u->Ae u (x5.add (x1.toNat*5)) [.q x6,.s x7,.q x8,.q x9,.q x10])/\
 (Calls Tryz.prog 14 #[.pointer (some ⟨x0,0,none⟩),.q x1] w1 (Ret fun x11 w2=>
 ∃x12 x13 x14,x11= .slice x12 x13 x14/\
 S w2/\
 ∀x15 w3,x15=w2.heap.size->w3=w2.alloc (.cells #[.q 0,.s [],.q 0,.q 0,.q 0] 59)->
 S w3/\
 Ah w3 ⟨x15,0,none⟩ 5/\∀w4,w4=setCells w3 ⟨x15,0,none⟩ [.q x6,.s x7,.q x8,.q x9,.q x10]->
 J (some ⟨x15,0,none⟩) x12 x13 x14 w4))/\
 (∀x16 w5,x16=w1.heap.size->w5=w1.alloc (.cells #[.q 0,.s [],.q 0,.q 0,.q 0] 59)->
 S w5/\
 Calls Tryz.prog 14 #[.pointer (some ⟨x0,0,none⟩),.q x1] w5 (Ret fun x17 w6=>
 ∃x18 x19 x20,x17= .slice x18 x19 x20/\
 S w6/\
 Ah w6 ⟨x16,0,none⟩ 5/\∀w7,w7=setCells w6 ⟨x16,0,none⟩ [.q x6,.s x7,.q x8,.q x9,.q x10]->
 J (some ⟨x16,0,none⟩) x18 x19 x20 w7))))/\
 ∀(_x21:Nat->Value) (x22:Option Addr) (x23:Option Addr) (x24:Nat) (x25:Nat) (w8:World),J x22 x23 x24 x25 w8->
 A3 x22 (fun x26=>
 ∃x27,w8.cell? x26=some (.q x27)/\
 cond (x27==38)
 (A3 x22 (fun x28=>
 ∃x29,w8.cell? (x28.add 2)=some (.q x29)/\
 cond (decide (x29>0))
 (∀w9,w9=w8.drew->
 ∃(S1:World->Prop),S1 w9/\
 A3 x22 (fun x30=>
 A3 x22 (fun x31=>
 ∃x32,(∀u,S1 u->u.cell? (x30.add 1)=some (.s x32))/\
 ∃x33,(∀u,S1 u->u.cell? (x31.add 2)=some (.q x33))/\
 Calls Tryz.prog 30 #[.q x33] w9 (Ret fun x34 w10=>
 ∃x35,x34= .s x35/\
 S1 w10/\
 ∀x36 w11,x36=w10.heap.size->w11=w10.alloc (.cells #[.s [99,104,97,110,32],.s x32,.s [91],.s x35,.s [93,59]] 9)->
 Calls Tryz.prog 29 #[.pointer (some ⟨x0,0,none⟩),.slice (some ⟨x36,0,none⟩) 5 5] w11 (Ret fun _x37 w12=>
 K (.tuple #[]) w12)))))
 (A3 x22 (fun x38=>
 ∃x39,w8.cell? (x38.add 1)=some (.s x39)/\
 ∀x40 w13,x40=w8.heap.size->w13=w8.alloc (.cells #[.s [99,104,97,110,32],.s x39,.s [59]] 9)->
 Calls Tryz.prog 29 #[.pointer (some ⟨x0,0,none⟩),.slice (some ⟨x40,0,none⟩) 3 3] w13 (Ret fun _x41 w14=>
 K (.tuple #[]) w14)))))
 (cond (x27==40)
 (Bl Tryz.prog (Instr.makeSlice 74 (.q 0) (.q (x24:Int))) (fun x42 w15=>
 ∃x43 x44 x45,x42= .slice x43 x44 x45/\
 ((0:Int)<=(IntKind.i64.wrap ((x24:Int)-1))/\(IntKind.i64.wrap ((x24:Int)-1))<=(x25:Int))/\
 ∃(I:Option Addr->Nat->Nat->Int->World->Prop) (x46:Option Addr->Nat->Nat->Int->World->Nat),I x43 x44 x45 0 w15/\
 ∀(_x47:Nat->Value) (x48:Option Addr) (x49:Nat) (x50:Nat) (x51:Int) (w16:World),I x48 x49 x50 x51 w16->
 cond (decide (x51<(((IntKind.i64.wrap ((x24:Int)-1)).toNat:Nat):Int)))
 (((0:Int)<=x51/\x51<(((IntKind.i64.wrap ((x24:Int)-1)).toNat:Nat):Int))/\
 A3 (Hr x23 0 x25 1) (fun x52=>
 ∃x53,w16.cell? (x52.add (x51.toNat*1))=some (.q x53)/\
 ∃x54 x55 x56,w16.cell? ⟨x0,0,none⟩=some (.slice x54 x55 x56)/\
 ((0:Int)<=x53/\x53<(x55:Int))/\
 A3 x54 (fun x57=>
 ∃x58,w16.cell? ((x57.add (x53.toNat*5)).add 1)=some (.s x58)/\
 ∀x59 w17,x59=w16.heap.size->w17=w16.alloc (.cells #[.s x58] 9)->
 Bl Tryz.prog (Builtin.append_ #[74,74] 74 #[.slice x48 x49 x50,.slice (some ⟨x59,0,none⟩) 1 1]) (fun x60 w18=>
 ∃x61 x62 x63,x60= .slice x61 x62 x63/\
 I x61 x62 x63 (IntKind.i64.wrap (x51+1)) w18/\x46 x61 x62 x63 (IntKind.i64.wrap (x51+1)) w18<x46 x48 x49 x50 x51 w16) w17)))
 (∀w19,w19=w16.drew->
 ∃(S2:World->Prop),S2 w19/\
 ((0:Int)<=(IntKind.i64.wrap ((x24:Int)-1))/\(IntKind.i64.wrap ((x24:Int)-1))<(x24:Int))/\
 A3 x23 (fun x64=>
 A3 x22 (fun x65=>
 ∃x66,(∀u,S2 u->u.cell? (x64.add ((IntKind.i64.wrap ((x24:Int)-1)).toNat*1))=some (.q x66))/\
 ∃x67,(∀u,S2 u->u.cell? (x65.add 1)=some (.s x67))/\
 Calls Tryz.prog 32 #[.slice x48 x49 x50,.s [44,32]] w19 (Ret fun x68 w20=>
 ∃x69,x68= .s x69/\
 S2 w20/\
 ∀x70 w21,x70=w20.heap.size->w21=w20.alloc (.cells #[.s [112,114,111,99,32],.s x67,.s [40],.s x69,.s [41]] 9)->
 S2 w21/\
 Calls Tryz.prog 31 #[.pointer (some ⟨x0,0,none⟩),.q x66,.slice (some ⟨x70,0,none⟩) 5 5] w21 (Ret fun _x71 w22=>
 K (.tuple #[]) w22)))))) w8)
 (((0:Int)<=0/\0<(x24:Int))/\
 A3 x23 (fun x72=>
 ∃x73,w8.cell? (x72.add (0*1))=some (.q x73)/\
 ∀x74 w23,x74=w8.heap.size->w23=w8.alloc (.cells #[.s [109,97,105,110]] 9)->
 Calls Tryz.prog 31 #[.pointer (some ⟨x0,0,none⟩),.q x73,.slice (some ⟨x74,0,none⟩) 1 1] w23 (Ret fun _x75 w24=>
 K (.tuple #[]) w24)))))
theorem Rc (x0:Nat) (x1:Int) (K:Value->World->Prop) (w:World) (h:Rb x0 x1 K w):Calls Tryz.prog 15 #[.pointer (some ⟨x0,0,none⟩),.q x1] w (Ret K):=
 Ao { loops:=[(3818,[(6,.slice),(56,.int .i64)])],Aww:=[(1,[(4,.pointer),(5,.slice)])] } Tryz.func15 (by kernel_rfl) h
def Rd (x0:Nat) (x1:Int) (K:Value->World->Prop) (w:World):Prop:=
 ∃(J:Option Addr->Option Addr->Nat->Nat->World->Prop),
 (∀w1,w1=w.drew->
 ∃(S:World->Prop),S w1/\
 ∃x2 x3 x4,(∀u,S u->u.cell? ⟨x0,0,none⟩=some (.slice x2 x3 x4))/\
 ((0:Int)<=x1/\x1<(x3:Int))/\
 A3 x2 (fun x5=>
 ∃x6 x7 x8 x9 x10,(∀u,S u->Ae u (x5.add (x1.toNat*5)) [.q x6,.s x7,.q x8,.q x9,.q x10])/\
 (Calls Tryz.prog 14 #[.pointer (some ⟨x0,0,none⟩),.q x1] w1 (Ret fun x11 w2=>
 ∃x12 x13 x14,x11= .slice x12 x13 x14/\
 S w2/\
 ∀x15 w3,x15=w2.heap.size->w3=w2.alloc (.cells #[.q 0,.s [],.q 0,.q 0,.q 0] 59)->
 S w3/\
 Ah w3 ⟨x15,0,none⟩ 5/\∀w4,w4=setCells w3 ⟨x15,0,none⟩ [.q x6,.s x7,.q x8,.q x9,.q x10]->
 J (some ⟨x15,0,none⟩) x12 x13 x14 w4))/\
 (∀x16 w5,x16=w1.heap.size->w5=w1.alloc (.cells #[.q 0,.s [],.q 0,.q 0,.q 0] 59)->
 S w5/\
 Calls Tryz.prog 14 #[.pointer (some ⟨x0,0,none⟩),.q x1] w5 (Ret fun x17 w6=>
 ∃x18 x19 x20,x17= .slice x18 x19 x20/\
 S w6/\
 Ah w6 ⟨x16,0,none⟩ 5/\∀w7,w7=setCells w6 ⟨x16,0,none⟩ [.q x6,.s x7,.q x8,.q x9,.q x10]->
 J (some ⟨x16,0,none⟩) x18 x19 x20 w7))))/\
 ∀(_x21:Nat->Value) (x22:Option Addr) (x23:Option Addr) (x24:Nat) (x25:Nat) (w8:World),J x22 x23 x24 x25 w8->
 A3 x22 (fun x26=>
 ∃x27,w8.cell? x26=some (.q x27)/\
 Calls Tryz.prog 21 #[.q x27] w8 (Ret fun x28 w9=>
 ∃x29,x28= .q x29/\
 A3 x22 (fun x30=>
 ∃x31,w9.cell? x30=some (.q x31)/\
 cond (x31==1)
 (A3 x22 (fun x32=>
 ∃x33,w9.cell? (x32.add 2)=some (.q x33)/\
 Calls Tryz.prog 30 #[.q x33] w9 (Ret fun x34 w10=>
 ∃x35,x34= .s x35/\
 K (.s x35) w10)))
 (A3 x22 (fun x36=>
 ∃x37,w9.cell? x36=some (.q x37)/\
 cond (x37==2)
 (A3 x22 (fun x38=>
 ∃x39,w9.cell? (x38.add 1)=some (.s x39)/\
 K (.s x39) w9))
 (cond ((x24:Int)==1)
 (∀w11,w11=w9.drew->
 ∃(S1:World->Prop),S1 w11/\
 A3 x22 (fun x40=>
 ((0:Int)<=0/\0<(x24:Int))/\
 A3 x23 (fun x41=>
 ∃x42,(∀u,S1 u->u.cell? x40=some (.q x42))/\
 ∃x43,(∀u,S1 u->u.cell? (x41.add (0*1))=some (.q x43))/\
 Calls Tryz.prog 48 #[.q x42] w11 (Ret fun x44 w12=>
 ∃x45,x44= .s x45/\
 S1 w12/\
 Calls Tryz.prog 49 #[.pointer (some ⟨x0,0,none⟩),.q x43,.q x29] w12 (Ret fun x46 w13=>
 ∃x47,x46= .s x47/\
 ((x45.length+x47.length:Nat):Int)<=IntKind.i64.max/\
 K (.string (mkS (x45++x47))) w13)))))
 (∃(J1:Int->World->Prop),
 (cond (x29==3)
 (J1 4 w9)
 (J1 x29 w9))/\
 ∀(_x48:Nat->Value) (x49:Int) (w14:World),J1 x49 w14->
 ∀w15,w15=w14.drew->
 ∃(S2:World->Prop),S2 w15/\
 ((0:Int)<=0/\0<(x24:Int))/\
 A3 x23 (fun x50=>
 A3 x22 (fun x51=>
 ((0:Int)<=1/\1<(x24:Int))/\
 A3 x23 (fun x52=>
 ∃x53,(∀u,S2 u->u.cell? (x50.add (0*1))=some (.q x53))/\
 ∃x54,(∀u,S2 u->u.cell? x51=some (.q x54))/\
 ∃x55,(∀u,S2 u->u.cell? (x52.add (1*1))=some (.q x55))/\
 Calls Tryz.prog 49 #[.pointer (some ⟨x0,0,none⟩),.q x53,.q x49] w15 (Ret fun x56 w16=>
 ∃x57,x56= .s x57/\
 S2 w16/\
 ((x57.length+[32].length:Nat):Int)<=IntKind.i64.max/\
 Calls Tryz.prog 48 #[.q x54] w16 (Ret fun x58 w17=>
 ∃x59,x58= .s x59/\
 S2 w17/\
 (((x57++[32]).length+x59.length:Nat):Int)<=IntKind.i64.max/\
 ((((x57++[32])++x59).length+[32].length:Nat):Int)<=IntKind.i64.max/\
 Calls Tryz.prog 49 #[.pointer (some ⟨x0,0,none⟩),.q x55,.q (IntKind.i64.wrap (x29+1))] w17 (Ret fun x60 w18=>
 ∃x61,x60= .s x61/\
 (((((x57++[32])++x59)++[32]).length+x61.length:Nat):Int)<=IntKind.i64.max/\
 K (.string (mkS ((((x57++[32])++x59)++[32])++x61))) w18)))))))))))))
theorem Re (x0:Nat) (x1:Int) (K:Value->World->Prop) (w:World) (h:Rd x0 x1 K w):Calls Tryz.prog 22 #[.pointer (some ⟨x0,0,none⟩),.q x1] w (Ret K):=
 Ao { Aww:=[(3,[(5,.pointer),(6,.slice)]),(63,[(8,.int .i64)])] } Tryz.func22 (by kernel_rfl) h
def Rf (x0:Nat) (x1:Option Addr) (x2:Nat) (x3:Nat) (K:Value->World->Prop) (w:World):Prop:=
 ∀w1,w1=w.drew->
 ∃(S:World->Prop),S w1/\
 ∃x4,(∀u,S u->u.cell? ⟨x0,3,none⟩=some (.q x4))/\
 Calls Tryz.prog 58 #[.s [9],.q x4] w1 (Ret fun x5 w2=>
 ∃x6,x5= .s x6/\
 Calls Tryz.prog 32 #[.slice x1 x2 x3,.s []] w2 (Ret fun x7 w3=>
 ∃x8,x7= .s x8/\
 ((x6.length+x8.length:Nat):Int)<=IntKind.i64.max/\
 (((x6++x8).length+[10].length:Nat):Int)<=IntKind.i64.max/\
 Calls Tryz.prog 57 #[.pointer (some ⟨x0,1,none⟩),.string (mkS ((x6++x8)++[10]))] w3 (Ret fun x9 w4=>
 ∃x10 x11,x9= .tuple #[.q x10,x11]/\
 K (.tuple #[]) w4)))
theorem Rg (x0:Nat) (x1:Option Addr) (x2:Nat) (x3:Nat) (K:Value->World->Prop) (w:World) (h:Rf x0 x1 x2 x3 K w):Calls Tryz.prog 29 #[.pointer (some ⟨x0,0,none⟩),.slice x1 x2 x3] w (Ret K):=
 Ao {} Tryz.func29 (by kernel_rfl) h
def Px (x0:Nat) (x1:Int) (x2:Option Addr) (x3:Nat) (x4:Nat) (K:Value->World->Prop) (w:World):Prop:=
 ∀x5 w1,x5=w.heap.size->w1=w.alloc (.cells #[.s [32,123]] 9)->
 Bl Tryz.prog (Builtin.append_ #[74,74] 74 #[.slice x2 x3 x4,.slice (some ⟨x5,0,none⟩) 1 1]) (fun x6 w2=>
 ∃x7 x8 x9,x6= .slice x7 x8 x9/\
 Calls Tryz.prog 29 #[.pointer (some ⟨x0,0,none⟩),.slice x7 x8 x9] w2 (Ret fun _x10 w3=>
 Calls Tryz.prog 14 #[.pointer (some ⟨x0,0,none⟩),.q x1] w3 (Ret fun x11 w4=>
 ∃x12 x13 x14,x11= .slice x12 x13 x14/\
 Calls Tryz.prog 60 #[.pointer (some ⟨x0,0,none⟩),.slice x12 x13 x14,.func (.func 61) #[.pointer (some ⟨x0,0,none⟩)] #[]] w4 (Ret fun _x15 w5=>
 ∀x16 w6,x16=w5.heap.size->w6=w5.alloc (.cells #[.s [125]] 9)->
 Calls Tryz.prog 29 #[.pointer (some ⟨x0,0,none⟩),.slice (some ⟨x16,0,none⟩) 1 1] w6 (Ret fun _x17 w7=>
 K (.tuple #[]) w7))))) w1
theorem Py (x0:Nat) (x1:Int) (x2:Option Addr) (x3:Nat) (x4:Nat) (K:Value->World->Prop) (w:World) (h:Px x0 x1 x2 x3 x4 K w):Calls Tryz.prog 31 #[.pointer (some ⟨x0,0,none⟩),.q x1,.slice x2 x3 x4] w (Ret K):=
 Ao {} Tryz.func31 (by kernel_rfl) h
def Rh (x0:Nat) (x1:Int) (x2:Int) (K:Value->World->Prop) (w:World):Prop:=
 Calls Tryz.prog 22 #[.pointer (some ⟨x0,0,none⟩),.q x1] w (Ret fun x3 w1=>
 ∃x4,x3= .s x4/\
 ∃x5 x6 x7,w1.cell? ⟨x0,0,none⟩=some (.slice x5 x6 x7)/\
 ((0:Int)<=x1/\x1<(x6:Int))/\
 A3 x5 (fun x8=>
 ∃x9,w1.cell? (x8.add (x1.toNat*5))=some (.q x9)/\
 Calls Tryz.prog 21 #[.q x9] w1 (Ret fun x10 w2=>
 ∃x11,x10= .q x11/\
 cond (decide (x11<x2))
 ((([40].length+x4.length:Nat):Int)<=IntKind.i64.max/\
 ((([40]++x4).length+[41].length:Nat):Int)<=IntKind.i64.max/\
 K (.string (mkS (([40]++x4)++[41]))) w2)
 (K (.s x4) w2))))
theorem Ri (x0:Nat) (x1:Int) (x2:Int) (K:Value->World->Prop) (w:World) (h:Rh x0 x1 x2 K w):Calls Tryz.prog 49 #[.pointer (some ⟨x0,0,none⟩),.q x1,.q x2] w (Ret K):=
 Ao {} Tryz.func49 (by kernel_rfl) h
def Rj (x0:Nat) (x1:Int) (K:Value->World->Prop) (w:World):Prop:=
 ∃(J:Option Addr->Option Addr->Nat->Nat->World->Prop),
 (∀w1,w1=w.drew->
 ∃(S:World->Prop),S w1/\
 ∃x2 x3 x4,(∀u,S u->u.cell? ⟨x0,0,none⟩=some (.slice x2 x3 x4))/\
 ((0:Int)<=x1/\x1<(x3:Int))/\
 A3 x2 (fun x5=>
 ∃x6 x7 x8 x9 x10,(∀u,S u->Ae u (x5.add (x1.toNat*5)) [.q x6,.s x7,.q x8,.q x9,.q x10])/\
 (Calls Tryz.prog 14 #[.pointer (some ⟨x0,0,none⟩),.q x1] w1 (Ret fun x11 w2=>
 ∃x12 x13 x14,x11= .slice x12 x13 x14/\
 S w2/\
 ∀x15 w3,x15=w2.heap.size->w3=w2.alloc (.cells #[.q 0,.s [],.q 0,.q 0,.q 0] 59)->
 S w3/\
 Ah w3 ⟨x15,0,none⟩ 5/\∀w4,w4=setCells w3 ⟨x15,0,none⟩ [.q x6,.s x7,.q x8,.q x9,.q x10]->
 J (some ⟨x15,0,none⟩) x12 x13 x14 w4))/\
 (∀x16 w5,x16=w1.heap.size->w5=w1.alloc (.cells #[.q 0,.s [],.q 0,.q 0,.q 0] 59)->
 S w5/\
 Calls Tryz.prog 14 #[.pointer (some ⟨x0,0,none⟩),.q x1] w5 (Ret fun x17 w6=>
 ∃x18 x19 x20,x17= .slice x18 x19 x20/\
 S w6/\
 Ah w6 ⟨x16,0,none⟩ 5/\∀w7,w7=setCells w6 ⟨x16,0,none⟩ [.q x6,.s x7,.q x8,.q x9,.q x10]->
 J (some ⟨x16,0,none⟩) x18 x19 x20 w7))))/\
 ∀(_x21:Nat->Value) (x22:Option Addr) (x23:Option Addr) (x24:Nat) (x25:Nat) (w8:World),J x22 x23 x24 x25 w8->
 A3 x22 (fun x26=>
 ∃x27,w8.cell? x26=some (.q x27)/\
 cond (x27==18)
 (∀w9,w9=w8.drew->
 ∃(S1:World->Prop),S1 w9/\
 A3 x22 (fun x28=>
 ((0:Int)<=0/\0<(x24:Int))/\
 A3 x23 (fun x29=>
 ∃x30,(∀u,S1 u->u.cell? (x28.add 1)=some (.s x30))/\
 ∃x31,(∀u,S1 u->u.cell? (x29.add (0*1))=some (.q x31))/\
 Calls Tryz.prog 22 #[.pointer (some ⟨x0,0,none⟩),.q x31] w9 (Ret fun x32 w10=>
 ∃x33,x32= .s x33/\
 S1 w10/\
 ∀x34 w11,x34=w10.heap.size->w11=w10.alloc (.cells #[.s [118,97,114,32],.s x30,.s [32,61,32],.s x33,.s [59]] 9)->
 Calls Tryz.prog 29 #[.pointer (some ⟨x0,0,none⟩),.slice (some ⟨x34,0,none⟩) 5 5] w11 (Ret fun _x35 w12=>
 K (.tuple #[]) w12)))))
 (cond (x27==19)
 (∀w13,w13=w8.drew->
 ∃(S2:World->Prop),S2 w13/\
 A3 x22 (fun x36=>
 ((0:Int)<=0/\0<(x24:Int))/\
 A3 x23 (fun x37=>
 ∃x38,(∀u,S2 u->u.cell? (x36.add 1)=some (.s x38))/\
 ∃x39,(∀u,S2 u->u.cell? (x37.add (0*1))=some (.q x39))/\
 Calls Tryz.prog 22 #[.pointer (some ⟨x0,0,none⟩),.q x39] w13 (Ret fun x40 w14=>
 ∃x41,x40= .s x41/\
 S2 w14/\
 ∀x42 w15,x42=w14.heap.size->w15=w14.alloc (.cells #[.s x38,.s [32,61,32],.s x41,.s [59]] 9)->
 Calls Tryz.prog 29 #[.pointer (some ⟨x0,0,none⟩),.slice (some ⟨x42,0,none⟩) 4 4] w15 (Ret fun _x43 w16=>
 K (.tuple #[]) w16)))))
 (cond (x27==20)
 (∀w17,w17=w8.drew->
 ∃(S3:World->Prop),S3 w17/\
 A3 x22 (fun x44=>
 ((0:Int)<=0/\0<(x24:Int))/\
 A3 x23 (fun x45=>
 ∃x46,(∀u,S3 u->u.cell? (x44.add 1)=some (.s x46))/\
 ∃x47,(∀u,S3 u->u.cell? (x45.add (0*1))=some (.q x47))/\
 Calls Tryz.prog 22 #[.pointer (some ⟨x0,0,none⟩),.q x47] w17 (Ret fun x48 w18=>
 ∃x49,x48= .s x49/\
 S3 w18/\
 ∀x50 w19,x50=w18.heap.size->w19=w18.alloc (.cells #[.s x46,.s [32,61,32,114,97,110,100,111,109,40],.s x49,.s [41,59]] 9)->
 Calls Tryz.prog 29 #[.pointer (some ⟨x0,0,none⟩),.slice (some ⟨x50,0,none⟩) 4 4] w19 (Ret fun _x51 w20=>
 K (.tuple #[]) w20)))))
 (cond (x27==21)
 (∀w21,w21=w8.drew->
 ∃(S4:World->Prop),S4 w21/\
 ((0:Int)<=0/\0<(x24:Int))/\
 A3 x23 (fun x52=>
 ((0:Int)<=1/\1<(x24:Int))/\
 A3 x23 (fun x53=>
 ∃x54,(∀u,S4 u->u.cell? (x52.add (0*1))=some (.q x54))/\
 ∃x55,(∀u,S4 u->u.cell? (x53.add (1*1))=some (.q x55))/\
 Calls Tryz.prog 88 #[.pointer (some ⟨x0,0,none⟩),.q x54] w21 (Ret fun x56 w22=>
 ∃x57,x56= .s x57/\
 S4 w22/\
 Calls Tryz.prog 22 #[.pointer (some ⟨x0,0,none⟩),.q x55] w22 (Ret fun x58 w23=>
 ∃x59,x58= .s x59/\
 ∀x60 w24,x60=w23.heap.size->w24=w23.alloc (.cells #[.s x57,.s [32,33,32],.s x59,.s [59]] 9)->
 Calls Tryz.prog 29 #[.pointer (some ⟨x0,0,none⟩),.slice (some ⟨x60,0,none⟩) 4 4] w24 (Ret fun _x61 w25=>
 K (.tuple #[]) w25))))))
 (cond (x27==22)
 (∀w26,w26=w8.drew->
 ∃(S5:World->Prop),S5 w26/\
 ((0:Int)<=0/\0<(x24:Int))/\
 A3 x23 (fun x62=>
 A3 x22 (fun x63=>
 ∃x64,(∀u,S5 u->u.cell? (x62.add (0*1))=some (.q x64))/\
 ∃x65,(∀u,S5 u->u.cell? (x63.add 1)=some (.s x65))/\
 Calls Tryz.prog 88 #[.pointer (some ⟨x0,0,none⟩),.q x64] w26 (Ret fun x66 w27=>
 ∃x67,x66= .s x67/\
 S5 w27/\
 ∀x68 w28,x68=w27.heap.size->w28=w27.alloc (.cells #[.s x67,.s [32,63,32],.s x65,.s [59]] 9)->
 Calls Tryz.prog 29 #[.pointer (some ⟨x0,0,none⟩),.slice (some ⟨x68,0,none⟩) 4 4] w28 (Ret fun _x69 w29=>
 K (.tuple #[]) w29)))))
 (cond (x27==23)
 (((0:Int)<=0/\0<(x24:Int))/\
 A3 x23 (fun x70=>
 ∃x71,w8.cell? (x70.add (0*1))=some (.q x71)/\
 Calls Tryz.prog 22 #[.pointer (some ⟨x0,0,none⟩),.q x71] w8 (Ret fun x72 w30=>
 ∃x73,x72= .s x73/\
 ∀x74 w31,x74=w30.heap.size->w31=w30.alloc (.cells #[.s [105,102,32],.s x73,.s [32,123]] 9)->
 Calls Tryz.prog 29 #[.pointer (some ⟨x0,0,none⟩),.slice (some ⟨x74,0,none⟩) 3 3] w31 (Ret fun _x75 w32=>
 ((0:Int)<=1/\1<(x24:Int))/\
 A3 x23 (fun x76=>
 ∃x77,w32.cell? (x76.add (1*1))=some (.q x77)/\
 Calls Tryz.prog 14 #[.pointer (some ⟨x0,0,none⟩),.q x77] w32 (Ret fun x78 w33=>
 ∃x79 x80 x81,x78= .slice x79 x80 x81/\
 Calls Tryz.prog 60 #[.pointer (some ⟨x0,0,none⟩),.slice x79 x80 x81,.func (.func 61) #[.pointer (some ⟨x0,0,none⟩)] #[]] w33 (Ret fun _x82 w34=>
 ∃(J1:World->Prop),
 (cond ((x24:Int)==3)
 (∀x83 w35,x83=w34.heap.size->w35=w34.alloc (.cells #[.s [125,32,101,108,115,101,32,123]] 9)->
 Calls Tryz.prog 29 #[.pointer (some ⟨x0,0,none⟩),.slice (some ⟨x83,0,none⟩) 1 1] w35 (Ret fun _x84 w36=>
 ((0:Int)<=2/\2<(x24:Int))/\
 A3 x23 (fun x85=>
 ∃x86,w36.cell? (x85.add (2*1))=some (.q x86)/\
 Calls Tryz.prog 14 #[.pointer (some ⟨x0,0,none⟩),.q x86] w36 (Ret fun x87 w37=>
 ∃x88 x89 x90,x87= .slice x88 x89 x90/\
 Calls Tryz.prog 60 #[.pointer (some ⟨x0,0,none⟩),.slice x88 x89 x90,.func (.func 61) #[.pointer (some ⟨x0,0,none⟩)] #[]] w37 (Ret fun _x91 w38=>
 J1 w38)))))
 (J1 w34))/\
 ∀(_x92:Nat->Value) (w39:World),J1 w39->
 ∀x93 w40,x93=w39.heap.size->w40=w39.alloc (.cells #[.s [125]] 9)->
 Calls Tryz.prog 29 #[.pointer (some ⟨x0,0,none⟩),.slice (some ⟨x93,0,none⟩) 1 1] w40 (Ret fun _x94 w41=>
 K (.tuple #[]) w41))))))))
 (cond (x27==24)
 (∀w42,w42=w8.drew->
 ∃(S6:World->Prop),S6 w42/\
 ((0:Int)<=1/\1<(x24:Int))/\
 A3 x23 (fun x95=>
 ((0:Int)<=0/\0<(x24:Int))/\
 A3 x23 (fun x96=>
 ∃x97,(∀u,S6 u->u.cell? (x95.add (1*1))=some (.q x97))/\
 ∃x98,(∀u,S6 u->u.cell? (x96.add (0*1))=some (.q x98))/\
 Calls Tryz.prog 22 #[.pointer (some ⟨x0,0,none⟩),.q x98] w42 (Ret fun x99 w43=>
 ∃Axb,x99= .s Axb/\
 S6 w43/\
 ∀Axn w44,Axn=w43.heap.size->w44=w43.alloc (.cells #[.s [119,104,105,108,101,32],.s Axb] 9)->
 S6 w44/\
 Calls Tryz.prog 31 #[.pointer (some ⟨x0,0,none⟩),.q x97,.slice (some ⟨Axn,0,none⟩) 2 2] w44 (Ret fun _x102 w45=>
 K (.tuple #[]) w45)))))
 (cond (x27==25)
 (∀Axc w46,Axc=w8.heap.size->w46=w8.alloc (.cells #[.s [115,101,108,101,99,116,32,123]] 9)->
 Calls Tryz.prog 29 #[.pointer (some ⟨x0,0,none⟩),.slice (some ⟨Axc,0,none⟩) 1 1] w46 (Ret fun _x104 w47=>
 Calls Tryz.prog 60 #[.pointer (some ⟨x0,0,none⟩),.slice x23 x24 x25,.func (.func 89) #[.pointer (some ⟨x0,0,none⟩)] #[]] w47 (Ret fun _x105 w48=>
 ∀Axo w49,Axo=w48.heap.size->w49=w48.alloc (.cells #[.s [125]] 9)->
 Calls Tryz.prog 29 #[.pointer (some ⟨x0,0,none⟩),.slice (some ⟨Axo,0,none⟩) 1 1] w49 (Ret fun _x107 w50=>
 K (.tuple #[]) w50))))
 (cond (x27==26)
 (∀w51,w51=w8.drew->
 ∃(S7:World->Prop),S7 w51/\
 A3 x22 (fun Axj=>
 ∃Axp,(∀u,S7 u->u.cell? (Axj.add 1)=some (.s Axp))/\
 Calls Tryz.prog 90 #[.pointer (some ⟨x0,0,none⟩),.slice x23 x24 x25] w51 (Ret fun Ayr w52=>
 ∃Axx,Ayr= .s Axx/\
 S7 w52/\
 ∀Ax5 w53,Ax5=w52.heap.size->w53=w52.alloc (.cells #[.s [115,116,97,114,116,32],.s Axp,.s [40],.s Axx,.s [41,59]] 9)->
 Calls Tryz.prog 29 #[.pointer (some ⟨x0,0,none⟩),.slice (some ⟨Ax5,0,none⟩) 5 5] w53 (Ret fun _x113 w54=>
 K (.tuple #[]) w54))))
 (cond (x27==27)
 (((0:Int)<=0/\0<(x24:Int))/\
 A3 x23 (fun Ays=>
 ∃Ax9,w8.cell? (Ays.add (0*1))=some (.q Ax9)/\
 Calls Tryz.prog 22 #[.pointer (some ⟨x0,0,none⟩),.q Ax9] w8 (Ret fun Ayf w55=>
 ∃Ayg,Ayf= .s Ayg/\
 ∀Ayh w56,Ayh=w55.heap.size->w56=w55.alloc (.cells #[.s [115,108,101,101,112,32],.s Ayg,.s [59]] 9)->
 Calls Tryz.prog 29 #[.pointer (some ⟨x0,0,none⟩),.slice (some ⟨Ayh,0,none⟩) 3 3] w56 (Ret fun _x119 w57=>
 K (.tuple #[]) w57))))
 (cond (x27==28)
 (((0:Int)<=0/\0<(x24:Int))/\
 A3 x23 (fun Ayi=>
 ∃Ayj,w8.cell? (Ayi.add (0*1))=some (.q Ayj)/\
 Calls Tryz.prog 22 #[.pointer (some ⟨x0,0,none⟩),.q Ayj] w8 (Ret fun Ayk w58=>
 ∃Aya,Ayk= .s Aya/\
 ∀Ayl w59,Ayl=w58.heap.size->w59=w58.alloc (.cells #[.s [112,114,105,110,116,32],.s Aya,.s [59]] 9)->
 Calls Tryz.prog 29 #[.pointer (some ⟨x0,0,none⟩),.slice (some ⟨Ayl,0,none⟩) 3 3] w59 (Ret fun _x125 w60=>
 K (.tuple #[]) w60))))
 (cond (x27==29)
 (((0:Int)<=0/\0<(x24:Int))/\
 A3 x23 (fun Azi=>
 ∃Az5,w8.cell? (Azi.add (0*1))=some (.q Az5)/\
 Calls Tryz.prog 22 #[.pointer (some ⟨x0,0,none⟩),.q Az5] w8 (Ret fun Bap w61=>
 ∃Az6,Bap= .s Az6/\
 ∀Az7 w62,Az7=w61.heap.size->w62=w61.alloc (.cells #[.s [97,115,115,101,114,116,32],.s Az6,.s [59]] 9)->
 Calls Tryz.prog 29 #[.pointer (some ⟨x0,0,none⟩),.slice (some ⟨Az7,0,none⟩) 3 3] w62 (Ret fun _x131 w63=>
 K (.tuple #[]) w63))))
 (cond (x27==30)
 (∀Axd w64,Axd=w8.heap.size->w64=w8.alloc (.cells #[.s [115,107,105,112,59]] 9)->
 Calls Tryz.prog 29 #[.pointer (some ⟨x0,0,none⟩),.slice (some ⟨Axd,0,none⟩) 1 1] w64 (Ret fun _x133 w65=>
 K (.tuple #[]) w65))
 (cond (x27==31)
 (∀Baq w66,Baq=w8.heap.size->w66=w8.alloc (.cells #[.s [115,116,111,112,59]] 9)->
 Calls Tryz.prog 29 #[.pointer (some ⟨x0,0,none⟩),.slice (some ⟨Baq,0,none⟩) 1 1] w66 (Ret fun _x135 w67=>
 K (.tuple #[]) w67))
 (K (.tuple #[]) w8)))))))))))))))
theorem Rk (x0:Nat) (x1:Int) (K:Value->World->Prop) (w:World) (h:Rj x0 x1 K w):Calls Tryz.prog 61 #[.pointer (some ⟨x0,0,none⟩),.q x1] w (Ret K):=
 Ao { Aww:=[(1,[(4,.pointer),(5,.slice)]),(245755,[])] } Tryz.func61 (by kernel_rfl) h
def Sb (x0:Nat) (x1:Int) (K:Value->World->Prop) (w:World):Prop:=
 Calls Tryz.prog 14 #[.pointer (some ⟨x0,0,none⟩),.q x1] w (Ret fun x2 w1=>
 ∃x3 x4 x5,x2= .slice x3 x4 x5/\
 cond ((x4:Int)==1)
 (∀w2,w2=w1.drew->
 ∃(S:World->Prop),S w2/\
 ((0:Int)<=0/\0<(x4:Int))/\
 A3 x3 (fun x6=>
 ∃x7 x8 x9,(∀u,S u->u.cell? ⟨x0,0,none⟩=some (.slice x7 x8 x9))/\
 ((0:Int)<=x1/\x1<(x8:Int))/\
 A3 x7 (fun x10=>
 ∃x11,(∀u,S u->u.cell? ((x10.add (x1.toNat*5)).add 1)=some (.s x11))/\
 ((x11.length+[91].length:Nat):Int)<=IntKind.i64.max/\
 ∃x12,(∀u,S u->u.cell? (x6.add (0*1))=some (.q x12))/\
 Calls Tryz.prog 22 #[.pointer (some ⟨x0,0,none⟩),.q x12] w2 (Ret fun x13 w3=>
 ∃x14,x13= .s x14/\
 S w3/\
 (((x11++[91]).length+x14.length:Nat):Int)<=IntKind.i64.max/\
 ((((x11++[91])++x14).length+[93].length:Nat):Int)<=IntKind.i64.max/\
 K (.string (mkS (((x11++[91])++x14)++[93]))) w3))))
 (∃x15 x16 x17,w1.cell? ⟨x0,0,none⟩=some (.slice x15 x16 x17)/\
 ((0:Int)<=x1/\x1<(x16:Int))/\
 A3 x15 (fun x18=>
 ∃x19,w1.cell? ((x18.add (x1.toNat*5)).add 1)=some (.s x19)/\
 K (.s x19) w1)))
theorem Sc (x0:Nat) (x1:Int) (K:Value->World->Prop) (w:World) (h:Sb x0 x1 K w):Calls Tryz.prog 88 #[.pointer (some ⟨x0,0,none⟩),.q x1] w (Ret K):=
 Ao {} Tryz.func88 (by kernel_rfl) h
def O7 (x0:Nat) (x1:Int) (K:Value->World->Prop) (w:World):Prop:=
 ∃(J:Option Addr->Option Addr->Nat->Nat->World->Prop),
 (∀w1,w1=w.drew->
 ∃(S:World->Prop),S w1/\
 ∃x2 x3 x4,(∀u,S u->u.cell? ⟨x0,0,none⟩=some (.slice x2 x3 x4))/\
 ((0:Int)<=x1/\x1<(x3:Int))/\
 A3 x2 (fun x5=>
 ∃x6 x7 x8 x9 x10,(∀u,S u->Ae u (x5.add (x1.toNat*5)) [.q x6,.s x7,.q x8,.q x9,.q x10])/\
 (Calls Tryz.prog 14 #[.pointer (some ⟨x0,0,none⟩),.q x1] w1 (Ret fun x11 w2=>
 ∃x12 x13 x14,x11= .slice x12 x13 x14/\
 S w2/\
 ∀x15 w3,x15=w2.heap.size->w3=w2.alloc (.cells #[.q 0,.s [],.q 0,.q 0,.q 0] 59)->
 S w3/\
 Ah w3 ⟨x15,0,none⟩ 5/\∀w4,w4=setCells w3 ⟨x15,0,none⟩ [.q x6,.s x7,.q x8,.q x9,.q x10]->
 J (some ⟨x15,0,none⟩) x12 x13 x14 w4))/\
 (∀x16 w5,x16=w1.heap.size->w5=w1.alloc (.cells #[.q 0,.s [],.q 0,.q 0,.q 0] 59)->
 S w5/\
 Calls Tryz.prog 14 #[.pointer (some ⟨x0,0,none⟩),.q x1] w5 (Ret fun x17 w6=>
 ∃x18 x19 x20,x17= .slice x18 x19 x20/\
 S w6/\
 Ah w6 ⟨x16,0,none⟩ 5/\∀w7,w7=setCells w6 ⟨x16,0,none⟩ [.q x6,.s x7,.q x8,.q x9,.q x10]->
 J (some ⟨x16,0,none⟩) x18 x19 x20 w7))))/\
 ∀(_x21:Nat->Value) (x22:Option Addr) (x23:Option Addr) (x24:Nat) (x25:Nat) (w8:World),J x22 x23 x24 x25 w8->
 ∃(J1:Option Addr->Nat->Nat->List UInt8->World->Prop),
 (A3 x22 (fun x26=>
 ∃x27,w8.cell? (x26.add 2)=some (.q x27)/\
 cond (x27==1)
 (((0:Int)<=0/\0<(x24:Int))/\
 A3 x23 (fun x28=>
 ∃x29,w8.cell? (x28.add (0*1))=some (.q x29)/\
 Calls Tryz.prog 22 #[.pointer (some ⟨x0,0,none⟩),.q x29] w8 (Ret fun x30 w9=>
 ∃x31,x30= .s x31/\
 (([119,104,101,110,32].length+x31.length:Nat):Int)<=IntKind.i64.max/\
 ((([119,104,101,110,32]++x31).length+[58,32].length:Nat):Int)<=IntKind.i64.max/\
 (([99,97,115,101,32].length+(([119,104,101,110,32]++x31)++[58,32]).length:Nat):Int)<=IntKind.i64.max/\
 ((0:Int)<=1/\1<=(x24:Int))/\
 J1 (Hr x23 1 x25 1) (x24-1) (x25-1) ([99,97,115,101,32]++(([119,104,101,110,32]++x31)++[58,32])) w9)))
 (J1 x23 x24 x25 [99,97,115,101,32] w8)))/\
 ∀(_x32:Nat->Value) (x33:Option Addr) (x34:Nat) (x35:Nat) (x36:List UInt8) (w10:World),J1 x33 x34 x35 x36 w10->
 A3 x22 (fun x37=>
 ∃x38,w10.cell? x37=some (.q x38)/\
 cond (x38==34)
 (∀w11,w11=w10.drew->
 ∃(S1:World->Prop),S1 w11/\
 ((0:Int)<=1/\1<(x34:Int))/\
 A3 x33 (fun x39=>
 ((0:Int)<=0/\0<(x34:Int))/\
 A3 x33 (fun x40=>
 A3 x22 (fun x41=>
 ∃x42,(∀u,S1 u->u.cell? (x39.add (1*1))=some (.q x42))/\
 ∃x43,(∀u,S1 u->u.cell? (x40.add (0*1))=some (.q x43))/\
 ∃x44,(∀u,S1 u->u.cell? (x41.add 1)=some (.s x44))/\
 Calls Tryz.prog 88 #[.pointer (some ⟨x0,0,none⟩),.q x43] w11 (Ret fun x45 w12=>
 ∃x46,x45= .s x46/\
 S1 w12/\
 ∀x47 w13,x47=w12.heap.size->w13=w12.alloc (.cells #[.s x36,.s x46,.s [32,63,32],.s x44] 9)->
 S1 w13/\
 Calls Tryz.prog 31 #[.pointer (some ⟨x0,0,none⟩),.q x42,.slice (some ⟨x47,0,none⟩) 4 4] w13 (Ret fun _x48 w14=>
 K (.tuple #[]) w14))))))
 (cond (x38==35)
 (∀w15,w15=w10.drew->
 ∃(S2:World->Prop),S2 w15/\
 ((0:Int)<=2/\2<(x34:Int))/\
 A3 x33 (fun x49=>
 ((0:Int)<=0/\0<(x34:Int))/\
 A3 x33 (fun x50=>
 ((0:Int)<=1/\1<(x34:Int))/\
 A3 x33 (fun x51=>
 ∃x52,(∀u,S2 u->u.cell? (x49.add (2*1))=some (.q x52))/\
 ∃x53,(∀u,S2 u->u.cell? (x50.add (0*1))=some (.q x53))/\
 ∃x54,(∀u,S2 u->u.cell? (x51.add (1*1))=some (.q x54))/\
 Calls Tryz.prog 88 #[.pointer (some ⟨x0,0,none⟩),.q x53] w15 (Ret fun x55 w16=>
 ∃x56,x55= .s x56/\
 S2 w16/\
 Calls Tryz.prog 22 #[.pointer (some ⟨x0,0,none⟩),.q x54] w16 (Ret fun x57 w17=>
 ∃x58,x57= .s x58/\
 S2 w17/\
 ∀x59 w18,x59=w17.heap.size->w18=w17.alloc (.cells #[.s x36,.s x56,.s [32,33,32],.s x58] 9)->
 S2 w18/\
 Calls Tryz.prog 31 #[.pointer (some ⟨x0,0,none⟩),.q x52,.slice (some ⟨x59,0,none⟩) 4 4] w18 (Ret fun _x60 w19=>
 K (.tuple #[]) w19)))))))
 (cond (x38==36)
 (∀w20,w20=w10.drew->
 ∃(S3:World->Prop),S3 w20/\
 ((0:Int)<=1/\1<(x34:Int))/\
 A3 x33 (fun x61=>
 ((0:Int)<=0/\0<(x34:Int))/\
 A3 x33 (fun x62=>
 ∃x63,(∀u,S3 u->u.cell? (x61.add (1*1))=some (.q x63))/\
 ∃x64,(∀u,S3 u->u.cell? (x62.add (0*1))=some (.q x64))/\
 Calls Tryz.prog 22 #[.pointer (some ⟨x0,0,none⟩),.q x64] w20 (Ret fun x65 w21=>
 ∃x66,x65= .s x66/\
 S3 w21/\
 ∀x67 w22,x67=w21.heap.size->w22=w21.alloc (.cells #[.s x36,.s [97,102,116,101,114,32],.s x66] 9)->
 S3 w22/\
 Calls Tryz.prog 31 #[.pointer (some ⟨x0,0,none⟩),.q x63,.slice (some ⟨x67,0,none⟩) 3 3] w22 (Ret fun _x68 w23=>
 K (.tuple #[]) w23)))))
 (((0:Int)<=0/\0<(x34:Int))/\
 A3 x33 (fun x69=>
 ∃x70,w10.cell? (x69.add (0*1))=some (.q x70)/\
 ∀x71 w24,x71=w10.heap.size->w24=w10.alloc (.cells #[.s [101,108,115,101]] 9)->
 Calls Tryz.prog 31 #[.pointer (some ⟨x0,0,none⟩),.q x70,.slice (some ⟨x71,0,none⟩) 1 1] w24 (Ret fun _x72 w25=>
 K (.tuple #[]) w25))))))
theorem O8 (x0:Nat) (x1:Int) (K:Value->World->Prop) (w:World) (h:O7 x0 x1 K w):Calls Tryz.prog 89 #[.pointer (some ⟨x0,0,none⟩),.q x1] w (Ret K):=
 Ao { Aww:=[(1,[(4,.pointer),(5,.slice)]),(7,[(5,.slice),(6,.string)])] } Tryz.func89 (by kernel_rfl) h
def Pz (x0:Nat) (x1:Option Addr) (x2:Nat) (_x3:Nat) (K:Value->World->Prop) (w:World):Prop:=
 Bl Tryz.prog (Instr.makeSlice 74 (.q 0) (.q (x2:Int))) (fun x4 w1=>
 ∃x5 x6 x7,x4= .slice x5 x6 x7/\
 ∃(I:Option Addr->Nat->Nat->Int->World->Prop) (x8:Option Addr->Nat->Nat->Int->World->Nat),I x5 x6 x7 0 w1/\
 ∀(_x9:Nat->Value) (x10:Option Addr) (x11:Nat) (x12:Nat) (x13:Int) (w2:World),I x10 x11 x12 x13 w2->
 cond (decide (x13<(x2:Int)))
 (((0:Int)<=x13/\x13<(x2:Int))/\
 A3 x1 (fun x14=>
 ∃x15,w2.cell? (x14.add (x13.toNat*1))=some (.q x15)/\
 Calls Tryz.prog 22 #[.pointer (some ⟨x0,0,none⟩),.q x15] w2 (Ret fun x16 w3=>
 ∃x17,x16= .s x17/\
 ∀x18 w4,x18=w3.heap.size->w4=w3.alloc (.cells #[.s x17] 9)->
 Bl Tryz.prog (Builtin.append_ #[74,74] 74 #[.slice x10 x11 x12,.slice (some ⟨x18,0,none⟩) 1 1]) (fun x19 w5=>
 ∃x20 x21 x22,x19= .slice x20 x21 x22/\
 I x20 x21 x22 (IntKind.i64.wrap (x13+1)) w5/\x8 x20 x21 x22 (IntKind.i64.wrap (x13+1)) w5<x8 x10 x11 x12 x13 w2) w4)))
 (Calls Tryz.prog 32 #[.slice x10 x11 x12,.s [44,32]] w2 (Ret fun x23 w6=>
 ∃x24,x23= .s x24/\
 K (.s x24) w6))) w
theorem P0 (x0:Nat) (x1:Option Addr) (x2:Nat) (x3:Nat) (K:Value->World->Prop) (w:World) (h:Pz x0 x1 x2 x3 K w):Calls Tryz.prog 90 #[.pointer (some ⟨x0,0,none⟩),.slice x1 x2 x3] w (Ret K):=
 Ao { loops:=[(58,[(5,.slice),(13,.int .i64)])] } Tryz.func90 (by kernel_rfl) h
def Z4 (x0:Option Addr) (x1:Nat) (_x2:Nat) (K:Value->World->Prop) (w:World):Prop:=
 ∀x3 w1,x3=w.heap.size->w1=w.alloc (.cells #[.int .u8 85] 5)->
 ∃(I:Option Addr->Nat->Nat->Int->World->Prop) (x4:Option Addr->Nat->Nat->Int->World->Nat),I (some ⟨x3,0,none⟩) 1 1 0 w1/\
 ∀(_x5:Nat->Value) (x6:Option Addr) (x7:Nat) (x8:Nat) (x9:Int) (w2:World),I x6 x7 x8 x9 w2->
 cond (decide (x9<(x1:Int)))
 (((0:Int)<=x9/\x9<(x1:Int))/\
 A3 x0 (fun x10=>
 ∃x11 x12 x13 x14 x15,Ae w2 (x10.add (x9.toNat*5)) [.q x11,.s x12,.q x13,.q x14,.q x15]/\
 ∀x16 w3,x16=w2.heap.size->w3=w2.alloc (.cells #[.q 0,.s [],.q 0,.q 0,.q 0] 59)->
 Ah w3 ⟨x16,0,none⟩ 5/\∀w4,w4=setCells w3 ⟨x16,0,none⟩ [.q x11,.s x12,.q x13,.q x14,.q x15]->
 cond ((x7:Int)==0)
 (K (.tuple #[.q x9,.q 3]) w4)
 (((0:Int)<=(IntKind.i64.wrap ((x7:Int)-1))/\(IntKind.i64.wrap ((x7:Int)-1))<(x7:Int))/\
 A3 x6 (fun x17=>
 ∃x18,w4.cell? (x17.add ((IntKind.i64.wrap ((x7:Int)-1)).toNat*1))=some (.int .u8 x18)/\
 ∃x19 x20 x21 x22 x23,Ae w4 ⟨x16,0,none⟩ [.q x19,.s x20,.q x21,.q x22,.q x23]/\
 Calls Tryz.prog 23 #[.agg #[.q x19,.s x20,.q x21,.q x22,.q x23],.q (IntKind.i64.wrap ((x1:Int)+1))] w4 (Ret fun x24 w5=>
 ∃x25 x26,x24= .tuple #[.s x25,.bool x26]/\
 ∃(J:Bool->World->Prop),
 (∃x27,w5.cell? ⟨x16,0,none⟩=some (.q x27)/\
 Calls Tryz.prog 24 #[.q x27] w5 (Ret fun x28 w6=>
 ∃x29,x28= .int .u8 x29/\
 cond (x29 !=x18)
 (J true w6)
 (cond (!x26)
 (J true w6)
 (∃x30 x31 x32 x33 x34,Ae w6 ⟨x16,0,none⟩ [.q x30,.s x31,.q x32,.q x33,.q x34]/\
 Calls Tryz.prog 25 #[.agg #[.q x30,.s x31,.q x32,.q x33,.q x34]] w6 (Ret fun x35 w7=>
 ∃x36,x35= .bool x36/\
 J (!x36) w7)))))/\
 ∀(_x37:Nat->Value) (x38:Bool) (w8:World),J x38 w8->
 cond (x38)
 (K (.tuple #[.q x9,.q 3]) w8)
 (Bl Tryz.prog (convert 9 42 (.s x25)) (fun x39 w9=>
 ∃x40 x41 x42,x39= .slice x40 x41 x42/\
 Calls Tryz.prog 26 #[.slice x40 x41 x42] w9 (Ret fun _x43 w10=>
 ((0:Int)<=(IntKind.i64.wrap ((x7:Int)-1))/\(IntKind.i64.wrap ((x7:Int)-1))<=(x8:Int))/\
 Bl Tryz.prog (Builtin.append_ #[42,42] 42 #[.slice (Hr x6 0 x8 1) ((IntKind.i64.wrap ((x7:Int)-1)).toNat) x8,.slice x40 x41 x42]) (fun x44 w11=>
 ∃x45 x46 x47,x44= .slice x45 x46 x47/\
 I x45 x46 x47 (IntKind.i64.wrap (x9+1)) w11/\x4 x45 x46 x47 (IntKind.i64.wrap (x9+1)) w11<x4 x6 x7 x8 x9 w2) w10)) w8))))))
 (cond (decide ((x7:Int)>0))
 (K (.tuple #[.q (x1:Int),.q 3]) w2)
 (K (.tuple #[.q 0,.q 0]) w2))
theorem Z5 (x0:Option Addr) (x1:Nat) (x2:Nat) (K:Value->World->Prop) (w:World) (h:Z4 x0 x1 x2 K w):Calls Tryz.prog 13 #[.slice x0 x1 x2] w (Ret K):=
 Ao { loops:=[(58,[(4,.slice),(14,.int .i64)])],Aww:=[(59806,[(50,.bool)])] } Tryz.func13 (by kernel_rfl) h
def Acy (x0:Int) (x1:List UInt8) (x2:Int) (x3:Int) (x4:Int) (x5:Int) (K:Value->World->Prop) (w:World):Prop:=
 ∀x6 w1,x6=w.heap.size->w1=w.alloc (.cells #[.q x0,.s x1,.q x2,.q x3,.q x4] 59)->
 ∃(J:List UInt8->World->Prop),
 (∃x7,w1.cell? ⟨x6,0,none⟩=some (.q x7)/\
 ∃(J1:Bool->World->Prop),
 (cond (x7==3)
 (J1 (x7==3) w1)
 (cond (x7==4)
 (J1 (x7==4) w1)
 (cond (x7==18)
 (J1 (x7==18) w1)
 (cond (x7==19)
 (J1 (x7==19) w1)
 (cond (x7==20)
 (J1 (x7==20) w1)
 (cond (x7==27)
 (J1 (x7==27) w1)
 (cond (x7==28)
 (J1 (x7==28) w1)
 (J1 (x7==29) w1))))))))/\
 ∀(_x8:Nat->Value) (x9:Bool) (w2:World),J1 x9 w2->
 cond (x9)
 (J [69] w2)
 (cond (x7==21)
 (J [82,69] w2)
 (cond (x7==22)
 (J [82] w2)
 (cond (x7==23)
 (∃x10,w2.cell? ⟨x6,3,none⟩=some (.q x10)/\
 cond (x10==3)
 (J [69,66,66] w2)
 (J [69,66] w2))
 (∃(J2:Bool->World->Prop),
 (cond (x7==24)
 (J2 (x7==24) w2)
 (J2 (x7==36) w2))/\
 ∀(_x11:Nat->Value) (x12:Bool) (w3:World),J2 x12 w3->
 cond (x12)
 (J [69,66] w3)
 (cond (x7==25)
 (∃x13,w3.cell? ⟨x6,3,none⟩=some (.q x13)/\
 Calls Tryz.prog 50 #[.q x13,.q x5,.s [67],.int .u8 67,.s []] w3 (Ret fun x14 w4=>
 ∃x15 x16,x14= .tuple #[.s x15,.bool x16]/\
 K (.tuple #[.s x15,.bool x16]) w4))
 (cond (x7==26)
 (∃x17,w3.cell? ⟨x6,3,none⟩=some (.q x17)/\
 Calls Tryz.prog 50 #[.q x17,.q x5,.s [],.int .u8 69,.s []] w3 (Ret fun x18 w5=>
 ∃x19 x20,x18= .tuple #[.s x19,.bool x20]/\
 K (.tuple #[.s x19,.bool x20]) w5))
 (cond (x7==32)
 (∃x21,w3.cell? ⟨x6,3,none⟩=some (.q x21)/\
 Calls Tryz.prog 50 #[.q x21,.q x5,.s [],.int .u8 83,.s []] w3 (Ret fun x22 w6=>
 ∃x23 x24,x22= .tuple #[.s x23,.bool x24]/\
 K (.tuple #[.s x23,.bool x24]) w6))
 (cond (x7==33)
 (∃x25,w3.cell? ⟨x6,3,none⟩=some (.q x25)/\
 cond (x25==1)
 (J [69] w3)
 (J [] w3))
 (cond (x7==34)
 (J [82,66] w3)
 (cond (x7==35)
 (J [82,69,66] w3)
 (∃(J3:Bool->World->Prop),
 (cond (x7==37)
 (J3 (x7==37) w3)
 (J3 (x7==41) w3))/\
 ∀(_x26:Nat->Value) (x27:Bool) (w7:World),J3 x27 w7->
 cond (x27)
 (J [66] w7)
 (cond (x7==40)
 (∃x28,w7.cell? ⟨x6,3,none⟩=some (.q x28)/\
 Calls Tryz.prog 50 #[.q x28,.q x5,.s [],.int .u8 80,.s [66]] w7 (Ret fun x29 w8=>
 ∃x30 x31,x29= .tuple #[.s x30,.bool x31]/\
 K (.tuple #[.s x30,.bool x31]) w8))
 (cond (x7==42)
 (∃x32,w7.cell? ⟨x6,3,none⟩=some (.q x32)/\
 Calls Tryz.prog 50 #[.q x32,.q x5,.s [],.int .u8 68,.s []] w7 (Ret fun x33 w9=>
 ∃x34 x35,x33= .tuple #[.s x34,.bool x35]/\
 K (.tuple #[.s x34,.bool x35]) w9))
 (J [] w7)))))))))))))))/\
 ∀(_x36:Nat->Value) (x37:List UInt8) (w10:World),J x37 w10->
 ∃(J4:List UInt8->World->Prop),
 (∃(J5:Bool->World->Prop),
 (∃x38,w10.cell? ⟨x6,0,none⟩=some (.q x38)/\
 cond (decide (x38>=5))
 (∃x39,w10.cell? ⟨x6,0,none⟩=some (.q x39)/\
 J5 (decide (x39<=17)) w10)
 (J5 false w10))/\
 ∀(_x40:Nat->Value) (x41:Bool) (w11:World),J5 x41 w11->
 cond (x41)
 (J4 [69,69] w11)
 (J4 x37 w11))/\
 ∀(_x42:Nat->Value) (x43:List UInt8) (w12:World),J4 x43 w12->
 ∃(J6:List UInt8->World->Prop),
 (∃x44 x45 x46 x47 x48,Ae w12 ⟨x6,0,none⟩ [.q x44,.s x45,.q x46,.q x47,.q x48]/\
 Calls Tryz.prog 51 #[.agg #[.q x44,.s x45,.q x46,.q x47,.q x48]] w12 (Ret fun x49 w13=>
 ∃x50,x49= .bool x50/\
 cond (x50)
 ((([69].length+x43.length:Nat):Int)<=IntKind.i64.max/\
 J6 ([69]++x43) w13)
 (J6 x43 w13)))/\
 ∀(_x51:Nat->Value) (x52:List UInt8) (w14:World),J6 x52 w14->
 ∀w15,w15=w14.drew->
 ∃x53,w15.cell? ⟨x6,3,none⟩=some (.q x53)/\
 K (.tuple #[.s x52,.bool ((x52.length:Int)==x53)]) w15
theorem Acz (x0:Int) (x1:List UInt8) (x2:Int) (x3:Int) (x4:Int) (x5:Int) (K:Value->World->Prop) (w:World) (h:Acy x0 x1 x2 x3 x4 x5 K w):Calls Tryz.prog 23 #[.agg #[.q x0,.s x1,.q x2,.q x3,.q x4],.q x5] w (Ret K):=
 Ao { Aww:=[(7,[(6,.string)]),(15,[(6,.string)]),(30,[(89,.bool)]),(31,[(6,.string)]),(58,[(9,.bool)]),(15103,[(27,.bool)]),(247463935,[(63,.bool)])] } Tryz.func23 (by kernel_rfl) h
def Z6 (x0:Int) (K:Value->World->Prop) (w:World):Prop:=
 ∀(_x1:Nat->Value),
 cond (((decide (x0>=1))&&(decide (x0<=17))))
 (K (.int .u8 69) w)
 (∀(_x2:Nat->Value),
 cond (((decide (x0>=18))&&(decide (x0<=31))))
 (K (.int .u8 83) w)
 (∀(_x3:Nat->Value),
 cond (((decide (x0>=34))&&(decide (x0<=37))))
 (K (.int .u8 67) w)
 (cond (x0==32)
 (K (.int .u8 66) w)
 (cond (x0==33)
 (K (.int .u8 82) w)
 (∃(J:Bool->World->Prop),
 (cond (x0==38)
 (J (x0==38) w)
 (cond (x0==40)
 (J (x0==40) w)
 (J (x0==41) w)))/\
 ∀(_x4:Nat->Value) (x5:Bool) (w1:World),J x5 w1->
 cond (x5)
 (K (.int .u8 68) w1)
 (cond (x0==39)
 (K (.int .u8 80) w1)
 (cond (x0==42)
 (K (.int .u8 85) w1)
 (K (.int .u8 0) w1))))))))
theorem Z7 (x0:Int) (K:Value->World->Prop) (w:World) (h:Z6 x0 K w):Calls Tryz.prog 24 #[.q x0] w (Ret K):=
 Ao { Aww:=[(943,[(29,.bool)])],Aw1:=[(24,[3]),(102,[10]),(414,[17])] } Tryz.func24 (by kernel_rfl) h
def Yf (x0:Int) (x1:List UInt8) (x2:Int) (x3:Int) (x4:Int) (K:Value->World->Prop) (w:World):Prop:=
 ∀x5 w1,x5=w.heap.size->w1=w.alloc (.cells #[.q x0,.s x1,.q x2,.q x3,.q x4] 59)->
 ∃(J:Int->World->Prop),
 (∃x6,w1.cell? ⟨x5,0,none⟩=some (.q x6)/\
 cond (x6==1)
 (J 999999999999999999 w1)
 (∃x7,w1.cell? ⟨x5,0,none⟩=some (.q x7)/\
 cond (x7==38)
 (J 16 w1)
 (∃x8 x9 x10 x11 x12,Ae w1 ⟨x5,0,none⟩ [.q x8,.s x9,.q x10,.q x11,.q x12]/\
 Calls Tryz.prog 51 #[.agg #[.q x8,.s x9,.q x10,.q x11,.q x12]] w1 (Ret fun x13 w2=>
 ∃x14,x13= .bool x14/\
 cond (x14)
 (J 1 w2)
 (J 0 w2)))))/\
 ∀(_x15:Nat->Value) (x16:Int) (w3:World),J x16 w3->
 ∃(J1:Bool->World->Prop),
 (∀w4,w4=w3.drew->
 ∃(S:World->Prop),S w4/\
 ∃x17,(∀u,S u->u.cell? ⟨x5,0,none⟩=some (.q x17))/\
 ∃x18,(∀u,S u->u.cell? ⟨x5,1,none⟩=some (.s x18))/\
 Calls Tryz.prog 52 #[.q x17] w4 (Ret fun x19 w5=>
 ∃x20,x19= .bool x20/\
 S w5/\
 cond (!(x20==(!(x18==[]))))
 (J1 true w5)
 (∃x21,w5.cell? ⟨x5,0,none⟩=some (.q x21)/\
 S w5/\
 Calls Tryz.prog 52 #[.q x21] w5 (Ret fun x22 w6=>
 ∃x23,x22= .bool x23/\
 S w6/\
 cond (x23)
 (∃x24,w6.cell? ⟨x5,1,none⟩=some (.s x24)/\
 S w6/\
 Calls Tryz.prog 53 #[.s x24] w6 (Ret fun x25 w7=>
 ∃x26,x25= .bool x26/\
 J1 (!x26) w7))
 (J1 false w6)))))/\
 ∀(_x27:Nat->Value) (x28:Bool) (w8:World),J1 x28 w8->
 cond (x28)
 (K (.bool false) w8)
 (∃x29,w8.cell? ⟨x5,2,none⟩=some (.q x29)/\
 cond (decide (x29>=0))
 (∃x30,w8.cell? ⟨x5,2,none⟩=some (.q x30)/\
 K (.bool (decide (x30<=x16))) w8)
 (K (.bool false) w8))
theorem Yg (x0:Int) (x1:List UInt8) (x2:Int) (x3:Int) (x4:Int) (K:Value->World->Prop) (w:World) (h:Yf x0 x1 x2 x3 x4 K w):Calls Tryz.prog 25 #[.agg #[.q x0,.s x1,.q x2,.q x3,.q x4]] w (Ret K):=
 Ao { Aww:=[(7,[(3,.int .i64)]),(30,[(32,.bool)])] } Tryz.func25 (by kernel_rfl) h
def Z8 (x0:Int) (K:Value->World->Prop) (w:World):Prop:=
 ∃(J:Bool->World->Prop),
 (cond (x0==2)
 (J (x0==2) w)
 (cond (x0==18)
 (J (x0==18) w)
 (cond (x0==19)
 (J (x0==19) w)
 (cond (x0==20)
 (J (x0==20) w)
 (cond (x0==22)
 (J (x0==22) w)
 (cond (x0==26)
 (J (x0==26) w)
 (cond (x0==33)
 (J (x0==33) w)
 (cond (x0==34)
 (J (x0==34) w)
 (cond (x0==38)
 (J (x0==38) w)
 (cond (x0==39)
 (J (x0==39) w)
 (J (x0==40) w)))))))))))/\
 ∀(_x1:Nat->Value) (x2:Bool) (w1:World),J x2 w1->
 cond (x2)
 (K (.bool true) w1)
 (K (.bool false) w1)
theorem Z9 (x0:Int) (K:Value->World->Prop) (w:World) (h:Z8 x0 K w):Calls Tryz.prog 52 #[.q x0] w (Ret K):=
 Ao { Aww:=[(26,[(4,.bool)])] } Tryz.func52 (by kernel_rfl) h
def Wf (x0:Int) (x1:List UInt8) (x2:Int) (x3:Int) (x4:Int) (K:Value->World->Prop) (w:World):Prop:=
 ∀x5 w1,x5=w.heap.size->w1=w.alloc (.cells #[.q x0,.s x1,.q x2,.q x3,.q x4] 59)->
 ∃x6,w1.cell? ⟨x5,2,none⟩=some (.q x6)/\
 cond (x6==1)
 (∃x7,w1.cell? ⟨x5,0,none⟩=some (.q x7)/\
 cond (x7==34)
 (K (.bool true) w1)
 (∃x8,w1.cell? ⟨x5,0,none⟩=some (.q x8)/\
 cond (x8==35)
 (K (.bool true) w1)
 (∃x9,w1.cell? ⟨x5,0,none⟩=some (.q x9)/\
 K (.bool (x9==36)) w1)))
 (K (.bool false) w1)
theorem Wg (x0:Int) (x1:List UInt8) (x2:Int) (x3:Int) (x4:Int) (K:Value->World->Prop) (w:World) (h:Wf x0 x1 x2 x3 x4 K w):Calls Tryz.prog 51 #[.agg #[.q x0,.s x1,.q x2,.q x3,.q x4]] w (Ret K):=
 Ao {} Tryz.func51 (by kernel_rfl) h
def Ac0 (x0:Int) (x1:Int) (x2:List UInt8) (x3:Int) (x4:List UInt8) (K:Value->World->Prop) (w:World):Prop:=
 cond (decide ((IntKind.i64.wrap ((IntKind.i64.wrap ((if x1<x0 then x1 else x0)-(x2.length:Int)))-(x4.length:Int)))<0))
 (K (.tuple #[.s [],.bool false]) w)
 (∀x5 w1,x5=w.heap.size->w1=w.alloc (.cells #[.int .u8 x3] 5)->
 Calls Tryz.prog 78 #[.slice (some ⟨x5,0,none⟩) 1 1,.q (IntKind.i64.wrap ((IntKind.i64.wrap ((if x1<x0 then x1 else x0)-(x2.length:Int)))-(x4.length:Int)))] w1 (Ret fun x6 w2=>
 ∃x7 x8 x9,x6= .slice x7 x8 x9/\
 Bl Tryz.prog (convert 42 9 (.slice x7 x8 x9)) (fun x10 w3=>
 ∃x11,x10= .s x11/\
 ((x2.length+x11.length:Nat):Int)<=IntKind.i64.max/\
 (((x2++x11).length+x4.length:Nat):Int)<=IntKind.i64.max/\
 K (.tuple #[.string (mkS ((x2++x11)++x4)),.bool true]) w3) w2))
theorem Ac1 (x0:Int) (x1:Int) (x2:List UInt8) (x3:Int) (x4:List UInt8) (K:Value->World->Prop) (w:World) (h:Ac0 x0 x1 x2 x3 x4 K w):Calls Tryz.prog 50 #[.q x0,.q x1,.s x2,.int .u8 x3,.s x4] w (Ret K):=
 Ao {} Tryz.func50 (by kernel_rfl) h
def Ac2 (x0:Option Addr) (x1:Nat) (x2:Nat) (x3:Int) (K:Value->World->Prop) (w:World):Prop:=
 ∀x4 w1,x4=w.heap.size->w1=w.alloc (.cells #[.slice x0 x1 x2] 22)->
 ∀x5 w2,x5=w1.heap.size->w2=w1.alloc (.cells #[.q x3] 3)->
 K (.func (.func 55) #[] #[.pointer (some ⟨x5,0,none⟩),.pointer (some ⟨x4,0,none⟩)]) w2
theorem Ac3 (x0:Option Addr) (x1:Nat) (x2:Nat) (x3:Int) (K:Value->World->Prop) (w:World) (h:Ac2 x0 x1 x2 x3 K w):Calls Tryz.prog 28 #[.slice x0 x1 x2,.q x3] w (Ret K):=
 Ao {} Tryz.func28 (by kernel_rfl) h
def Afk (x0:Option Addr) (x1:Nat) (_x2:Nat) (x3:Int) (K:Value->World->Prop) (w:World):Prop:=
 ∀(_x4:Nat->Value),
 cond (((decide (x3<0))||(decide (x3>=(x1:Int)))))
 (K (.q (x1:Int)) w)
 (∃(I:Int->Int->World->Prop) (x5:Int->Int->World->Nat),I x3 1 w/\
 ∀(_x6:Nat->Value) (x7:Int) (x8:Int) (w1:World),I x7 x8 w1->
 ∀(_x9:Nat->Value),
 cond (((decide (x8>0))&&(decide (x7<(x1:Int)))))
 (((0:Int)<=x7/\x7<(x1:Int))/\
 A3 x0 (fun x10=>
 ∃x11,w1.cell? ((x10.add (x7.toNat*5)).add 3)=some (.q x11)/\
 I (IntKind.i64.wrap (x7+1)) (IntKind.i64.wrap (x8+(IntKind.i64.wrap ((if(x1:Int)<(if 0>x11 then 0 else x11)then(x1:Int)else(if 0>x11 then 0 else x11))-1)))) w1/\x5 (IntKind.i64.wrap (x7+1)) (IntKind.i64.wrap (x8+(IntKind.i64.wrap ((if(x1:Int)<(if 0>x11 then 0 else x11)then(x1:Int)else(if 0>x11 then 0 else x11))-1)))) w1<x5 x7 x8 w1))
 (K (.q x7) w1))
theorem Afl (x0:Option Addr) (x1:Nat) (x2:Nat) (x3:Int) (K:Value->World->Prop) (w:World) (h:Afk x0 x1 x2 x3 K w):Calls Tryz.prog 56 #[.slice x0 x1 x2,.q x3] w (Ret K):=
 Ao { loops:=[(58,[(1,.int .i64),(5,.int .i64)])],Aw1:=[(12,[13]),(464,[23])] } Tryz.func56 (by kernel_rfl) h
def K2 (x0:Option Addr) (x1:Nat) (_x2:Nat) (K:Value->World->Prop) (w:World):Prop:=
 ∃(I:Int->Int->World->Prop) (x3:Int->Int->World->Nat),I 0 (IntKind.i64.wrap ((x1:Int)-1)) w/\
 ∀(_x4:Nat->Value) (x5:Int) (x6:Int) (w1:World),I x5 x6 w1->
 cond (decide (x5<x6))
 (∃(J:World->Prop),
 (∀w2,w2=w1.drew->
 ((0:Int)<=x6/\x6<(x1:Int))/\
 A3 x0 (fun x7=>
 ∃x8,w2.cell? (x7.add (x6.toNat*1))=some (.int .u8 x8)/\
 ((0:Int)<=x5/\x5<(x1:Int))/\
 A3 x0 (fun x9=>
 ∃x10,w2.cell? (x9.add (x5.toNat*1))=some (.int .u8 x10)/\
 ((0:Int)<=x5/\x5<(x1:Int))/\
 A3 x0 (fun x11=>
 Ah w2 (x11.add (x5.toNat*1)) 1/\∀w3,w3=w2.setCell (x11.add (x5.toNat*1)) (.int .u8 x8)->
 ((0:Int)<=x6/\x6<(x1:Int))/\
 A3 x0 (fun x12=>
 Ah w3 (x12.add (x6.toNat*1)) 1/\∀w4,w4=w3.setCell (x12.add (x6.toNat*1)) (.int .u8 x10)->
 J w4)))))/\
 ∀(_x13:Nat->Value) (w5:World),J w5->
 I (IntKind.i64.wrap (x5+1)) (IntKind.i64.wrap (x6-1)) w5/\x3 (IntKind.i64.wrap (x5+1)) (IntKind.i64.wrap (x6-1)) w5<x3 x5 x6 w1)
 (K (.tuple #[]) w1)
theorem K3 (x0:Option Addr) (x1:Nat) (x2:Nat) (K:Value->World->Prop) (w:World) (h:K2 x0 x1 x2 K w):Calls Tryz.prog 26 #[.slice x0 x1 x2] w (Ret K):=
 Ao { loops:=[(6,[(2,.int .i64),(3,.int .i64)])],Aww:=[(25,[])] } Tryz.func26 (by kernel_rfl) h
def Aaa (x0:List UInt8) (K:Value->World->Prop) (w:World):Prop:=
 cond (!(x0==[]))
 (cond (decide ((x0.length:Int)<=16))
 (((0:Int)<=0/\0<(x0.length:Int))/\
 Calls Tryz.prog 79 #[.int .u8 ((x0.getD 0 0).toNat:Int)] w (Ret fun x1 w1=>
 ∃x2,x1= .bool x2/\
 cond (x2)
 (Calls Tryz.prog 80 #[.s x0,.func (.func 81) #[] #[]] w1 (Ret fun x3 w2=>
 ∃x4,x3= .s x4/\
 cond (x4==x0)
 (Calls Tryz.prog 82 #[.s x0] w2 (Ret fun x5 w3=>
 ∃x6,x5= .bool x6/\
 K (.bool (!x6)) w3))
 (K (.bool false) w2)))
 (K (.bool false) w1)))
 (K (.bool false) w))
 (K (.bool false) w)
theorem Aab (x0:List UInt8) (K:Value->World->Prop) (w:World) (h:Aaa x0 K w):Calls Tryz.prog 53 #[.s x0] w (Ret K):=
 Ao {} Tryz.func53 (by kernel_rfl) h
def Aac (x0:List UInt8) (K:Value->World->Prop) (w:World):Prop:=
 Calls Tryz.prog 95 #[] w (Ret fun x1 w1=>
 ∃x2 x3 x4,x1= .slice x2 x3 x4/\
 Calls Tryz.prog 94 #[.slice x2 x3 x4,.s x0] w1 (Ret fun x5 w2=>
 ∃x6 x7,x5= .tuple #[.q x6,.bool x7]/\
 K (.bool x7) w2))
theorem Aad (x0:List UInt8) (K:Value->World->Prop) (w:World) (h:Aac x0 K w):Calls Tryz.prog 82 #[.s x0] w (Ret K):=
 Ao {} Tryz.func82 (by kernel_rfl) h
def Wh (x0:Int) (K:Value->World->Prop) (w:World):Prop:=
 ∀(_x1:Nat->Value),
 K (.bool ((x0==95)||((decide ((Pt .u8 x0 32)>=97))&&(decide ((Pt .u8 x0 32)<=122))))) w
theorem Wi (x0:Int) (K:Value->World->Prop) (w:World) (h:Wh x0 K w):Calls Tryz.prog 79 #[.int .u8 x0] w (Ret K):=
 Ao { Aw1:=[(6,[2])] } Tryz.func79 (by kernel_rfl) h
def Yh (x0:Int) (K:Value->World->Prop) (w:World):Prop:=
 ∀(_x1:Nat->Value),
 K (.bool ((decide (x0>=48))&&(decide (x0<=57)))) w
theorem Yi (x0:Int) (K:Value->World->Prop) (w:World) (h:Yh x0 K w):Calls Tryz.prog 93 #[.int .u8 x0] w (Ret K):=
 Ao { Aw1:=[(6,[2])] } Tryz.func93 (by kernel_rfl) h
end Go.Proofs.YtcakelelfklhdaaGreatDoor
namespace Go.Proofs.YtcakelelfklhdaaGreatDoor
open Go.Vc
def Wj (x0:Int) (K:Value->World->Prop) (w:World):Prop:=
 Calls Tryz.prog 79 #[.int .u8 x0] w (Ret fun x1 w1=>
 ∃x2,x1= .bool x2/\
 cond (x2)
 (K (.bool true) w1)
 (Calls Tryz.prog 93 #[.int .u8 x0] w1 (Ret fun x3 w2=>
 ∃x4,x3= .bool x4/\
 K (.bool x4) w2)))
theorem Wl (x0:Int) (K:Value->World->Prop) (w:World) (h:Wj x0 K w):Calls Tryz.prog 81 #[.int .u8 x0] w (Ret K):=
 Ao {} Tryz.func81 (by kernel_rfl) h
def Yj (K:Value->World->Prop) (w:World):Prop:=
 ∀x0 w1,x0=w.heap.size->w1=w.alloc (.cells #[.s [97,102,116,101,114],.s [97,115,115,101,114,116],.s [99,97,115,101],.s [99,104,97,110],.s [101,108,115,101],.s [105,102],.s [109,97,105,110],.s [112,114,105,110,116],.s [112,114,111,99],.s [114,97,110,100,111,109],.s [115,101,108,101,99,116],.s [115,107,105,112],.s [115,108,101,101,112],.s [115,116,97,114,116],.s [115,116,111,112],.s [118,97,114],.s [119,104,101,110],.s [119,104,105,108,101]] 9)->
 K (.slice (some ⟨x0,0,none⟩) 18 18) w1
theorem Yk (K:Value->World->Prop) (w:World) (h:Yj K w):Calls Tryz.prog 95 #[] w (Ret K):=
 Ao {} Tryz.func95 (by kernel_rfl) h
def Hf (x0:Option Addr) (x1:Nat) (_x2:Nat) (x3:List UInt8) (K:Value->World->Prop) (w:World):Prop:=
 ∃(I:Int->Int->World->Prop) (x4:Int->Int->World->Nat),I 0 (x1:Int) w/\
 ∀(_x5:Nat->Value) (x6:Int) (x7:Int) (w1:World),I x6 x7 w1->
 cond (decide (x6<x7))
 ((0:Int)<=1/\
 ((0:Int)<=(IntKind.i64.wrap ((IntKind.u64.wrap (IntKind.i64.wrap (x6+x7))).fdiv (2^(min 1 IntKind.u64.bits))))/\(IntKind.i64.wrap ((IntKind.u64.wrap (IntKind.i64.wrap (x6+x7))).fdiv (2^(min 1 IntKind.u64.bits))))<(x1:Int))/\
 A3 x0 (fun x8=>
 ∃x9,w1.cell? (x8.add ((IntKind.i64.wrap ((IntKind.u64.wrap (IntKind.i64.wrap (x6+x7))).fdiv (2^(min 1 IntKind.u64.bits)))).toNat*1))=some (.s x9)/\
 Calls Tryz.prog 106 #[.s x9,.s x3] w1 (Ret fun x10 w2=>
 ∃x11,x10= .bool x11/\
 cond (x11)
 (I (IntKind.i64.wrap ((IntKind.i64.wrap ((IntKind.u64.wrap (IntKind.i64.wrap (x6+x7))).fdiv (2^(min 1 IntKind.u64.bits))))+1)) x7 w2/\x4 (IntKind.i64.wrap ((IntKind.i64.wrap ((IntKind.u64.wrap (IntKind.i64.wrap (x6+x7))).fdiv (2^(min 1 IntKind.u64.bits))))+1)) x7 w2<x4 x6 x7 w1)
 (I x6 (IntKind.i64.wrap ((IntKind.u64.wrap (IntKind.i64.wrap (x6+x7))).fdiv (2^(min 1 IntKind.u64.bits)))) w2/\x4 x6 (IntKind.i64.wrap ((IntKind.u64.wrap (IntKind.i64.wrap (x6+x7))).fdiv (2^(min 1 IntKind.u64.bits)))) w2<x4 x6 x7 w1))))
 (cond (decide (x6<(x1:Int)))
 (((0:Int)<=x6/\x6<(x1:Int))/\
 A3 x0 (fun x12=>
 ∃x13,w1.cell? (x12.add (x6.toNat*1))=some (.s x13)/\
 cond (x13==x3)
 (K (.tuple #[.q x6,.bool true]) w1)
 (((0:Int)<=x6/\x6<(x1:Int))/\
 A3 x0 (fun x14=>
 ∃x15,w1.cell? (x14.add (x6.toNat*1))=some (.s x15)/\
 Calls Tryz.prog 107 #[.s x15] w1 (Ret fun x16 w3=>
 ∃x17,x16= .bool x17/\
 cond (x17)
 (Calls Tryz.prog 107 #[.s x3] w3 (Ret fun x18 w4=>
 ∃x19,x18= .bool x19/\
 K (.tuple #[.q x6,.bool x19]) w4))
 (K (.tuple #[.q x6,.bool false]) w3))))))
 (K (.tuple #[.q x6,.bool false]) w1))
theorem Hg (x0:Option Addr) (x1:Nat) (x2:Nat) (x3:List UInt8) (K:Value->World->Prop) (w:World) (h:Hf x0 x1 x2 x3 K w):Calls Tryz.prog 94 #[.slice x0 x1 x2,.s x3] w (Ret K):=
 Ao { loops:=[(60,[(7,.int .i64),(8,.int .i64)])] } Tryz.func94 (by kernel_rfl) h
def Sd (x0:List UInt8) (x1:List UInt8) (K:Value->World->Prop) (w:World):Prop:=
 Calls Tryz.prog 118 #[.s x0] w (Ret fun x2 w1=>
 ∃x3,x2= .bool x3/\
 cond (x3)
 (Calls Tryz.prog 118 #[.s x1] w1 (Ret fun x4 w2=>
 ∃x5,x4= .bool x5/\
 cond (!x5)
 (K (.bool true) w2)
 (K (.bool (Op.bytesLess x0 x1)) w2)))
 (K (.bool (Op.bytesLess x0 x1)) w1))
theorem Se (x0:List UInt8) (x1:List UInt8) (K:Value->World->Prop) (w:World) (h:Sd x0 x1 K w):Calls Tryz.prog 106 #[.s x0,.s x1] w (Ret K):=
 Ao {} Tryz.func106 (by kernel_rfl) h
def Og (x0:List UInt8) (K:Value->World->Prop) (w:World):Prop:=
 K (.bool (!(x0==x0))) w
theorem Oh (x0:List UInt8) (K:Value->World->Prop) (w:World) (h:Og x0 K w):Calls Tryz.prog 107 #[.s x0] w (Ret K):=
 Ao {} Tryz.func107 (by kernel_rfl) h
def Rl (x0:List UInt8) (K:Value->World->Prop) (w:World):Prop:=
 K (.bool (!(x0==x0))) w
theorem Rm (x0:List UInt8) (K:Value->World->Prop) (w:World) (h:Rl x0 K w):Calls Tryz.prog 118 #[.s x0] w (Ret K):=
 Ao {} Tryz.func118 (by kernel_rfl) h
def Aae (x0:Int) (K:Value->World->Prop) (w:World):Prop:=
 cond (x0==17)
 (K (.q 1) w)
 (cond (x0==16)
 (K (.q 2) w)
 (∀(_x1:Nat->Value),
 cond (((decide (x0>=10))&&(decide (x0<=15))))
 (K (.q 3) w)
 (∀(_x2:Nat->Value),
 cond (((x0==5)||(x0==6)))
 (K (.q 4) w)
 (∀(_x3:Nat->Value),
 cond (((decide (x0>=7))&&(decide (x0<=9))))
 (K (.q 5) w)
 (∀(_x4:Nat->Value),
 cond (((x0==3)||(x0==4)))
 (K (.q 6) w)
 (∀(_x5:Nat->Value),
 cond (((x0==1)||(x0==2)))
 (K (.q 7) w)
 (K (.q 0) w)))))))
theorem Aaf (x0:Int) (K:Value->World->Prop) (w:World) (h:Aae x0 K w):Calls Tryz.prog 21 #[.q x0] w (Ret K):=
 Ao { Aw1:=[(414,[9]),(1662,[16]),(6654,[23]),(26622,[30]),(106494,[37])] } Tryz.func21 (by kernel_rfl) h
def Afm (x0:Option Addr) (x1:Nat) (_x2:Nat) (x3:Option Addr) (x4:Nat) (_x5:Nat) (K:Value->World->Prop) (w:World):Prop:=
 cond ((x1:Int) !=(x4:Int))
 (K (.bool false) w)
 (∃(I:Int->World->Prop) (x6:Int->World->Nat),I 0 w/\
 ∀(_x7:Nat->Value) (x8:Int) (w1:World),I x8 w1->
 cond (decide (x8<(x1:Int)))
 (∃(J:Bool->World->Prop),
 (∀w2,w2=w1.drew->
 ((0:Int)<=x8/\x8<(x1:Int))/\
 A3 x0 (fun x9=>
 ∃x10,w2.cell? (x9.add (x8.toNat*5))=some (.q x10)/\
 ((0:Int)<=x8/\x8<(x4:Int))/\
 A3 x3 (fun x11=>
 ∃x12,w2.cell? (x11.add (x8.toNat*5))=some (.q x12)/\
 cond (x10 !=x12)
 (J true w2)
 (((0:Int)<=x8/\x8<(x1:Int))/\
 A3 x0 (fun x13=>
 ∃x14,w2.cell? ((x13.add (x8.toNat*5)).add 1)=some (.s x14)/\
 ((0:Int)<=x8/\x8<(x4:Int))/\
 A3 x3 (fun x15=>
 ∃x16,w2.cell? ((x15.add (x8.toNat*5)).add 1)=some (.s x16)/\
 cond (!(x14==x16))
 (J true w2)
 (((0:Int)<=x8/\x8<(x1:Int))/\
 A3 x0 (fun x17=>
 ∃x18,w2.cell? ((x17.add (x8.toNat*5)).add 2)=some (.q x18)/\
 ((0:Int)<=x8/\x8<(x4:Int))/\
 A3 x3 (fun x19=>
 ∃x20,w2.cell? ((x19.add (x8.toNat*5)).add 2)=some (.q x20)/\
 cond (x18 !=x20)
 (J true w2)
 (((0:Int)<=x8/\x8<(x1:Int))/\
 A3 x0 (fun x21=>
 ∃x22,w2.cell? ((x21.add (x8.toNat*5)).add 3)=some (.q x22)/\
 ((0:Int)<=x8/\x8<(x4:Int))/\
 A3 x3 (fun x23=>
 ∃x24,w2.cell? ((x23.add (x8.toNat*5)).add 3)=some (.q x24)/\
 J (x22 !=x24) w2))))))))))))/\
 ∀(_x25:Nat->Value) (x26:Bool) (w3:World),J x26 w3->
 cond (x26)
 (K (.bool false) w3)
 (I (IntKind.i64.wrap (x8+1)) w3/\x6 (IntKind.i64.wrap (x8+1)) w3<x6 x8 w1))
 (K (.bool true) w1))
theorem Afn (x0:Option Addr) (x1:Nat) (x2:Nat) (x3:Option Addr) (x4:Nat) (x5:Nat) (K:Value->World->Prop) (w:World) (h:Afm x0 x1 x2 x3 x4 x5 K w):Calls Tryz.prog 10 #[.slice x0 x1 x2,.slice x3 x4 x5] w (Ret K):=
 Ao { loops:=[(58,[(5,.int .i64)])],Aww:=[(932,[(66,.bool)])] } Tryz.func10 (by kernel_rfl) h
def Afo (x0:Int) (x1:List UInt8) (x2:Int) (x3:Int) (x4:Int) (x5:Int) (K:Value->World->Prop) (w:World):Prop:=
 ∀x6 w1,x6=w.heap.size->w1=w.alloc (.cells #[.q x0,.s x1,.q x2,.q x3,.q x4] 59)->
 ∃x7,w1.cell? ⟨x6,1,none⟩=some (.s x7)/\
 Calls Tryz.prog 46 #[.s x7] w1 (Ret fun x8 w2=>
 ∃x9,x8= .bool x9/\
 cond (x9)
 (∃x10,w2.cell? ⟨x6,2,none⟩=some (.q x10)/\
 cond (x10==0)
 (∃x11,w2.cell? ⟨x6,3,none⟩=some (.q x11)/\
 K (.bool (x11==x5)) w2)
 (K (.bool false) w2))
 (K (.bool false) w2))
theorem Afp (x0:Int) (x1:List UInt8) (x2:Int) (x3:Int) (x4:Int) (x5:Int) (K:Value->World->Prop) (w:World) (h:Afo x0 x1 x2 x3 x4 x5 K w):Calls Tryz.prog 43 #[.agg #[.q x0,.s x1,.q x2,.q x3,.q x4],.q x5] w (Ret K):=
 Ao {} Tryz.func43 (by kernel_rfl) h
def Ak5 (x0:Option Addr) (x1:Nat) (x2:Nat) (x3:Int) (x4:List UInt8) (K:Value->World->Prop) (w:World):Prop:=
 Calls Tryz.prog 35 #[.slice x0 x1 x2,.q x3] w (Ret fun x5 w1=>
 ∃x6 x7 x8 x9,x5= .agg #[.q x6,.s x7,.q x8,.q x9]/\
 ∀x10 w2,x10=w1.heap.size->w2=w1.alloc (.cells #[.q 0,.s [],.q 0,.q 0] 57)->
 Ah w2 ⟨x10,0,none⟩ 4/\∀w3,w3=setCells w2 ⟨x10,0,none⟩ [.q x6,.s x7,.q x8,.q x9]->
 ∃x11,w3.cell? ⟨x10,0,none⟩=some (.q x11)/\
 cond (x11==3)
 (∃x12,w3.cell? ⟨x10,1,none⟩=some (.s x12)/\
 K (.bool (x12==x4)) w3)
 (∃x13,w3.cell? ⟨x10,0,none⟩=some (.q x13)/\
 cond (x13==4)
 (∃x14,w3.cell? ⟨x10,1,none⟩=some (.s x14)/\
 K (.bool (x14==x4)) w3)
 (K (.bool false) w3)))
theorem Ak6 (x0:Option Addr) (x1:Nat) (x2:Nat) (x3:Int) (x4:List UInt8) (K:Value->World->Prop) (w:World) (h:Ak5 x0 x1 x2 x3 x4 K w):Calls Tryz.prog 70 #[.slice x0 x1 x2,.q x3,.s x4] w (Ret K):=
 Ao {} Tryz.func70 (by kernel_rfl) h
def Afq (x0:Int) (K:Value->World->Prop) (w:World):Prop:=
 ∀x1 w1,x1=w.heap.size->w1=w.alloc (.cells #[.slice none 0 0,.q 0,.q 0,.q 0] 82)->
 Ah w1 ⟨x1,0,none⟩ 4/\∀w2,w2=setCells w1 ⟨x1,0,none⟩ [.slice none 0 0,.q 0,.q x0,.q 0]->
 ∃x2 x3 x4 x5 x6 x7,Ae w2 ⟨x1,0,none⟩ [.slice x2 x3 x4,.q x5,.q x6,.q x7]/\
 K (.agg #[.slice x2 x3 x4,.q x5,.q x6,.q x7]) w2
theorem Afr (x0:Int) (K:Value->World->Prop) (w:World) (h:Afq x0 K w):Calls Tryz.prog 34 #[.q x0] w (Ret K):=
 Ao {} Tryz.func34 (by kernel_rfl) h
end Go.Proofs.YtcakelelfklhdaaGreatDoor
namespace Go.Proofs.YtcakelelfklhdaaGreatDoor
open Go.Vc
def Ah9 (x0:Option Addr) (x1:Nat) (x2:Nat) (x3:Int) (K:Value->World->Prop) (w:World):Prop:=
 ∀x4 w1,x4=w.heap.size->w1=w.alloc (.cells #[.slice none 0 0,.q 0,.q 0,.q 0] 82)->
 Calls Tryz.prog 34 #[.q x3] w1 (Ret fun x5 w2=>
 ∃x6 x7 x8 x9 x10 x11,x5= .agg #[.slice x6 x7 x8,.q x9,.q x10,.q x11]/\
 Calls Tryz.prog 72 #[.agg #[.slice x6 x7 x8,.q x9,.q x10,.q x11],.slice x0 x1 x2] w2 (Ret fun x12 w3=>
 ∃x13 x14 x15 x16 x17 x18 x19,x12= .tuple #[.agg #[.slice x13 x14 x15,.q x16,.q x17,.q x18],.s x19]/\
 ∀x20 w4,x20=w3.heap.size->w4=w3.alloc (.cells #[.slice none 0 0,.q 0,.q 0,.q 0] 82)->
 Ah w4 ⟨x20,0,none⟩ 4/\∀w5,w5=setCells w4 ⟨x20,0,none⟩ [.slice x13 x14 x15,.q x16,.q x17,.q x18]->
 ∃(J:World->Prop),
 (∃(J1:Bool->World->Prop),
 (∃x21,w5.cell? ⟨x20,3,none⟩=some (.q x21)/\
 cond (x21==0)
 (∃x22,w5.cell? ⟨x20,2,none⟩=some (.q x22)/\
 Calls Tryz.prog 70 #[.slice x0 x1 x2,.q x22,.s [91]] w5 (Ret fun x23 w6=>
 ∃x24,x23= .bool x24/\
 J1 x24 w6))
 (J1 false w5))/\
 ∀(_x25:Nat->Value) (x26:Bool) (w7:World),J1 x26 w7->
 cond (x26)
 (∃x27 x28 x29 x30 x31 x32,Ae w7 ⟨x20,0,none⟩ [.slice x27 x28 x29,.q x30,.q x31,.q x32]/\
 Calls Tryz.prog 71 #[.agg #[.slice x27 x28 x29,.q x30,.q x31,.q x32],.slice x0 x1 x2,.s [91]] w7 (Ret fun x33 w8=>
 ∃x34 x35 x36 x37 x38 x39,x33= .agg #[.slice x34 x35 x36,.q x37,.q x38,.q x39]/\
 Calls Tryz.prog 115 #[.agg #[.slice x34 x35 x36,.q x37,.q x38,.q x39],.slice x0 x1 x2] w8 (Ret fun x40 w9=>
 ∃x41 x42 x43 x44 x45 x46,x40= .agg #[.slice x41 x42 x43,.q x44,.q x45,.q x46]/\
 Calls Tryz.prog 71 #[.agg #[.slice x41 x42 x43,.q x44,.q x45,.q x46],.slice x0 x1 x2,.s [93]] w9 (Ret fun x47 w10=>
 ∃x48 x49 x50 x51 x52 x53,x47= .agg #[.slice x48 x49 x50,.q x51,.q x52,.q x53]/\
 Ah w10 ⟨x20,0,none⟩ 4/\∀w11,w11=setCells w10 ⟨x20,0,none⟩ [.slice x48 x49 x50,.q x51,.q x52,.q x53]->
 J w11))))
 (J w7))/\
 ∀(_x54:Nat->Value) (w12:World),J w12->
 ∀w13,w13=w12.drew->
 ∃(S:World->Prop),S w13/\
 ∃x55 x56 x57 x58 x59 x60,(∀u,S u->Ae u ⟨x20,0,none⟩ [.slice x55 x56 x57,.q x58,.q x59,.q x60])/\
 Calls Tryz.prog 35 #[.slice x0 x1 x2,.q x3] w13 (Ret fun x61 w14=>
 ∃x62 x63 x64 x65,x61= .agg #[.q x62,.s x63,.q x64,.q x65]/\
 S w14/\
 Calls Tryz.prog 38 #[.agg #[.slice x55 x56 x57,.q x58,.q x59,.q x60],.agg #[.q 33,.s x19,.q 0,.q 0,.q x65]] w14 (Ret fun x66 w15=>
 ∃x67 x68 x69 x70 x71 x72,x66= .agg #[.slice x67 x68 x69,.q x70,.q x71,.q x72]/\
 Ah w15 ⟨x4,0,none⟩ 4/\∀w16,w16=setCells w15 ⟨x4,0,none⟩ [.slice x67 x68 x69,.q x70,.q x71,.q x72]->
 ∃x73 x74 x75 x76 x77 x78,Ae w16 ⟨x4,0,none⟩ [.slice x73 x74 x75,.q x76,.q x77,.q x78]/\
 K (.agg #[.slice x73 x74 x75,.q x76,.q x77,.q x78]) w16))))
theorem Aia (x0:Option Addr) (x1:Nat) (x2:Nat) (x3:Int) (K:Value->World->Prop) (w:World) (h:Ah9 x0 x1 x2 x3 K w):Calls Tryz.prog 121 #[.slice x0 x1 x2,.q x3] w (Ret K):=
 Ao { Aww:=[(7,[]),(14,[(22,.bool)])] } Tryz.func121 (by kernel_rfl) h
def Ac4 (x0:Option Addr) (x1:Nat) (x2:Nat) (x3:Int) (x4:Int) (K:Value->World->Prop) (w:World):Prop:=
 ∀x5 w1,x5=w.heap.size->w1=w.alloc (.cells #[.slice none 0 0,.q 0,.q 0,.q 0] 82)->
 Calls Tryz.prog 34 #[.q x3] w1 (Ret fun x6 w2=>
 ∃x7 x8 x9 x10 x11 x12,x6= .agg #[.slice x7 x8 x9,.q x10,.q x11,.q x12]/\
 ∀x13 w3,x13=w2.heap.size->w3=w2.alloc (.cells #[.slice none 0 0,.q 0,.q 0,.q 0] 82)->
 Ah w3 ⟨x13,0,none⟩ 4/\∀w4,w4=setCells w3 ⟨x13,0,none⟩ [.slice x7 x8 x9,.q x10,.q x11,.q x12]->
 ∃(J:Bool->World->Prop),
 (Calls Tryz.prog 70 #[.slice x0 x1 x2,.q x3,.s [123]] w4 (Ret fun x14 w5=>
 ∃x15,x14= .bool x15/\
 cond (x15)
 (J (decide (x4>24)) w5)
 (J false w5)))/\
 ∀(_x16:Nat->Value) (x17:Bool) (w6:World),J x17 w6->
 cond (x17)
 (Ah w6 ⟨x13,3,none⟩ 1/\∀w7,w7=w6.setCell ⟨x13,3,none⟩ (.q 5)->
 ∃x18 x19 x20 x21 x22 x23,Ae w7 ⟨x13,0,none⟩ [.slice x18 x19 x20,.q x21,.q x22,.q x23]/\
 Ah w7 ⟨x5,0,none⟩ 4/\∀w8,w8=setCells w7 ⟨x5,0,none⟩ [.slice x18 x19 x20,.q x21,.q x22,.q x23]->
 ∃x24 x25 x26 x27 x28 x29,Ae w8 ⟨x5,0,none⟩ [.slice x24 x25 x26,.q x27,.q x28,.q x29]/\
 K (.agg #[.slice x24 x25 x26,.q x27,.q x28,.q x29]) w8)
 (∃x30 x31 x32 x33 x34 x35,Ae w6 ⟨x13,0,none⟩ [.slice x30 x31 x32,.q x33,.q x34,.q x35]/\
 Calls Tryz.prog 71 #[.agg #[.slice x30 x31 x32,.q x33,.q x34,.q x35],.slice x0 x1 x2,.s [123]] w6 (Ret fun x36 w9=>
 ∃x37 x38 x39 x40 x41 x42,x36= .agg #[.slice x37 x38 x39,.q x40,.q x41,.q x42]/\
 Ah w9 ⟨x13,0,none⟩ 4/\∀w10,w10=setCells w9 ⟨x13,0,none⟩ [.slice x37 x38 x39,.q x40,.q x41,.q x42]->
 ∃(I:World->Prop) (x43:World->Nat),I w10/\
 ∀(_x44:Nat->Value) (w11:World),I w11->
 ∃(J1:Bool->World->Prop),
 (∃x45,w11.cell? ⟨x13,3,none⟩=some (.q x45)/\
 cond (x45==0)
 (∃x46,w11.cell? ⟨x13,2,none⟩=some (.q x46)/\
 Calls Tryz.prog 70 #[.slice x0 x1 x2,.q x46,.s [125]] w11 (Ret fun x47 w12=>
 ∃x48,x47= .bool x48/\
 J1 (!x48) w12))
 (J1 false w11))/\
 ∀(_x49:Nat->Value) (x50:Bool) (w13:World),J1 x50 w13->
 cond (x50)
 (∀w14,w14=w13.drew->
 ∃(S:World->Prop),S w14/\
 ∃x51 x52 x53 x54 x55 x56,(∀u,S u->Ae u ⟨x13,0,none⟩ [.slice x51 x52 x53,.q x54,.q x55,.q x56])/\
 ∃x57,(∀u,S u->u.cell? ⟨x13,2,none⟩=some (.q x57))/\
 Calls Tryz.prog 105 #[.slice x0 x1 x2,.q x57,.q x4] w14 (Ret fun x58 w15=>
 ∃x59 x60 x61 x62 x63 x64,x58= .agg #[.slice x59 x60 x61,.q x62,.q x63,.q x64]/\
 S w15/\
 Calls Tryz.prog 36 #[.agg #[.slice x51 x52 x53,.q x54,.q x55,.q x56],.agg #[.slice x59 x60 x61,.q x62,.q x63,.q x64]] w15 (Ret fun x65 w16=>
 ∃x66 x67 x68 x69 x70 x71,x65= .agg #[.slice x66 x67 x68,.q x69,.q x70,.q x71]/\
 Ah w16 ⟨x13,0,none⟩ 4/\∀w17,w17=setCells w16 ⟨x13,0,none⟩ [.slice x66 x67 x68,.q x69,.q x70,.q x71]->
 I w17/\x43 w17<x43 w11)))
 (∃x72 x73 x74 x75 x76 x77,Ae w13 ⟨x13,0,none⟩ [.slice x72 x73 x74,.q x75,.q x76,.q x77]/\
 Calls Tryz.prog 71 #[.agg #[.slice x72 x73 x74,.q x75,.q x76,.q x77],.slice x0 x1 x2,.s [125]] w13 (Ret fun x78 w18=>
 ∃x79 x80 x81 x82 x83 x84,x78= .agg #[.slice x79 x80 x81,.q x82,.q x83,.q x84]/\
 Ah w18 ⟨x13,0,none⟩ 4/\∀w19,w19=setCells w18 ⟨x13,0,none⟩ [.slice x79 x80 x81,.q x82,.q x83,.q x84]->
 ∀w20,w20=w19.drew->
 ∃(S1:World->Prop),S1 w20/\
 ∃x85 x86 x87 x88 x89 x90,(∀u,S1 u->Ae u ⟨x13,0,none⟩ [.slice x85 x86 x87,.q x88,.q x89,.q x90])/\
 Calls Tryz.prog 35 #[.slice x0 x1 x2,.q x3] w20 (Ret fun x91 w21=>
 ∃x92 x93 x94 x95,x91= .agg #[.q x92,.s x93,.q x94,.q x95]/\
 S1 w21/\
 Calls Tryz.prog 38 #[.agg #[.slice x85 x86 x87,.q x88,.q x89,.q x90],.agg #[.q 32,.s [],.q 0,.q 0,.q x95]] w21 (Ret fun x96 w22=>
 ∃x97 x98 x99 Axb Axn Axq,x96= .agg #[.slice x97 x98 x99,.q Axb,.q Axn,.q Axq]/\
 Ah w22 ⟨x5,0,none⟩ 4/\∀w23,w23=setCells w22 ⟨x5,0,none⟩ [.slice x97 x98 x99,.q Axb,.q Axn,.q Axq]->
 ∃Axc Axt Aw2 Axo Axr Axj,Ae w23 ⟨x5,0,none⟩ [.slice Axc Axt Aw2,.q Axo,.q Axr,.q Axj]/\
 K (.agg #[.slice Axc Axt Aw2,.q Axo,.q Axr,.q Axj]) w23)))))))
theorem Ac5 (x0:Option Addr) (x1:Nat) (x2:Nat) (x3:Int) (x4:Int) (K:Value->World->Prop) (w:World) (h:Ac4 x0 x1 x2 x3 x4 K w):Calls Tryz.prog 92 #[.slice x0 x1 x2,.q x3,.q x4] w (Ret K):=
 Ao { loops:=[(124,[])],Aww:=[(14,[(16,.bool)]),(496,[(31,.bool)])] } Tryz.func92 (by kernel_rfl) h
def Aag (x0:Option Addr) (x1:Nat) (x2:Nat) (x3:Int) (x4:Int) (K:Value->World->Prop) (w:World):Prop:=
 ∀x5 w1,x5=w.heap.size->w1=w.alloc (.cells #[.slice none 0 0,.q 0,.q 0,.q 0] 82)->
 Calls Tryz.prog 35 #[.slice x0 x1 x2,.q x3] w1 (Ret fun x6 w2=>
 ∃x7 x8 x9 x10,x6= .agg #[.q x7,.s x8,.q x9,.q x10]/\
 ∀x11 w3,x11=w2.heap.size->w3=w2.alloc (.cells #[.q 0,.s [],.q 0,.q 0,.q 0] 59)->
 Ah w3 ⟨x11,0,none⟩ 5/\∀w4,w4=setCells w3 ⟨x11,0,none⟩ [.q 0,.s [],.q 0,.q 0,.q x10]->
 Calls Tryz.prog 70 #[.slice x0 x1 x2,.q x3,.s [101,108,115,101]] w4 (Ret fun x12 w5=>
 ∃x13,x12= .bool x13/\
 cond (x13)
 (Ah w5 ⟨x11,0,none⟩ 1/\∀w6,w6=w5.setCell ⟨x11,0,none⟩ (.q 37)->
 ∀w7,w7=w6.drew->
 ∃(S:World->Prop),S w7/\
 ∃x14 x15 x16 x17 x18,(∀u,S u->Ae u ⟨x11,0,none⟩ [.q x14,.s x15,.q x16,.q x17,.q x18])/\
 Calls Tryz.prog 34 #[.q x3] w7 (Ret fun x19 w8=>
 ∃x20 x21 x22 x23 x24 x25,x19= .agg #[.slice x20 x21 x22,.q x23,.q x24,.q x25]/\
 S w8/\
 Calls Tryz.prog 71 #[.agg #[.slice x20 x21 x22,.q x23,.q x24,.q x25],.slice x0 x1 x2,.s [101,108,115,101]] w8 (Ret fun x26 w9=>
 ∃x27 x28 x29 x30 x31 x32,x26= .agg #[.slice x27 x28 x29,.q x30,.q x31,.q x32]/\
 S w9/\
 Calls Tryz.prog 75 #[.agg #[.slice x27 x28 x29,.q x30,.q x31,.q x32],.slice x0 x1 x2,.q (IntKind.i64.wrap (x4+1))] w9 (Ret fun x33 w10=>
 ∃x34 x35 x36 x37 x38 x39,x33= .agg #[.slice x34 x35 x36,.q x37,.q x38,.q x39]/\
 S w10/\
 Calls Tryz.prog 38 #[.agg #[.slice x34 x35 x36,.q x37,.q x38,.q x39],.agg #[.q x14,.s x15,.q x16,.q x17,.q x18]] w10 (Ret fun x40 w11=>
 ∃x41 x42 x43 x44 x45 x46,x40= .agg #[.slice x41 x42 x43,.q x44,.q x45,.q x46]/\
 Ah w11 ⟨x5,0,none⟩ 4/\∀w12,w12=setCells w11 ⟨x5,0,none⟩ [.slice x41 x42 x43,.q x44,.q x45,.q x46]->
 ∃x47 x48 x49 x50 x51 x52,Ae w12 ⟨x5,0,none⟩ [.slice x47 x48 x49,.q x50,.q x51,.q x52]/\
 K (.agg #[.slice x47 x48 x49,.q x50,.q x51,.q x52]) w12)))))
 (Calls Tryz.prog 34 #[.q x3] w5 (Ret fun x53 w13=>
 ∃x54 x55 x56 x57 x58 x59,x53= .agg #[.slice x54 x55 x56,.q x57,.q x58,.q x59]/\
 Calls Tryz.prog 71 #[.agg #[.slice x54 x55 x56,.q x57,.q x58,.q x59],.slice x0 x1 x2,.s [99,97,115,101]] w13 (Ret fun x60 w14=>
 ∃x61 x62 x63 x64 x65 x66,x60= .agg #[.slice x61 x62 x63,.q x64,.q x65,.q x66]/\
 ∀x67 w15,x67=w14.heap.size->w15=w14.alloc (.cells #[.slice none 0 0,.q 0,.q 0,.q 0] 82)->
 Ah w15 ⟨x67,0,none⟩ 4/\∀w16,w16=setCells w15 ⟨x67,0,none⟩ [.slice x61 x62 x63,.q x64,.q x65,.q x66]->
 ∃(J:World->Prop),
 (∃(J1:Bool->World->Prop),
 (∃x68,w16.cell? ⟨x67,3,none⟩=some (.q x68)/\
 cond (x68==0)
 (∃x69,w16.cell? ⟨x67,2,none⟩=some (.q x69)/\
 Calls Tryz.prog 70 #[.slice x0 x1 x2,.q x69,.s [119,104,101,110]] w16 (Ret fun x70 w17=>
 ∃x71,x70= .bool x71/\
 J1 x71 w17))
 (J1 false w16))/\
 ∀(_x72:Nat->Value) (x73:Bool) (w18:World),J1 x73 w18->
 cond (x73)
 (Ah w18 ⟨x11,2,none⟩ 1/\∀w19,w19=w18.setCell ⟨x11,2,none⟩ (.q 1)->
 ∃x74 x75 x76 x77 x78 x79,Ae w19 ⟨x67,0,none⟩ [.slice x74 x75 x76,.q x77,.q x78,.q x79]/\
 Calls Tryz.prog 71 #[.agg #[.slice x74 x75 x76,.q x77,.q x78,.q x79],.slice x0 x1 x2,.s [119,104,101,110]] w19 (Ret fun x80 w20=>
 ∃x81 x82 x83 x84 x85 x86,x80= .agg #[.slice x81 x82 x83,.q x84,.q x85,.q x86]/\
 Calls Tryz.prog 115 #[.agg #[.slice x81 x82 x83,.q x84,.q x85,.q x86],.slice x0 x1 x2] w20 (Ret fun x87 w21=>
 ∃x88 x89 x90 x91 x92 x93,x87= .agg #[.slice x88 x89 x90,.q x91,.q x92,.q x93]/\
 Calls Tryz.prog 71 #[.agg #[.slice x88 x89 x90,.q x91,.q x92,.q x93],.slice x0 x1 x2,.s [58]] w21 (Ret fun x94 w22=>
 ∃x95 x96 x97 x98 x99 Axb,x94= .agg #[.slice x95 x96 x97,.q x98,.q x99,.q Axb]/\
 Ah w22 ⟨x67,0,none⟩ 4/\∀w23,w23=setCells w22 ⟨x67,0,none⟩ [.slice x95 x96 x97,.q x98,.q x99,.q Axb]->
 J w23))))
 (J w18))/\
 ∀(_x101:Nat->Value) (w24:World),J w24->
 ∃(J2:World->Prop),
 (∃(J3:Bool->World->Prop),
 (∃Axq,w24.cell? ⟨x67,3,none⟩=some (.q Axq)/\
 cond (Axq==0)
 (∃Axc,w24.cell? ⟨x67,2,none⟩=some (.q Axc)/\
 Calls Tryz.prog 70 #[.slice x0 x1 x2,.q Axc,.s [97,102,116,101,114]] w24 (Ret fun Axt w25=>
 ∃Aw2,Axt= .bool Aw2/\
 J3 Aw2 w25))
 (J3 false w24))/\
 ∀(_x106:Nat->Value) (Axr:Bool) (w26:World),J3 Axr w26->
 cond (Axr)
 (Ah w26 ⟨x11,0,none⟩ 1/\∀w27,w27=w26.setCell ⟨x11,0,none⟩ (.q 36)->
 ∃Axj Axp Ayr Axx Ax5 Ay0,Ae w27 ⟨x67,0,none⟩ [.slice Axj Axp Ayr,.q Axx,.q Ax5,.q Ay0]/\
 Calls Tryz.prog 71 #[.agg #[.slice Axj Axp Ayr,.q Axx,.q Ax5,.q Ay0],.slice x0 x1 x2,.s [97,102,116,101,114]] w27 (Ret fun Ays w28=>
 ∃Ax9 Ayf Ayg Ayh Azj Ayi,Ays= .agg #[.slice Ax9 Ayf Ayg,.q Ayh,.q Azj,.q Ayi]/\
 Calls Tryz.prog 115 #[.agg #[.slice Ax9 Ayf Ayg,.q Ayh,.q Azj,.q Ayi],.slice x0 x1 x2] w28 (Ret fun Ayj w29=>
 ∃Ayk Aya Ayl Az8 Azi Az5,Ayj= .agg #[.slice Ayk Aya Ayl,.q Az8,.q Azi,.q Az5]/\
 Ah w29 ⟨x67,0,none⟩ 4/\∀w30,w30=setCells w29 ⟨x67,0,none⟩ [.slice Ayk Aya Ayl,.q Az8,.q Azi,.q Az5]->
 J2 w30)))
 (∃Bap Az6 Az7 Bbp Axd Bbq,Ae w26 ⟨x67,0,none⟩ [.slice Bap Az6 Az7,.q Bbp,.q Axd,.q Bbq]/\
 Calls Tryz.prog 114 #[.agg #[.slice Bap Az6 Az7,.q Bbp,.q Axd,.q Bbq],.slice x0 x1 x2,.q 35,.q 34] w26 (Ret fun Baq w31=>
 ∃Bbr Bbs Bbt Bda Bdb Bbu Bbv Bbw,Baq= .tuple #[.agg #[.slice Bbr Bbs Bbt,.q Bda,.q Bdb,.q Bbu],.q Bbv,.s Bbw]/\
 Ah w31 ⟨x67,0,none⟩ 4/\∀w32,w32=setCells w31 ⟨x67,0,none⟩ [.slice Bbr Bbs Bbt,.q Bda,.q Bdb,.q Bbu]->
 Ah w32 ⟨x11,0,none⟩ 1/\∀w33,w33=w32.setCell ⟨x11,0,none⟩ (.q Bbv)->
 Ah w33 ⟨x11,1,none⟩ 1/\∀w34,w34=w33.setCell ⟨x11,1,none⟩ (.s Bbw)->
 J2 w34)))/\
 ∀(_x143:Nat->Value) (w35:World),J2 w35->
 ∀w36,w36=w35.drew->
 ∃(S1:World->Prop),S1 w36/\
 ∃Bbx Bdc Bby Bbz Bdd Bb0,(∀u,S1 u->Ae u ⟨x67,0,none⟩ [.slice Bbx Bdc Bby,.q Bbz,.q Bdd,.q Bb0])/\
 ∃Bfi Bb1 Bde Bb2 Bb3,(∀u,S1 u->Ae u ⟨x11,0,none⟩ [.q Bfi,.s Bb1,.q Bde,.q Bb2,.q Bb3])/\
 Calls Tryz.prog 75 #[.agg #[.slice Bbx Bdc Bby,.q Bbz,.q Bdd,.q Bb0],.slice x0 x1 x2,.q (IntKind.i64.wrap (x4+1))] w36 (Ret fun Bdf w37=>
 ∃Bb4 Bb5 Bdg Bdh Bb6 Bb7,Bdf= .agg #[.slice Bb4 Bb5 Bdg,.q Bdh,.q Bb6,.q Bb7]/\
 S1 w37/\
 Calls Tryz.prog 38 #[.agg #[.slice Bb4 Bb5 Bdg,.q Bdh,.q Bb6,.q Bb7],.agg #[.q Bfi,.s Bb1,.q Bde,.q Bb2,.q Bb3]] w37 (Ret fun Bdi w38=>
 ∃Bb8 Bb9 Bca Bfj Bcb Bcc,Bdi= .agg #[.slice Bb8 Bb9 Bca,.q Bfj,.q Bcb,.q Bcc]/\
 Ah w38 ⟨x5,0,none⟩ 4/\∀w39,w39=setCells w38 ⟨x5,0,none⟩ [.slice Bb8 Bb9 Bca,.q Bfj,.q Bcb,.q Bcc]->
 ∃Bdj Bcd Bfk Bce Bcf Bcg,Ae w39 ⟨x5,0,none⟩ [.slice Bdj Bcd Bfk,.q Bce,.q Bcf,.q Bcg]/\
 K (.agg #[.slice Bdj Bcd Bfk,.q Bce,.q Bcf,.q Bcg]) w39)))))))
theorem Aah (x0:Option Addr) (x1:Nat) (x2:Nat) (x3:Int) (x4:Int) (K:Value->World->Prop) (w:World) (h:Aag x0 x1 x2 x3 x4 K w):Calls Tryz.prog 117 #[.slice x0 x1 x2,.q x3,.q x4] w (Ret K):=
 Ao { Aww:=[(31,[]),(62,[(40,.bool)]),(63,[]),(126,[(57,.bool)])] } Tryz.func117 (by kernel_rfl) h
def Aib (x0:Option Addr) (x1:Nat) (x2:Nat) (x3:Int) (x4:Int) (x5:List UInt8) (x6:Int) (x7:Int) (x8:Int) (K:Value->World->Prop) (w:World):Prop:=
 ∀x9 w1,x9=w.heap.size->w1=w.alloc (.cells #[.q x4,.s x5,.q x6,.q x7,.q x8] 59)->
 ∀x10 w2,x10=w1.heap.size->w2=w1.alloc (.cells #[.slice none 0 0,.q 0,.q 0,.q 0] 82)->
 Calls Tryz.prog 34 #[.q x3] w2 (Ret fun x11 w3=>
 ∃x12 x13 x14 x15 x16 x17,x11= .agg #[.slice x12 x13 x14,.q x15,.q x16,.q x17]/\
 Calls Tryz.prog 72 #[.agg #[.slice x12 x13 x14,.q x15,.q x16,.q x17],.slice x0 x1 x2] w3 (Ret fun x18 w4=>
 ∃x19 x20 x21 x22 x23 x24 x25,x18= .tuple #[.agg #[.slice x19 x20 x21,.q x22,.q x23,.q x24],.s x25]/\
 ∀x26 w5,x26=w4.heap.size->w5=w4.alloc (.cells #[.slice none 0 0,.q 0,.q 0,.q 0] 82)->
 Ah w5 ⟨x26,0,none⟩ 4/\∀w6,w6=setCells w5 ⟨x26,0,none⟩ [.slice x19 x20 x21,.q x22,.q x23,.q x24]->
 ∃x27 x28 x29 x30 x31 x32,Ae w6 ⟨x26,0,none⟩ [.slice x27 x28 x29,.q x30,.q x31,.q x32]/\
 Calls Tryz.prog 71 #[.agg #[.slice x27 x28 x29,.q x30,.q x31,.q x32],.slice x0 x1 x2,.s [61]] w6 (Ret fun x33 w7=>
 ∃x34 x35 x36 x37 x38 x39,x33= .agg #[.slice x34 x35 x36,.q x37,.q x38,.q x39]/\
 Ah w7 ⟨x26,0,none⟩ 4/\∀w8,w8=setCells w7 ⟨x26,0,none⟩ [.slice x34 x35 x36,.q x37,.q x38,.q x39]->
 Ah w8 ⟨x9,0,none⟩ 1/\∀w9,w9=w8.setCell ⟨x9,0,none⟩ (.q 19)->
 Ah w9 ⟨x9,1,none⟩ 1/\∀w10,w10=w9.setCell ⟨x9,1,none⟩ (.s x25)->
 ∃(J:World->Prop),
 (∃(J1:Bool->World->Prop),
 (∃x40,w10.cell? ⟨x26,3,none⟩=some (.q x40)/\
 cond (x40==0)
 (∃x41,w10.cell? ⟨x26,2,none⟩=some (.q x41)/\
 Calls Tryz.prog 70 #[.slice x0 x1 x2,.q x41,.s [114,97,110,100,111,109]] w10 (Ret fun x42 w11=>
 ∃x43,x42= .bool x43/\
 J1 x43 w11))
 (J1 false w10))/\
 ∀(_x44:Nat->Value) (x45:Bool) (w12:World),J1 x45 w12->
 cond (x45)
 (Ah w12 ⟨x9,0,none⟩ 1/\∀w13,w13=w12.setCell ⟨x9,0,none⟩ (.q 20)->
 ∃x46 x47 x48 x49 x50 x51,Ae w13 ⟨x26,0,none⟩ [.slice x46 x47 x48,.q x49,.q x50,.q x51]/\
 Calls Tryz.prog 71 #[.agg #[.slice x46 x47 x48,.q x49,.q x50,.q x51],.slice x0 x1 x2,.s [114,97,110,100,111,109]] w13 (Ret fun x52 w14=>
 ∃x53 x54 x55 x56 x57 x58,x52= .agg #[.slice x53 x54 x55,.q x56,.q x57,.q x58]/\
 Calls Tryz.prog 71 #[.agg #[.slice x53 x54 x55,.q x56,.q x57,.q x58],.slice x0 x1 x2,.s [40]] w14 (Ret fun x59 w15=>
 ∃x60 x61 x62 x63 x64 x65,x59= .agg #[.slice x60 x61 x62,.q x63,.q x64,.q x65]/\
 Calls Tryz.prog 115 #[.agg #[.slice x60 x61 x62,.q x63,.q x64,.q x65],.slice x0 x1 x2] w15 (Ret fun x66 w16=>
 ∃x67 x68 x69 x70 x71 x72,x66= .agg #[.slice x67 x68 x69,.q x70,.q x71,.q x72]/\
 Calls Tryz.prog 71 #[.agg #[.slice x67 x68 x69,.q x70,.q x71,.q x72],.slice x0 x1 x2,.s [41]] w16 (Ret fun x73 w17=>
 ∃x74 x75 x76 x77 x78 x79,x73= .agg #[.slice x74 x75 x76,.q x77,.q x78,.q x79]/\
 Ah w17 ⟨x26,0,none⟩ 4/\∀w18,w18=setCells w17 ⟨x26,0,none⟩ [.slice x74 x75 x76,.q x77,.q x78,.q x79]->
 J w18)))))
 (∃x80 x81 x82 x83 x84 x85,Ae w12 ⟨x26,0,none⟩ [.slice x80 x81 x82,.q x83,.q x84,.q x85]/\
 Calls Tryz.prog 115 #[.agg #[.slice x80 x81 x82,.q x83,.q x84,.q x85],.slice x0 x1 x2] w12 (Ret fun x86 w19=>
 ∃x87 x88 x89 x90 x91 x92,x86= .agg #[.slice x87 x88 x89,.q x90,.q x91,.q x92]/\
 Ah w19 ⟨x26,0,none⟩ 4/\∀w20,w20=setCells w19 ⟨x26,0,none⟩ [.slice x87 x88 x89,.q x90,.q x91,.q x92]->
 J w20)))/\
 ∀(_x93:Nat->Value) (w21:World),J w21->
 ∀w22,w22=w21.drew->
 ∃(S:World->Prop),S w22/\
 ∃x94 x95 x96 x97 x98 x99,(∀u,S u->Ae u ⟨x26,0,none⟩ [.slice x94 x95 x96,.q x97,.q x98,.q x99])/\
 ∃Axb Axn Axq Axc Axt,(∀u,S u->Ae u ⟨x9,0,none⟩ [.q Axb,.s Axn,.q Axq,.q Axc,.q Axt])/\
 Calls Tryz.prog 71 #[.agg #[.slice x94 x95 x96,.q x97,.q x98,.q x99],.slice x0 x1 x2,.s [59]] w22 (Ret fun Aw2 w23=>
 ∃Axo Axr Axj Axp Ayr Axx,Aw2= .agg #[.slice Axo Axr Axj,.q Axp,.q Ayr,.q Axx]/\
 S w23/\
 Calls Tryz.prog 38 #[.agg #[.slice Axo Axr Axj,.q Axp,.q Ayr,.q Axx],.agg #[.q Axb,.s Axn,.q Axq,.q Axc,.q Axt]] w23 (Ret fun Ax5 w24=>
 ∃Ay0 Ays Ax9 Ayf Ayg Ayh,Ax5= .agg #[.slice Ay0 Ays Ax9,.q Ayf,.q Ayg,.q Ayh]/\
 Ah w24 ⟨x10,0,none⟩ 4/\∀w25,w25=setCells w24 ⟨x10,0,none⟩ [.slice Ay0 Ays Ax9,.q Ayf,.q Ayg,.q Ayh]->
 ∃Azj Ayi Ayj Ayk Aya Ayl,Ae w25 ⟨x10,0,none⟩ [.slice Azj Ayi Ayj,.q Ayk,.q Aya,.q Ayl]/\
 K (.agg #[.slice Azj Ayi Ayj,.q Ayk,.q Aya,.q Ayl]) w25)))))
theorem Aic (x0:Option Addr) (x1:Nat) (x2:Nat) (x3:Int) (x4:Int) (x5:List UInt8) (x6:Int) (x7:Int) (x8:Int) (K:Value->World->Prop) (w:World) (h:Aib x0 x1 x2 x3 x4 x5 x6 x7 x8 K w):Calls Tryz.prog 113 #[.slice x0 x1 x2,.q x3,.agg #[.q x4,.s x5,.q x6,.q x7,.q x8]] w (Ret K):=
 Ao { Aww:=[(31,[]),(62,[(30,.bool)])] } Tryz.func113 (by kernel_rfl) h
def Afs (x0:Option Addr) (x1:Nat) (x2:Nat) (x3:Int) (x4:Int) (K:Value->World->Prop) (w:World):Prop:=
 ∀x5 w1,x5=w.heap.size->w1=w.alloc (.cells #[.slice none 0 0,.q 0,.q 0,.q 0] 82)->
 Calls Tryz.prog 35 #[.slice x0 x1 x2,.q x3] w1 (Ret fun x6 w2=>
 ∃x7 x8 x9 x10,x6= .agg #[.q x7,.s x8,.q x9,.q x10]/\
 ∀x11 w3,x11=w2.heap.size->w3=w2.alloc (.cells #[.q 0,.s [],.q 0,.q 0] 57)->
 Ah w3 ⟨x11,0,none⟩ 4/\∀w4,w4=setCells w3 ⟨x11,0,none⟩ [.q x7,.s x8,.q x9,.q x10]->
 ∃x12,w4.cell? ⟨x11,3,none⟩=some (.q x12)/\
 ∀x13 w5,x13=w4.heap.size->w5=w4.alloc (.cells #[.q 0,.s [],.q 0,.q 0,.q 0] 59)->
 Ah w5 ⟨x13,0,none⟩ 5/\∀w6,w6=setCells w5 ⟨x13,0,none⟩ [.q 0,.s [],.q 0,.q 0,.q x12]->
 Calls Tryz.prog 34 #[.q x3] w6 (Ret fun x14 w7=>
 ∃x15 x16 x17 x18 x19 x20,x14= .agg #[.slice x15 x16 x17,.q x18,.q x19,.q x20]/\
 ∀x21 w8,x21=w7.heap.size->w8=w7.alloc (.cells #[.slice none 0 0,.q 0,.q 0,.q 0] 82)->
 Ah w8 ⟨x21,0,none⟩ 4/\∀w9,w9=setCells w8 ⟨x21,0,none⟩ [.slice x15 x16 x17,.q x18,.q x19,.q x20]->
 ∃(J:Bool->World->Prop),
 (∃x22,w9.cell? ⟨x11,0,none⟩=some (.q x22)/\
 cond (x22==1)
 (Calls Tryz.prog 70 #[.slice x0 x1 x2,.q (IntKind.i64.wrap (x3+1)),.s [61]] w9 (Ret fun x23 w10=>
 ∃x24,x23= .bool x24/\
 J x24 w10))
 (J false w9))/\
 ∀(_x25:Nat->Value) (x26:Bool) (w11:World),J x26 w11->
 cond (x26)
 (∃x27 x28 x29 x30 x31,Ae w11 ⟨x13,0,none⟩ [.q x27,.s x28,.q x29,.q x30,.q x31]/\
 Calls Tryz.prog 113 #[.slice x0 x1 x2,.q x3,.agg #[.q x27,.s x28,.q x29,.q x30,.q x31]] w11 (Ret fun x32 w12=>
 ∃x33 x34 x35 x36 x37 x38,x32= .agg #[.slice x33 x34 x35,.q x36,.q x37,.q x38]/\
 Ah w12 ⟨x5,0,none⟩ 4/\∀w13,w13=setCells w12 ⟨x5,0,none⟩ [.slice x33 x34 x35,.q x36,.q x37,.q x38]->
 ∃x39 x40 x41 x42 x43 x44,Ae w13 ⟨x5,0,none⟩ [.slice x39 x40 x41,.q x42,.q x43,.q x44]/\
 K (.agg #[.slice x39 x40 x41,.q x42,.q x43,.q x44]) w13))
 (∃x45,w11.cell? ⟨x11,0,none⟩=some (.q x45)/\
 cond (x45==1)
 (∃x46 x47 x48 x49 x50 x51,Ae w11 ⟨x21,0,none⟩ [.slice x46 x47 x48,.q x49,.q x50,.q x51]/\
 Calls Tryz.prog 114 #[.agg #[.slice x46 x47 x48,.q x49,.q x50,.q x51],.slice x0 x1 x2,.q 21,.q 22] w11 (Ret fun x52 w14=>
 ∃x53 x54 x55 x56 x57 x58 x59 x60,x52= .tuple #[.agg #[.slice x53 x54 x55,.q x56,.q x57,.q x58],.q x59,.s x60]/\
 Ah w14 ⟨x21,0,none⟩ 4/\∀w15,w15=setCells w14 ⟨x21,0,none⟩ [.slice x53 x54 x55,.q x56,.q x57,.q x58]->
 Ah w15 ⟨x13,0,none⟩ 1/\∀w16,w16=w15.setCell ⟨x13,0,none⟩ (.q x59)->
 Ah w16 ⟨x13,1,none⟩ 1/\∀w17,w17=w16.setCell ⟨x13,1,none⟩ (.s x60)->
 ∀w18,w18=w17.drew->
 ∃(S:World->Prop),S w18/\
 ∃x61 x62 x63 x64 x65 x66,(∀u,S u->Ae u ⟨x21,0,none⟩ [.slice x61 x62 x63,.q x64,.q x65,.q x66])/\
 ∃x67 x68 x69 x70 x71,(∀u,S u->Ae u ⟨x13,0,none⟩ [.q x67,.s x68,.q x69,.q x70,.q x71])/\
 Calls Tryz.prog 71 #[.agg #[.slice x61 x62 x63,.q x64,.q x65,.q x66],.slice x0 x1 x2,.s [59]] w18 (Ret fun x72 w19=>
 ∃x73 x74 x75 x76 x77 x78,x72= .agg #[.slice x73 x74 x75,.q x76,.q x77,.q x78]/\
 S w19/\
 Calls Tryz.prog 38 #[.agg #[.slice x73 x74 x75,.q x76,.q x77,.q x78],.agg #[.q x67,.s x68,.q x69,.q x70,.q x71]] w19 (Ret fun x79 w20=>
 ∃x80 x81 x82 x83 x84 x85,x79= .agg #[.slice x80 x81 x82,.q x83,.q x84,.q x85]/\
 Ah w20 ⟨x5,0,none⟩ 4/\∀w21,w21=setCells w20 ⟨x5,0,none⟩ [.slice x80 x81 x82,.q x83,.q x84,.q x85]->
 ∃x86 x87 x88 x89 x90 x91,Ae w21 ⟨x5,0,none⟩ [.slice x86 x87 x88,.q x89,.q x90,.q x91]/\
 K (.agg #[.slice x86 x87 x88,.q x89,.q x90,.q x91]) w21))))
 (∃x92,w11.cell? ⟨x11,0,none⟩=some (.q x92)/\
 cond (x92 !=3)
 (Ah w11 ⟨x21,3,none⟩ 1/\∀w22,w22=w11.setCell ⟨x21,3,none⟩ (.q 11)->
 ∃x93 x94 x95 x96 x97 x98,Ae w22 ⟨x21,0,none⟩ [.slice x93 x94 x95,.q x96,.q x97,.q x98]/\
 Ah w22 ⟨x5,0,none⟩ 4/\∀w23,w23=setCells w22 ⟨x5,0,none⟩ [.slice x93 x94 x95,.q x96,.q x97,.q x98]->
 ∃x99 Axb Axn Axq Axc Axt,Ae w23 ⟨x5,0,none⟩ [.slice x99 Axb Axn,.q Axq,.q Axc,.q Axt]/\
 K (.agg #[.slice x99 Axb Axn,.q Axq,.q Axc,.q Axt]) w23)
 (∃Aw2,w11.cell? ⟨x11,1,none⟩=some (.s Aw2)/\
 cond (Aw2==[118,97,114])
 (Ah w11 ⟨x13,0,none⟩ 1/\∀w24,w24=w11.setCell ⟨x13,0,none⟩ (.q 18)->
 ∃Axo Axr Axj Axp Ayr Axx,Ae w24 ⟨x21,0,none⟩ [.slice Axo Axr Axj,.q Axp,.q Ayr,.q Axx]/\
 Calls Tryz.prog 71 #[.agg #[.slice Axo Axr Axj,.q Axp,.q Ayr,.q Axx],.slice x0 x1 x2,.s [118,97,114]] w24 (Ret fun Ax5 w25=>
 ∃Ay0 Ays Ax9 Ayf Ayg Ayh,Ax5= .agg #[.slice Ay0 Ays Ax9,.q Ayf,.q Ayg,.q Ayh]/\
 Calls Tryz.prog 72 #[.agg #[.slice Ay0 Ays Ax9,.q Ayf,.q Ayg,.q Ayh],.slice x0 x1 x2] w25 (Ret fun Azj w26=>
 ∃Ayi Ayj Ayk Aya Ayl Az8 Azi,Azj= .tuple #[.agg #[.slice Ayi Ayj Ayk,.q Aya,.q Ayl,.q Az8],.s Azi]/\
 Ah w26 ⟨x21,0,none⟩ 4/\∀w27,w27=setCells w26 ⟨x21,0,none⟩ [.slice Ayi Ayj Ayk,.q Aya,.q Ayl,.q Az8]->
 Ah w27 ⟨x13,1,none⟩ 1/\∀w28,w28=w27.setCell ⟨x13,1,none⟩ (.s Azi)->
 ∀w29,w29=w28.drew->
 ∃(S1:World->Prop),S1 w29/\
 ∃Az5 Bap Az6 Az7 Bbp Axd,(∀u,S1 u->Ae u ⟨x21,0,none⟩ [.slice Az5 Bap Az6,.q Az7,.q Bbp,.q Axd])/\
 ∃Bbq Baq Bbr Bbs Bbt,(∀u,S1 u->Ae u ⟨x13,0,none⟩ [.q Bbq,.s Baq,.q Bbr,.q Bbs,.q Bbt])/\
 Calls Tryz.prog 71 #[.agg #[.slice Az5 Bap Az6,.q Az7,.q Bbp,.q Axd],.slice x0 x1 x2,.s [61]] w29 (Ret fun Bda w30=>
 ∃Bdb Bbu Bbv Bbw Bfl Bbx,Bda= .agg #[.slice Bdb Bbu Bbv,.q Bbw,.q Bfl,.q Bbx]/\
 S1 w30/\
 Calls Tryz.prog 115 #[.agg #[.slice Bdb Bbu Bbv,.q Bbw,.q Bfl,.q Bbx],.slice x0 x1 x2] w30 (Ret fun Bdc w31=>
 ∃Bby Bbz Bdd Bb0 Bfi Bb1,Bdc= .agg #[.slice Bby Bbz Bdd,.q Bb0,.q Bfi,.q Bb1]/\
 S1 w31/\
 Calls Tryz.prog 71 #[.agg #[.slice Bby Bbz Bdd,.q Bb0,.q Bfi,.q Bb1],.slice x0 x1 x2,.s [59]] w31 (Ret fun Bde w32=>
 ∃Bb2 Bb3 Bdf Bb4 Bb5 Bdg,Bde= .agg #[.slice Bb2 Bb3 Bdf,.q Bb4,.q Bb5,.q Bdg]/\
 S1 w32/\
 Calls Tryz.prog 38 #[.agg #[.slice Bb2 Bb3 Bdf,.q Bb4,.q Bb5,.q Bdg],.agg #[.q Bbq,.s Baq,.q Bbr,.q Bbs,.q Bbt]] w32 (Ret fun Bdh w33=>
 ∃Bb6 Bb7 Bdi Bb8 Bb9 Bca,Bdh= .agg #[.slice Bb6 Bb7 Bdi,.q Bb8,.q Bb9,.q Bca]/\
 Ah w33 ⟨x5,0,none⟩ 4/\∀w34,w34=setCells w33 ⟨x5,0,none⟩ [.slice Bb6 Bb7 Bdi,.q Bb8,.q Bb9,.q Bca]->
 ∃Bfj Bcb Bcc Bdj Bcd Bfk,Ae w34 ⟨x5,0,none⟩ [.slice Bfj Bcb Bcc,.q Bdj,.q Bcd,.q Bfk]/\
 K (.agg #[.slice Bfj Bcb Bcc,.q Bdj,.q Bcd,.q Bfk]) w34)))))))
 (cond (Aw2==[115,116,97,114,116])
 (Ah w11 ⟨x13,0,none⟩ 1/\∀w35,w35=w11.setCell ⟨x13,0,none⟩ (.q 26)->
 ∃Bce Bcf Bcg Bfm Bfn Bfo,Ae w35 ⟨x21,0,none⟩ [.slice Bce Bcf Bcg,.q Bfm,.q Bfn,.q Bfo]/\
 Calls Tryz.prog 71 #[.agg #[.slice Bce Bcf Bcg,.q Bfm,.q Bfn,.q Bfo],.slice x0 x1 x2,.s [115,116,97,114,116]] w35 (Ret fun Bjc w36=>
 ∃Bjd Bfp Bfq Bfr Bfs Bft,Bjc= .agg #[.slice Bjd Bfp Bfq,.q Bfr,.q Bfs,.q Bft]/\
 Calls Tryz.prog 72 #[.agg #[.slice Bjd Bfp Bfq,.q Bfr,.q Bfs,.q Bft],.slice x0 x1 x2] w36 (Ret fun Bje w37=>
 ∃Bjf Bfu Bfv Bfw Bfx Bfy Bfz,Bje= .tuple #[.agg #[.slice Bjf Bfu Bfv,.q Bfw,.q Bfx,.q Bfy],.s Bfz]/\
 Ah w37 ⟨x21,0,none⟩ 4/\∀w38,w38=setCells w37 ⟨x21,0,none⟩ [.slice Bjf Bfu Bfv,.q Bfw,.q Bfx,.q Bfy]->
 Ah w38 ⟨x13,1,none⟩ 1/\∀w39,w39=w38.setCell ⟨x13,1,none⟩ (.s Bfz)->
 ∀w40,w40=w39.drew->
 ∃(S2:World->Prop),S2 w40/\
 ∃Bng Bf0 Bf1 Bf2 Bf3 Bf4,(∀u,S2 u->Ae u ⟨x21,0,none⟩ [.slice Bng Bf0 Bf1,.q Bf2,.q Bf3,.q Bf4])/\
 ∃Bf5 Bf6 Bf7 Bf8 Bf9,(∀u,S2 u->Ae u ⟨x13,0,none⟩ [.q Bf5,.s Bf6,.q Bf7,.q Bf8,.q Bf9])/\
 Calls Tryz.prog 116 #[.agg #[.slice Bng Bf0 Bf1,.q Bf2,.q Bf3,.q Bf4],.slice x0 x1 x2] w40 (Ret fun Bjg w41=>
 ∃Bjh Bga Bgb Bgc Bgd Bge,Bjg= .agg #[.slice Bjh Bga Bgb,.q Bgc,.q Bgd,.q Bge]/\
 S2 w41/\
 Calls Tryz.prog 71 #[.agg #[.slice Bjh Bga Bgb,.q Bgc,.q Bgd,.q Bge],.slice x0 x1 x2,.s [59]] w41 (Ret fun Bji w42=>
 ∃Bjj Bgf Bgg Bgh Bgi Bgj,Bji= .agg #[.slice Bjj Bgf Bgg,.q Bgh,.q Bgi,.q Bgj]/\
 S2 w42/\
 Calls Tryz.prog 38 #[.agg #[.slice Bjj Bgf Bgg,.q Bgh,.q Bgi,.q Bgj],.agg #[.q Bf5,.s Bf6,.q Bf7,.q Bf8,.q Bf9]] w42 (Ret fun Bjk w43=>
 ∃Bjl Bgk Bgl Bgm Bgn Bgo,Bjk= .agg #[.slice Bjl Bgk Bgl,.q Bgm,.q Bgn,.q Bgo]/\
 Ah w43 ⟨x5,0,none⟩ 4/\∀w44,w44=setCells w43 ⟨x5,0,none⟩ [.slice Bjl Bgk Bgl,.q Bgm,.q Bgn,.q Bgo]->
 ∃Bgp Bgq Bgr Bgs Bgt Bgu,Ae w44 ⟨x5,0,none⟩ [.slice Bgp Bgq Bgr,.q Bgs,.q Bgt,.q Bgu]/\
 K (.agg #[.slice Bgp Bgq Bgr,.q Bgs,.q Bgt,.q Bgu]) w44))))))
 (cond (Aw2==[115,108,101,101,112])
 (Ah w11 ⟨x13,0,none⟩ 1/\∀w45,w45=w11.setCell ⟨x13,0,none⟩ (.q 27)->
 ∀w46,w46=w45.drew->
 ∃(S3:World->Prop),S3 w46/\
 ∃Bgv Bgw Bgx Bgy Bgz Bg0,(∀u,S3 u->Ae u ⟨x21,0,none⟩ [.slice Bgv Bgw Bgx,.q Bgy,.q Bgz,.q Bg0])/\
 ∃Bjm Bg1 Bg2 Bg3 Bg4,(∀u,S3 u->Ae u ⟨x13,0,none⟩ [.q Bjm,.s Bg1,.q Bg2,.q Bg3,.q Bg4])/\
 Calls Tryz.prog 71 #[.agg #[.slice Bgv Bgw Bgx,.q Bgy,.q Bgz,.q Bg0],.slice x0 x1 x2,.s [115,108,101,101,112]] w46 (Ret fun Bjn w47=>
 ∃Bg5 Bjo Bg6 Bg7 Bg8 Bg9,Bjn= .agg #[.slice Bg5 Bjo Bg6,.q Bg7,.q Bg8,.q Bg9]/\
 S3 w47/\
 Calls Tryz.prog 115 #[.agg #[.slice Bg5 Bjo Bg6,.q Bg7,.q Bg8,.q Bg9],.slice x0 x1 x2] w47 (Ret fun Bjp w48=>
 ∃Bha Bjq Bhb Bhc Bhd Bhe,Bjp= .agg #[.slice Bha Bjq Bhb,.q Bhc,.q Bhd,.q Bhe]/\
 S3 w48/\
 Calls Tryz.prog 71 #[.agg #[.slice Bha Bjq Bhb,.q Bhc,.q Bhd,.q Bhe],.slice x0 x1 x2,.s [59]] w48 (Ret fun Bjr w49=>
 ∃Bhf Bjs Bhg Bhh Bhi Bhj,Bjr= .agg #[.slice Bhf Bjs Bhg,.q Bhh,.q Bhi,.q Bhj]/\
 S3 w49/\
 Calls Tryz.prog 38 #[.agg #[.slice Bhf Bjs Bhg,.q Bhh,.q Bhi,.q Bhj],.agg #[.q Bjm,.s Bg1,.q Bg2,.q Bg3,.q Bg4]] w49 (Ret fun Bjt w50=>
 ∃Bhk Bhl Bhm Bhn Bho Bhp,Bjt= .agg #[.slice Bhk Bhl Bhm,.q Bhn,.q Bho,.q Bhp]/\
 Ah w50 ⟨x5,0,none⟩ 4/\∀w51,w51=setCells w50 ⟨x5,0,none⟩ [.slice Bhk Bhl Bhm,.q Bhn,.q Bho,.q Bhp]->
 ∃Bhq Bnh Bni Bnj Bnk Bnl,Ae w51 ⟨x5,0,none⟩ [.slice Bhq Bnh Bni,.q Bnj,.q Bnk,.q Bnl]/\
 K (.agg #[.slice Bhq Bnh Bni,.q Bnj,.q Bnk,.q Bnl]) w51)))))
 (cond (Aw2==[112,114,105,110,116])
 (Ah w11 ⟨x13,0,none⟩ 1/\∀w52,w52=w11.setCell ⟨x13,0,none⟩ (.q 28)->
 ∀w53,w53=w52.drew->
 ∃(S4:World->Prop),S4 w53/\
 ∃Bnm Bnn Bno Bnp Bnq Bnr,(∀u,S4 u->Ae u ⟨x21,0,none⟩ [.slice Bnm Bnn Bno,.q Bnp,.q Bnq,.q Bnr])/\
 ∃Bns Bnt Bnu Bnv Bnw,(∀u,S4 u->Ae u ⟨x13,0,none⟩ [.q Bns,.s Bnt,.q Bnu,.q Bnv,.q Bnw])/\
 Calls Tryz.prog 71 #[.agg #[.slice Bnm Bnn Bno,.q Bnp,.q Bnq,.q Bnr],.slice x0 x1 x2,.s [112,114,105,110,116]] w53 (Ret fun Cac w54=>
 ∃Bnx Bny Bnz Bn0 Bn1 Bn2,Cac= .agg #[.slice Bnx Bny Bnz,.q Bn0,.q Bn1,.q Bn2]/\
 S4 w54/\
 Calls Tryz.prog 115 #[.agg #[.slice Bnx Bny Bnz,.q Bn0,.q Bn1,.q Bn2],.slice x0 x1 x2] w54 (Ret fun Cad w55=>
 ∃Bn3 Bn4 Bn5 Bn6 Bn7 Bn8,Cad= .agg #[.slice Bn3 Bn4 Bn5,.q Bn6,.q Bn7,.q Bn8]/\
 S4 w55/\
 Calls Tryz.prog 71 #[.agg #[.slice Bn3 Bn4 Bn5,.q Bn6,.q Bn7,.q Bn8],.slice x0 x1 x2,.s [59]] w55 (Ret fun Cae w56=>
 ∃Bn9 Boa Bob Boc Bod Boe,Cae= .agg #[.slice Bn9 Boa Bob,.q Boc,.q Bod,.q Boe]/\
 S4 w56/\
 Calls Tryz.prog 38 #[.agg #[.slice Bn9 Boa Bob,.q Boc,.q Bod,.q Boe],.agg #[.q Bns,.s Bnt,.q Bnu,.q Bnv,.q Bnw]] w56 (Ret fun Caf w57=>
 ∃Bof Bog Boh Boi Boj Bok,Caf= .agg #[.slice Bof Bog Boh,.q Boi,.q Boj,.q Bok]/\
 Ah w57 ⟨x5,0,none⟩ 4/\∀w58,w58=setCells w57 ⟨x5,0,none⟩ [.slice Bof Bog Boh,.q Boi,.q Boj,.q Bok]->
 ∃Bol Bom Bon Boo Bop Boq,Ae w58 ⟨x5,0,none⟩ [.slice Bol Bom Bon,.q Boo,.q Bop,.q Boq]/\
 K (.agg #[.slice Bol Bom Bon,.q Boo,.q Bop,.q Boq]) w58)))))
 (cond (Aw2==[97,115,115,101,114,116])
 (Ah w11 ⟨x13,0,none⟩ 1/\∀w59,w59=w11.setCell ⟨x13,0,none⟩ (.q 29)->
 ∀w60,w60=w59.drew->
 ∃(S5:World->Prop),S5 w60/\
 ∃Bor Bos Bot Bou Bov Bow,(∀u,S5 u->Ae u ⟨x21,0,none⟩ [.slice Bor Bos Bot,.q Bou,.q Bov,.q Bow])/\
 ∃Boy Boz Bo0 Bo1 Bo2,(∀u,S5 u->Ae u ⟨x13,0,none⟩ [.q Boy,.s Boz,.q Bo0,.q Bo1,.q Bo2])/\
 Calls Tryz.prog 71 #[.agg #[.slice Bor Bos Bot,.q Bou,.q Bov,.q Bow],.slice x0 x1 x2,.s [97,115,115,101,114,116]] w60 (Ret fun Cag w61=>
 ∃Bo3 Bo4 Bo5 Bo6 Bo7 Bo8,Cag= .agg #[.slice Bo3 Bo4 Bo5,.q Bo6,.q Bo7,.q Bo8]/\
 S5 w61/\
 Calls Tryz.prog 115 #[.agg #[.slice Bo3 Bo4 Bo5,.q Bo6,.q Bo7,.q Bo8],.slice x0 x1 x2] w61 (Ret fun Cah w62=>
 ∃Bo9 Bpa Bpb Bpc Bpd Bpe,Cah= .agg #[.slice Bo9 Bpa Bpb,.q Bpc,.q Bpd,.q Bpe]/\
 S5 w62/\
 Calls Tryz.prog 71 #[.agg #[.slice Bo9 Bpa Bpb,.q Bpc,.q Bpd,.q Bpe],.slice x0 x1 x2,.s [59]] w62 (Ret fun Cai w63=>
 ∃Bpf Bpg Bph Bpi Bpj Bpk,Cai= .agg #[.slice Bpf Bpg Bph,.q Bpi,.q Bpj,.q Bpk]/\
 S5 w63/\
 Calls Tryz.prog 38 #[.agg #[.slice Bpf Bpg Bph,.q Bpi,.q Bpj,.q Bpk],.agg #[.q Boy,.s Boz,.q Bo0,.q Bo1,.q Bo2]] w63 (Ret fun Caj w64=>
 ∃Bpl Bpm Bpn Bpo Bpp Bpq,Caj= .agg #[.slice Bpl Bpm Bpn,.q Bpo,.q Bpp,.q Bpq]/\
 Ah w64 ⟨x5,0,none⟩ 4/\∀w65,w65=setCells w64 ⟨x5,0,none⟩ [.slice Bpl Bpm Bpn,.q Bpo,.q Bpp,.q Bpq]->
 ∃Bpr Bps Bpt Bpu Bpv Bpw,Ae w65 ⟨x5,0,none⟩ [.slice Bpr Bps Bpt,.q Bpu,.q Bpv,.q Bpw]/\
 K (.agg #[.slice Bpr Bps Bpt,.q Bpu,.q Bpv,.q Bpw]) w65)))))
 (cond (Aw2==[115,107,105,112])
 (Ah w11 ⟨x13,0,none⟩ 1/\∀w66,w66=w11.setCell ⟨x13,0,none⟩ (.q 30)->
 ∀w67,w67=w66.drew->
 ∃(S6:World->Prop),S6 w67/\
 ∃Bpx Bpy Bpz Bp0 Bp1 Bp2,(∀u,S6 u->Ae u ⟨x21,0,none⟩ [.slice Bpx Bpy Bpz,.q Bp0,.q Bp1,.q Bp2])/\
 ∃Bp3 Bp4 Bp5 Bp6 Bp7,(∀u,S6 u->Ae u ⟨x13,0,none⟩ [.q Bp3,.s Bp4,.q Bp5,.q Bp6,.q Bp7])/\
 Calls Tryz.prog 71 #[.agg #[.slice Bpx Bpy Bpz,.q Bp0,.q Bp1,.q Bp2],.slice x0 x1 x2,.s [115,107,105,112]] w67 (Ret fun Cak w68=>
 ∃Bp8 Bp9 Bqa Bqb Bqc Bqd,Cak= .agg #[.slice Bp8 Bp9 Bqa,.q Bqb,.q Bqc,.q Bqd]/\
 S6 w68/\
 Calls Tryz.prog 71 #[.agg #[.slice Bp8 Bp9 Bqa,.q Bqb,.q Bqc,.q Bqd],.slice x0 x1 x2,.s [59]] w68 (Ret fun Cal w69=>
 ∃Bqe Bqf Bqg Bqh Bqi Bqj,Cal= .agg #[.slice Bqe Bqf Bqg,.q Bqh,.q Bqi,.q Bqj]/\
 S6 w69/\
 Calls Tryz.prog 38 #[.agg #[.slice Bqe Bqf Bqg,.q Bqh,.q Bqi,.q Bqj],.agg #[.q Bp3,.s Bp4,.q Bp5,.q Bp6,.q Bp7]] w69 (Ret fun Cam w70=>
 ∃Bqk Bql Bqm Bqn Bqo Bqp,Cam= .agg #[.slice Bqk Bql Bqm,.q Bqn,.q Bqo,.q Bqp]/\
 Ah w70 ⟨x5,0,none⟩ 4/\∀w71,w71=setCells w70 ⟨x5,0,none⟩ [.slice Bqk Bql Bqm,.q Bqn,.q Bqo,.q Bqp]->
 ∃Bqq Bqr Bqs Bqt Bqu Bqv,Ae w71 ⟨x5,0,none⟩ [.slice Bqq Bqr Bqs,.q Bqt,.q Bqu,.q Bqv]/\
 K (.agg #[.slice Bqq Bqr Bqs,.q Bqt,.q Bqu,.q Bqv]) w71))))
 (cond (Aw2==[115,116,111,112])
 (Ah w11 ⟨x13,0,none⟩ 1/\∀w72,w72=w11.setCell ⟨x13,0,none⟩ (.q 31)->
 ∀w73,w73=w72.drew->
 ∃(S7:World->Prop),S7 w73/\
 ∃Bqw Bqx Bqy Bqz Bq0 Bq1,(∀u,S7 u->Ae u ⟨x21,0,none⟩ [.slice Bqw Bqx Bqy,.q Bqz,.q Bq0,.q Bq1])/\
 ∃Bq2 Bq3 Bq4 Bq5 Bq6,(∀u,S7 u->Ae u ⟨x13,0,none⟩ [.q Bq2,.s Bq3,.q Bq4,.q Bq5,.q Bq6])/\
 Calls Tryz.prog 71 #[.agg #[.slice Bqw Bqx Bqy,.q Bqz,.q Bq0,.q Bq1],.slice x0 x1 x2,.s [115,116,111,112]] w73 (Ret fun Cao w74=>
 ∃Bq7 Bq8 Bq9 Bra Brb Brc,Cao= .agg #[.slice Bq7 Bq8 Bq9,.q Bra,.q Brb,.q Brc]/\
 S7 w74/\
 Calls Tryz.prog 71 #[.agg #[.slice Bq7 Bq8 Bq9,.q Bra,.q Brb,.q Brc],.slice x0 x1 x2,.s [59]] w74 (Ret fun Caq w75=>
 ∃Brd Bre Brf Brg Brh Bri,Caq= .agg #[.slice Brd Bre Brf,.q Brg,.q Brh,.q Bri]/\
 S7 w75/\
 Calls Tryz.prog 38 #[.agg #[.slice Brd Bre Brf,.q Brg,.q Brh,.q Bri],.agg #[.q Bq2,.s Bq3,.q Bq4,.q Bq5,.q Bq6]] w75 (Ret fun Car w76=>
 ∃Brj Brk Brl Brm Brn Bro,Car= .agg #[.slice Brj Brk Brl,.q Brm,.q Brn,.q Bro]/\
 Ah w76 ⟨x5,0,none⟩ 4/\∀w77,w77=setCells w76 ⟨x5,0,none⟩ [.slice Brj Brk Brl,.q Brm,.q Brn,.q Bro]->
 ∃Brp Brq Brr Brs Brt Bru,Ae w77 ⟨x5,0,none⟩ [.slice Brp Brq Brr,.q Brs,.q Brt,.q Bru]/\
 K (.agg #[.slice Brp Brq Brr,.q Brs,.q Brt,.q Bru]) w77))))
 (cond (Aw2==[119,104,105,108,101])
 (Ah w11 ⟨x13,0,none⟩ 1/\∀w78,w78=w11.setCell ⟨x13,0,none⟩ (.q 24)->
 ∀w79,w79=w78.drew->
 ∃(S8:World->Prop),S8 w79/\
 ∃Brv Brw Brx Bry Brz Br0,(∀u,S8 u->Ae u ⟨x21,0,none⟩ [.slice Brv Brw Brx,.q Bry,.q Brz,.q Br0])/\
 ∃Br1 Br2 Br3 Br4 Br5,(∀u,S8 u->Ae u ⟨x13,0,none⟩ [.q Br1,.s Br2,.q Br3,.q Br4,.q Br5])/\
 Calls Tryz.prog 71 #[.agg #[.slice Brv Brw Brx,.q Bry,.q Brz,.q Br0],.slice x0 x1 x2,.s [119,104,105,108,101]] w79 (Ret fun Cas w80=>
 ∃Br6 Br7 Br8 Br9 Bsa Bsb,Cas= .agg #[.slice Br6 Br7 Br8,.q Br9,.q Bsa,.q Bsb]/\
 S8 w80/\
 Calls Tryz.prog 115 #[.agg #[.slice Br6 Br7 Br8,.q Br9,.q Bsa,.q Bsb],.slice x0 x1 x2] w80 (Ret fun Cat w81=>
 ∃Bsc Bsd Bse Bsf Bsg Bsh,Cat= .agg #[.slice Bsc Bsd Bse,.q Bsf,.q Bsg,.q Bsh]/\
 S8 w81/\
 Calls Tryz.prog 75 #[.agg #[.slice Bsc Bsd Bse,.q Bsf,.q Bsg,.q Bsh],.slice x0 x1 x2,.q (IntKind.i64.wrap (x4+1))] w81 (Ret fun Cau w82=>
 ∃Bsi Bsj Bsk Bsl Bsm Bsn,Cau= .agg #[.slice Bsi Bsj Bsk,.q Bsl,.q Bsm,.q Bsn]/\
 S8 w82/\
 Calls Tryz.prog 38 #[.agg #[.slice Bsi Bsj Bsk,.q Bsl,.q Bsm,.q Bsn],.agg #[.q Br1,.s Br2,.q Br3,.q Br4,.q Br5]] w82 (Ret fun Cav w83=>
 ∃Bso Bsp Bsq Bsr Bss Bst,Cav= .agg #[.slice Bso Bsp Bsq,.q Bsr,.q Bss,.q Bst]/\
 Ah w83 ⟨x5,0,none⟩ 4/\∀w84,w84=setCells w83 ⟨x5,0,none⟩ [.slice Bso Bsp Bsq,.q Bsr,.q Bss,.q Bst]->
 ∃Bsu Bsv Bsw Bsx Bsy Bsz,Ae w84 ⟨x5,0,none⟩ [.slice Bsu Bsv Bsw,.q Bsx,.q Bsy,.q Bsz]/\
 K (.agg #[.slice Bsu Bsv Bsw,.q Bsx,.q Bsy,.q Bsz]) w84)))))
 (cond (Aw2==[105,102])
 (Ah w11 ⟨x13,0,none⟩ 1/\∀w85,w85=w11.setCell ⟨x13,0,none⟩ (.q 23)->
 ∃Bs0 Bs1 Bs2 Bs3 Bs4 Bs5,Ae w85 ⟨x21,0,none⟩ [.slice Bs0 Bs1 Bs2,.q Bs3,.q Bs4,.q Bs5]/\
 Calls Tryz.prog 71 #[.agg #[.slice Bs0 Bs1 Bs2,.q Bs3,.q Bs4,.q Bs5],.slice x0 x1 x2,.s [105,102]] w85 (Ret fun Caw w86=>
 ∃Bs6 Bs7 Bs8 Bs9 Bta Btb,Caw= .agg #[.slice Bs6 Bs7 Bs8,.q Bs9,.q Bta,.q Btb]/\
 Calls Tryz.prog 115 #[.agg #[.slice Bs6 Bs7 Bs8,.q Bs9,.q Bta,.q Btb],.slice x0 x1 x2] w86 (Ret fun Cax w87=>
 ∃Btc Btd Bte Btf Btg Bth,Cax= .agg #[.slice Btc Btd Bte,.q Btf,.q Btg,.q Bth]/\
 Calls Tryz.prog 75 #[.agg #[.slice Btc Btd Bte,.q Btf,.q Btg,.q Bth],.slice x0 x1 x2,.q (IntKind.i64.wrap (x4+1))] w87 (Ret fun Cay w88=>
 ∃Bti Btj Btk Btl Btm Btn,Cay= .agg #[.slice Bti Btj Btk,.q Btl,.q Btm,.q Btn]/\
 Ah w88 ⟨x21,0,none⟩ 4/\∀w89,w89=setCells w88 ⟨x21,0,none⟩ [.slice Bti Btj Btk,.q Btl,.q Btm,.q Btn]->
 ∃(J1:World->Prop),
 (∃(J2:Bool->World->Prop),
 (∃Bto,w89.cell? ⟨x21,3,none⟩=some (.q Bto)/\
 cond (Bto==0)
 (∃Btp,w89.cell? ⟨x21,2,none⟩=some (.q Btp)/\
 Calls Tryz.prog 70 #[.slice x0 x1 x2,.q Btp,.s [101,108,115,101]] w89 (Ret fun Caz w90=>
 ∃Btq,Caz= .bool Btq/\
 J2 Btq w90))
 (J2 false w89))/\
 ∀(_x518:Nat->Value) (Btr:Bool) (w91:World),J2 Btr w91->
 cond (Btr)
 (∃Bts Btt Btu Btv Btw Btx,Ae w91 ⟨x21,0,none⟩ [.slice Bts Btt Btu,.q Btv,.q Btw,.q Btx]/\
 Calls Tryz.prog 71 #[.agg #[.slice Bts Btt Btu,.q Btv,.q Btw,.q Btx],.slice x0 x1 x2,.s [101,108,115,101]] w91 (Ret fun Ca0 w92=>
 ∃Bty Btz Bt0 Bt1 Bt2 Bt3,Ca0= .agg #[.slice Bty Btz Bt0,.q Bt1,.q Bt2,.q Bt3]/\
 Calls Tryz.prog 75 #[.agg #[.slice Bty Btz Bt0,.q Bt1,.q Bt2,.q Bt3],.slice x0 x1 x2,.q (IntKind.i64.wrap (x4+1))] w92 (Ret fun Ca1 w93=>
 ∃Bt4 Bt5 Bt6 Bt7 Bt8 Bt9,Ca1= .agg #[.slice Bt4 Bt5 Bt6,.q Bt7,.q Bt8,.q Bt9]/\
 Ah w93 ⟨x21,0,none⟩ 4/\∀w94,w94=setCells w93 ⟨x21,0,none⟩ [.slice Bt4 Bt5 Bt6,.q Bt7,.q Bt8,.q Bt9]->
 J1 w94)))
 (J1 w91))/\
 ∀(_x540:Nat->Value) (w95:World),J1 w95->
 ∃Bua Bub Buc Bud Bue Buf,Ae w95 ⟨x21,0,none⟩ [.slice Bua Bub Buc,.q Bud,.q Bue,.q Buf]/\
 ∃Bug Buh Bui Buj Buk,Ae w95 ⟨x13,0,none⟩ [.q Bug,.s Buh,.q Bui,.q Buj,.q Buk]/\
 Calls Tryz.prog 38 #[.agg #[.slice Bua Bub Buc,.q Bud,.q Bue,.q Buf],.agg #[.q Bug,.s Buh,.q Bui,.q Buj,.q Buk]] w95 (Ret fun Ca2 w96=>
 ∃Bul Bum Bun Buo Bup Buq,Ca2= .agg #[.slice Bul Bum Bun,.q Buo,.q Bup,.q Buq]/\
 Ah w96 ⟨x5,0,none⟩ 4/\∀w97,w97=setCells w96 ⟨x5,0,none⟩ [.slice Bul Bum Bun,.q Buo,.q Bup,.q Buq]->
 ∃Bur Bus But Buu Buv Buw,Ae w97 ⟨x5,0,none⟩ [.slice Bur Bus But,.q Buu,.q Buv,.q Buw]/\
 K (.agg #[.slice Bur Bus But,.q Buu,.q Buv,.q Buw]) w97)))))
 (cond (Aw2==[115,101,108,101,99,116])
 (Ah w11 ⟨x13,0,none⟩ 1/\∀w98,w98=w11.setCell ⟨x13,0,none⟩ (.q 25)->
 ∃Bux Buy Buz Bu0 Bu1 Bu2,Ae w98 ⟨x21,0,none⟩ [.slice Bux Buy Buz,.q Bu0,.q Bu1,.q Bu2]/\
 Calls Tryz.prog 71 #[.agg #[.slice Bux Buy Buz,.q Bu0,.q Bu1,.q Bu2],.slice x0 x1 x2,.s [115,101,108,101,99,116]] w98 (Ret fun Ca3 w99=>
 ∃Bu3 Bu4 Bu5 Bu6 Bu7 Bu8,Ca3= .agg #[.slice Bu3 Bu4 Bu5,.q Bu6,.q Bu7,.q Bu8]/\
 Calls Tryz.prog 71 #[.agg #[.slice Bu3 Bu4 Bu5,.q Bu6,.q Bu7,.q Bu8],.slice x0 x1 x2,.s [123]] w99 (Ret fun Ca4 Blc=>
 ∃Bu9 Bva Bvb Bvc Bvd Bve,Ca4= .agg #[.slice Bu9 Bva Bvb,.q Bvc,.q Bvd,.q Bve]/\
 Ah Blc ⟨x21,0,none⟩ 4/\∀Bes,Bes=setCells Blc ⟨x21,0,none⟩ [.slice Bu9 Bva Bvb,.q Bvc,.q Bvd,.q Bve]->
 ∃(J3:World->Prop),
 (∃Bvf,Bes.cell? ⟨x21,3,none⟩=some (.q Bvf)/\
 cond (Bvf==0)
 (∀Bch,Bch=Bes.drew->
 ∃(S9:World->Prop),S9 Bch/\
 ∃Bvg Bvh Bvi Bvj Bvk Bvl,(∀u,S9 u->Ae u ⟨x21,0,none⟩ [.slice Bvg Bvh Bvi,.q Bvj,.q Bvk,.q Bvl])/\
 ∃Bvm,(∀u,S9 u->u.cell? ⟨x21,2,none⟩=some (.q Bvm))/\
 Calls Tryz.prog 117 #[.slice x0 x1 x2,.q Bvm,.q x4] Bch (Ret fun Ca5 Bhr=>
 ∃Bvn Bvo Bvp Bvq Bvr Bvs,Ca5= .agg #[.slice Bvn Bvo Bvp,.q Bvq,.q Bvr,.q Bvs]/\
 S9 Bhr/\
 Calls Tryz.prog 36 #[.agg #[.slice Bvg Bvh Bvi,.q Bvj,.q Bvk,.q Bvl],.agg #[.slice Bvn Bvo Bvp,.q Bvq,.q Bvr,.q Bvs]] Bhr (Ret fun Ca6 Bju=>
 ∃Bvt Bvu Bvv Bvw Bvx Bvy,Ca6= .agg #[.slice Bvt Bvu Bvv,.q Bvw,.q Bvx,.q Bvy]/\
 Ah Bju ⟨x21,0,none⟩ 4/\∀Bld,Bld=setCells Bju ⟨x21,0,none⟩ [.slice Bvt Bvu Bvv,.q Bvw,.q Bvx,.q Bvy]->
 J3 Bld)))
 (J3 Bes))/\
 ∀(_x607:Nat->Value) (Ble:World),J3 Ble->
 ∃(I:World->Prop) (Bvz:World->Nat),I Ble/\
 ∀(_x609:Nat->Value) (Ayb:World),I Ayb->
 ∃(J4:Bool->World->Prop),
 (∃Bv0,Ayb.cell? ⟨x21,3,none⟩=some (.q Bv0)/\
 cond (Bv0==0)
 (∃Bv1,Ayb.cell? ⟨x21,2,none⟩=some (.q Bv1)/\
 Calls Tryz.prog 70 #[.slice x0 x1 x2,.q Bv1,.s [125]] Ayb (Ret fun Ca7 Bjv=>
 ∃Bv2,Ca7= .bool Bv2/\
 J4 (!Bv2) Bjv))
 (J4 false Ayb))/\
 ∀(_x614:Nat->Value) (Bv3:Bool) (Bjw:World),J4 Bv3 Bjw->
 cond (Bv3)
 (∀Bet,Bet=Bjw.drew->
 ∃(S10:World->Prop),S10 Bet/\
 ∃Bv4 Bv5 Bv6 Bv7 Bv8 Bv9,(∀u,S10 u->Ae u ⟨x21,0,none⟩ [.slice Bv4 Bv5 Bv6,.q Bv7,.q Bv8,.q Bv9])/\
 ∃Bwa,(∀u,S10 u->u.cell? ⟨x21,2,none⟩=some (.q Bwa))/\
 Calls Tryz.prog 117 #[.slice x0 x1 x2,.q Bwa,.q x4] Bet (Ret fun Ca8 Bjx=>
 ∃Bwb Bwc Bwd Bwe Bwf Bwg,Ca8= .agg #[.slice Bwb Bwc Bwd,.q Bwe,.q Bwf,.q Bwg]/\
 S10 Bjx/\
 Calls Tryz.prog 36 #[.agg #[.slice Bv4 Bv5 Bv6,.q Bv7,.q Bv8,.q Bv9],.agg #[.slice Bwb Bwc Bwd,.q Bwe,.q Bwf,.q Bwg]] Bjx (Ret fun Ca9 Blf=>
 ∃Bwh Bwi Bwj Bwk Bwl Bwm,Ca9= .agg #[.slice Bwh Bwi Bwj,.q Bwk,.q Bwl,.q Bwm]/\
 Ah Blf ⟨x21,0,none⟩ 4/\∀Bhs,Bhs=setCells Blf ⟨x21,0,none⟩ [.slice Bwh Bwi Bwj,.q Bwk,.q Bwl,.q Bwm]->
 I Bhs/\Bvz Bhs<Bvz Ayb)))
 (∀Beu,Beu=Bjw.drew->
 ∃(S11:World->Prop),S11 Beu/\
 ∃Bwn Bwo Bwp Bwq Bwr Bws,(∀u,S11 u->Ae u ⟨x21,0,none⟩ [.slice Bwn Bwo Bwp,.q Bwq,.q Bwr,.q Bws])/\
 ∃Bwt Bwu Bwv Bww Bwx,(∀u,S11 u->Ae u ⟨x13,0,none⟩ [.q Bwt,.s Bwu,.q Bwv,.q Bww,.q Bwx])/\
 Calls Tryz.prog 71 #[.agg #[.slice Bwn Bwo Bwp,.q Bwq,.q Bwr,.q Bws],.slice x0 x1 x2,.s [125]] Beu (Ret fun Cba Bjy=>
 ∃Bwy Bwz Bw0 Bw1 Bw2 Bw3,Cba= .agg #[.slice Bwy Bwz Bw0,.q Bw1,.q Bw2,.q Bw3]/\
 S11 Bjy/\
 Calls Tryz.prog 38 #[.agg #[.slice Bwy Bwz Bw0,.q Bw1,.q Bw2,.q Bw3],.agg #[.q Bwt,.s Bwu,.q Bwv,.q Bww,.q Bwx]] Bjy (Ret fun Cbb Blg=>
 ∃Bw4 Bw5 Bw6 Bw7 Bw8 Bw9,Cbb= .agg #[.slice Bw4 Bw5 Bw6,.q Bw7,.q Bw8,.q Bw9]/\
 Ah Blg ⟨x5,0,none⟩ 4/\∀Bjz,Bjz=setCells Blg ⟨x5,0,none⟩ [.slice Bw4 Bw5 Bw6,.q Bw7,.q Bw8,.q Bw9]->
 ∃Bxa Bxb Bxc Bxd Bxe Bxf,Ae Bjz ⟨x5,0,none⟩ [.slice Bxa Bxb Bxc,.q Bxd,.q Bxe,.q Bxf]/\
 K (.agg #[.slice Bxa Bxb Bxc,.q Bxd,.q Bxe,.q Bxf]) Bjz))))))
 (Ah w11 ⟨x21,3,none⟩ 1/\∀Bht,Bht=w11.setCell ⟨x21,3,none⟩ (.q 11)->
 ∃Bxg Bxh Bxi Bxj Bxk Bxl,Ae Bht ⟨x21,0,none⟩ [.slice Bxg Bxh Bxi,.q Bxj,.q Bxk,.q Bxl]/\
 Ah Bht ⟨x5,0,none⟩ 4/\∀Bj0,Bj0=setCells Bht ⟨x5,0,none⟩ [.slice Bxg Bxh Bxi,.q Bxj,.q Bxk,.q Bxl]->
 ∃Bxm Bxn Bxo Bxp Bxq Bxr,Ae Bj0 ⟨x5,0,none⟩ [.slice Bxm Bxn Bxo,.q Bxp,.q Bxq,.q Bxr]/\
 K (.agg #[.slice Bxm Bxn Bxo,.q Bxp,.q Bxq,.q Bxr]) Bj0)))))))))))))))
theorem Aft (x0:Option Addr) (x1:Nat) (x2:Nat) (x3:Int) (x4:Int) (K:Value->World->Prop) (w:World) (h:Afs x0 x1 x2 x3 x4 K w):Calls Tryz.prog 105 #[.slice x0 x1 x2,.q x3,.q x4] w (Ret K):=
 Ao { loops:=[(68551704540,[])],Aww:=[(62,[(26,.bool)]),(2142240763,[]),(4284481526,[(185,.bool)]),(8568963067,[]),(274206818160,[(223,.bool)])] } Tryz.func105 (by kernel_rfl) h
end Go.Proofs.YtcakelelfklhdaaGreatDoor
namespace Go.Proofs.YtcakelelfklhdaaGreatDoor
open Go.Vc
def Afu (x0:Option Addr) (x1:Nat) (x2:Nat) (x3:Int) (K:Value->World->Prop) (w:World):Prop:=
 ∀x4 w1,x4=w.heap.size->w1=w.alloc (.cells #[.slice none 0 0,.q 0,.q 0,.q 0] 82)->
 Calls Tryz.prog 35 #[.slice x0 x1 x2,.q x3] w1 (Ret fun x5 w2=>
 ∃x6 x7 x8 x9,x5= .agg #[.q x6,.s x7,.q x8,.q x9]/\
 ∀x10 w3,x10=w2.heap.size->w3=w2.alloc (.cells #[.q 0,.s [],.q 0,.q 0,.q 0] 59)->
 Ah w3 ⟨x10,0,none⟩ 5/\∀w4,w4=setCells w3 ⟨x10,0,none⟩ [.q 0,.s [],.q 0,.q 0,.q x9]->
 Calls Tryz.prog 70 #[.slice x0 x1 x2,.q x3,.s [99,104,97,110]] w4 (Ret fun x11 w5=>
 ∃x12,x11= .bool x12/\
 cond (x12)
 (Ah w5 ⟨x10,0,none⟩ 1/\∀w6,w6=w5.setCell ⟨x10,0,none⟩ (.q 38)->
 Calls Tryz.prog 34 #[.q x3] w6 (Ret fun x13 w7=>
 ∃x14 x15 x16 x17 x18 x19,x13= .agg #[.slice x14 x15 x16,.q x17,.q x18,.q x19]/\
 Calls Tryz.prog 71 #[.agg #[.slice x14 x15 x16,.q x17,.q x18,.q x19],.slice x0 x1 x2,.s [99,104,97,110]] w7 (Ret fun x20 w8=>
 ∃x21 x22 x23 x24 x25 x26,x20= .agg #[.slice x21 x22 x23,.q x24,.q x25,.q x26]/\
 Calls Tryz.prog 72 #[.agg #[.slice x21 x22 x23,.q x24,.q x25,.q x26],.slice x0 x1 x2] w8 (Ret fun x27 w9=>
 ∃x28 x29 x30 x31 x32 x33 x34,x27= .tuple #[.agg #[.slice x28 x29 x30,.q x31,.q x32,.q x33],.s x34]/\
 ∀x35 w10,x35=w9.heap.size->w10=w9.alloc (.cells #[.slice none 0 0,.q 0,.q 0,.q 0] 82)->
 Ah w10 ⟨x35,0,none⟩ 4/\∀w11,w11=setCells w10 ⟨x35,0,none⟩ [.slice x28 x29 x30,.q x31,.q x32,.q x33]->
 Ah w11 ⟨x10,1,none⟩ 1/\∀w12,w12=w11.setCell ⟨x10,1,none⟩ (.s x34)->
 ∃(J:World->Prop),
 (∃(J1:Bool->World->Prop),
 (∃x36,w12.cell? ⟨x35,3,none⟩=some (.q x36)/\
 cond (x36==0)
 (∃x37,w12.cell? ⟨x35,2,none⟩=some (.q x37)/\
 Calls Tryz.prog 70 #[.slice x0 x1 x2,.q x37,.s [91]] w12 (Ret fun x38 w13=>
 ∃x39,x38= .bool x39/\
 J1 x39 w13))
 (J1 false w12))/\
 ∀(_x40:Nat->Value) (x41:Bool) (w14:World),J1 x41 w14->
 cond (x41)
 (∃x42 x43 x44 x45 x46 x47,Ae w14 ⟨x35,0,none⟩ [.slice x42 x43 x44,.q x45,.q x46,.q x47]/\
 Calls Tryz.prog 71 #[.agg #[.slice x42 x43 x44,.q x45,.q x46,.q x47],.slice x0 x1 x2,.s [91]] w14 (Ret fun x48 w15=>
 ∃x49 x50 x51 x52 x53 x54,x48= .agg #[.slice x49 x50 x51,.q x52,.q x53,.q x54]/\
 Calls Tryz.prog 73 #[.agg #[.slice x49 x50 x51,.q x52,.q x53,.q x54],.slice x0 x1 x2] w15 (Ret fun x55 w16=>
 ∃x56 x57 x58 x59 x60 x61 x62,x55= .tuple #[.agg #[.slice x56 x57 x58,.q x59,.q x60,.q x61],.q x62]/\
 Ah w16 ⟨x35,0,none⟩ 4/\∀w17,w17=setCells w16 ⟨x35,0,none⟩ [.slice x56 x57 x58,.q x59,.q x60,.q x61]->
 Ah w17 ⟨x10,2,none⟩ 1/\∀w18,w18=w17.setCell ⟨x10,2,none⟩ (.q x62)->
 ∃x63 x64 x65 x66 x67 x68,Ae w18 ⟨x35,0,none⟩ [.slice x63 x64 x65,.q x66,.q x67,.q x68]/\
 Calls Tryz.prog 71 #[.agg #[.slice x63 x64 x65,.q x66,.q x67,.q x68],.slice x0 x1 x2,.s [93]] w18 (Ret fun x69 w19=>
 ∃x70 x71 x72 x73 x74 x75,x69= .agg #[.slice x70 x71 x72,.q x73,.q x74,.q x75]/\
 Ah w19 ⟨x35,0,none⟩ 4/\∀w20,w20=setCells w19 ⟨x35,0,none⟩ [.slice x70 x71 x72,.q x73,.q x74,.q x75]->
 J w20))))
 (J w14))/\
 ∀(_x76:Nat->Value) (w21:World),J w21->
 ∀w22,w22=w21.drew->
 ∃(S:World->Prop),S w22/\
 ∃x77 x78 x79 x80 x81 x82,(∀u,S u->Ae u ⟨x35,0,none⟩ [.slice x77 x78 x79,.q x80,.q x81,.q x82])/\
 ∃x83 x84 x85 x86 x87,(∀u,S u->Ae u ⟨x10,0,none⟩ [.q x83,.s x84,.q x85,.q x86,.q x87])/\
 Calls Tryz.prog 71 #[.agg #[.slice x77 x78 x79,.q x80,.q x81,.q x82],.slice x0 x1 x2,.s [59]] w22 (Ret fun x88 w23=>
 ∃x89 x90 x91 x92 x93 x94,x88= .agg #[.slice x89 x90 x91,.q x92,.q x93,.q x94]/\
 S w23/\
 Calls Tryz.prog 38 #[.agg #[.slice x89 x90 x91,.q x92,.q x93,.q x94],.agg #[.q x83,.s x84,.q x85,.q x86,.q x87]] w23 (Ret fun x95 w24=>
 ∃x96 x97 x98 x99 Axb Axn,x95= .agg #[.slice x96 x97 x98,.q x99,.q Axb,.q Axn]/\
 Ah w24 ⟨x4,0,none⟩ 4/\∀w25,w25=setCells w24 ⟨x4,0,none⟩ [.slice x96 x97 x98,.q x99,.q Axb,.q Axn]->
 ∃Axq Axc Axt Aw2 Axo Axr,Ae w25 ⟨x4,0,none⟩ [.slice Axq Axc Axt,.q Aw2,.q Axo,.q Axr]/\
 K (.agg #[.slice Axq Axc Axt,.q Aw2,.q Axo,.q Axr]) w25))))))
 (Calls Tryz.prog 70 #[.slice x0 x1 x2,.q x3,.s [112,114,111,99]] w5 (Ret fun Axj w26=>
 ∃Axp,Axj= .bool Axp/\
 cond (Axp)
 (Ah w26 ⟨x10,0,none⟩ 1/\∀w27,w27=w26.setCell ⟨x10,0,none⟩ (.q 40)->
 Calls Tryz.prog 34 #[.q x3] w27 (Ret fun Ayr w28=>
 ∃Axx Ax5 Ay0 Ays Ax9 Ayf,Ayr= .agg #[.slice Axx Ax5 Ay0,.q Ays,.q Ax9,.q Ayf]/\
 Calls Tryz.prog 71 #[.agg #[.slice Axx Ax5 Ay0,.q Ays,.q Ax9,.q Ayf],.slice x0 x1 x2,.s [112,114,111,99]] w28 (Ret fun Ayg w29=>
 ∃Ayh Azj Ayi Ayj Ayk Aya,Ayg= .agg #[.slice Ayh Azj Ayi,.q Ayj,.q Ayk,.q Aya]/\
 Calls Tryz.prog 72 #[.agg #[.slice Ayh Azj Ayi,.q Ayj,.q Ayk,.q Aya],.slice x0 x1 x2] w29 (Ret fun Ayl w30=>
 ∃Az8 Azi Az5 Bap Az6 Az7 Bbp,Ayl= .tuple #[.agg #[.slice Az8 Azi Az5,.q Bap,.q Az6,.q Az7],.s Bbp]/\
 ∀Axd w31,Axd=w30.heap.size->w31=w30.alloc (.cells #[.slice none 0 0,.q 0,.q 0,.q 0] 82)->
 Ah w31 ⟨Axd,0,none⟩ 4/\∀w32,w32=setCells w31 ⟨Axd,0,none⟩ [.slice Az8 Azi Az5,.q Bap,.q Az6,.q Az7]->
 Ah w32 ⟨x10,1,none⟩ 1/\∀w33,w33=w32.setCell ⟨x10,1,none⟩ (.s Bbp)->
 ∃Bbq Baq Bbr Bbs Bbt Bda,Ae w33 ⟨Axd,0,none⟩ [.slice Bbq Baq Bbr,.q Bbs,.q Bbt,.q Bda]/\
 Calls Tryz.prog 71 #[.agg #[.slice Bbq Baq Bbr,.q Bbs,.q Bbt,.q Bda],.slice x0 x1 x2,.s [40]] w33 (Ret fun Bdb w34=>
 ∃Bbu Bbv Bbw Bfl Bbx Bdc,Bdb= .agg #[.slice Bbu Bbv Bbw,.q Bfl,.q Bbx,.q Bdc]/\
 Ah w34 ⟨Axd,0,none⟩ 4/\∀w35,w35=setCells w34 ⟨Axd,0,none⟩ [.slice Bbu Bbv Bbw,.q Bfl,.q Bbx,.q Bdc]->
 ∃(J2:World->Prop),
 (∃(J3:Bool->World->Prop),
 (∃Bby,w35.cell? ⟨Axd,3,none⟩=some (.q Bby)/\
 cond (Bby==0)
 (∃Bbz,w35.cell? ⟨Axd,2,none⟩=some (.q Bbz)/\
 Calls Tryz.prog 70 #[.slice x0 x1 x2,.q Bbz,.s [41]] w35 (Ret fun Bdd w36=>
 ∃Bb0,Bdd= .bool Bb0/\
 J3 (!Bb0) w36))
 (J3 false w35))/\
 ∀(_x150:Nat->Value) (Bb1:Bool) (w37:World),J3 Bb1 w37->
 cond (Bb1)
 (∃Bde Bb2 Bb3 Bdf Bb4 Bb5,Ae w37 ⟨Axd,0,none⟩ [.slice Bde Bb2 Bb3,.q Bdf,.q Bb4,.q Bb5]/\
 Calls Tryz.prog 74 #[.agg #[.slice Bde Bb2 Bb3,.q Bdf,.q Bb4,.q Bb5],.slice x0 x1 x2] w37 (Ret fun Bdg w38=>
 ∃Bdh Bb6 Bb7 Bdi Bb8 Bb9,Bdg= .agg #[.slice Bdh Bb6 Bb7,.q Bdi,.q Bb8,.q Bb9]/\
 Ah w38 ⟨Axd,0,none⟩ 4/\∀w39,w39=setCells w38 ⟨Axd,0,none⟩ [.slice Bdh Bb6 Bb7,.q Bdi,.q Bb8,.q Bb9]->
 ∃(I:World->Prop) (Bca:World->Nat),I w39/\
 ∀(_x166:Nat->Value) (w40:World),I w40->
 ∃(J4:Bool->World->Prop),
 (∃Bcb,w40.cell? ⟨Axd,3,none⟩=some (.q Bcb)/\
 cond (Bcb==0)
 (∃Bcc,w40.cell? ⟨Axd,2,none⟩=some (.q Bcc)/\
 Calls Tryz.prog 70 #[.slice x0 x1 x2,.q Bcc,.s [44]] w40 (Ret fun Bdj w41=>
 ∃Bcd,Bdj= .bool Bcd/\
 J4 Bcd w41))
 (J4 false w40))/\
 ∀(_x171:Nat->Value) (Bce:Bool) (w42:World),J4 Bce w42->
 cond (Bce)
 (∃Bcf Bcg Bfm Bfn Bfo Bjc,Ae w42 ⟨Axd,0,none⟩ [.slice Bcf Bcg Bfm,.q Bfn,.q Bfo,.q Bjc]/\
 Calls Tryz.prog 71 #[.agg #[.slice Bcf Bcg Bfm,.q Bfn,.q Bfo,.q Bjc],.slice x0 x1 x2,.s [44]] w42 (Ret fun Bjd w43=>
 ∃Bfp Bfq Bfr Bfs Bft Bje,Bjd= .agg #[.slice Bfp Bfq Bfr,.q Bfs,.q Bft,.q Bje]/\
 Calls Tryz.prog 74 #[.agg #[.slice Bfp Bfq Bfr,.q Bfs,.q Bft,.q Bje],.slice x0 x1 x2] w43 (Ret fun Bjf w44=>
 ∃Bfu Bfv Bfw Bfx Bfy Bfz,Bjf= .agg #[.slice Bfu Bfv Bfw,.q Bfx,.q Bfy,.q Bfz]/\
 Ah w44 ⟨Axd,0,none⟩ 4/\∀w45,w45=setCells w44 ⟨Axd,0,none⟩ [.slice Bfu Bfv Bfw,.q Bfx,.q Bfy,.q Bfz]->
 I w45/\Bca w45<Bca w40)))
 (J2 w42)))
 (J2 w37))/\
 ∀(_x193:Nat->Value) (w46:World),J2 w46->
 ∀w47,w47=w46.drew->
 ∃(S1:World->Prop),S1 w47/\
 ∃Bf0 Bf1 Bf2 Bf3 Bf4 Bf5,(∀u,S1 u->Ae u ⟨Axd,0,none⟩ [.slice Bf0 Bf1 Bf2,.q Bf3,.q Bf4,.q Bf5])/\
 ∃Bf6 Bf7 Bf8 Bf9 Bjg,(∀u,S1 u->Ae u ⟨x10,0,none⟩ [.q Bf6,.s Bf7,.q Bf8,.q Bf9,.q Bjg])/\
 Calls Tryz.prog 71 #[.agg #[.slice Bf0 Bf1 Bf2,.q Bf3,.q Bf4,.q Bf5],.slice x0 x1 x2,.s [41]] w47 (Ret fun Bjh w48=>
 ∃Bga Bgb Bgc Bgd Bge Bji,Bjh= .agg #[.slice Bga Bgb Bgc,.q Bgd,.q Bge,.q Bji]/\
 S1 w48/\
 Calls Tryz.prog 75 #[.agg #[.slice Bga Bgb Bgc,.q Bgd,.q Bge,.q Bji],.slice x0 x1 x2,.q 1] w48 (Ret fun Bjj w49=>
 ∃Bgf Bgg Bgh Bgi Bgj Bjk,Bjj= .agg #[.slice Bgf Bgg Bgh,.q Bgi,.q Bgj,.q Bjk]/\
 S1 w49/\
 Calls Tryz.prog 38 #[.agg #[.slice Bgf Bgg Bgh,.q Bgi,.q Bgj,.q Bjk],.agg #[.q Bf6,.s Bf7,.q Bf8,.q Bf9,.q Bjg]] w49 (Ret fun Bjl w50=>
 ∃Bgk Bgl Bgm Bgn Bgo Bgp,Bjl= .agg #[.slice Bgk Bgl Bgm,.q Bgn,.q Bgo,.q Bgp]/\
 Ah w50 ⟨x4,0,none⟩ 4/\∀w51,w51=setCells w50 ⟨x4,0,none⟩ [.slice Bgk Bgl Bgm,.q Bgn,.q Bgo,.q Bgp]->
 ∃Bgq Bgr Bgs Bgt Bgu Bgv,Ae w51 ⟨x4,0,none⟩ [.slice Bgq Bgr Bgs,.q Bgt,.q Bgu,.q Bgv]/\
 K (.agg #[.slice Bgq Bgr Bgs,.q Bgt,.q Bgu,.q Bgv]) w51))))))))
 (Ah w26 ⟨x10,0,none⟩ 1/\∀w52,w52=w26.setCell ⟨x10,0,none⟩ (.q 41)->
 ∀w53,w53=w52.drew->
 ∃(S2:World->Prop),S2 w53/\
 ∃Bgw Bgx Bgy Bgz Bg0,(∀u,S2 u->Ae u ⟨x10,0,none⟩ [.q Bgw,.s Bgx,.q Bgy,.q Bgz,.q Bg0])/\
 Calls Tryz.prog 34 #[.q x3] w53 (Ret fun Bjm w54=>
 ∃Bg1 Bg2 Bg3 Bg4 Bjn Bg5,Bjm= .agg #[.slice Bg1 Bg2 Bg3,.q Bg4,.q Bjn,.q Bg5]/\
 S2 w54/\
 Calls Tryz.prog 71 #[.agg #[.slice Bg1 Bg2 Bg3,.q Bg4,.q Bjn,.q Bg5],.slice x0 x1 x2,.s [109,97,105,110]] w54 (Ret fun Bjo w55=>
 ∃Bg6 Bg7 Bg8 Bg9 Bjp Bha,Bjo= .agg #[.slice Bg6 Bg7 Bg8,.q Bg9,.q Bjp,.q Bha]/\
 S2 w55/\
 Calls Tryz.prog 75 #[.agg #[.slice Bg6 Bg7 Bg8,.q Bg9,.q Bjp,.q Bha],.slice x0 x1 x2,.q 1] w55 (Ret fun Bjq w56=>
 ∃Bhb Bhc Bhd Bhe Bjr Bhf,Bjq= .agg #[.slice Bhb Bhc Bhd,.q Bhe,.q Bjr,.q Bhf]/\
 S2 w56/\
 Calls Tryz.prog 38 #[.agg #[.slice Bhb Bhc Bhd,.q Bhe,.q Bjr,.q Bhf],.agg #[.q Bgw,.s Bgx,.q Bgy,.q Bgz,.q Bg0]] w56 (Ret fun Bjs w57=>
 ∃Bhg Bhh Bhi Bhj Bjt Bhk,Bjs= .agg #[.slice Bhg Bhh Bhi,.q Bhj,.q Bjt,.q Bhk]/\
 Ah w57 ⟨x4,0,none⟩ 4/\∀w58,w58=setCells w57 ⟨x4,0,none⟩ [.slice Bhg Bhh Bhi,.q Bhj,.q Bjt,.q Bhk]->
 ∃Bhl Bhm Bhn Bho Bhp Bhq,Ae w58 ⟨x4,0,none⟩ [.slice Bhl Bhm Bhn,.q Bho,.q Bhp,.q Bhq]/\
 K (.agg #[.slice Bhl Bhm Bhn,.q Bho,.q Bhp,.q Bhq]) w58)))))))))
theorem Afv (x0:Option Addr) (x1:Nat) (x2:Nat) (x3:Int) (K:Value->World->Prop) (w:World) (h:Afu x0 x1 x2 x3 K w):Calls Tryz.prog 37 #[.slice x0 x1 x2,.q x3] w (Ret K):=
 Ao { loops:=[(62954,[])],Aww:=[(471,[]),(942,[(38,.bool)]),(1967,[]),(3934,[(83,.bool)]),(251816,[(95,.bool)])] } Tryz.func37 (by kernel_rfl) h
def Afw (x0:Option Addr) (x1:Nat) (x2:Nat) (K:Value->World->Prop) (w:World):Prop:=
 ∀x3 w1,x3=w.heap.size->w1=w.alloc (.cells #[.slice none 0 0,.q 0,.q 0] 29)->
 Calls Tryz.prog 34 #[.q 0] w1 (Ret fun x4 w2=>
 ∃x5 x6 x7 x8 x9 x10,x4= .agg #[.slice x5 x6 x7,.q x8,.q x9,.q x10]/\
 ∀x11 w3,x11=w2.heap.size->w3=w2.alloc (.cells #[.slice none 0 0,.q 0,.q 0,.q 0] 82)->
 Ah w3 ⟨x11,0,none⟩ 4/\∀w4,w4=setCells w3 ⟨x11,0,none⟩ [.slice x5 x6 x7,.q x8,.q x9,.q x10]->
 ∃(I:World->Prop) (x12:World->Nat),I w4/\
 ∀(_x13:Nat->Value) (w5:World),I w5->
 ∃(J:Bool->World->Prop),
 (∃x14,w5.cell? ⟨x11,3,none⟩=some (.q x14)/\
 cond (x14==0)
 (∃x15,w5.cell? ⟨x11,2,none⟩=some (.q x15)/\
 Calls Tryz.prog 35 #[.slice x0 x1 x2,.q x15] w5 (Ret fun x16 w6=>
 ∃x17 x18 x19 x20,x16= .agg #[.q x17,.s x18,.q x19,.q x20]/\
 J (x17 !=0) w6))
 (J false w5))/\
 ∀(_x21:Nat->Value) (x22:Bool) (w7:World),J x22 w7->
 cond (x22)
 (∀w8,w8=w7.drew->
 ∃(S:World->Prop),S w8/\
 ∃x23 x24 x25 x26 x27 x28,(∀u,S u->Ae u ⟨x11,0,none⟩ [.slice x23 x24 x25,.q x26,.q x27,.q x28])/\
 ∃x29,(∀u,S u->u.cell? ⟨x11,2,none⟩=some (.q x29))/\
 Calls Tryz.prog 37 #[.slice x0 x1 x2,.q x29] w8 (Ret fun x30 w9=>
 ∃x31 x32 x33 x34 x35 x36,x30= .agg #[.slice x31 x32 x33,.q x34,.q x35,.q x36]/\
 S w9/\
 Calls Tryz.prog 36 #[.agg #[.slice x23 x24 x25,.q x26,.q x27,.q x28],.agg #[.slice x31 x32 x33,.q x34,.q x35,.q x36]] w9 (Ret fun x37 w10=>
 ∃x38 x39 x40 x41 x42 x43,x37= .agg #[.slice x38 x39 x40,.q x41,.q x42,.q x43]/\
 Ah w10 ⟨x11,0,none⟩ 4/\∀w11,w11=setCells w10 ⟨x11,0,none⟩ [.slice x38 x39 x40,.q x41,.q x42,.q x43]->
 I w11/\x12 w11<x12 w5)))
 (∃x44,w7.cell? ⟨x11,3,none⟩=some (.q x44)/\
 cond (x44 !=0)
 (∃x45,w7.cell? ⟨x11,2,none⟩=some (.q x45)/\
 ∃x46,w7.cell? ⟨x11,3,none⟩=some (.q x46)/\
 Ah w7 ⟨x3,0,none⟩ 3/\∀w12,w12=setCells w7 ⟨x3,0,none⟩ [.slice none 0 0,.q x45,.q x46]->
 ∃x47 x48 x49 x50 x51,Ae w12 ⟨x3,0,none⟩ [.slice x47 x48 x49,.q x50,.q x51]/\
 K (.agg #[.slice x47 x48 x49,.q x50,.q x51]) w12)
 (∃x52 x53 x54 x55 x56 x57,Ae w7 ⟨x11,0,none⟩ [.slice x52 x53 x54,.q x55,.q x56,.q x57]/\
 Calls Tryz.prog 38 #[.agg #[.slice x52 x53 x54,.q x55,.q x56,.q x57],.agg #[.q 42,.s [],.q 0,.q 0,.q 0]] w7 (Ret fun x58 w13=>
 ∃x59 x60 x61 x62 x63 x64,x58= .agg #[.slice x59 x60 x61,.q x62,.q x63,.q x64]/\
 Ah w13 ⟨x3,0,none⟩ 3/\∀w14,w14=setCells w13 ⟨x3,0,none⟩ [.slice x59 x60 x61,.q 0,.q 0]->
 ∃x65 x66 x67 x68 x69,Ae w14 ⟨x3,0,none⟩ [.slice x65 x66 x67,.q x68,.q x69]/\
 K (.agg #[.slice x65 x66 x67,.q x68,.q x69]) w14))))
theorem Afx (x0:Option Addr) (x1:Nat) (x2:Nat) (K:Value->World->Prop) (w:World) (h:Afw x0 x1 x2 K w):Calls Tryz.prog 18 #[.slice x0 x1 x2] w (Ret K):=
 Ao { loops:=[(28,[])],Aww:=[(112,[(15,.bool)])] } Tryz.func18 (by kernel_rfl) h
def Afy (x0:List UInt8) (K:Value->World->Prop) (w:World):Prop:=
 ∀x1 w1,x1=w.heap.size->w1=w.alloc (.cells #[.slice none 0 0,.q 0,.q 0] 29)->
 Calls Tryz.prog 17 #[.s x0] w1 (Ret fun x2 w2=>
 ∃x3 x4 x5 x6 x7,x2= .agg #[.slice x3 x4 x5,.q x6,.q x7]/\
 ∀x8 w3,x8=w2.heap.size->w3=w2.alloc (.cells #[.slice none 0 0,.q 0,.q 0] 53)->
 Ah w3 ⟨x8,0,none⟩ 3/\∀w4,w4=setCells w3 ⟨x8,0,none⟩ [.slice x3 x4 x5,.q x6,.q x7]->
 ∃x9,w4.cell? ⟨x8,2,none⟩=some (.q x9)/\
 cond (x9 !=0)
 (∃x10,w4.cell? ⟨x8,1,none⟩=some (.q x10)/\
 ∃x11,w4.cell? ⟨x8,2,none⟩=some (.q x11)/\
 Ah w4 ⟨x1,0,none⟩ 3/\∀w5,w5=setCells w4 ⟨x1,0,none⟩ [.slice none 0 0,.q x10,.q x11]->
 ∃x12 x13 x14 x15 x16,Ae w5 ⟨x1,0,none⟩ [.slice x12 x13 x14,.q x15,.q x16]/\
 K (.agg #[.slice x12 x13 x14,.q x15,.q x16]) w5)
 (∃x17 x18 x19,w4.cell? ⟨x8,0,none⟩=some (.slice x17 x18 x19)/\
 Calls Tryz.prog 18 #[.slice x17 x18 x19] w4 (Ret fun x20 w6=>
 ∃x21 x22 x23 x24 x25,x20= .agg #[.slice x21 x22 x23,.q x24,.q x25]/\
 ∀x26 w7,x26=w6.heap.size->w7=w6.alloc (.cells #[.slice none 0 0,.q 0,.q 0] 29)->
 Ah w7 ⟨x26,0,none⟩ 3/\∀w8,w8=setCells w7 ⟨x26,0,none⟩ [.slice x21 x22 x23,.q x24,.q x25]->
 ∃(J:World->Prop),
 (∃x27,w8.cell? ⟨x26,2,none⟩=some (.q x27)/\
 cond (x27 !=0)
 (∃x28 x29 x30,w8.cell? ⟨x8,0,none⟩=some (.slice x28 x29 x30)/\
 ∃x31,w8.cell? ⟨x26,1,none⟩=some (.q x31)/\
 ∃x32 x33 x34,w8.cell? ⟨x8,0,none⟩=some (.slice x32 x33 x34)/\
 ((0:Int)<=(if(IntKind.i64.wrap ((x33:Int)-1))<x31 then IntKind.i64.wrap ((x33:Int)-1)else x31)/\(if(IntKind.i64.wrap ((x33:Int)-1))<x31 then IntKind.i64.wrap ((x33:Int)-1)else x31)<(x29:Int))/\
 A3 x28 (fun x35=>
 ∃x36,w8.cell? ((x35.add ((if(IntKind.i64.wrap ((x33:Int)-1))<x31 then IntKind.i64.wrap ((x33:Int)-1)else x31).toNat*4)).add 3)=some (.q x36)/\
 Ah w8 ⟨x26,1,none⟩ 1/\∀w9,w9=w8.setCell ⟨x26,1,none⟩ (.q x36)->
 J w9))
 (J w8))/\
 ∀(_x37:Nat->Value) (w10:World),J w10->
 ∃x38 x39 x40 x41 x42,Ae w10 ⟨x26,0,none⟩ [.slice x38 x39 x40,.q x41,.q x42]/\
 Ah w10 ⟨x1,0,none⟩ 3/\∀w11,w11=setCells w10 ⟨x1,0,none⟩ [.slice x38 x39 x40,.q x41,.q x42]->
 ∃x43 x44 x45 x46 x47,Ae w11 ⟨x1,0,none⟩ [.slice x43 x44 x45,.q x46,.q x47]/\
 K (.agg #[.slice x43 x44 x45,.q x46,.q x47]) w11)))
theorem Afz (x0:List UInt8) (K:Value->World->Prop) (w:World) (h:Afy x0 K w):Calls Tryz.prog 8 #[.s x0] w (Ret K):=
 Ao { Aww:=[(31,[])] } Tryz.func8 (by kernel_rfl) h
def Yl (x0:Option Addr) (x1:Nat) (x2:Nat) (x3:Int) (x4:Int) (x5:Int) (x6:Option Addr) (x7:Nat) (x8:Nat) (x9:List UInt8) (K:Value->World->Prop) (w:World):Prop:=
 ∀x10 w1,x10=w.heap.size->w1=w.alloc (.cells #[.slice x0 x1 x2,.q x3,.q x4,.q x5] 82)->
 ∀x11 w2,x11=w1.heap.size->w2=w1.alloc (.cells #[.slice none 0 0,.q 0,.q 0,.q 0] 82)->
 ∃(J:World->Prop),
 (∃(J1:Bool->World->Prop),
 (∃x12,w2.cell? ⟨x10,3,none⟩=some (.q x12)/\
 cond (x12==0)
 (∃x13,w2.cell? ⟨x10,2,none⟩=some (.q x13)/\
 Calls Tryz.prog 70 #[.slice x6 x7 x8,.q x13,.s x9] w2 (Ret fun x14 w3=>
 ∃x15,x14= .bool x15/\
 J1 (!x15) w3))
 (J1 false w2))/\
 ∀(_x16:Nat->Value) (x17:Bool) (w4:World),J1 x17 w4->
 cond (x17)
 (Ah w4 ⟨x10,3,none⟩ 1/\∀w5,w5=w4.setCell ⟨x10,3,none⟩ (.q 11)->
 J w5)
 (J w4))/\
 ∀(_x18:Nat->Value) (w6:World),J w6->
 ∃(J2:World->Prop),
 (∃x19,w6.cell? ⟨x10,3,none⟩=some (.q x19)/\
 cond (x19==0)
 (∃x20,w6.cell? ⟨x10,2,none⟩=some (.q x20)/\
 Ah w6 ⟨x10,2,none⟩ 1/\∀w7,w7=w6.setCell ⟨x10,2,none⟩ (.q (IntKind.i64.wrap (x20+1)))->
 J2 w7)
 (J2 w6))/\
 ∀(_x21:Nat->Value) (w8:World),J2 w8->
 ∃x22 x23 x24 x25 x26 x27,Ae w8 ⟨x10,0,none⟩ [.slice x22 x23 x24,.q x25,.q x26,.q x27]/\
 Ah w8 ⟨x11,0,none⟩ 4/\∀w9,w9=setCells w8 ⟨x11,0,none⟩ [.slice x22 x23 x24,.q x25,.q x26,.q x27]->
 ∃x28 x29 x30 x31 x32 x33,Ae w9 ⟨x11,0,none⟩ [.slice x28 x29 x30,.q x31,.q x32,.q x33]/\
 K (.agg #[.slice x28 x29 x30,.q x31,.q x32,.q x33]) w9
theorem Ym (x0:Option Addr) (x1:Nat) (x2:Nat) (x3:Int) (x4:Int) (x5:Int) (x6:Option Addr) (x7:Nat) (x8:Nat) (x9:List UInt8) (K:Value->World->Prop) (w:World) (h:Yl x0 x1 x2 x3 x4 x5 x6 x7 x8 x9 K w):Calls Tryz.prog 71 #[.agg #[.slice x0 x1 x2,.q x3,.q x4,.q x5],.slice x6 x7 x8,.s x9] w (Ret K):=
 Ao { Aww:=[(3,[]),(6,[(17,.bool)]),(7,[])] } Tryz.func71 (by kernel_rfl) h
def Yn (x0:Option Addr) (x1:Nat) (x2:Nat) (x3:Int) (x4:Int) (x5:Int) (x6:Option Addr) (x7:Nat) (x8:Nat) (x9:Int) (x10:Int) (x11:Int) (K:Value->World->Prop) (w:World):Prop:=
 ∀x12 w1,x12=w.heap.size->w1=w.alloc (.cells #[.slice x0 x1 x2,.q x3,.q x4,.q x5] 82)->
 ∀x13 w2,x13=w1.heap.size->w2=w1.alloc (.cells #[.slice x6 x7 x8,.q x9,.q x10,.q x11] 82)->
 ∀x14 w3,x14=w2.heap.size->w3=w2.alloc (.cells #[.slice none 0 0,.q 0,.q 0,.q 0] 82)->
 ∃x15,w3.cell? ⟨x12,3,none⟩=some (.q x15)/\
 cond (x15 !=0)
 (∃x16 x17 x18 x19 x20 x21,Ae w3 ⟨x12,0,none⟩ [.slice x16 x17 x18,.q x19,.q x20,.q x21]/\
 Ah w3 ⟨x14,0,none⟩ 4/\∀w4,w4=setCells w3 ⟨x14,0,none⟩ [.slice x16 x17 x18,.q x19,.q x20,.q x21]->
 ∃x22 x23 x24 x25 x26 x27,Ae w4 ⟨x14,0,none⟩ [.slice x22 x23 x24,.q x25,.q x26,.q x27]/\
 K (.agg #[.slice x22 x23 x24,.q x25,.q x26,.q x27]) w4)
 (∀w5,w5=w3.drew->
 ∃(S:World->Prop),S w5/\
 ∃x28 x29 x30,(∀u,S u->u.cell? ⟨x12,0,none⟩=some (.slice x28 x29 x30))/\
 ∃x31 x32 x33,(∀u,S u->u.cell? ⟨x13,0,none⟩=some (.slice x31 x32 x33))/\
 ∃x34,(∀u,S u->u.cell? ⟨x12,1,none⟩=some (.q x34))/\
 ∃x35,(∀u,S u->u.cell? ⟨x13,2,none⟩=some (.q x35))/\
 ∃x36,(∀u,S u->u.cell? ⟨x13,3,none⟩=some (.q x36))/\
 ∀x37 w6,x37=w5.heap.size->w6=w5.alloc (.cells #[] 59)->
 S w6/\
 Bl Tryz.prog (Builtin.append_ #[22,22] 22 #[.slice (some ⟨x37,0,none⟩) 0 0,.slice x28 x29 x30]) (fun x38 w7=>
 ∃x39 x40 x41,x38= .slice x39 x40 x41/\
 S w7/\
 Bl Tryz.prog (Builtin.append_ #[22,22] 22 #[.slice x39 x40 x41,.slice x31 x32 x33]) (fun x42 w8=>
 ∃x43 x44 x45,x42= .slice x43 x44 x45/\
 S w8/\
 Ah w8 ⟨x14,0,none⟩ 4/\∀w9,w9=setCells w8 ⟨x14,0,none⟩ [.slice x43 x44 x45,.q (IntKind.i64.wrap (x34+1)),.q x35,.q x36]->
 ∃x46 x47 x48 x49 x50 x51,Ae w9 ⟨x14,0,none⟩ [.slice x46 x47 x48,.q x49,.q x50,.q x51]/\
 K (.agg #[.slice x46 x47 x48,.q x49,.q x50,.q x51]) w9) w7) w6)
theorem Yo (x0:Option Addr) (x1:Nat) (x2:Nat) (x3:Int) (x4:Int) (x5:Int) (x6:Option Addr) (x7:Nat) (x8:Nat) (x9:Int) (x10:Int) (x11:Int) (K:Value->World->Prop) (w:World) (h:Yn x0 x1 x2 x3 x4 x5 x6 x7 x8 x9 x10 x11 K w):Calls Tryz.prog 36 #[.agg #[.slice x0 x1 x2,.q x3,.q x4,.q x5],.agg #[.slice x6 x7 x8,.q x9,.q x10,.q x11]] w (Ret K):=
 Ao {} Tryz.func36 (by kernel_rfl) h
def Us (x0:Option Addr) (x1:Nat) (x2:Nat) (x3:Int) (x4:Int) (x5:Int) (x6:Int) (x7:List UInt8) (x8:Int) (x9:Int) (x10:Int) (K:Value->World->Prop) (w:World):Prop:=
 ∀x11 w1,x11=w.heap.size->w1=w.alloc (.cells #[.slice x0 x1 x2,.q x3,.q x4,.q x5] 82)->
 ∀x12 w2,x12=w1.heap.size->w2=w1.alloc (.cells #[.q x6,.s x7,.q x8,.q x9,.q x10] 59)->
 ∀x13 w3,x13=w2.heap.size->w3=w2.alloc (.cells #[.slice none 0 0,.q 0,.q 0,.q 0] 82)->
 ∃x14,w3.cell? ⟨x11,1,none⟩=some (.q x14)/\
 Ah w3 ⟨x12,3,none⟩ 1/\∀w4,w4=w3.setCell ⟨x12,3,none⟩ (.q x14)->
 ∃x15 x16 x17 x18 x19,Ae w4 ⟨x12,0,none⟩ [.q x15,.s x16,.q x17,.q x18,.q x19]/\
 ∀x20 w5,x20=w4.heap.size->w5=w4.alloc (.cells #[.q x15,.s x16,.q x17,.q x18,.q x19] 59)->
 ∃x21 x22 x23,w5.cell? ⟨x11,0,none⟩=some (.slice x21 x22 x23)/\
 Bl Tryz.prog (Builtin.append_ #[22,22] 22 #[.slice (some ⟨x20,0,none⟩) 1 1,.slice x21 x22 x23]) (fun x24 w6=>
 ∃x25 x26 x27,x24= .slice x25 x26 x27/\
 Ah w6 ⟨x11,0,none⟩ 1/\∀w7,w7=w6.setCell ⟨x11,0,none⟩ (.slice x25 x26 x27)->
 Ah w7 ⟨x11,1,none⟩ 1/\∀w8,w8=w7.setCell ⟨x11,1,none⟩ (.q 1)->
 ∃x28 x29 x30 x31 x32 x33,Ae w8 ⟨x11,0,none⟩ [.slice x28 x29 x30,.q x31,.q x32,.q x33]/\
 Ah w8 ⟨x13,0,none⟩ 4/\∀w9,w9=setCells w8 ⟨x13,0,none⟩ [.slice x28 x29 x30,.q x31,.q x32,.q x33]->
 ∃x34 x35 x36 x37 x38 x39,Ae w9 ⟨x13,0,none⟩ [.slice x34 x35 x36,.q x37,.q x38,.q x39]/\
 K (.agg #[.slice x34 x35 x36,.q x37,.q x38,.q x39]) w9) w5
theorem Ut (x0:Option Addr) (x1:Nat) (x2:Nat) (x3:Int) (x4:Int) (x5:Int) (x6:Int) (x7:List UInt8) (x8:Int) (x9:Int) (x10:Int) (K:Value->World->Prop) (w:World) (h:Us x0 x1 x2 x3 x4 x5 x6 x7 x8 x9 x10 K w):Calls Tryz.prog 38 #[.agg #[.slice x0 x1 x2,.q x3,.q x4,.q x5],.agg #[.q x6,.s x7,.q x8,.q x9,.q x10]] w (Ret K):=
 Ao {} Tryz.func38 (by kernel_rfl) h
def Wm (x0:Option Addr) (x1:Nat) (x2:Nat) (x3:Int) (x4:Int) (x5:Int) (x6:Option Addr) (x7:Nat) (x8:Nat) (K:Value->World->Prop) (w:World):Prop:=
 ∀x9 w1,x9=w.heap.size->w1=w.alloc (.cells #[.slice x0 x1 x2,.q x3,.q x4,.q x5] 82)->
 ∀x10 w2,x10=w1.heap.size->w2=w1.alloc (.cells #[.slice none 0 0,.q 0,.q 0,.q 0] 82)->
 ∃x11,w2.cell? ⟨x9,3,none⟩=some (.q x11)/\
 cond (x11 !=0)
 (∃x12 x13 x14 x15 x16 x17,Ae w2 ⟨x9,0,none⟩ [.slice x12 x13 x14,.q x15,.q x16,.q x17]/\
 Ah w2 ⟨x10,0,none⟩ 4/\∀w3,w3=setCells w2 ⟨x10,0,none⟩ [.slice x12 x13 x14,.q x15,.q x16,.q x17]->
 ∃x18 x19 x20 x21 x22 x23,Ae w3 ⟨x10,0,none⟩ [.slice x18 x19 x20,.q x21,.q x22,.q x23]/\
 K (.agg #[.slice x18 x19 x20,.q x21,.q x22,.q x23]) w3)
 (∃x24,w2.cell? ⟨x9,2,none⟩=some (.q x24)/\
 Calls Tryz.prog 122 #[.slice x6 x7 x8,.q x24] w2 (Ret fun x25 w4=>
 ∃x26 x27 x28 x29 x30,x25= .agg #[.slice x26 x27 x28,.q x29,.q x30]/\
 ∀x31 w5,x31=w4.heap.size->w5=w4.alloc (.cells #[.slice none 0 0,.q 0,.q 0] 29)->
 Ah w5 ⟨x31,0,none⟩ 3/\∀w6,w6=setCells w5 ⟨x31,0,none⟩ [.slice x26 x27 x28,.q x29,.q x30]->
 ∃x32 x33 x34 x35 x36 x37,Ae w6 ⟨x9,0,none⟩ [.slice x32 x33 x34,.q x35,.q x36,.q x37]/\
 ∃x38 x39 x40,w6.cell? ⟨x31,0,none⟩=some (.slice x38 x39 x40)/\
 ∃x41,w6.cell? ⟨x31,1,none⟩=some (.q x41)/\
 ∃x42,w6.cell? ⟨x31,2,none⟩=some (.q x42)/\
 Calls Tryz.prog 36 #[.agg #[.slice x32 x33 x34,.q x35,.q x36,.q x37],.agg #[.slice x38 x39 x40,.q 0,.q x41,.q x42]] w6 (Ret fun x43 w7=>
 ∃x44 x45 x46 x47 x48 x49,x43= .agg #[.slice x44 x45 x46,.q x47,.q x48,.q x49]/\
 Ah w7 ⟨x10,0,none⟩ 4/\∀w8,w8=setCells w7 ⟨x10,0,none⟩ [.slice x44 x45 x46,.q x47,.q x48,.q x49]->
 ∃x50 x51 x52 x53 x54 x55,Ae w8 ⟨x10,0,none⟩ [.slice x50 x51 x52,.q x53,.q x54,.q x55]/\
 K (.agg #[.slice x50 x51 x52,.q x53,.q x54,.q x55]) w8)))
theorem Wo (x0:Option Addr) (x1:Nat) (x2:Nat) (x3:Int) (x4:Int) (x5:Int) (x6:Option Addr) (x7:Nat) (x8:Nat) (K:Value->World->Prop) (w:World) (h:Wm x0 x1 x2 x3 x4 x5 x6 x7 x8 K w):Calls Tryz.prog 115 #[.agg #[.slice x0 x1 x2,.q x3,.q x4,.q x5],.slice x6 x7 x8] w (Ret K):=
 Ao {} Tryz.func115 (by kernel_rfl) h
def Wp (x0:Option Addr) (x1:Nat) (x2:Nat) (x3:Int) (x4:Int) (x5:Int) (x6:Option Addr) (x7:Nat) (x8:Nat) (K:Value->World->Prop) (w:World):Prop:=
 ∀x9 w1,x9=w.heap.size->w1=w.alloc (.cells #[.slice x0 x1 x2,.q x3,.q x4,.q x5] 82)->
 ∀x10 w2,x10=w1.heap.size->w2=w1.alloc (.cells #[.slice none 0 0,.q 0,.q 0,.q 0] 82)->
 ∃x11,w2.cell? ⟨x9,2,none⟩=some (.q x11)/\
 Calls Tryz.prog 35 #[.slice x6 x7 x8,.q x11] w2 (Ret fun x12 w3=>
 ∃x13 x14 x15 x16,x12= .agg #[.q x13,.s x14,.q x15,.q x16]/\
 ∀x17 w4,x17=w3.heap.size->w4=w3.alloc (.cells #[.q 0,.s [],.q 0,.q 0] 57)->
 Ah w4 ⟨x17,0,none⟩ 4/\∀w5,w5=setCells w4 ⟨x17,0,none⟩ [.q x13,.s x14,.q x15,.q x16]->
 ∃(J:World->Prop),
 (∃(J1:Bool->World->Prop),
 (∃x18,w5.cell? ⟨x9,3,none⟩=some (.q x18)/\
 cond (x18==0)
 (∃x19,w5.cell? ⟨x17,0,none⟩=some (.q x19)/\
 J1 (x19 !=1) w5)
 (J1 false w5))/\
 ∀(_x20:Nat->Value) (x21:Bool) (w6:World),J1 x21 w6->
 cond (x21)
 (Ah w6 ⟨x9,3,none⟩ 1/\∀w7,w7=w6.setCell ⟨x9,3,none⟩ (.q 11)->
 J w7)
 (J w6))/\
 ∀(_x22:Nat->Value) (w8:World),J w8->
 ∃x23,w8.cell? ⟨x9,3,none⟩=some (.q x23)/\
 cond (x23 !=0)
 (∃x24 x25 x26 x27 x28 x29,Ae w8 ⟨x9,0,none⟩ [.slice x24 x25 x26,.q x27,.q x28,.q x29]/\
 Ah w8 ⟨x10,0,none⟩ 4/\∀w9,w9=setCells w8 ⟨x10,0,none⟩ [.slice x24 x25 x26,.q x27,.q x28,.q x29]->
 ∃x30 x31 x32 x33 x34 x35,Ae w9 ⟨x10,0,none⟩ [.slice x30 x31 x32,.q x33,.q x34,.q x35]/\
 K (.tuple #[.agg #[.slice x30 x31 x32,.q x33,.q x34,.q x35],.s []]) w9)
 (∃x36,w8.cell? ⟨x9,2,none⟩=some (.q x36)/\
 Ah w8 ⟨x9,2,none⟩ 1/\∀w10,w10=w8.setCell ⟨x9,2,none⟩ (.q (IntKind.i64.wrap (x36+1)))->
 ∀w11,w11=w10.drew->
 ∃(S:World->Prop),S w11/\
 ∃x37 x38 x39 x40 x41 x42,(∀u,S u->Ae u ⟨x9,0,none⟩ [.slice x37 x38 x39,.q x40,.q x41,.q x42])/\
 ∃x43,(∀u,S u->u.cell? ⟨x17,1,none⟩=some (.s x43))/\
 Ah w11 ⟨x10,0,none⟩ 4/\∀w12,w12=setCells w11 ⟨x10,0,none⟩ [.slice x37 x38 x39,.q x40,.q x41,.q x42]->
 S w12/\
 ∃x44 x45 x46 x47 x48 x49,Ae w12 ⟨x10,0,none⟩ [.slice x44 x45 x46,.q x47,.q x48,.q x49]/\
 K (.tuple #[.agg #[.slice x44 x45 x46,.q x47,.q x48,.q x49],.s x43]) w12))
theorem Wq (x0:Option Addr) (x1:Nat) (x2:Nat) (x3:Int) (x4:Int) (x5:Int) (x6:Option Addr) (x7:Nat) (x8:Nat) (K:Value->World->Prop) (w:World) (h:Wp x0 x1 x2 x3 x4 x5 x6 x7 x8 K w):Calls Tryz.prog 72 #[.agg #[.slice x0 x1 x2,.q x3,.q x4,.q x5],.slice x6 x7 x8] w (Ret K):=
 Ao { Aww:=[(7,[]),(14,[(18,.bool)])] } Tryz.func72 (by kernel_rfl) h
def Aai (x0:Option Addr) (x1:Nat) (x2:Nat) (x3:Int) (x4:Int) (x5:Int) (x6:Option Addr) (x7:Nat) (x8:Nat) (x9:Int) (K:Value->World->Prop) (w:World):Prop:=
 ∀x10 w1,x10=w.heap.size->w1=w.alloc (.cells #[.slice x0 x1 x2,.q x3,.q x4,.q x5] 82)->
 ∀x11 w2,x11=w1.heap.size->w2=w1.alloc (.cells #[.slice none 0 0,.q 0,.q 0,.q 0] 82)->
 ∃x12,w2.cell? ⟨x10,3,none⟩=some (.q x12)/\
 cond (x12 !=0)
 (∃x13 x14 x15 x16 x17 x18,Ae w2 ⟨x10,0,none⟩ [.slice x13 x14 x15,.q x16,.q x17,.q x18]/\
 Ah w2 ⟨x11,0,none⟩ 4/\∀w3,w3=setCells w2 ⟨x11,0,none⟩ [.slice x13 x14 x15,.q x16,.q x17,.q x18]->
 ∃x19 x20 x21 x22 x23 x24,Ae w3 ⟨x11,0,none⟩ [.slice x19 x20 x21,.q x22,.q x23,.q x24]/\
 K (.agg #[.slice x19 x20 x21,.q x22,.q x23,.q x24]) w3)
 (∀w4,w4=w2.drew->
 ∃(S:World->Prop),S w4/\
 ∃x25 x26 x27 x28 x29 x30,(∀u,S u->Ae u ⟨x10,0,none⟩ [.slice x25 x26 x27,.q x28,.q x29,.q x30])/\
 ∃x31,(∀u,S u->u.cell? ⟨x10,2,none⟩=some (.q x31))/\
 Calls Tryz.prog 92 #[.slice x6 x7 x8,.q x31,.q x9] w4 (Ret fun x32 w5=>
 ∃x33 x34 x35 x36 x37 x38,x32= .agg #[.slice x33 x34 x35,.q x36,.q x37,.q x38]/\
 S w5/\
 Calls Tryz.prog 36 #[.agg #[.slice x25 x26 x27,.q x28,.q x29,.q x30],.agg #[.slice x33 x34 x35,.q x36,.q x37,.q x38]] w5 (Ret fun x39 w6=>
 ∃x40 x41 x42 x43 x44 x45,x39= .agg #[.slice x40 x41 x42,.q x43,.q x44,.q x45]/\
 Ah w6 ⟨x11,0,none⟩ 4/\∀w7,w7=setCells w6 ⟨x11,0,none⟩ [.slice x40 x41 x42,.q x43,.q x44,.q x45]->
 ∃x46 x47 x48 x49 x50 x51,Ae w7 ⟨x11,0,none⟩ [.slice x46 x47 x48,.q x49,.q x50,.q x51]/\
 K (.agg #[.slice x46 x47 x48,.q x49,.q x50,.q x51]) w7)))
theorem Aaj (x0:Option Addr) (x1:Nat) (x2:Nat) (x3:Int) (x4:Int) (x5:Int) (x6:Option Addr) (x7:Nat) (x8:Nat) (x9:Int) (K:Value->World->Prop) (w:World) (h:Aai x0 x1 x2 x3 x4 x5 x6 x7 x8 x9 K w):Calls Tryz.prog 75 #[.agg #[.slice x0 x1 x2,.q x3,.q x4,.q x5],.slice x6 x7 x8,.q x9] w (Ret K):=
 Ao {} Tryz.func75 (by kernel_rfl) h
def Wr (x0:Option Addr) (x1:Nat) (x2:Nat) (x3:Int) (x4:Int) (x5:Int) (x6:Option Addr) (x7:Nat) (x8:Nat) (x9:Int) (x10:Int) (K:Value->World->Prop) (w:World):Prop:=
 ∀x11 w1,x11=w.heap.size->w1=w.alloc (.cells #[.slice x0 x1 x2,.q x3,.q x4,.q x5] 82)->
 ∀x12 w2,x12=w1.heap.size->w2=w1.alloc (.cells #[.slice none 0 0,.q 0,.q 0,.q 0] 82)->
 ∃x13,w2.cell? ⟨x11,3,none⟩=some (.q x13)/\
 cond (x13 !=0)
 (∃x14 x15 x16 x17 x18 x19,Ae w2 ⟨x11,0,none⟩ [.slice x14 x15 x16,.q x17,.q x18,.q x19]/\
 Ah w2 ⟨x12,0,none⟩ 4/\∀w3,w3=setCells w2 ⟨x12,0,none⟩ [.slice x14 x15 x16,.q x17,.q x18,.q x19]->
 ∃x20 x21 x22 x23 x24 x25,Ae w3 ⟨x12,0,none⟩ [.slice x20 x21 x22,.q x23,.q x24,.q x25]/\
 K (.tuple #[.agg #[.slice x20 x21 x22,.q x23,.q x24,.q x25],.q 0,.s []]) w3)
 (∃(J:World->Prop),
 (∀w4,w4=w2.drew->
 ∃(S:World->Prop),S w4/\
 ∃x26 x27 x28 x29 x30 x31,(∀u,S u->Ae u ⟨x11,0,none⟩ [.slice x26 x27 x28,.q x29,.q x30,.q x31])/\
 ∃x32,(∀u,S u->u.cell? ⟨x11,2,none⟩=some (.q x32))/\
 Calls Tryz.prog 121 #[.slice x6 x7 x8,.q x32] w4 (Ret fun x33 w5=>
 ∃x34 x35 x36 x37 x38 x39,x33= .agg #[.slice x34 x35 x36,.q x37,.q x38,.q x39]/\
 S w5/\
 Calls Tryz.prog 36 #[.agg #[.slice x26 x27 x28,.q x29,.q x30,.q x31],.agg #[.slice x34 x35 x36,.q x37,.q x38,.q x39]] w5 (Ret fun x40 w6=>
 ∃x41 x42 x43 x44 x45 x46,x40= .agg #[.slice x41 x42 x43,.q x44,.q x45,.q x46]/\
 Ah w6 ⟨x11,0,none⟩ 4/\∀w7,w7=setCells w6 ⟨x11,0,none⟩ [.slice x41 x42 x43,.q x44,.q x45,.q x46]->
 J w7)))/\
 ∀(_x47:Nat->Value) (w8:World),J w8->
 ∃(J1:Bool->World->Prop),
 (∃x48,w8.cell? ⟨x11,3,none⟩=some (.q x48)/\
 cond (x48==0)
 (∃x49,w8.cell? ⟨x11,2,none⟩=some (.q x49)/\
 Calls Tryz.prog 70 #[.slice x6 x7 x8,.q x49,.s [33]] w8 (Ret fun x50 w9=>
 ∃x51,x50= .bool x51/\
 J1 x51 w9))
 (J1 false w8))/\
 ∀(_x52:Nat->Value) (x53:Bool) (w10:World),J1 x53 w10->
 cond (x53)
 (∃x54 x55 x56 x57 x58 x59,Ae w10 ⟨x11,0,none⟩ [.slice x54 x55 x56,.q x57,.q x58,.q x59]/\
 Calls Tryz.prog 71 #[.agg #[.slice x54 x55 x56,.q x57,.q x58,.q x59],.slice x6 x7 x8,.s [33]] w10 (Ret fun x60 w11=>
 ∃x61 x62 x63 x64 x65 x66,x60= .agg #[.slice x61 x62 x63,.q x64,.q x65,.q x66]/\
 Calls Tryz.prog 115 #[.agg #[.slice x61 x62 x63,.q x64,.q x65,.q x66],.slice x6 x7 x8] w11 (Ret fun x67 w12=>
 ∃x68 x69 x70 x71 x72 x73,x67= .agg #[.slice x68 x69 x70,.q x71,.q x72,.q x73]/\
 Ah w12 ⟨x12,0,none⟩ 4/\∀w13,w13=setCells w12 ⟨x12,0,none⟩ [.slice x68 x69 x70,.q x71,.q x72,.q x73]->
 ∃x74 x75 x76 x77 x78 x79,Ae w13 ⟨x12,0,none⟩ [.slice x74 x75 x76,.q x77,.q x78,.q x79]/\
 K (.tuple #[.agg #[.slice x74 x75 x76,.q x77,.q x78,.q x79],.q x9,.s []]) w13)))
 (∃x80 x81 x82 x83 x84 x85,Ae w10 ⟨x11,0,none⟩ [.slice x80 x81 x82,.q x83,.q x84,.q x85]/\
 Calls Tryz.prog 71 #[.agg #[.slice x80 x81 x82,.q x83,.q x84,.q x85],.slice x6 x7 x8,.s [63]] w10 (Ret fun x86 w14=>
 ∃x87 x88 x89 x90 x91 x92,x86= .agg #[.slice x87 x88 x89,.q x90,.q x91,.q x92]/\
 Calls Tryz.prog 72 #[.agg #[.slice x87 x88 x89,.q x90,.q x91,.q x92],.slice x6 x7 x8] w14 (Ret fun x93 w15=>
 ∃x94 x95 x96 x97 x98 x99 Axb,x93= .tuple #[.agg #[.slice x94 x95 x96,.q x97,.q x98,.q x99],.s Axb]/\
 Ah w15 ⟨x11,0,none⟩ 4/\∀w16,w16=setCells w15 ⟨x11,0,none⟩ [.slice x94 x95 x96,.q x97,.q x98,.q x99]->
 ∃Axn Axq Axc Axt Aw2 Axo,Ae w16 ⟨x11,0,none⟩ [.slice Axn Axq Axc,.q Axt,.q Aw2,.q Axo]/\
 Ah w16 ⟨x12,0,none⟩ 4/\∀w17,w17=setCells w16 ⟨x12,0,none⟩ [.slice Axn Axq Axc,.q Axt,.q Aw2,.q Axo]->
 ∃Axr Axj Axp Ayr Axx Ax5,Ae w17 ⟨x12,0,none⟩ [.slice Axr Axj Axp,.q Ayr,.q Axx,.q Ax5]/\
 K (.tuple #[.agg #[.slice Axr Axj Axp,.q Ayr,.q Axx,.q Ax5],.q x10,.s Axb]) w17))))
theorem Ws (x0:Option Addr) (x1:Nat) (x2:Nat) (x3:Int) (x4:Int) (x5:Int) (x6:Option Addr) (x7:Nat) (x8:Nat) (x9:Int) (x10:Int) (K:Value->World->Prop) (w:World) (h:Wr x0 x1 x2 x3 x4 x5 x6 x7 x8 x9 x10 K w):Calls Tryz.prog 114 #[.agg #[.slice x0 x1 x2,.q x3,.q x4,.q x5],.slice x6 x7 x8,.q x9,.q x10] w (Ret K):=
 Ao { Aww:=[(7,[]),(30,[(30,.bool)])] } Tryz.func114 (by kernel_rfl) h
def Wt (x0:Option Addr) (x1:Nat) (x2:Nat) (x3:Int) (x4:Int) (x5:Int) (x6:Option Addr) (x7:Nat) (x8:Nat) (K:Value->World->Prop) (w:World):Prop:=
 ∀x9 w1,x9=w.heap.size->w1=w.alloc (.cells #[.slice x0 x1 x2,.q x3,.q x4,.q x5] 82)->
 ∀x10 w2,x10=w1.heap.size->w2=w1.alloc (.cells #[.slice none 0 0,.q 0,.q 0,.q 0] 82)->
 ∃x11 x12 x13 x14 x15 x16,Ae w2 ⟨x9,0,none⟩ [.slice x11 x12 x13,.q x14,.q x15,.q x16]/\
 Calls Tryz.prog 71 #[.agg #[.slice x11 x12 x13,.q x14,.q x15,.q x16],.slice x6 x7 x8,.s [40]] w2 (Ret fun x17 w3=>
 ∃x18 x19 x20 x21 x22 x23,x17= .agg #[.slice x18 x19 x20,.q x21,.q x22,.q x23]/\
 Ah w3 ⟨x9,0,none⟩ 4/\∀w4,w4=setCells w3 ⟨x9,0,none⟩ [.slice x18 x19 x20,.q x21,.q x22,.q x23]->
 ∃(J:World->Prop),
 (∃(J1:Bool->World->Prop),
 (∃x24,w4.cell? ⟨x9,3,none⟩=some (.q x24)/\
 cond (x24==0)
 (∃x25,w4.cell? ⟨x9,2,none⟩=some (.q x25)/\
 Calls Tryz.prog 70 #[.slice x6 x7 x8,.q x25,.s [41]] w4 (Ret fun x26 w5=>
 ∃x27,x26= .bool x27/\
 J1 (!x27) w5))
 (J1 false w4))/\
 ∀(_x28:Nat->Value) (x29:Bool) (w6:World),J1 x29 w6->
 cond (x29)
 (∃x30 x31 x32 x33 x34 x35,Ae w6 ⟨x9,0,none⟩ [.slice x30 x31 x32,.q x33,.q x34,.q x35]/\
 Calls Tryz.prog 115 #[.agg #[.slice x30 x31 x32,.q x33,.q x34,.q x35],.slice x6 x7 x8] w6 (Ret fun x36 w7=>
 ∃x37 x38 x39 x40 x41 x42,x36= .agg #[.slice x37 x38 x39,.q x40,.q x41,.q x42]/\
 Ah w7 ⟨x9,0,none⟩ 4/\∀w8,w8=setCells w7 ⟨x9,0,none⟩ [.slice x37 x38 x39,.q x40,.q x41,.q x42]->
 ∃(I:World->Prop) (x43:World->Nat),I w8/\
 ∀(_x44:Nat->Value) (w9:World),I w9->
 ∃(J2:Bool->World->Prop),
 (∃x45,w9.cell? ⟨x9,3,none⟩=some (.q x45)/\
 cond (x45==0)
 (∃x46,w9.cell? ⟨x9,2,none⟩=some (.q x46)/\
 Calls Tryz.prog 70 #[.slice x6 x7 x8,.q x46,.s [44]] w9 (Ret fun x47 w10=>
 ∃x48,x47= .bool x48/\
 J2 x48 w10))
 (J2 false w9))/\
 ∀(_x49:Nat->Value) (x50:Bool) (w11:World),J2 x50 w11->
 cond (x50)
 (∃x51 x52 x53 x54 x55 x56,Ae w11 ⟨x9,0,none⟩ [.slice x51 x52 x53,.q x54,.q x55,.q x56]/\
 Calls Tryz.prog 71 #[.agg #[.slice x51 x52 x53,.q x54,.q x55,.q x56],.slice x6 x7 x8,.s [44]] w11 (Ret fun x57 w12=>
 ∃x58 x59 x60 x61 x62 x63,x57= .agg #[.slice x58 x59 x60,.q x61,.q x62,.q x63]/\
 Calls Tryz.prog 115 #[.agg #[.slice x58 x59 x60,.q x61,.q x62,.q x63],.slice x6 x7 x8] w12 (Ret fun x64 w13=>
 ∃x65 x66 x67 x68 x69 x70,x64= .agg #[.slice x65 x66 x67,.q x68,.q x69,.q x70]/\
 Ah w13 ⟨x9,0,none⟩ 4/\∀w14,w14=setCells w13 ⟨x9,0,none⟩ [.slice x65 x66 x67,.q x68,.q x69,.q x70]->
 I w14/\x43 w14<x43 w9)))
 (J w11)))
 (J w6))/\
 ∀(_x71:Nat->Value) (w15:World),J w15->
 ∃x72 x73 x74 x75 x76 x77,Ae w15 ⟨x9,0,none⟩ [.slice x72 x73 x74,.q x75,.q x76,.q x77]/\
 Calls Tryz.prog 71 #[.agg #[.slice x72 x73 x74,.q x75,.q x76,.q x77],.slice x6 x7 x8,.s [41]] w15 (Ret fun x78 w16=>
 ∃x79 x80 x81 x82 x83 x84,x78= .agg #[.slice x79 x80 x81,.q x82,.q x83,.q x84]/\
 Ah w16 ⟨x10,0,none⟩ 4/\∀w17,w17=setCells w16 ⟨x10,0,none⟩ [.slice x79 x80 x81,.q x82,.q x83,.q x84]->
 ∃x85 x86 x87 x88 x89 x90,Ae w17 ⟨x10,0,none⟩ [.slice x85 x86 x87,.q x88,.q x89,.q x90]/\
 K (.agg #[.slice x85 x86 x87,.q x88,.q x89,.q x90]) w17))
theorem Wu (x0:Option Addr) (x1:Nat) (x2:Nat) (x3:Int) (x4:Int) (x5:Int) (x6:Option Addr) (x7:Nat) (x8:Nat) (K:Value->World->Prop) (w:World) (h:Wt x0 x1 x2 x3 x4 x5 x6 x7 x8 K w):Calls Tryz.prog 116 #[.agg #[.slice x0 x1 x2,.q x3,.q x4,.q x5],.slice x6 x7 x8] w (Ret K):=
 Ao { loops:=[(234,[])],Aww:=[(7,[]),(14,[(17,.bool)]),(936,[(29,.bool)])] } Tryz.func116 (by kernel_rfl) h
def Wv (x0:Option Addr) (x1:Nat) (x2:Nat) (x3:Int) (x4:Int) (x5:Int) (x6:Option Addr) (x7:Nat) (x8:Nat) (K:Value->World->Prop) (w:World):Prop:=
 ∀x9 w1,x9=w.heap.size->w1=w.alloc (.cells #[.slice x0 x1 x2,.q x3,.q x4,.q x5] 82)->
 ∀x10 w2,x10=w1.heap.size->w2=w1.alloc (.cells #[.slice none 0 0,.q 0,.q 0,.q 0] 82)->
 ∃x11,w2.cell? ⟨x9,2,none⟩=some (.q x11)/\
 Calls Tryz.prog 35 #[.slice x6 x7 x8,.q x11] w2 (Ret fun x12 w3=>
 ∃x13 x14 x15 x16,x12= .agg #[.q x13,.s x14,.q x15,.q x16]/\
 ∀x17 w4,x17=w3.heap.size->w4=w3.alloc (.cells #[.q 0,.s [],.q 0,.q 0] 57)->
 Ah w4 ⟨x17,0,none⟩ 4/\∀w5,w5=setCells w4 ⟨x17,0,none⟩ [.q x13,.s x14,.q x15,.q x16]->
 ∃(J:World->Prop),
 (∃(J1:Bool->World->Prop),
 (∃x18,w5.cell? ⟨x9,3,none⟩=some (.q x18)/\
 cond (x18==0)
 (∃x19,w5.cell? ⟨x17,0,none⟩=some (.q x19)/\
 J1 (x19 !=2) w5)
 (J1 false w5))/\
 ∀(_x20:Nat->Value) (x21:Bool) (w6:World),J1 x21 w6->
 cond (x21)
 (Ah w6 ⟨x9,3,none⟩ 1/\∀w7,w7=w6.setCell ⟨x9,3,none⟩ (.q 11)->
 J w7)
 (J w6))/\
 ∀(_x22:Nat->Value) (w8:World),J w8->
 ∃(J2:World->Prop),
 (∃(J3:Bool->World->Prop),
 (∃x23,w8.cell? ⟨x9,3,none⟩=some (.q x23)/\
 cond (x23==0)
 (∃x24,w8.cell? ⟨x17,2,none⟩=some (.q x24)/\
 cond (decide (x24<1))
 (J3 true w8)
 (∃x25,w8.cell? ⟨x17,2,none⟩=some (.q x25)/\
 J3 (decide (x25>16)) w8))
 (J3 false w8))/\
 ∀(_x26:Nat->Value) (x27:Bool) (w9:World),J3 x27 w9->
 cond (x27)
 (Ah w9 ⟨x9,3,none⟩ 1/\∀w10,w10=w9.setCell ⟨x9,3,none⟩ (.q 6)->
 J2 w10)
 (J2 w9))/\
 ∀(_x28:Nat->Value) (w11:World),J2 w11->
 ∃x29,w11.cell? ⟨x9,3,none⟩=some (.q x29)/\
 cond (x29 !=0)
 (∃x30 x31 x32 x33 x34 x35,Ae w11 ⟨x9,0,none⟩ [.slice x30 x31 x32,.q x33,.q x34,.q x35]/\
 Ah w11 ⟨x10,0,none⟩ 4/\∀w12,w12=setCells w11 ⟨x10,0,none⟩ [.slice x30 x31 x32,.q x33,.q x34,.q x35]->
 ∃x36 x37 x38 x39 x40 x41,Ae w12 ⟨x10,0,none⟩ [.slice x36 x37 x38,.q x39,.q x40,.q x41]/\
 K (.tuple #[.agg #[.slice x36 x37 x38,.q x39,.q x40,.q x41],.q 0]) w12)
 (∃x42,w11.cell? ⟨x9,2,none⟩=some (.q x42)/\
 Ah w11 ⟨x9,2,none⟩ 1/\∀w13,w13=w11.setCell ⟨x9,2,none⟩ (.q (IntKind.i64.wrap (x42+1)))->
 ∀w14,w14=w13.drew->
 ∃(S:World->Prop),S w14/\
 ∃x43 x44 x45 x46 x47 x48,(∀u,S u->Ae u ⟨x9,0,none⟩ [.slice x43 x44 x45,.q x46,.q x47,.q x48])/\
 ∃x49,(∀u,S u->u.cell? ⟨x17,2,none⟩=some (.q x49))/\
 Ah w14 ⟨x10,0,none⟩ 4/\∀w15,w15=setCells w14 ⟨x10,0,none⟩ [.slice x43 x44 x45,.q x46,.q x47,.q x48]->
 S w15/\
 ∃x50 x51 x52 x53 x54 x55,Ae w15 ⟨x10,0,none⟩ [.slice x50 x51 x52,.q x53,.q x54,.q x55]/\
 K (.tuple #[.agg #[.slice x50 x51 x52,.q x53,.q x54,.q x55],.q x49]) w15))
theorem Ww (x0:Option Addr) (x1:Nat) (x2:Nat) (x3:Int) (x4:Int) (x5:Int) (x6:Option Addr) (x7:Nat) (x8:Nat) (K:Value->World->Prop) (w:World) (h:Wv x0 x1 x2 x3 x4 x5 x6 x7 x8 K w):Calls Tryz.prog 73 #[.agg #[.slice x0 x1 x2,.q x3,.q x4,.q x5],.slice x6 x7 x8] w (Ret K):=
 Ao { Aww:=[(7,[]),(14,[(18,.bool)]),(15,[]),(30,[(32,.bool)])] } Tryz.func73 (by kernel_rfl) h
def Uu (x0:Option Addr) (x1:Nat) (x2:Nat) (x3:Int) (x4:Int) (x5:Int) (x6:Option Addr) (x7:Nat) (x8:Nat) (K:Value->World->Prop) (w:World):Prop:=
 ∀x9 w1,x9=w.heap.size->w1=w.alloc (.cells #[.slice x0 x1 x2,.q x3,.q x4,.q x5] 82)->
 ∀x10 w2,x10=w1.heap.size->w2=w1.alloc (.cells #[.slice none 0 0,.q 0,.q 0,.q 0] 82)->
 ∃x11,w2.cell? ⟨x9,3,none⟩=some (.q x11)/\
 cond (x11 !=0)
 (∃x12 x13 x14 x15 x16 x17,Ae w2 ⟨x9,0,none⟩ [.slice x12 x13 x14,.q x15,.q x16,.q x17]/\
 Ah w2 ⟨x10,0,none⟩ 4/\∀w3,w3=setCells w2 ⟨x10,0,none⟩ [.slice x12 x13 x14,.q x15,.q x16,.q x17]->
 ∃x18 x19 x20 x21 x22 x23,Ae w3 ⟨x10,0,none⟩ [.slice x18 x19 x20,.q x21,.q x22,.q x23]/\
 K (.agg #[.slice x18 x19 x20,.q x21,.q x22,.q x23]) w3)
 (∃x24,w2.cell? ⟨x9,2,none⟩=some (.q x24)/\
 Calls Tryz.prog 34 #[.q x24] w2 (Ret fun x25 w4=>
 ∃x26 x27 x28 x29 x30 x31,x25= .agg #[.slice x26 x27 x28,.q x29,.q x30,.q x31]/\
 Calls Tryz.prog 72 #[.agg #[.slice x26 x27 x28,.q x29,.q x30,.q x31],.slice x6 x7 x8] w4 (Ret fun x32 w5=>
 ∃x33 x34 x35 x36 x37 x38 x39,x32= .tuple #[.agg #[.slice x33 x34 x35,.q x36,.q x37,.q x38],.s x39]/\
 ∀x40 w6,x40=w5.heap.size->w6=w5.alloc (.cells #[.slice none 0 0,.q 0,.q 0,.q 0] 82)->
 Ah w6 ⟨x40,0,none⟩ 4/\∀w7,w7=setCells w6 ⟨x40,0,none⟩ [.slice x33 x34 x35,.q x36,.q x37,.q x38]->
 ∀w8,w8=w7.drew->
 ∃(S:World->Prop),S w8/\
 ∃x41 x42 x43 x44 x45 x46,(∀u,S u->Ae u ⟨x9,0,none⟩ [.slice x41 x42 x43,.q x44,.q x45,.q x46])/\
 ∃x47 x48 x49 x50 x51 x52,(∀u,S u->Ae u ⟨x40,0,none⟩ [.slice x47 x48 x49,.q x50,.q x51,.q x52])/\
 ∃x53,(∀u,S u->u.cell? ⟨x9,2,none⟩=some (.q x53))/\
 Calls Tryz.prog 35 #[.slice x6 x7 x8,.q x53] w8 (Ret fun x54 w9=>
 ∃x55 x56 x57 x58,x54= .agg #[.q x55,.s x56,.q x57,.q x58]/\
 S w9/\
 Calls Tryz.prog 38 #[.agg #[.slice x47 x48 x49,.q x50,.q x51,.q x52],.agg #[.q 39,.s x39,.q 0,.q 0,.q x58]] w9 (Ret fun x59 w10=>
 ∃x60 x61 x62 x63 x64 x65,x59= .agg #[.slice x60 x61 x62,.q x63,.q x64,.q x65]/\
 S w10/\
 Calls Tryz.prog 36 #[.agg #[.slice x41 x42 x43,.q x44,.q x45,.q x46],.agg #[.slice x60 x61 x62,.q x63,.q x64,.q x65]] w10 (Ret fun x66 w11=>
 ∃x67 x68 x69 x70 x71 x72,x66= .agg #[.slice x67 x68 x69,.q x70,.q x71,.q x72]/\
 Ah w11 ⟨x10,0,none⟩ 4/\∀w12,w12=setCells w11 ⟨x10,0,none⟩ [.slice x67 x68 x69,.q x70,.q x71,.q x72]->
 ∃x73 x74 x75 x76 x77 x78,Ae w12 ⟨x10,0,none⟩ [.slice x73 x74 x75,.q x76,.q x77,.q x78]/\
 K (.agg #[.slice x73 x74 x75,.q x76,.q x77,.q x78]) w12))))))
theorem Uv (x0:Option Addr) (x1:Nat) (x2:Nat) (x3:Int) (x4:Int) (x5:Int) (x6:Option Addr) (x7:Nat) (x8:Nat) (K:Value->World->Prop) (w:World) (h:Uu x0 x1 x2 x3 x4 x5 x6 x7 x8 K w):Calls Tryz.prog 74 #[.agg #[.slice x0 x1 x2,.q x3,.q x4,.q x5],.slice x6 x7 x8] w (Ret K):=
 Ao {} Tryz.func74 (by kernel_rfl) h
def Aid (x0:Option Addr) (x1:Nat) (_x2:Nat) (x3:Int) (K:Value->World->Prop) (w:World):Prop:=
 ∀x4 w1,x4=w.heap.size->w1=w.alloc (.cells #[.q 0,.s [],.q 0,.q 0] 57)->
 cond (decide (x3<(x1:Int)))
 (((0:Int)<=x3/\x3<(x1:Int))/\
 A3 x0 (fun x5=>
 ∃x6 x7 x8 x9,Ae w1 (x5.add (x3.toNat*4)) [.q x6,.s x7,.q x8,.q x9]/\
 Ah w1 ⟨x4,0,none⟩ 4/\∀w2,w2=setCells w1 ⟨x4,0,none⟩ [.q x6,.s x7,.q x8,.q x9]->
 ∃x10 x11 x12 x13,Ae w2 ⟨x4,0,none⟩ [.q x10,.s x11,.q x12,.q x13]/\
 K (.agg #[.q x10,.s x11,.q x12,.q x13]) w2))
 (Ah w1 ⟨x4,0,none⟩ 4/\∀w3,w3=setCells w1 ⟨x4,0,none⟩ [.q 0,.s [],.q 0,.q 0]->
 ∃x14 x15 x16 x17,Ae w3 ⟨x4,0,none⟩ [.q x14,.s x15,.q x16,.q x17]/\
 K (.agg #[.q x14,.s x15,.q x16,.q x17]) w3)
theorem Aie (x0:Option Addr) (x1:Nat) (x2:Nat) (x3:Int) (K:Value->World->Prop) (w:World) (h:Aid x0 x1 x2 x3 K w):Calls Tryz.prog 35 #[.slice x0 x1 x2,.q x3] w (Ret K):=
 Ao {} Tryz.func35 (by kernel_rfl) h
def Aif (x0:List UInt8) (K:Value->World->Prop) (w:World):Prop:=
 ∀x1 w1,x1=w.heap.size->w1=w.alloc (.cells #[.slice none 0 0,.q 0,.q 0] 53)->
 cond (decide ((x0.length:Int)>65536))
 (Ah w1 ⟨x1,0,none⟩ 3/\∀w2,w2=setCells w1 ⟨x1,0,none⟩ [.slice none 0 0,.q 0,.q 5]->
 ∃x2 x3 x4 x5 x6,Ae w2 ⟨x1,0,none⟩ [.slice x2 x3 x4,.q x5,.q x6]/\
 K (.agg #[.slice x2 x3 x4,.q x5,.q x6]) w2)
 (∀x7 w3,x7=w1.heap.size->w3=w1.alloc (.cells #[.slice none 0 0,.q 0,.q 0] 53)->
 ∃(I:Int->World->Prop) (x8:Int->World->Nat),I 0 w3/\
 ∀(_x9:Nat->Value) (x10:Int) (w4:World),I x10 w4->
 Calls Tryz.prog 33 #[.s x0,.q x10] w4 (Ret fun x11 w5=>
 ∃x12 x13 x14 x15 x16 x17,x11= .agg #[.q x12,.s x13,.q x14,.q x15,.q x16,.q x17]/\
 ∀x18 w6,x18=w5.heap.size->w6=w5.alloc (.cells #[.q 0,.s [],.q 0,.q 0,.q 0,.q 0] 79)->
 Ah w6 ⟨x18,0,none⟩ 6/\∀w7,w7=setCells w6 ⟨x18,0,none⟩ [.q x12,.s x13,.q x14,.q x15,.q x16,.q x17]->
 ∃x19,w7.cell? ⟨x18,5,none⟩=some (.q x19)/\
 cond (x19 !=0)
 (∃x20,w7.cell? ⟨x18,4,none⟩=some (.q x20)/\
 ∃x21,w7.cell? ⟨x18,5,none⟩=some (.q x21)/\
 Ah w7 ⟨x1,0,none⟩ 3/\∀w8,w8=setCells w7 ⟨x1,0,none⟩ [.slice none 0 0,.q x20,.q x21]->
 ∃x22 x23 x24 x25 x26,Ae w8 ⟨x1,0,none⟩ [.slice x22 x23 x24,.q x25,.q x26]/\
 K (.agg #[.slice x22 x23 x24,.q x25,.q x26]) w8)
 (∃x27 x28 x29,w7.cell? ⟨x7,0,none⟩=some (.slice x27 x28 x29)/\
 ∃x30 x31 x32 x33,Ae w7 ⟨x18,0,none⟩ [.q x30,.s x31,.q x32,.q x33]/\
 ∀x34 w9,x34=w7.heap.size->w9=w7.alloc (.cells #[.q x30,.s x31,.q x32,.q x33] 57)->
 Bl Tryz.prog (Builtin.append_ #[51,51] 51 #[.slice x27 x28 x29,.slice (some ⟨x34,0,none⟩) 1 1]) (fun x35 w10=>
 ∃x36 x37 x38,x35= .slice x36 x37 x38/\
 Ah w10 ⟨x7,0,none⟩ 1/\∀w11,w11=w10.setCell ⟨x7,0,none⟩ (.slice x36 x37 x38)->
 ∃x39,w11.cell? ⟨x18,3,none⟩=some (.q x39)/\
 Ah w11 ⟨x7,1,none⟩ 1/\∀w12,w12=w11.setCell ⟨x7,1,none⟩ (.q x39)->
 ∃x40,w12.cell? ⟨x18,0,none⟩=some (.q x40)/\
 cond (x40==0)
 (∃x41 x42 x43 x44 x45,Ae w12 ⟨x7,0,none⟩ [.slice x41 x42 x43,.q x44,.q x45]/\
 Ah w12 ⟨x1,0,none⟩ 3/\∀w13,w13=setCells w12 ⟨x1,0,none⟩ [.slice x41 x42 x43,.q x44,.q x45]->
 ∃x46 x47 x48 x49 x50,Ae w13 ⟨x1,0,none⟩ [.slice x46 x47 x48,.q x49,.q x50]/\
 K (.agg #[.slice x46 x47 x48,.q x49,.q x50]) w13)
 (∃x51,w12.cell? ⟨x18,4,none⟩=some (.q x51)/\
 I x51 w12/\x8 x51 w12<x8 x10 w4)) w9)))
theorem Aig (x0:List UInt8) (K:Value->World->Prop) (w:World) (h:Aif x0 K w):Calls Tryz.prog 17 #[.s x0] w (Ret K):=
 Ao { loops:=[(62,[(4,.int .i64)])] } Tryz.func17 (by kernel_rfl) h
end Go.Proofs.YtcakelelfklhdaaGreatDoor
