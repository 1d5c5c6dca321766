/- A part of the proof: conditions of the code, contracts, the plain law. -/
import Derived.Test.YthkbhlmijkegiaaGreatM1
import Derived.Test.YthkbhlmijkegiaaGreatRows
import Derived.Test.YthkbhlmijkegiaaGreatVcI
import Derived.Test.YthkbhlmijkegiaaGreatLv
namespace Go.Proofs.YthkbhlmijkegiaaGreat
open Go.Vc
abbrev As (f:FuncId) (a:Array Value) (w:World) (K:Value->World->Prop):Prop:=Calls Tryz.prog f a w (aN K)
def Aa2 (x0:Option Addr) (x1:Nat) (x2:Nat) (x3:Option Addr) (x4:Nat) (x5:Nat) (x6:Option Addr) (x7:Nat) (x8:Nat) (x9:Int) (ae:Int) (K:Value->World->Prop) (w:World):Prop:=
 ∀aa w1,aa=w.heap.size->w1=w.alloc (.cells #[.slice x0 x1 x2,.slice x3 x4 x5,.slice x6 x7 x8,.q x9,.q ae] 26)->
 ∃ad ai ah,w1.cell? ⟨aa,1,none⟩=some (.slice ad ai ah)/\
 ∃(J:Bool->World->Prop),
 (cond (decide ((ai:Int)<1))
 (J true w1)
 (cond (decide ((ai:Int)>32))
 (J true w1)
 (∃ag aj aw,w1.cell? (Zb aa)=some (.slice ag aj aw)/\
 cond (decide ((aj:Int)>65536))
 (J true w1)
 (∃ak,w1.cell? ⟨aa,3,none⟩=some (.q ak)/\
 cond (decide (ak<0))
 (J true w1)
 (∃ay,w1.cell? ⟨aa,3,none⟩=some (.q ay)/\
 cond (decide (ay>=(ai:Int)))
 (J true w1)
 (∃aA aB aE,w1.cell? ⟨aa,1,none⟩=some (.slice aA aB aE)/\
 ∃ax,w1.cell? ⟨aa,3,none⟩=some (.q ax)/\
 ((0:Int)<=ax/\ax<(aB:Int))/\
 Aj aA (fun aD=>
 ∃aM,w1.cell? ((aD.add (ax.toNat*4)).add 2)=some (.q aM)/\
 J (aM !=0) w1)))))))/\
 ∀(_x26:Nat->Value) ar w2,J ar w2->
 cond (ar)
 (K (.bool false) w2)
 (∃bf a_ aG,w2.cell? ⟨aa,1,none⟩=some (.slice bf a_ aG)/\
 ∃(I:Int->Int->World->Prop) (aR:Int->Int->World->Nat),I (-1) 0 w2/\
 ∀(_x32:Nat->Value) (bc:Int) (bk:Int) (w3:World),I bc bk w3->
 cond (decide (bk<(a_:Int)))
 (((0:Int)<=bk/\bk<(a_:Int))/\
 Aj bf (fun bJ=>
 ∃aQ bK bQ bE,Ad w3 (bJ.add (bk.toNat*4)) [.s aQ,.q bK,.q bQ,.q bE]/\
 ∀bj w4,bj=w3.heap.size->w4=w3.alloc (.cells #[.s [],.q 0,.q 0,.q 0] 97)->
 Ag w4 (Zb bj) 4/\∀w5,w5=setCells w4 (Zb bj) [.s aQ,.q bK,.q bQ,.q bE]->
 ∃(J1:Bool->World->Prop),
 (∃bN,w5.cell? (Zb bj)=some (.s bN)/\
 cond (bN==[109,97,105,110])
 (J1 true w5)
 (∃bS,w5.cell? (Zb bj)=some (.s bS)/\
 As 107 #[.s bS] w5 (fun bD w6=>
 ∃bW,bD= .bool bW/\
 J1 bW w6)))/\
 ∀(_x45:Nat->Value) bO w7,J1 bO w7->
 ∃(J2:Bool->World->Prop),
 (cond (!bO)
 (J2 true w7)
 (cond (decide (bc<0))
 (∃bM,w7.cell? ⟨bj,1,none⟩=some (.q bM)/\
 cond (bM !=0)
 (J2 true w7)
 (∃bR,w7.cell? ⟨bj,1,none⟩=some (.q bR)/\
 cond (decide (bR<=bc))
 (J2 true w7)
 (∃b_,w7.cell? ⟨bj,1,none⟩=some (.q b_)/\
 ∃ca b9 cr,w7.cell? (Zb aa)=some (.slice ca b9 cr)/\
 cond (decide (b_>=(b9:Int)))
 (J2 true w7)
 (∃cA,w7.cell? ⟨bj,2,none⟩=some (.q cA)/\
 cond (decide (cA<0))
 (J2 true w7)
 (∃ct,w7.cell? ⟨bj,2,none⟩=some (.q ct)/\
 ∃cv,w7.cell? ⟨bj,3,none⟩=some (.q cv)/\
 cond (decide (ct>cv))
 (J2 true w7)
 (∃cB,w7.cell? ⟨bj,3,none⟩=some (.q cB)/\
 J2 (decide (cB>16)) w7))))))
 (∃c_,w7.cell? ⟨bj,1,none⟩=some (.q c_)/\
 cond (decide (c_<=bc))
 (J2 true w7)
 (∃cN,w7.cell? ⟨bj,1,none⟩=some (.q cN)/\
 ∃cJ cU di,w7.cell? (Zb aa)=some (.slice cJ cU di)/\
 cond (decide (cN>=(cU:Int)))
 (J2 true w7)
 (∃cX,w7.cell? ⟨bj,2,none⟩=some (.q cX)/\
 cond (decide (cX<0))
 (J2 true w7)
 (∃dr,w7.cell? ⟨bj,2,none⟩=some (.q dr)/\
 ∃dG,w7.cell? ⟨bj,3,none⟩=some (.q dG)/\
 cond (decide (dr>dG))
 (J2 true w7)
 (∃cK,w7.cell? ⟨bj,3,none⟩=some (.q cK)/\
 J2 (decide (cK>16)) w7)))))))/\
 ∀(_x66:Nat->Value) cI w8,J2 cI w8->
 cond (cI)
 (K (.bool false) w8)
 (∃dy,w8.cell? ⟨bj,1,none⟩=some (.q dy)/\
 I dy (IntKind.i64.wrap (bk+1)) w8/\aR dy (IntKind.i64.wrap (bk+1)) w8<aR bc bk w3)))
 (∃dL dV ev,w3.cell? ⟨aa,2,none⟩=some (.slice dL dV ev)/\
 ∃(I1:Int->Int->World->Prop) (dW:Int->Int->World->Nat),I1 0 0 w3/\
 ∀(_x73:Nat->Value) (eg:Int) (dY:Int) (w9:World),I1 eg dY w9->
 cond (decide (dY<(dV:Int)))
 (((0:Int)<=dY/\dY<(dV:Int))/\
 Aj dL (fun eP=>
 ∃fQ eX eH,Ad w9 (eP.add (dY.toNat*3)) [.s fQ,.q eX,.q eH]/\
 ∀ei aK,ei=w9.heap.size->aK=w9.alloc (.cells #[.s [],.q 0,.q 0] 99)->
 Ag aK (Zb ei) 3/\∀aF,aF=setCells aK (Zb ei) [.s fQ,.q eX,.q eH]->
 ∃(J3:Bool->World->Prop),
 (∃dJ,aF.cell? (Zb ei)=some (.s dJ)/\
 As 107 #[.s dJ] aF (fun eC aZ=>
 ∃fe,eC= .bool fe/\
 cond (!fe)
 (J3 true aZ)
 (∃eQ,aZ.cell? ⟨ei,2,none⟩=some (.q eQ)/\
 cond (decide (eQ<0))
 (J3 true aZ)
 (∃ew,aZ.cell? ⟨ei,2,none⟩=some (.q ew)/\
 cond (decide (ew>16))
 (J3 true aZ)
 (∃eY,aZ.cell? ⟨ei,1,none⟩=some (.q eY)/\
 J3 (eY !=eg) aZ)))))/\
 ∀(_x87:Nat->Value) eI bB,J3 eI bB->
 cond (eI)
 (K (.bool false) bB)
 (∃eD,bB.cell? ⟨ei,2,none⟩=some (.q eD)/\
 cond (decide ((IntKind.i64.wrap (eg+(if 1>eD then 1 else eD)))>64))
 (K (.bool false) bB)
 (I1 (IntKind.i64.wrap (eg+(if 1>eD then 1 else eD))) (IntKind.i64.wrap (dY+1)) bB/\dW (IntKind.i64.wrap (eg+(if 1>eD then 1 else eD))) (IntKind.i64.wrap (dY+1)) bB<dW eg dY w9))))
 (K (.bool true) w9)))
theorem Aa3 (x0:Option Addr) (x1:Nat) (x2:Nat) (x3:Option Addr) (x4:Nat) (x5:Nat) (x6:Option Addr) (x7:Nat) (x8:Nat) (x9:Int) (ae:Int) (K:Value->World->Prop) (w:World) (h:Aa2 x0 x1 x2 x3 x4 x5 x6 x7 x8 x9 ae K w):Calls Tryz.prog 55 #[.agg #[.slice x0 x1 x2,.slice x3 x4 x5,.slice x6 x7 x8,.q x9,.q ae]] w (aN K):=
 Af { loops:=[(250,[(4,.int .i64),(50,.int .i64)]),(1018,[(8,.int .i64),(110,.int .i64)])],dx:=[(14,[(46,.bool)]),(16025,[(7,.bool)]),(64102,[(103,.bool)]),(130354,[(133,.bool)])] } Tryz.func55 (by kernel_rfl) h
def Nh (x0:Nat) (x1:Int) (K:Value->World->Prop) (w:World):Prop:=∃(J:World->Prop),(∀w1,w1=w.drew->∃x2 x3 x4,w1.cell? ⟨x0,1,none⟩=some (.slice x2 x3 x4)/\((0:Int)<=x1/\x1<(x3:Int))/\Aj x2 (fun x5=>∃x6,w1.cell? ((x5.add (x1.toNat*4)).add 1)=some (.q x6)/\∃x7 x8 x9,w1.cell? (Zb x0)=some (.slice x7 x8 x9)/\∃ae aa ad,w1.cell? ⟨x0,1,none⟩=some (.slice ae aa ad)/\((0:Int)<=x1/\x1<(aa:Int))/\Aj ae (fun ai=>∃ah,w1.cell? ((ai.add (x1.toNat*4)).add 3)=some (.q ah)/\Ag w1 ⟨x0,6,none⟩ 1/\∀w2,w2=w1.setCell ⟨x0,6,none⟩ (.q x6)->Ag w2 ⟨x0,7,none⟩ 1/\∀w3,w3=w2.setCell ⟨x0,7,none⟩ (.q (x8:Int))->Ag w3 ⟨x0,8,none⟩ 1/\∀w4,w4=w3.setCell ⟨x0,8,none⟩ (.q ah)->J w4)))/\∀(_x15:Nat->Value) w5,J w5->∃aj aw ak,w5.cell? ⟨x0,1,none⟩=some (.slice aj aw ak)/\cond (decide ((IntKind.i64.wrap (x1+1))<(aw:Int))) (∃ay aA aB,w5.cell? ⟨x0,1,none⟩=some (.slice ay aA aB)/\((0:Int)<=(IntKind.i64.wrap (x1+1))/\(IntKind.i64.wrap (x1+1))<(aA:Int))/\Aj ay (fun aE=>∃ax,w5.cell? ((aE.add ((IntKind.i64.wrap (x1+1)).toNat*4)).add 1)=some (.q ax)/\Ag w5 ⟨x0,7,none⟩ 1/\∀w6,w6=w5.setCell ⟨x0,7,none⟩ (.q ax)->K (.tuple #[]) w6)) (K (.tuple #[]) w5)
theorem Ni (x0:Nat) (x1:Int) (K:Value->World->Prop) (w:World) (h:Nh x0 x1 K w):Calls Tryz.prog 56 #[.pointer (some ⟨x0,0,none⟩),.q x1] w (aN K):=
 Af { dx:=[(1,[])] } Tryz.func56 (by kernel_rfl) h
def Rn (x0:Nat) (x1:Int) (K:Value->World->Prop) (w:World):Prop:=∃x2 x3 x4,w.cell? (Zb x0)=some (.slice x2 x3 x4)/\((0:Int)<=x1/\x1<(x3:Int))/\Aj x2 (fun x5=>∃x6 x7 x8,Ad w (x5.add (x1.toNat*3)) [.q x6,.q x7,.q x8]/\∀x9 w1,x9=w.heap.size->w1=w.alloc (.cells #[.q 0,.q 0,.q 0] 95)->Ag w1 (Zb x9) 3/\∀w2,w2=setCells w1 (Zb x9) [.q x6,.q x7,.q x8]->∃(J:Bool->World->Prop),(∀w3,w3=w2.drew->∃(S:World->Prop),S w3/\∃ae aa ad,(∀u,S u->Ad u (Zb x9) [.q ae,.q aa,.q ad])/\As 108 #[.agg #[.q ae,.q aa,.q ad]] w3 (fun ai w4=>∃ah,ai= .bool ah/\S w4/\cond (!ah) (J true w4) (∃ag,(∀u,S u->u.cell? (Zb x9)=some (.q ag))/\∃aj,(∀u,S u->u.cell? ⟨x0,7,none⟩=some (.q aj))/\cond (!((ag==24)==(x1==(IntKind.i64.wrap (aj-1))))) (J true w4) (∃aw,(∀u,S u->u.cell? ⟨x0,6,none⟩=some (.q aw))/\cond (x1==aw) (∃ak,(∀u,S u->u.cell? (Zb x9)=some (.q ak))/\cond (ak !=1) (∃ay,(∀u,S u->u.cell? (Zb x9)=some (.q ay))/\J (ay !=24) w4) (J false w4)) (J false w4)))))/\∀(_x20:Nat->Value) aB w5,J aB w5->cond (aB) (K (.bool false) w5) (∃(J1:Bool->World->Prop),(∃aE,w5.cell? (Zb x9)=some (.q aE)/\cond (aE==1) (∀w6,w6=w5.drew->∃ax,w6.cell? ⟨x9,1,none⟩=some (.q ax)/\∃aD,w6.cell? ⟨x0,5,none⟩=some (.q aD)/\J1 (ax==aD) w6) (∃(J2:Bool->World->Prop),(cond (aE==3) (J2 (aE==3) w5) (cond (aE==4) (J2 (aE==4) w5) (cond (aE==11) (J2 (aE==11) w5) (cond (aE==12) (J2 (aE==12) w5) (J2 (aE==19) w5)))))/\∀(_x25:Nat->Value) aH w7,J2 aH w7->cond (aH) (∀w8,w8=w7.drew->∃ar,w8.cell? ⟨x9,1,none⟩=some (.q ar)/\cond (decide (ar>=0)) (∃bf,w8.cell? ⟨x9,1,none⟩=some (.q bf)/\∃a_,w8.cell? ⟨x0,8,none⟩=some (.q a_)/\J1 (decide (bf<a_)) w8) (J1 false w8)) (cond (aE==9) (∃aG aR bh,w7.cell? ⟨x0,2,none⟩=some (.slice aG aR bh)/\As 109 #[.slice aG aR bh,.func (.func 110) #[] #[.pointer (some (Zb x9))]] w7 (fun bc w9=>∃bk,bc= .bool bk/\J1 bk w9)) (cond (aE==14) (∀aK,aK=w7.drew->∃bJ,aK.cell? ⟨x9,1,none⟩=some (.q bJ)/\cond (decide (bJ>=0)) (∃aQ,aK.cell? ⟨x9,1,none⟩=some (.q aQ)/\∃bK bQ bE,aK.cell? ⟨x0,1,none⟩=some (.slice bK bQ bE)/\cond (decide (aQ<(bQ:Int))) (∃bj,aK.cell? ⟨x9,2,none⟩=some (.q bj)/\∃bN bS bD,aK.cell? ⟨x0,1,none⟩=some (.slice bN bS bD)/\∃bW,aK.cell? ⟨x9,1,none⟩=some (.q bW)/\((0:Int)<=bW/\bW<(bS:Int))/\Aj bN (fun bn=>∃bO,aK.cell? ((bn.add (bW.toNat*4)).add 2)=some (.q bO)/\J1 (bj==bO) aK)) (J1 false aK)) (J1 false aK)) (J1 true w7)))))/\∀(_x47:Nat->Value) bR aF,J1 bR aF->∃b_ ca b9,Ad aF (Zb x9) [.q b_,.q ca,.q b9]/\As 111 #[.agg #[.q b_,.q ca,.q b9]] aF (fun cr aZ=>∃cA ct,cr= .tuple #[.q cA,.bool ct]/\∃(J3:Bool->World->Prop),(cond (!bR) (J3 true aZ) (cond (ct) (As 112 #[.pointer (some (Zb x0)),.q x1,.q cA] aZ (fun cv bB=>∃cB,cv= .bool cB/\J3 (!cB) bB)) (J3 false aZ)))/\∀(_x57:Nat->Value) cN aU,J3 cN aU->cond (cN) (K (.bool false) aU) (∃cJ,aU.cell? (Zb x9)=some (.q cJ)/\As 113 #[.q cJ] aU (fun cU bV=>∃di,cU= .bool di/\cond (!di) (∃cX,bV.cell? (Zb x9)=some (.q cX)/\As 115 #[.q cX] bV (fun dr ck=>∃dG,dr= .bool dG/\cond (!dG) (K (.bool true) ck) (As 114 #[.pointer (some (Zb x0)),.q cA] ck (fun cK dh=>∃dP,cK= .bool dP/\K (.bool dP) dh)))) (As 114 #[.pointer (some (Zb x0)),.q (IntKind.i64.wrap (x1+1))] bV (fun cI cG=>∃dy,cI= .bool dy/\cond (dy) (∃dL,cG.cell? (Zb x9)=some (.q dL)/\As 115 #[.q dL] cG (fun dV eR=>∃ev,dV= .bool ev/\cond (!ev) (K (.bool true) eR) (As 114 #[.pointer (some (Zb x0)),.q cA] eR (fun dW eE=>∃eB,dW= .bool eB/\K (.bool eB) eE)))) (K (.bool false) cG))))))))
theorem Ro (x0:Nat) (x1:Int) (K:Value->World->Prop) (w:World) (h:Rn x0 x1 K w):Calls Tryz.prog 57 #[.pointer (some ⟨x0,0,none⟩),.q x1] w (aN K):=
 Af { dx:=[(14,[(50,.bool)]),(31,[(6,.bool)]),(254,[(136,.bool)]),(1003,[(62,.bool)])] } Tryz.func57 (by kernel_rfl) h
def Pf (x0:Nat) (x1:Int) (K:Value->World->Prop) (w:World):Prop:=∃x2 x3 x4 x5 x6 x7 x8 x9 ae aa ad,Ad w (Zb x0) [.slice x2 x3 x4,.slice x5 x6 x7,.slice x8 x9 ae,.q aa,.q ad]/\As 156 #[.agg #[.slice x2 x3 x4,.slice x5 x6 x7,.slice x8 x9 ae,.q aa,.q ad],.q x1] w (fun ai w1=>∃ah,ai= .q ah/\∃ag,w1.cell? ⟨x0,6,none⟩=some (.q ag)/\cond (decide (ah>=ag)) (∃aj,w1.cell? ⟨x0,7,none⟩=some (.q aj)/\cond (decide (ah<aj)) (∃aw ak ay,w1.cell? (Zb x0)=some (.slice aw ak ay)/\((0:Int)<=ah/\ah<(ak:Int))/\Aj aw (fun aA=>∃aB,w1.cell? (aA.add (ah.toNat*3))=some (.q aB)/\cond (aB==1) (K (.bool true) w1) (∃aE ax aD,w1.cell? (Zb x0)=some (.slice aE ax aD)/\((0:Int)<=ah/\ah<(ax:Int))/\Aj aE (fun aM=>∃aH,w1.cell? (aM.add (ah.toNat*3))=some (.q aH)/\K (.bool (aH==24)) w1)))) (K (.bool false) w1)) (K (.bool false) w1))
theorem Pg (x0:Nat) (x1:Int) (K:Value->World->Prop) (w:World) (h:Pf x0 x1 K w):Calls Tryz.prog 114 #[.pointer (some ⟨x0,0,none⟩),.q x1] w (aN K):=
 Af {} Tryz.func114 (by kernel_rfl) h
def Ph (x0:Nat) (x1:Int) (x2:Int) (K:Value->World->Prop) (w:World):Prop:=∃x3,w.cell? ⟨x0,6,none⟩=some (.q x3)/\cond (decide (x2>=x3)) (∃x4,w.cell? ⟨x0,7,none⟩=some (.q x4)/\cond (decide (x2<x4)) (cond (decide (x2>x1)) (K (.bool true) w) (∃x5 x6 x7,w.cell? (Zb x0)=some (.slice x5 x6 x7)/\((0:Int)<=x2/\x2<(x6:Int))/\Aj x5 (fun x8=>∃x9,w.cell? (x8.add (x2.toNat*3))=some (.q x9)/\K (.bool (x9==1)) w))) (K (.bool false) w)) (K (.bool false) w)
theorem Pj (x0:Nat) (x1:Int) (x2:Int) (K:Value->World->Prop) (w:World) (h:Ph x0 x1 x2 K w):Calls Tryz.prog 112 #[.pointer (some ⟨x0,0,none⟩),.q x1,.q x2] w (aN K):=
 Af {} Tryz.func112 (by kernel_rfl) h
def Aib (x0:Int) (K:Value->World->Prop) (w:World):Prop:=∃(J:Bool->World->Prop),(cond (x0==4) (J (x0==4) w) (cond (x0==10) (J (x0==10) w) (cond (x0==11) (J (x0==11) w) (cond (x0==12) (J (x0==12) w) (cond (x0==13) (J (x0==13) w) (cond (x0==14) (J (x0==14) w) (cond (x0==15) (J (x0==15) w) (cond (x0==16) (J (x0==16) w) (J (x0==17) w)))))))))/\∀(_x1:Nat->Value) x2 w1,J x2 w1->cond (x2) (K (.bool true) w1) (K (.bool false) w1)
theorem Aic (x0:Int) (K:Value->World->Prop) (w:World) (h:Aib x0 K w):Calls Tryz.prog 113 #[.q x0] w (aN K):=
 Af { dx:=[(26,[(4,.bool)])] } Tryz.func113 (by kernel_rfl) h
def X4 (x0:Int) (K:Value->World->Prop) (w:World):Prop:=∀(_x1:Nat->Value),K (.bool ((x0==19)||((x0==20)||((x0==21)||(x0==22))))) w
theorem X5 (x0:Int) (K:Value->World->Prop) (w:World) (h:X4 x0 K w):Calls Tryz.prog 115 #[.q x0] w (aN K):=
 Af { jl:=[(6,[2])] } Tryz.func115 (by kernel_rfl) h
def Aid (x0:Int) (x1:Int) (x2:Int) (x3:Int) (x4:Bool) (K:Value->World->Prop) (w:World):Prop:=∀x5 w1,x5=w.heap.size->w1=w.alloc (.cells #[.q x0,.q x1,.q x2] 95)->∀x6 w2,x6=w1.heap.size->w2=w1.alloc (.cells #[.q x3,.bool x4] 186)->∀x7 w3,x7=w2.heap.size->w3=w2.alloc (.cells #[.q 0,.bool false] 186)->∃(J:Int->World->Prop),(∀w4,w4=w3.drew->∃(S:World->Prop),S w4/\∃x8,(∀u,S u->u.cell? (Zb x6)=some (.q x8))/\∃x9 ae aa,(∀u,S u->Ad u (Zb x5) [.q x9,.q ae,.q aa])/\As 183 #[.agg #[.q x9,.q ae,.q aa]] w4 (fun ad w5=>∃ai,ad= .q ai/\S w5/\J (IntKind.i64.wrap (x8-ai)) w5))/\∀(_x14:Nat->Value) ag w6,J ag w6->∃(J1:Bool->World->Prop),(∃(J2:Bool->World->Prop),(∃aj,w6.cell? (Zb x5)=some (.q aj)/\cond (aj==1) (J2 (aj==1) w6) (∃aw,w6.cell? (Zb x5)=some (.q aw)/\cond (aw==24) (J2 (aw==24) w6) (∃ak,w6.cell? (Zb x5)=some (.q ak)/\J2 (ak==25) w6)))/\∀(_x19:Nat->Value) aA w7,J2 aA w7->cond (aA) (∃aB aE,Ad w7 (Zb x6) [.q aB,.bool aE]/\∃ax,w7.cell? (Zb x5)=some (.q ax)/\Ag w7 ⟨x6,1,none⟩ 1/\∀w8,w8=w7.setCell ⟨x6,1,none⟩ (.bool (ax==25))->J1 ((aB==0)&&((aE==false)&&true)) w8) (∃aD,w7.cell? (Zb x5)=some (.q aD)/\cond (aD==23) (∃aM aH,Ad w7 (Zb x6) [.q aM,.bool aH]/\J1 ((aM==0)&&((aH==true)&&true)) w7) (∃ar,w7.cell? (Zb x5)=some (.q ar)/\As 115 #[.q ar] w7 (fun bf w9=>∃a_,bf= .bool a_/\cond (a_) (cond (ag==0) (∃aG,w9.cell? ⟨x6,1,none⟩=some (.bool aG)/\J1 aG w9) (J1 false w9)) (∃(J3:Bool->World->Prop),(∃aR,w9.cell? (Zb x5)=some (.q aR)/\As 113 #[.q aR] w9 (fun bh aK=>∃bc,bh= .bool bc/\cond (bc) (J3 bc aK) (∃bk,aK.cell? (Zb x5)=some (.q bk)/\J3 (bk==18) aK)))/\∀(_x35:Nat->Value) aQ aF,J3 aQ aF->cond (aQ) (cond (ag==0) (∃bK,aF.cell? ⟨x6,1,none⟩=some (.bool bK)/\J1 (!bK) aF) (J1 false aF)) (J1 (decide (ag>=0)) aF))))))/\∀(_x38:Nat->Value) bE aZ,J1 bE aZ->∃bj bN bS,Ad aZ (Zb x5) [.q bj,.q bN,.q bS]/\As 184 #[.agg #[.q bj,.q bN,.q bS]] aZ (fun bD bB=>∃bW,bD= .q bW/\Ag bB (Zb x6) 1/\∀aU,aU=bB.setCell (Zb x6) (.q (IntKind.i64.wrap (ag+bW)))->∃bn bO,Ad aU (Zb x6) [.q bn,.bool bO]/\Ag aU (Zb x7) 2/\∀bV,bV=setCells aU (Zb x7) [.q bn,.bool bO]->∃bM bR,Ad bV (Zb x7) [.q bM,.bool bR]/\K (.tuple #[.agg #[.q bM,.bool bR],.bool bE]) bV)
theorem Aie (x0:Int) (x1:Int) (x2:Int) (x3:Int) (x4:Bool) (K:Value->World->Prop) (w:World) (h:Aid x0 x1 x2 x3 x4 K w):Calls Tryz.prog 116 #[.agg #[.q x0,.q x1,.q x2],.agg #[.q x3,.bool x4]] w (aN K):=
 Af { dx:=[(3,[(6,.int .i64)]),(15,[(7,.bool)]),(60,[(15,.bool)]),(3903,[(49,.bool)])] } Tryz.func116 (by kernel_rfl) h
def Aa4 (x0:Option Addr) (x1:Nat) (x2:Nat) (x3:Option Addr) (x4:Nat) (x5:Nat) (x6:Option Addr) (x7:Nat) (x8:Nat) (x9:Int) (ae:Int) (aa:Int) (K:Value->World->Prop) (w:World):Prop:=∀ad w1,ad=w.heap.size->w1=w.alloc (.cells #[.slice x0 x1 x2,.slice x3 x4 x5,.slice x6 x7 x8,.q x9,.q ae] 26)->∃ai ah ag,w1.cell? (Zb ad)=some (.slice ai ah ag)/\∃(I:Int->Int->World->Prop) (aj:Int->Int->World->Nat),I aa 0 w1/\∀(_x17:Nat->Value) (ak:Int) (ay:Int) (w2:World),I ak ay w2->cond (decide (ay<(IntKind.i64.wrap ((ah:Int)+1)))) (∃(J:Bool->World->Prop),(cond (decide (ak<0)) (J true w2) (∃aA aB aE,w2.cell? (Zb ad)=some (.slice aA aB aE)/\cond (decide (ak>=(aB:Int))) (J true w2) (∃ax aD aM,w2.cell? (Zb ad)=some (.slice ax aD aM)/\((0:Int)<=ak/\ak<(aD:Int))/\Aj ax (fun aH=>∃ar,w2.cell? (aH.add (ak.toNat*3))=some (.q ar)/\J (ar !=6) w2))))/\∀(_x28:Nat->Value) a_ w3,J a_ w3->cond (a_) (K (.q ak) w3) (∃aG aR bh,w3.cell? (Zb ad)=some (.slice aG aR bh)/\((0:Int)<=ak/\ak<(aR:Int))/\Aj aG (fun bc=>∃bk,w3.cell? ((bc.add (ak.toNat*3)).add 1)=some (.q bk)/\I bk (IntKind.i64.wrap (ay+1)) w3/\aj bk (IntKind.i64.wrap (ay+1)) w3<aj ak ay w2))) (K (.q aa) w2)
theorem Aa5 (x0:Option Addr) (x1:Nat) (x2:Nat) (x3:Option Addr) (x4:Nat) (x5:Nat) (x6:Option Addr) (x7:Nat) (x8:Nat) (x9:Int) (ae:Int) (aa:Int) (K:Value->World->Prop) (w:World) (h:Aa4 x0 x1 x2 x3 x4 x5 x6 x7 x8 x9 ae aa K w):Calls Tryz.prog 156 #[.agg #[.slice x0 x1 x2,.slice x3 x4 x5,.slice x6 x7 x8,.q x9,.q ae],.q aa] w (aN K):=
 Af { loops:=[(58,[(5,.int .i64),(11,.int .i64)])],dx:=[(3736,[(30,.bool)])] } Tryz.func156 (by kernel_rfl) h
def X6 (x0:Int) (x1:Int) (x2:Int) (K:Value->World->Prop) (w:World):Prop:=∀x3 w1,x3=w.heap.size->w1=w.alloc (.cells #[.q x0,.q x1,.q x2] 95)->∃x4,w1.cell? (Zb x3)=some (.q x4)/\∃(J:Bool->World->Prop),(cond (x4==6) (J (x4==6) w1) (cond (x4==7) (J (x4==7) w1) (cond (x4==8) (J (x4==8) w1) (cond (x4==20) (J (x4==20) w1) (cond (x4==21) (J (x4==21) w1) (J (x4==22) w1))))))/\∀(_x5:Nat->Value) x6 w2,J x6 w2->cond (x6) (∃x7,w2.cell? ⟨x3,1,none⟩=some (.q x7)/\K (.tuple #[.q x7,.bool true]) w2) (cond (x4==19) (∃x8,w2.cell? ⟨x3,2,none⟩=some (.q x8)/\K (.tuple #[.q x8,.bool true]) w2) (K (.tuple #[.q 0,.bool false]) w2))
theorem X7 (x0:Int) (x1:Int) (x2:Int) (K:Value->World->Prop) (w:World) (h:X6 x0 x1 x2 K w):Calls Tryz.prog 111 #[.agg #[.q x0,.q x1,.q x2]] w (aN K):=
 Af { dx:=[(26,[(6,.bool)])] } Tryz.func111 (by kernel_rfl) h
def Aif (x0:Int) (x1:Int) (x2:Int) (K:Value->World->Prop) (w:World):Prop:=∀x3 w1,x3=w.heap.size->w1=w.alloc (.cells #[.q x0,.q x1,.q x2] 95)->∃x4,w1.cell? (Zb x3)=some (.q x4)/\As 180 #[.q x4] w1 (fun x5 w2=>∃x6 x7 x8 x9 ae,x5= .tuple #[.agg #[.s x6,.q x7,.q x8,.q x9],.bool ae]/\∀aa w3,aa=w2.heap.size->w3=w2.alloc (.cells #[.s [],.q 0,.q 0,.q 0] 223)->Ag w3 (Zb aa) 4/\∀w4,w4=setCells w3 (Zb aa) [.s x6,.q x7,.q x8,.q x9]->∃(J:Bool->World->Prop),(cond (!ae) (J true w4) (∃ad,w4.cell? ⟨aa,1,none⟩=some (.q ad)/\cond (decide (ad<1)) (∃ai,w4.cell? ⟨x3,1,none⟩=some (.q ai)/\cond (ai !=0) (J true w4) (∃ah,w4.cell? ⟨aa,1,none⟩=some (.q ah)/\cond (decide (ah<2)) (∃ag,w4.cell? ⟨x3,2,none⟩=some (.q ag)/\J (ag !=0) w4) (J false w4))) (∃aj,w4.cell? ⟨aa,1,none⟩=some (.q aj)/\cond (decide (aj<2)) (∃aw,w4.cell? ⟨x3,2,none⟩=some (.q aw)/\J (aw !=0) w4) (J false w4))))/\∀(_x18:Nat->Value) ay w5,J ay w5->cond (ay) (K (.bool false) w5) (∃aA,w5.cell? (Zb x3)=some (.q aA)/\cond (aA !=14) (∃aB,w5.cell? (Zb x3)=some (.q aB)/\cond (aB !=5) (K (.bool true) w5) (∃aE,w5.cell? ⟨x3,1,none⟩=some (.q aE)/\As 181 #[.q aE] w5 (fun ax w6=>∃aD,ax= .q aD/\K (.bool (decide (aD>0))) w6))) (∃aM,w5.cell? ⟨x3,2,none⟩=some (.q aM)/\cond (decide (aM>=0)) (∃aH,w5.cell? (Zb x3)=some (.q aH)/\cond (aH !=5) (K (.bool true) w5) (∃ar,w5.cell? ⟨x3,1,none⟩=some (.q ar)/\As 181 #[.q ar] w5 (fun bf w7=>∃a_,bf= .q a_/\K (.bool (decide (a_>0))) w7))) (K (.bool false) w5))))
theorem Aig (x0:Int) (x1:Int) (x2:Int) (K:Value->World->Prop) (w:World) (h:Aif x0 x1 x2 K w):Calls Tryz.prog 108 #[.agg #[.q x0,.q x1,.q x2]] w (aN K):=
 Af { dx:=[(14,[(32,.bool)])] } Tryz.func108 (by kernel_rfl) h
def Aih (x0:Int) (x1:Int) (x2:Int) (K:Value->World->Prop) (w:World):Prop:=∀x3 w1,x3=w.heap.size->w1=w.alloc (.cells #[.q x0,.q x1,.q x2] 95)->∃x4,w1.cell? (Zb x3)=some (.q x4)/\As 180 #[.q x4] w1 (fun x5 w2=>∃x6 x7 x8 x9 ae,x5= .tuple #[.agg #[.s x6,.q x7,.q x8,.q x9],.bool ae]/\∀aa w3,aa=w2.heap.size->w3=w2.alloc (.cells #[.s [],.q 0,.q 0,.q 0] 223)->Ag w3 (Zb aa) 4/\∀w4,w4=setCells w3 (Zb aa) [.s x6,.q x7,.q x8,.q x9]->∃ad ai ah,Ad w4 (Zb x3) [.q ad,.q ai,.q ah]/\As 108 #[.agg #[.q ad,.q ai,.q ah]] w4 (fun ag w5=>∃aj,ag= .bool aj/\cond (!aj) (K (.q 0) w5) (∃aw,w5.cell? (Zb x3)=some (.q aw)/\cond (aw==5) (∃ak,w5.cell? ⟨x3,1,none⟩=some (.q ak)/\As 181 #[.q ak] w5 (fun ay w6=>∃aA,ay= .q aA/\K (.q aA) w6)) (∃(J:Bool->World->Prop),(∃aB,w5.cell? (Zb x3)=some (.q aB)/\cond (aB==9) (∃aE,w5.cell? ⟨x3,2,none⟩=some (.q aE)/\J (decide (aE>0)) w5) (J false w5))/\∀(_x23:Nat->Value) aD w7,J aD w7->cond (aD) (K (.q 1) w7) (∃aM,w7.cell? (Zb x3)=some (.q aM)/\cond (aM==14) (∃aH,w7.cell? ⟨x3,2,none⟩=some (.q aH)/\K (.q aH) w7) (∃ar,w7.cell? ⟨aa,2,none⟩=some (.q ar)/\K (.q ar) w7))))))
theorem Aii (x0:Int) (x1:Int) (x2:Int) (K:Value->World->Prop) (w:World) (h:Aih x0 x1 x2 K w):Calls Tryz.prog 183 #[.agg #[.q x0,.q x1,.q x2]] w (aN K):=
 Af { dx:=[(463,[(22,.bool)])] } Tryz.func183 (by kernel_rfl) h
def Aij (x0:Int) (x1:Int) (x2:Int) (K:Value->World->Prop) (w:World):Prop:=∀x3 w1,x3=w.heap.size->w1=w.alloc (.cells #[.q x0,.q x1,.q x2] 95)->∃x4,w1.cell? (Zb x3)=some (.q x4)/\As 180 #[.q x4] w1 (fun x5 w2=>∃x6 x7 x8 x9 ae,x5= .tuple #[.agg #[.s x6,.q x7,.q x8,.q x9],.bool ae]/\∀aa w3,aa=w2.heap.size->w3=w2.alloc (.cells #[.s [],.q 0,.q 0,.q 0] 223)->Ag w3 (Zb aa) 4/\∀w4,w4=setCells w3 (Zb aa) [.s x6,.q x7,.q x8,.q x9]->∃(J:Bool->World->Prop),(cond (ae) (∃ad ai ah,Ad w4 (Zb x3) [.q ad,.q ai,.q ah]/\As 108 #[.agg #[.q ad,.q ai,.q ah]] w4 (fun ag w5=>∃aj,ag= .bool aj/\J aj w5)) (J false w4))/\∀(_x17:Nat->Value) ak w6,J ak w6->cond (ak) (∃ay,w6.cell? ⟨aa,3,none⟩=some (.q ay)/\K (.q ay) w6) (K (.q 0) w6))
theorem Aik (x0:Int) (x1:Int) (x2:Int) (K:Value->World->Prop) (w:World) (h:Aij x0 x1 x2 K w):Calls Tryz.prog 184 #[.agg #[.q x0,.q x1,.q x2]] w (aN K):=
 Af { dx:=[(13,[(15,.bool)])] } Tryz.func184 (by kernel_rfl) h
def Alk (x0:Int) (K:Value->World->Prop) (w:World):Prop:=∀x1 w1,x1=w.heap.size->w1=w.alloc (.cells #[.s [],.q 0,.q 0,.q 0] 223)->∀(_x2:Nat->Value),cond (((decide (x0<1))||(decide (x0>25)))) (Ag w1 (Zb x1) 4/\∀w2,w2=setCells w1 (Zb x1) [.s [],.q 0,.q 0,.q 0]->∃x3 x4 x5 x6,Ad w2 (Zb x1) [.s x3,.q x4,.q x5,.q x6]/\K (.tuple #[.agg #[.s x3,.q x4,.q x5,.q x6],.bool false]) w2) (As 227 #[] w1 (fun x7 w3=>∃x8 x9 ae aa ad ai ah ag aj aw ak ay aA aB aE ax aD aM aH ar bf a_ aG aR bh bc bk bJ aQ bK bQ bE bj bN bS bD bW bn bO bM bR b_ ca b9 cr cA ct cv cB c_ cN cJ cU di cX dr dG cK dP cI dy dL dV ev dW eB eg dY eP fQ eX eH ei dJ eC fe eQ ew eY eZ eI eD dZ dK eJ e8 fj f_ fm fM gw fD h_ gb dQ fP ia fc gz gK gL i5 gA gY,x7= .agg #[.s x8,.q x9,.q ae,.q aa,.s ad,.q ai,.q ah,.q ag,.s aj,.q aw,.q ak,.q ay,.s aA,.q aB,.q aE,.q ax,.s aD,.q aM,.q aH,.q ar,.s bf,.q a_,.q aG,.q aR,.s bh,.q bc,.q bk,.q bJ,.s aQ,.q bK,.q bQ,.q bE,.s bj,.q bN,.q bS,.q bD,.s bW,.q bn,.q bO,.q bM,.s bR,.q b_,.q ca,.q b9,.s cr,.q cA,.q ct,.q cv,.s cB,.q c_,.q cN,.q cJ,.s cU,.q di,.q cX,.q dr,.s dG,.q cK,.q dP,.q cI,.s dy,.q dL,.q dV,.q ev,.s dW,.q eB,.q eg,.q dY,.s eP,.q fQ,.q eX,.q eH,.s ei,.q dJ,.q eC,.q fe,.s eQ,.q ew,.q eY,.q eZ,.s eI,.q eD,.q dZ,.q dK,.s eJ,.q e8,.q fj,.q f_,.s fm,.q fM,.q gw,.q fD,.s h_,.q gb,.q dQ,.q fP,.s ia,.q fc,.q gz,.q gK,.s gL,.q i5,.q gA,.q gY]/\Bl Tryz.prog (Instr.index 255 (.agg #[.s x8,.q x9,.q ae,.q aa,.s ad,.q ai,.q ah,.q ag,.s aj,.q aw,.q ak,.q ay,.s aA,.q aB,.q aE,.q ax,.s aD,.q aM,.q aH,.q ar,.s bf,.q a_,.q aG,.q aR,.s bh,.q bc,.q bk,.q bJ,.s aQ,.q bK,.q bQ,.q bE,.s bj,.q bN,.q bS,.q bD,.s bW,.q bn,.q bO,.q bM,.s bR,.q b_,.q ca,.q b9,.s cr,.q cA,.q ct,.q cv,.s cB,.q c_,.q cN,.q cJ,.s cU,.q di,.q cX,.q dr,.s dG,.q cK,.q dP,.q cI,.s dy,.q dL,.q dV,.q ev,.s dW,.q eB,.q eg,.q dY,.s eP,.q fQ,.q eX,.q eH,.s ei,.q dJ,.q eC,.q fe,.s eQ,.q ew,.q eY,.q eZ,.s eI,.q eD,.q dZ,.q dK,.s eJ,.q e8,.q fj,.q f_,.s fm,.q fM,.q gw,.q fD,.s h_,.q gb,.q dQ,.q fP,.s ia,.q fc,.q gz,.q gK,.s gL,.q i5,.q gA,.q gY]) (.q x0)) (fun gS w4=>∃ic ib ie ig,gS= .agg #[.s ic,.q ib,.q ie,.q ig]/\Ag w4 (Zb x1) 4/\∀w5,w5=setCells w4 (Zb x1) [.s ic,.q ib,.q ie,.q ig]->∃iz iP ij iA,Ad w5 (Zb x1) [.s iz,.q iP,.q ij,.q iA]/\K (.tuple #[.agg #[.s iz,.q iP,.q ij,.q iA],.bool true]) w5) w3))
theorem All (x0:Int) (K:Value->World->Prop) (w:World) (h:Alk x0 K w):Calls Tryz.prog 180 #[.q x0] w (aN K):=
 Af { jl:=[(12,[9])] } Tryz.func180 (by kernel_rfl) h
def Adf (x0:Int) (K:Value->World->Prop) (w:World):Prop:=∀(_x1:Nat->Value),cond (((x0==3)||(x0==4))) (K (.q 1) w) (∀(_x2:Nat->Value),cond (((decide (x0>=5))&&(decide (x0<=17)))) (K (.q 2) w) (K (.q 0) w))
theorem Adg (x0:Int) (K:Value->World->Prop) (w:World) (h:Adf x0 K w):Calls Tryz.prog 181 #[.q x0] w (aN K):=
 Af { jl:=[(24,[3]),(102,[10])] } Tryz.func181 (by kernel_rfl) h
def Adh (x0:List UInt8) (K:Value->World->Prop) (w:World):Prop:=cond (!(x0==[])) (cond (decide ((x0.length:Int)<=16)) (((0:Int)<=0/\0<(x0.length:Int))/\As 176 #[.int .u8 ((x0.getD 0 0).toNat:Int)] w (fun x1 w1=>∃x2,x1= .bool x2/\cond (x2) (As 177 #[.s x0,.func (.func 178) #[] #[]] w1 (fun x3 w2=>∃x4,x3= .s x4/\cond (x4==x0) (As 179 #[.s x0] w2 (fun x5 w3=>∃x6,x5= .bool x6/\K (.bool (!x6)) w3)) (K (.bool false) w2))) (K (.bool false) w1))) (K (.bool false) w)) (K (.bool false) w)
theorem Adi (x0:List UInt8) (K:Value->World->Prop) (w:World) (h:Adh x0 K w):Calls Tryz.prog 107 #[.s x0] w (aN K):=
 Af {} Tryz.func107 (by kernel_rfl) h
def X8 (x0:Int) (K:Value->World->Prop) (w:World):Prop:=∀(_x1:Nat->Value),K (.bool ((x0==95)||((decide ((Py .u8 x0 32)>=97))&&(decide ((Py .u8 x0 32)<=122))))) w
theorem X9 (x0:Int) (K:Value->World->Prop) (w:World) (h:X8 x0 K w):Calls Tryz.prog 176 #[.int .u8 x0] w (aN K):=
 Af { jl:=[(6,[2])] } Tryz.func176 (by kernel_rfl) h
def Ya (x0:Int) (K:Value->World->Prop) (w:World):Prop:=As 176 #[.int .u8 x0] w (fun x1 w1=>∃x2,x1= .bool x2/\cond (x2) (K (.bool true) w1) (As 224 #[.int .u8 x0] w1 (fun x3 w2=>∃x4,x3= .bool x4/\K (.bool x4) w2)))
theorem Yb (x0:Int) (K:Value->World->Prop) (w:World) (h:Ya x0 K w):Calls Tryz.prog 178 #[.int .u8 x0] w (aN K):=
 Af {} Tryz.func178 (by kernel_rfl) h
def Adj (x0:List UInt8) (K:Value->World->Prop) (w:World):Prop:=As 226 #[] w (fun x1 w1=>∃x2 x3 x4,x1= .slice x2 x3 x4/\As 225 #[.slice x2 x3 x4,.s x0] w1 (fun x5 w2=>∃x6 x7,x5= .tuple #[.q x6,.bool x7]/\K (.bool x7) w2))
theorem Adk (x0:List UInt8) (K:Value->World->Prop) (w:World) (h:Adj x0 K w):Calls Tryz.prog 179 #[.s x0] w (aN K):=
 Af {} Tryz.func179 (by kernel_rfl) h
def Aa6 (x0:Int) (K:Value->World->Prop) (w:World):Prop:=∀(_x1:Nat->Value),K (.bool ((decide (x0>=48))&&(decide (x0<=57)))) w
theorem Aa7 (x0:Int) (K:Value->World->Prop) (w:World) (h:Aa6 x0 K w):Calls Tryz.prog 224 #[.int .u8 x0] w (aN K):=
 Af { jl:=[(6,[2])] } Tryz.func224 (by kernel_rfl) h
def Aa8 (K:Value->World->Prop) (w:World):Prop:=∀x0 w1,x0=w.heap.size->w1=w.alloc (.cells #[.s [97,102,116,101,114],.s [97,115,115,101,114,116],.s [99,97,115,101],.s [99,104,97,110],.s [101,108,115,101],.s [105,102],.s [109,97,105,110],.s [112,114,105,110,116],.s [112,114,111,99],.s [114,97,110,100,111,109],.s [115,101,108,101,99,116],.s [115,107,105,112],.s [115,108,101,101,112],.s [115,116,97,114,116],.s [115,116,111,112],.s [118,97,114],.s [119,104,101,110],.s [119,104,105,108,101]] 9)->K (.slice (some (Zb x0)) 18 18) w1
theorem Aa9 (K:Value->World->Prop) (w:World) (h:Aa8 K w):Calls Tryz.prog 226 #[] w (aN K):=
 Af {} Tryz.func226 (by kernel_rfl) h
def Ft (x0:Option Addr) (x1:Nat) (_x2:Nat) (x3:List UInt8) (K:Value->World->Prop) (w:World):Prop:=∃(I:Int->Int->World->Prop) (x4:Int->Int->World->Nat),I 0 (x1:Int) w/\∀(_x5:Nat->Value) (x6:Int) (x7:Int) (w1:World),I x6 x7 w1->cond (decide (x6<x7)) ((0:Int)<=1/\((0:Int)<=(IntKind.i64.wrap ((IntKind.u64.wrap (IntKind.i64.wrap (x6+x7))).fdiv (2^(min 1 IntKind.u64.bits))))/\(IntKind.i64.wrap ((IntKind.u64.wrap (IntKind.i64.wrap (x6+x7))).fdiv (2^(min 1 IntKind.u64.bits))))<(x1:Int))/\Aj x0 (fun x8=>∃x9,w1.cell? (x8.add ((IntKind.i64.wrap ((IntKind.u64.wrap (IntKind.i64.wrap (x6+x7))).fdiv (2^(min 1 IntKind.u64.bits)))).toNat*1))=some (.s x9)/\As 248 #[.s x9,.s x3] w1 (fun ae w2=>∃aa,ae= .bool aa/\cond (aa) (I (IntKind.i64.wrap ((IntKind.i64.wrap ((IntKind.u64.wrap (IntKind.i64.wrap (x6+x7))).fdiv (2^(min 1 IntKind.u64.bits))))+1)) x7 w2/\x4 (IntKind.i64.wrap ((IntKind.i64.wrap ((IntKind.u64.wrap (IntKind.i64.wrap (x6+x7))).fdiv (2^(min 1 IntKind.u64.bits))))+1)) x7 w2<x4 x6 x7 w1) (I x6 (IntKind.i64.wrap ((IntKind.u64.wrap (IntKind.i64.wrap (x6+x7))).fdiv (2^(min 1 IntKind.u64.bits)))) w2/\x4 x6 (IntKind.i64.wrap ((IntKind.u64.wrap (IntKind.i64.wrap (x6+x7))).fdiv (2^(min 1 IntKind.u64.bits)))) w2<x4 x6 x7 w1)))) (cond (decide (x6<(x1:Int))) (((0:Int)<=x6/\x6<(x1:Int))/\Aj x0 (fun ad=>∃ai,w1.cell? (ad.add (x6.toNat*1))=some (.s ai)/\cond (ai==x3) (K (.tuple #[.q x6,.bool true]) w1) (((0:Int)<=x6/\x6<(x1:Int))/\Aj x0 (fun ah=>∃ag,w1.cell? (ah.add (x6.toNat*1))=some (.s ag)/\As 249 #[.s ag] w1 (fun aj w3=>∃aw,aj= .bool aw/\cond (aw) (As 249 #[.s x3] w3 (fun ak w4=>∃ay,ak= .bool ay/\K (.tuple #[.q x6,.bool ay]) w4)) (K (.tuple #[.q x6,.bool false]) w3)))))) (K (.tuple #[.q x6,.bool false]) w1))
theorem Fv (x0:Option Addr) (x1:Nat) (x2:Nat) (x3:List UInt8) (K:Value->World->Prop) (w:World) (h:Ft x0 x1 x2 x3 K w):Calls Tryz.prog 225 #[.slice x0 x1 x2,.s x3] w (aN K):=
 Af { loops:=[(60,[(7,.int .i64),(8,.int .i64)])] } Tryz.func225 (by kernel_rfl) h
def Sy (x0:List UInt8) (x1:List UInt8) (K:Value->World->Prop) (w:World):Prop:=As 265 #[.s x0] w (fun x2 w1=>∃x3,x2= .bool x3/\cond (x3) (As 265 #[.s x1] w1 (fun x4 w2=>∃x5,x4= .bool x5/\cond (!x5) (K (.bool true) w2) (K (.bool (Op.bytesLess x0 x1)) w2))) (K (.bool (Op.bytesLess x0 x1)) w1))
theorem Sz (x0:List UInt8) (x1:List UInt8) (K:Value->World->Prop) (w:World) (h:Sy x0 x1 K w):Calls Tryz.prog 248 #[.s x0,.s x1] w (aN K):=
 Af {} Tryz.func248 (by kernel_rfl) h
def Oe (x0:List UInt8) (K:Value->World->Prop) (w:World):Prop:=K (.bool (!(x0==x0))) w
theorem Of (x0:List UInt8) (K:Value->World->Prop) (w:World) (h:Oe x0 K w):Calls Tryz.prog 249 #[.s x0] w (aN K):=
 Af {} Tryz.func249 (by kernel_rfl) h
def Rp (x0:List UInt8) (K:Value->World->Prop) (w:World):Prop:=K (.bool (!(x0==x0))) w
theorem Rq (x0:List UInt8) (K:Value->World->Prop) (w:World) (h:Rp x0 K w):Calls Tryz.prog 265 #[.s x0] w (aN K):=
 Af {} Tryz.func265 (by kernel_rfl) h
def Aba (x0:Int) (x1:Int) (K:Value->World->Prop) (w:World):Prop:=∀(_x2:Nat->Value),K (.bool ((decide (x0>=0))&&(decide (x0<=x1)))) w
theorem Abb (x0:Int) (x1:Int) (K:Value->World->Prop) (w:World) (h:Aba x0 x1 K w):Calls Tryz.prog 62 #[.q x0,.q x1] w (aN K):=
 Af { jl:=[(6,[4])] } Tryz.func62 (by kernel_rfl) h
def Ail (x0:Int) (x1:Int) (x2:Option Addr) (x3:Nat) (x4:Nat) (x5:Int) (x6:Int) (x7:Int) (x8:Int) (x9:Int) (ae:Int) (aa:Int) (ad:Option Addr) (ai:Nat) (ah:Nat) (K:Value->World->Prop) (w:World):Prop:=∀ag w1,ag=w.heap.size->w1=w.alloc (.cells #[.q x0,.q x1,.slice x2 x3 x4,.q x5,.q x6,.q x7,.q x8,.q x9,.q ae,.q aa,.slice ad ai ah] 56)->∀aj w2,aj=w1.heap.size->w2=w1.alloc (.cells #[.q 0,.q 0,.slice none 0 0,.q 0,.q 0,.q 0,.q 0,.q 0,.q 0,.q 0,.slice none 0 0] 56)->∃aw,w2.cell? (Zb ag)=some (.q aw)/\∃ak,w2.cell? ⟨ag,1,none⟩=some (.q ak)/\∃ay aA aB,w2.cell? ⟨ag,2,none⟩=some (.slice ay aA aB)/\∃aE,w2.cell? ⟨ag,3,none⟩=some (.q aE)/\∃ax,w2.cell? ⟨ag,4,none⟩=some (.q ax)/\∀aD w3,aD=w2.heap.size->w3=w2.alloc (.cells #[.q 0,.q 0,.slice none 0 0,.q 0,.q 0,.q 0,.q 0,.q 0,.q 0,.q 0,.slice none 0 0] 56)->Ag w3 (Zb aD) 11/\∀w4,w4=setCells w3 (Zb aD) [.q aw,.q ak,.slice ay aA aB,.q aE,.q ax,.q 0,.q 0,.q 0,.q 0,.q 0,.slice none 0 0]->∃(J:World->Prop),(∃aM,w4.cell? ⟨ag,4,none⟩=some (.q aM)/\cond (aM==1) (∀w5,w5=w4.drew->∃(S:World->Prop),S w5/\∃aH,(∀u,S u->u.cell? ⟨ag,5,none⟩=some (.q aH))/\∃ar,(∀u,S u->u.cell? ⟨ag,6,none⟩=some (.q ar))/\∃bf,(∀u,S u->u.cell? ⟨ag,9,none⟩=some (.q bf))/\Ag w5 ⟨aD,5,none⟩ 1/\∀w6,w6=w5.setCell ⟨aD,5,none⟩ (.q aH)->S w6/\Ag w6 ⟨aD,6,none⟩ 1/\∀w7,w7=w6.setCell ⟨aD,6,none⟩ (.q ar)->S w7/\Ag w7 ⟨aD,9,none⟩ 1/\∀w8,w8=w7.setCell ⟨aD,9,none⟩ (.q bf)->J w8) (cond (aM==2) (∀w9,w9=w4.drew->∃(S1:World->Prop),S1 w9/\∃a_,(∀u,S1 u->u.cell? ⟨ag,5,none⟩=some (.q a_))/\∃aG,(∀u,S1 u->u.cell? ⟨ag,7,none⟩=some (.q aG))/\∃aR,(∀u,S1 u->u.cell? ⟨ag,9,none⟩=some (.q aR))/\Ag w9 ⟨aD,5,none⟩ 1/\∀aK,aK=w9.setCell ⟨aD,5,none⟩ (.q a_)->S1 aK/\Ag aK ⟨aD,7,none⟩ 1/\∀aF,aF=aK.setCell ⟨aD,7,none⟩ (.q aG)->S1 aF/\Ag aF ⟨aD,9,none⟩ 1/\∀aZ,aZ=aF.setCell ⟨aD,9,none⟩ (.q aR)->J aZ) (cond (aM==3) (∀bB,bB=w4.drew->∃(S2:World->Prop),S2 bB/\∃bh bc bk,(∀u,S2 u->u.cell? ⟨ag,10,none⟩=some (.slice bh bc bk))/\∃bJ,(∀u,S2 u->u.cell? ⟨ag,9,none⟩=some (.q bJ))/\Ag bB ⟨aD,10,none⟩ 1/\∀aU,aU=bB.setCell ⟨aD,10,none⟩ (.slice bh bc bk)->S2 aU/\Ag aU ⟨aD,9,none⟩ 1/\∀bV,bV=aU.setCell ⟨aD,9,none⟩ (.q bJ)->J bV) (cond (aM==4) (∃aQ,w4.cell? ⟨ag,8,none⟩=some (.q aQ)/\Ag w4 ⟨aD,8,none⟩ 1/\∀ck,ck=w4.setCell ⟨aD,8,none⟩ (.q aQ)->J ck) (J w4)))))/\∀(_x37:Nat->Value) dh,J dh->∃bQ bE bj bN bS bD bW bn bO bM bR b_ ca b9 cr,Ad dh (Zb aD) [.q bQ,.q bE,.slice bj bN bS,.q bD,.q bW,.q bn,.q bO,.q bM,.q bR,.q b_,.slice ca b9 cr]/\Ag dh (Zb aj) 11/\∀cG,cG=setCells dh (Zb aj) [.q bQ,.q bE,.slice bj bN bS,.q bD,.q bW,.q bn,.q bO,.q bM,.q bR,.q b_,.slice ca b9 cr]->∃cA ct cv cB c_ cN cJ cU di cX dr dG cK dP cI,Ad cG (Zb aj) [.q cA,.q ct,.slice cv cB c_,.q cN,.q cJ,.q cU,.q di,.q cX,.q dr,.q dG,.slice cK dP cI]/\K (.agg #[.q cA,.q ct,.slice cv cB c_,.q cN,.q cJ,.q cU,.q di,.q cX,.q dr,.q dG,.slice cK dP cI]) cG
theorem Aim (x0:Int) (x1:Int) (x2:Option Addr) (x3:Nat) (x4:Nat) (x5:Int) (x6:Int) (x7:Int) (x8:Int) (x9:Int) (ae:Int) (aa:Int) (ad:Option Addr) (ai:Nat) (ah:Nat) (K:Value->World->Prop) (w:World) (h:Ail x0 x1 x2 x3 x4 x5 x6 x7 x8 x9 ae aa ad ai ah K w):Calls Tryz.prog 63 #[.agg #[.q x0,.q x1,.slice x2 x3 x4,.q x5,.q x6,.q x7,.q x8,.q x9,.q ae,.q aa,.slice ad ai ah]] w (aN K):=
 Af { dx:=[(7,[])] } Tryz.func63 (by kernel_rfl) h
def An8 (x0:Option Addr) (x1:Nat) (x2:Nat) (x3:Option Addr) (x4:Nat) (x5:Nat) (x6:Option Addr) (x7:Nat) (x8:Nat) (x9:Int) (ae:Int) (aa:Int) (ad:Int) (ai:Option Addr) (ah:Nat) (ag:Nat) (aj:Int) (aw:Int) (ak:Int) (ay:Int) (aA:Int) (aB:Int) (aE:Int) (ax:Option Addr) (aD:Nat) (aM:Nat) (aH:Int) (K:Value->World->Prop) (w:World):Prop:=∀ar w1,ar=w.heap.size->w1=w.alloc (.cells #[.slice x0 x1 x2,.slice x3 x4 x5,.slice x6 x7 x8,.q x9,.q ae] 26)->∀bf w2,bf=w1.heap.size->w2=w1.alloc (.cells #[.q aa,.q ad,.slice ai ah ag,.q aj,.q aw,.q ak,.q ay,.q aA,.q aB,.q aE,.slice ax aD aM] 56)->∃(J:Bool->World->Prop),(∀w3,w3=w2.drew->∃(S:World->Prop),S w3/\cond (decide (aH<0)) (J true w3) (∃a_ aG aR,(∀u,S u->u.cell? (Zb ar)=some (.slice a_ aG aR))/\cond (decide (aH>=(aG:Int))) (J true w3) (∃bh bc bk bJ aQ bK bQ bE bj bN bS,(∀u,S u->Ad u (Zb ar) [.slice bh bc bk,.slice bJ aQ bK,.slice bQ bE bj,.q bN,.q bS])/\∃bD,(∀u,S u->u.cell? (Zb bf)=some (.q bD))/\As 185 #[.agg #[.slice bh bc bk,.slice bJ aQ bK,.slice bQ bE bj,.q bN,.q bS],.q aH] w3 (fun bW w4=>∃bn,bW= .q bn/\S w4/\J (bn !=bD) w4))))/\∀(_x46:Nat->Value) bM w5,J bM w5->cond (bM) (K (.q 0) w5) (∃bR b_ ca,w5.cell? (Zb ar)=some (.slice bR b_ ca)/\((0:Int)<=aH/\aH<(b_:Int))/\Aj bR (fun b9=>∃cr,w5.cell? (b9.add (aH.toNat*3))=some (.q cr)/\K (.q cr) w5))
theorem An9 (x0:Option Addr) (x1:Nat) (x2:Nat) (x3:Option Addr) (x4:Nat) (x5:Nat) (x6:Option Addr) (x7:Nat) (x8:Nat) (x9:Int) (ae:Int) (aa:Int) (ad:Int) (ai:Option Addr) (ah:Nat) (ag:Nat) (aj:Int) (aw:Int) (ak:Int) (ay:Int) (aA:Int) (aB:Int) (aE:Int) (ax:Option Addr) (aD:Nat) (aM:Nat) (aH:Int) (K:Value->World->Prop) (w:World) (h:An8 x0 x1 x2 x3 x4 x5 x6 x7 x8 x9 ae aa ad ai ah ag aj aw ak ay aA aB aE ax aD aM aH K w):Calls Tryz.prog 119 #[.agg #[.slice x0 x1 x2,.slice x3 x4 x5,.slice x6 x7 x8,.q x9,.q ae],.agg #[.q aa,.q ad,.slice ai ah ag,.q aj,.q aw,.q ak,.q ay,.q aA,.q aB,.q aE,.slice ax aD aM],.q aH] w (aN K):=
 Af { dx:=[(6,[(23,.bool)])] } Tryz.func119 (by kernel_rfl) h
def Adl (x0:Option Addr) (x1:Nat) (x2:Nat) (x3:Option Addr) (x4:Nat) (x5:Nat) (x6:Option Addr) (x7:Nat) (x8:Nat) (x9:Int) (ae:Int) (K:Value->World->Prop) (w:World):Prop:=
 ∀aa w1,aa=w.heap.size->w1=w.alloc (.cells #[.slice x0 x1 x2,.slice x3 x4 x5,.slice x6 x7 x8,.q x9,.q ae] 26)->
 ∃ad ai ah,w1.cell? ⟨aa,2,none⟩=some (.slice ad ai ah)/\
 ∃(I:Int->Int->World->Prop) (ag:Int->Int->World->Nat),I 0 0 w1/\
 ∀(_x16:Nat->Value) (aw:Int) (ak:Int) (w2:World),I aw ak w2->
 cond (decide (ak<(ai:Int)))
 (((0:Int)<=ak/\ak<(ai:Int))/\
 Aj ad (fun ay=>
 ∃aA aB aE,Ad w2 (ay.add (ak.toNat*3)) [.s aA,.q aB,.q aE]/\
 ∀ax w3,ax=w2.heap.size->w3=w2.alloc (.cells #[.s [],.q 0,.q 0] 99)->
 Ag w3 (Zb ax) 3/\∀w4,w4=setCells w3 (Zb ax) [.s aA,.q aB,.q aE]->
 ∃aD,w4.cell? ⟨ax,2,none⟩=some (.q aD)/\
 I (IntKind.i64.wrap (aw+(if 1>aD then 1 else aD))) (IntKind.i64.wrap (ak+1)) w4/\ag (IntKind.i64.wrap (aw+(if 1>aD then 1 else aD))) (IntKind.i64.wrap (ak+1)) w4<ag aw ak w2))
 (K (.q aw) w2)
theorem Adm (x0:Option Addr) (x1:Nat) (x2:Nat) (x3:Option Addr) (x4:Nat) (x5:Nat) (x6:Option Addr) (x7:Nat) (x8:Nat) (x9:Int) (ae:Int) (K:Value->World->Prop) (w:World) (h:Adl x0 x1 x2 x3 x4 x5 x6 x7 x8 x9 ae K w):Calls Tryz.prog 122 #[.agg #[.slice x0 x1 x2,.slice x3 x4 x5,.slice x6 x7 x8,.q x9,.q ae]] w (aN K):=
 Af { loops:=[(58,[(3,.int .i64),(9,.int .i64)])] } Tryz.func122 (by kernel_rfl) h
def Ain (x0:Int) (x1:Int) (x2:Option Addr) (x3:Nat) (x4:Nat) (x5:Int) (x6:Int) (x7:Int) (x8:Int) (x9:Int) (ae:Int) (aa:Int) (ad:Option Addr) (ai:Nat) (ah:Nat) (ag:Int) (aj:Int) (aw:Option Addr) (ak:Nat) (ay:Nat) (aA:Int) (aB:Int) (aE:Int) (ax:Int) (aD:Int) (aM:Int) (aH:Int) (ar:Option Addr) (bf:Nat) (a_:Nat) (K:Value->World->Prop) (w:World):Prop:=∀aG w1,aG=w.heap.size->w1=w.alloc (.cells #[.q x0,.q x1,.slice x2 x3 x4,.q x5,.q x6,.q x7,.q x8,.q x9,.q ae,.q aa,.slice ad ai ah] 56)->∀aR w2,aR=w1.heap.size->w2=w1.alloc (.cells #[.q ag,.q aj,.slice aw ak ay,.q aA,.q aB,.q aE,.q ax,.q aD,.q aM,.q aH,.slice ar bf a_] 56)->∃bh,w2.cell? (Zb aG)=some (.q bh)/\∃bc,w2.cell? (Zb aR)=some (.q bc)/\cond (bh==bc) (∃bk,w2.cell? ⟨aG,1,none⟩=some (.q bk)/\∃bJ,w2.cell? ⟨aR,1,none⟩=some (.q bJ)/\cond (bk==bJ) (∃aQ bK bQ,w2.cell? ⟨aG,2,none⟩=some (.slice aQ bK bQ)/\∃bE bj bN,w2.cell? ⟨aR,2,none⟩=some (.slice bE bj bN)/\As 52 #[.slice aQ bK bQ,.slice bE bj bN] w2 (fun bS w3=>∃bD,bS= .bool bD/\cond (bD) (∃bW,w3.cell? ⟨aG,3,none⟩=some (.q bW)/\∃bn,w3.cell? ⟨aR,3,none⟩=some (.q bn)/\cond (bW==bn) (∃bO,w3.cell? ⟨aG,4,none⟩=some (.q bO)/\∃bM,w3.cell? ⟨aR,4,none⟩=some (.q bM)/\cond (bO==bM) (∃bR,w3.cell? ⟨aG,5,none⟩=some (.q bR)/\∃b_,w3.cell? ⟨aR,5,none⟩=some (.q b_)/\cond (bR==b_) (∃ca,w3.cell? ⟨aG,6,none⟩=some (.q ca)/\∃b9,w3.cell? ⟨aR,6,none⟩=some (.q b9)/\cond (ca==b9) (∃cr,w3.cell? ⟨aG,7,none⟩=some (.q cr)/\∃cA,w3.cell? ⟨aR,7,none⟩=some (.q cA)/\cond (cr==cA) (∃ct,w3.cell? ⟨aG,8,none⟩=some (.q ct)/\∃cv,w3.cell? ⟨aR,8,none⟩=some (.q cv)/\cond (ct==cv) (∃cB,w3.cell? ⟨aG,9,none⟩=some (.q cB)/\∃c_,w3.cell? ⟨aR,9,none⟩=some (.q c_)/\cond (cB==c_) (∃cN cJ cU,w3.cell? ⟨aG,10,none⟩=some (.slice cN cJ cU)/\∃di cX dr,w3.cell? ⟨aR,10,none⟩=some (.slice di cX dr)/\As 106 #[.slice cN cJ cU,.slice di cX dr] w3 (fun dG w4=>∃cK,dG= .bool cK/\K (.bool cK) w4)) (K (.bool false) w3)) (K (.bool false) w3)) (K (.bool false) w3)) (K (.bool false) w3)) (K (.bool false) w3)) (K (.bool false) w3)) (K (.bool false) w3)) (K (.bool false) w3))) (K (.bool false) w2)) (K (.bool false) w2)
theorem Aio (x0:Int) (x1:Int) (x2:Option Addr) (x3:Nat) (x4:Nat) (x5:Int) (x6:Int) (x7:Int) (x8:Int) (x9:Int) (ae:Int) (aa:Int) (ad:Option Addr) (ai:Nat) (ah:Nat) (ag:Int) (aj:Int) (aw:Option Addr) (ak:Nat) (ay:Nat) (aA:Int) (aB:Int) (aE:Int) (ax:Int) (aD:Int) (aM:Int) (aH:Int) (ar:Option Addr) (bf:Nat) (a_:Nat) (K:Value->World->Prop) (w:World) (h:Ain x0 x1 x2 x3 x4 x5 x6 x7 x8 x9 ae aa ad ai ah ag aj aw ak ay aA aB aE ax aD aM aH ar bf a_ K w):Calls Tryz.prog 54 #[.agg #[.q x0,.q x1,.slice x2 x3 x4,.q x5,.q x6,.q x7,.q x8,.q x9,.q ae,.q aa,.slice ad ai ah],.agg #[.q ag,.q aj,.slice aw ak ay,.q aA,.q aB,.q aE,.q ax,.q aD,.q aM,.q aH,.slice ar bf a_]] w (aN K):=
 Af {} Tryz.func54 (by kernel_rfl) h
def Aip (x0:Int) (x1:Int) (x2:Option Addr) (x3:Nat) (x4:Nat) (x5:Int) (x6:Int) (x7:Int) (x8:Int) (x9:Int) (ae:Int) (aa:Int) (ad:Option Addr) (ai:Nat) (ah:Nat) (K:Value->World->Prop) (w:World):Prop:=∀ag w1,ag=w.heap.size->w1=w.alloc (.cells #[.q x0,.q x1,.slice x2 x3 x4,.q x5,.q x6,.q x7,.q x8,.q x9,.q ae,.q aa,.slice ad ai ah] 56)->∃aj,w1.cell? ⟨ag,4,none⟩=some (.q aj)/\cond (aj==4) (∃aw,w1.cell? ⟨ag,8,none⟩=some (.q aw)/\K (.tuple #[.q aw,.bool true]) w1) (∃ak ay aA,w1.cell? ⟨ag,10,none⟩=some (.slice ak ay aA)/\∃(I:Int->Bool->Int->World->Prop) (aB:Int->Bool->Int->World->Nat),I 0 false 0 w1/\∀(_x22:Nat->Value) (ax:Int) (aD:Bool) (aM:Int) (w2:World),I ax aD aM w2->cond (decide (aM<(ay:Int))) (∃(J:Int->Bool->World->Prop),(((0:Int)<=aM/\aM<(ay:Int))/\Aj ak (fun aH=>∃ar bf a_ aG aR,Ad w2 (aH.add (aM.toNat*5)) [.q ar,.q bf,.q a_,.q aG,.q aR]/\∀bh w3,bh=w2.heap.size->w3=w2.alloc (.cells #[.q 0,.q 0,.q 0,.q 0,.q 0] 129)->Ag w3 (Zb bh) 5/\∀w4,w4=setCells w3 (Zb bh) [.q ar,.q bf,.q a_,.q aG,.q aR]->∃(J1:Bool->World->Prop),(∃bc,w4.cell? ⟨ag,4,none⟩=some (.q bc)/\cond (bc==3) (∃bk,w4.cell? (Zb bh)=some (.q bk)/\cond (bk==3) (cond (!aD) (J1 true w4) (∃bJ,w4.cell? ⟨bh,2,none⟩=some (.q bJ)/\J1 (decide (bJ<ax)) w4)) (J1 false w4)) (J1 false w4))/\∀(_x36:Nat->Value) bK w5,J1 bK w5->cond (bK) (∃bQ,w5.cell? ⟨bh,2,none⟩=some (.q bQ)/\J bQ true w5) (J ax aD w5)))/\∀(_x39:Nat->Value) bj bN w6,J bj bN w6->I bj bN (IntKind.i64.wrap (aM+1)) w6/\aB bj bN (IntKind.i64.wrap (aM+1)) w6<aB ax aD aM w2) (K (.tuple #[.q ax,.bool aD]) w2))
theorem Aiq (x0:Int) (x1:Int) (x2:Option Addr) (x3:Nat) (x4:Nat) (x5:Int) (x6:Int) (x7:Int) (x8:Int) (x9:Int) (ae:Int) (aa:Int) (ad:Option Addr) (ai:Nat) (ah:Nat) (K:Value->World->Prop) (w:World) (h:Aip x0 x1 x2 x3 x4 x5 x6 x7 x8 x9 ae aa ad ai ah K w):Calls Tryz.prog 25 #[.agg #[.q x0,.q x1,.slice x2 x3 x4,.q x5,.q x6,.q x7,.q x8,.q x9,.q ae,.q aa,.slice ad ai ah]] w (aN K):=
 Af { loops:=[(122,[(4,.int .i64),(5,.bool),(16,.int .i64)])],dx:=[(979,[(4,.int .i64),(5,.bool)]),(7833,[(37,.bool)])] } Tryz.func25 (by kernel_rfl) h
def Abc (x0:Option Addr) (x1:Nat) (x2:Nat) (K:Value->World->Prop) (w:World):Prop:=As 68 #[.slice x0 x1 x2,.func (.func 132) #[] #[]] w (fun x3 w1=>∃x4,x3= .bool x4/\K (.bool x4) w1)
theorem Abd (x0:Option Addr) (x1:Nat) (x2:Nat) (K:Value->World->Prop) (w:World) (h:Abc x0 x1 x2 K w):Calls Tryz.prog 69 #[.slice x0 x1 x2] w (aN K):=
 Af {} Tryz.func69 (by kernel_rfl) h
def Wa (x0:Int) (x1:Int) (x2:Option Addr) (x3:Nat) (x4:Nat) (x5:Int) (x6:Int) (x7:Int) (x8:Int) (x9:Int) (ae:Int) (aa:Int) (ad:Option Addr) (ai:Nat) (ah:Nat) (K:Value->World->Prop) (w:World):Prop:=∀ag w1,ag=w.heap.size->w1=w.alloc (.cells #[.q x0,.q x1,.slice x2 x3 x4,.q x5,.q x6,.q x7,.q x8,.q x9,.q ae,.q aa,.slice ad ai ah] 56)->∃aj aw ak ay aA aB aE ax aD aM aH ar bf a_ aG,Ad w1 (Zb ag) [.q aj,.q aw,.slice ak ay aA,.q aB,.q aE,.q ax,.q aD,.q aM,.q aH,.q ar,.slice bf a_ aG]/\As 25 #[.agg #[.q aj,.q aw,.slice ak ay aA,.q aB,.q aE,.q ax,.q aD,.q aM,.q aH,.q ar,.slice bf a_ aG]] w1 (fun aR w2=>∃bh bc,aR= .tuple #[.q bh,.bool bc]/\K (.bool bc) w2)
theorem Wb (x0:Int) (x1:Int) (x2:Option Addr) (x3:Nat) (x4:Nat) (x5:Int) (x6:Int) (x7:Int) (x8:Int) (x9:Int) (ae:Int) (aa:Int) (ad:Option Addr) (ai:Nat) (ah:Nat) (K:Value->World->Prop) (w:World) (h:Wa x0 x1 x2 x3 x4 x5 x6 x7 x8 x9 ae aa ad ai ah K w):Calls Tryz.prog 132 #[.agg #[.q x0,.q x1,.slice x2 x3 x4,.q x5,.q x6,.q x7,.q x8,.q x9,.q ae,.q aa,.slice ad ai ah]] w (aN K):=
 Af {} Tryz.func132 (by kernel_rfl) h
def Ll (x0:Option Addr) (x1:Nat) (_x2:Nat) (x3:Option Addr) (x4:Nat) (_x5:Nat) (K:Value->World->Prop) (w:World):Prop:=cond ((x1:Int) !=(x4:Int)) (K (.bool false) w) (∃(I:Int->World->Prop) (x6:Int->World->Nat),I 0 w/\∀(_x7:Nat->Value) (x8:Int) (w1:World),I x8 w1->cond (decide (x8<(x1:Int))) (∀w2,w2=w1.drew->((0:Int)<=x8/\x8<(x1:Int))/\Aj x0 (fun x9=>∃ae,w2.cell? (x9.add (x8.toNat*1))=some (.q ae)/\((0:Int)<=x8/\x8<(x4:Int))/\Aj x3 (fun aa=>∃ad,w2.cell? (aa.add (x8.toNat*1))=some (.q ad)/\cond (ae !=ad) (K (.bool false) w2) (I (IntKind.i64.wrap (x8+1)) w2/\x6 (IntKind.i64.wrap (x8+1)) w2<x6 x8 w1)))) (K (.bool true) w1))
theorem Lm (x0:Option Addr) (x1:Nat) (x2:Nat) (x3:Option Addr) (x4:Nat) (x5:Nat) (K:Value->World->Prop) (w:World) (h:Ll x0 x1 x2 x3 x4 x5 K w):Calls Tryz.prog 52 #[.slice x0 x1 x2,.slice x3 x4 x5] w (aN K):=
 Af { loops:=[(58,[(13,.int .i64)])] } Tryz.func52 (by kernel_rfl) h
def Hk (x0:Option Addr) (x1:Nat) (_x2:Nat) (x3:Option Addr) (x4:Nat) (_x5:Nat) (K:Value->World->Prop) (w:World):Prop:=cond ((x1:Int) !=(x4:Int)) (K (.bool false) w) (∃(I:Int->World->Prop) (x6:Int->World->Nat),I 0 w/\∀(_x7:Nat->Value) (x8:Int) (w1:World),I x8 w1->cond (decide (x8<(x1:Int))) (∀w2,w2=w1.drew->((0:Int)<=x8/\x8<(x1:Int))/\Aj x0 (fun x9=>∃ae aa ad ai ah,Ad w2 (x9.add (x8.toNat*5)) [.q ae,.q aa,.q ad,.q ai,.q ah]/\((0:Int)<=x8/\x8<(x4:Int))/\Aj x3 (fun ag=>∃aj aw ak ay aA,Ad w2 (ag.add (x8.toNat*5)) [.q aj,.q aw,.q ak,.q ay,.q aA]/\cond (!((ae==aj)&&((aa==aw)&&((ad==ak)&&((ai==ay)&&((ah==aA)&&true)))))) (K (.bool false) w2) (I (IntKind.i64.wrap (x8+1)) w2/\x6 (IntKind.i64.wrap (x8+1)) w2<x6 x8 w1)))) (K (.bool true) w1))
theorem Hl (x0:Option Addr) (x1:Nat) (x2:Nat) (x3:Option Addr) (x4:Nat) (x5:Nat) (K:Value->World->Prop) (w:World) (h:Hk x0 x1 x2 x3 x4 x5 K w):Calls Tryz.prog 106 #[.slice x0 x1 x2,.slice x3 x4 x5] w (aN K):=
 Af { loops:=[(58,[(13,.int .i64)])] } Tryz.func106 (by kernel_rfl) h
def Hm (x0:Option Addr) (x1:Nat) (x2:Nat) (K:Value->World->Prop) (w:World):Prop:=cond (x0.isNone) (K (.slice none 0 0) w) (∀x3 w1,x3=w.heap.size->w1=w.alloc (.cells #[] 95)->Bl Tryz.prog (Builtin.append_ #[22,22] 22 #[.slice (some (Zb x3)) 0 0,.slice x0 x1 x2]) (fun x4 w2=>∃x5 x6 x7,x4= .slice x5 x6 x7/\K (.slice x5 x6 x7) w2) w1)
theorem Hn (x0:Option Addr) (x1:Nat) (x2:Nat) (K:Value->World->Prop) (w:World) (h:Hm x0 x1 x2 K w):Calls Tryz.prog 59 #[.slice x0 x1 x2] w (aN K):=
 Af {} Tryz.func59 (by kernel_rfl) h
def Ho (x0:Option Addr) (x1:Nat) (x2:Nat) (K:Value->World->Prop) (w:World):Prop:=cond (x0.isNone) (K (.slice none 0 0) w) (∀x3 w1,x3=w.heap.size->w1=w.alloc (.cells #[] 97)->Bl Tryz.prog (Builtin.append_ #[23,23] 23 #[.slice (some (Zb x3)) 0 0,.slice x0 x1 x2]) (fun x4 w2=>∃x5 x6 x7,x4= .slice x5 x6 x7/\K (.slice x5 x6 x7) w2) w1)
theorem Hp (x0:Option Addr) (x1:Nat) (x2:Nat) (K:Value->World->Prop) (w:World) (h:Ho x0 x1 x2 K w):Calls Tryz.prog 60 #[.slice x0 x1 x2] w (aN K):=
 Af {} Tryz.func60 (by kernel_rfl) h
def Gm (x0:Option Addr) (x1:Nat) (x2:Nat) (K:Value->World->Prop) (w:World):Prop:=cond (x0.isNone) (K (.slice none 0 0) w) (∀x3 w1,x3=w.heap.size->w1=w.alloc (.cells #[] 99)->Bl Tryz.prog (Builtin.append_ #[24,24] 24 #[.slice (some (Zb x3)) 0 0,.slice x0 x1 x2]) (fun x4 w2=>∃x5 x6 x7,x4= .slice x5 x6 x7/\K (.slice x5 x6 x7) w2) w1)
theorem Gn (x0:Option Addr) (x1:Nat) (x2:Nat) (K:Value->World->Prop) (w:World) (h:Gm x0 x1 x2 K w):Calls Tryz.prog 61 #[.slice x0 x1 x2] w (aN K):=
 Af {} Tryz.func61 (by kernel_rfl) h
def C6 (x0:Option Addr) (x1:Nat) (x2:Nat) (K:Value->World->Prop) (w:World):Prop:=As 65 #[.slice x0 x1 x2,.func (.func 132) #[] #[]] w (fun x3 w1=>∃x4,x3= .q x4/\K (.bool (decide (x4>=0))) w1)
theorem C7 (x0:Option Addr) (x1:Nat) (x2:Nat) (K:Value->World->Prop) (w:World) (h:C6 x0 x1 x2 K w):Calls Tryz.prog 68 #[.slice x0 x1 x2,.func (.func 132) #[] #[]] w (aN K):=
 Af {} Tryz.func68 (by kernel_rfl) h
def Dv (x0:Option Addr) (x1:Nat) (_x2:Nat) (K:Value->World->Prop) (w:World):Prop:=∃(I:Int->World->Prop) (x3:Int->World->Nat),I 0 w/\∀(_x4:Nat->Value) (x5:Int) (w1:World),I x5 w1->cond (decide (x5<(x1:Int))) (((0:Int)<=x5/\x5<(x1:Int))/\Aj x0 (fun x6=>∃x7 x8 x9 ae aa ad ai ah ag aj aw ak ay aA aB,Ad w1 (x6.add (x5.toNat*11)) [.q x7,.q x8,.slice x9 ae aa,.q ad,.q ai,.q ah,.q ag,.q aj,.q aw,.q ak,.slice ay aA aB]/\As 132 #[.agg #[.q x7,.q x8,.slice x9 ae aa,.q ad,.q ai,.q ah,.q ag,.q aj,.q aw,.q ak,.slice ay aA aB]] w1 (fun aE w2=>∃ax,aE= .bool ax/\cond (ax) (K (.q x5) w2) (I (IntKind.i64.wrap (x5+1)) w2/\x3 (IntKind.i64.wrap (x5+1)) w2<x3 x5 w1)))) (K (.q (-1)) w1)
theorem Dw (x0:Option Addr) (x1:Nat) (x2:Nat) (K:Value->World->Prop) (w:World) (h:Dv x0 x1 x2 K w):Calls Tryz.prog 65 #[.slice x0 x1 x2,.func (.func 132) #[] #[]] w (aN K):=
 Af { loops:=[(26,[(8,.int .i64)])] } Tryz.func65 (by kernel_rfl) h
def Ln (x0:List UInt8) (K:Value->World->Prop) (w:World):Prop:=∃(I:Int->World->Prop) (x1:Int->World->Nat),I 0 w/\∀(_x2:Nat->Value) (x3:Int) (w1:World),I x3 w1->cond (decide (x3<(x0.length:Int))) (((0:Int)<=x3/\x3<(x0.length:Int))/\As 178 #[.int .u8 ((x0.getD x3.toNat 0).toNat:Int)] w1 (fun x4 w2=>∃x5,x4= .bool x5/\cond (!x5) (((0:Int)<=x3/\x3<=(x0.length:Int))/\K (.string (bI (x0.take x3.toNat))) w2) (I (IntKind.i64.wrap (x3+1)) w2/\x1 (IntKind.i64.wrap (x3+1)) w2<x1 x3 w1))) (K (.s x0) w1)
theorem Lp (x0:List UInt8) (K:Value->World->Prop) (w:World) (h:Ln x0 K w):Calls Tryz.prog 177 #[.s x0,.func (.func 178) #[] #[]] w (aN K):=
 Af { loops:=[(26,[(8,.int .i64)])] } Tryz.func177 (by kernel_rfl) h
def Cp (x0:Option Addr) (x1:Nat) (x2:Nat) (x3:Nat) (K:Value->World->Prop) (w:World):Prop:=As 182 #[.slice x0 x1 x2,.func (.func 110) #[] #[.pointer (some (Zb x3))]] w (fun x4 w1=>∃x5,x4= .q x5/\K (.bool (decide (x5>=0))) w1)
theorem Cq (x0:Option Addr) (x1:Nat) (x2:Nat) (x3:Nat) (K:Value->World->Prop) (w:World) (h:Cp x0 x1 x2 x3 K w):Calls Tryz.prog 109 #[.slice x0 x1 x2,.func (.func 110) #[] #[.pointer (some ⟨x3,0,none⟩)]] w (aN K):=
 Af {} Tryz.func109 (by kernel_rfl) h
def Cx (x0:Option Addr) (x1:Nat) (_x2:Nat) (x3:Nat) (K:Value->World->Prop) (w:World):Prop:=∃(I:Int->World->Prop) (x4:Int->World->Nat),I 0 w/\∀(_x5:Nat->Value) (x6:Int) (w1:World),I x6 w1->cond (decide (x6<(x1:Int))) (((0:Int)<=x6/\x6<(x1:Int))/\Aj x0 (fun x7=>∃x8 x9 ae,Ad w1 (x7.add (x6.toNat*3)) [.s x8,.q x9,.q ae]/\As 110 #[.agg #[.s x8,.q x9,.q ae],.pointer (some (Zb x3))] w1 (fun aa w2=>∃ad,aa= .bool ad/\cond (ad) (K (.q x6) w2) (I (IntKind.i64.wrap (x6+1)) w2/\x4 (IntKind.i64.wrap (x6+1)) w2<x4 x6 w1)))) (K (.q (-1)) w1)
theorem Cy (x0:Option Addr) (x1:Nat) (x2:Nat) (x3:Nat) (K:Value->World->Prop) (w:World) (h:Cx x0 x1 x2 x3 K w):Calls Tryz.prog 182 #[.slice x0 x1 x2,.func (.func 110) #[] #[.pointer (some ⟨x3,0,none⟩)]] w (aN K):=
 Af { loops:=[(26,[(8,.int .i64)])] } Tryz.func182 (by kernel_rfl) h
def Pk (x0:List UInt8) (x1:Int) (x2:Int) (x3:Nat) (K:Value->World->Prop) (w:World):Prop:=∀x4 w1,x4=w.heap.size->w1=w.alloc (.cells #[.s x0,.q x1,.q x2] 99)->∃x5,w1.cell? ⟨x4,1,none⟩=some (.q x5)/\∃x6,w1.cell? ⟨x3,1,none⟩=some (.q x6)/\cond (x5==x6) (∃x7,w1.cell? ⟨x4,2,none⟩=some (.q x7)/\∃x8,w1.cell? ⟨x3,2,none⟩=some (.q x8)/\K (.bool (x7==x8)) w1) (K (.bool false) w1)
theorem Pm (x0:List UInt8) (x1:Int) (x2:Int) (x3:Nat) (K:Value->World->Prop) (w:World) (h:Pk x0 x1 x2 x3 K w):Calls Tryz.prog 110 #[.agg #[.s x0,.q x1,.q x2],.pointer (some ⟨x3,0,none⟩)] w (aN K):=
 Af {} Tryz.func110 (by kernel_rfl) h
def Cz (x0:Option Addr) (x1:Nat) (x2:Nat) (K:Value->World->Prop) (w:World):Prop:=As 65 #[.slice x0 x1 x2,.func (.func 67) #[] #[]] w (fun x3 w1=>∃x4,x3= .q x4/\K (.bool (decide (x4>=0))) w1)
theorem C0 (x0:Option Addr) (x1:Nat) (x2:Nat) (K:Value->World->Prop) (w:World) (h:Cz x0 x1 x2 K w):Calls Tryz.prog 68 #[.slice x0 x1 x2,.func (.func 67) #[] #[]] w (aN K):=
 Af {} Tryz.func68 (by kernel_rfl) h
def Dk (x0:Option Addr) (x1:Nat) (_x2:Nat) (K:Value->World->Prop) (w:World):Prop:=∃(I:Int->World->Prop) (x3:Int->World->Nat),I 0 w/\∀(_x4:Nat->Value) (x5:Int) (w1:World),I x5 w1->cond (decide (x5<(x1:Int))) (((0:Int)<=x5/\x5<(x1:Int))/\Aj x0 (fun x6=>∃x7 x8 x9 ae aa ad ai ah ag aj aw ak ay aA aB,Ad w1 (x6.add (x5.toNat*11)) [.q x7,.q x8,.slice x9 ae aa,.q ad,.q ai,.q ah,.q ag,.q aj,.q aw,.q ak,.slice ay aA aB]/\As 67 #[.agg #[.q x7,.q x8,.slice x9 ae aa,.q ad,.q ai,.q ah,.q ag,.q aj,.q aw,.q ak,.slice ay aA aB]] w1 (fun aE w2=>∃ax,aE= .bool ax/\cond (ax) (K (.q x5) w2) (I (IntKind.i64.wrap (x5+1)) w2/\x3 (IntKind.i64.wrap (x5+1)) w2<x3 x5 w1)))) (K (.q (-1)) w1)
theorem Dl (x0:Option Addr) (x1:Nat) (x2:Nat) (K:Value->World->Prop) (w:World) (h:Dk x0 x1 x2 K w):Calls Tryz.prog 65 #[.slice x0 x1 x2,.func (.func 67) #[] #[]] w (aN K):=
 Af { loops:=[(26,[(8,.int .i64)])] } Tryz.func65 (by kernel_rfl) h
def C8 (x0:Option Addr) (x1:Nat) (_x2:Nat) (K:Value->World->Prop) (w:World):Prop:=∃(I:Int->World->Prop) (x3:Int->World->Nat),I 0 w/\∀(_x4:Nat->Value) (x5:Int) (w1:World),I x5 w1->cond (decide (x5<(x1:Int))) (((0:Int)<=x5/\x5<(x1:Int))/\Aj x0 (fun x6=>∃x7 x8 x9 ae aa ad ai ah ag aj aw ak ay aA aB,Ad w1 (x6.add (x5.toNat*11)) [.q x7,.q x8,.slice x9 ae aa,.q ad,.q ai,.q ah,.q ag,.q aj,.q aw,.q ak,.slice ay aA aB]/\As 66 #[.agg #[.q x7,.q x8,.slice x9 ae aa,.q ad,.q ai,.q ah,.q ag,.q aj,.q aw,.q ak,.slice ay aA aB]] w1 (fun aE w2=>∃ax,aE= .bool ax/\cond (ax) (K (.q x5) w2) (I (IntKind.i64.wrap (x5+1)) w2/\x3 (IntKind.i64.wrap (x5+1)) w2<x3 x5 w1)))) (K (.q (-1)) w1)
theorem C9 (x0:Option Addr) (x1:Nat) (x2:Nat) (K:Value->World->Prop) (w:World) (h:C8 x0 x1 x2 K w):Calls Tryz.prog 65 #[.slice x0 x1 x2,.func (.func 66) #[] #[]] w (aN K):=
 Af { loops:=[(26,[(8,.int .i64)])] } Tryz.func65 (by kernel_rfl) h
end Go.Proofs.YthkbhlmijkegiaaGreat
namespace Go.Ty
open Go.Vc Go.Lv
structure Ax where
 op:Int
 a:Int
 b:Int
 deriving DecidableEq,Inhabited
def Da:cO Ax:=Ul (fun x=>(x.op,x.a,x.b)) (B5 (Bh .i64) (B5 (Bh .i64) (Bh .i64)))
theorem A8 {m:List Nat} {w:World} {x:Ax} {cs:List Value} (h:Da.rep m w x cs):cs=[.int .i64 x.op,.int .i64 x.a,.int .i64 x.b]:=by
 obtain⟨_,_,rfl,rfl,⟨_,_,rfl,rfl,rfl⟩⟩:=h;exact rfl
theorem Cd {m:List Nat} {w:World} (x:Ax):Da.rep m w x [.int .i64 x.op,.int .i64 x.a,.int .i64 x.b]:=⟨[.int .i64 x.op],[.int .i64 x.a,.int .i64 x.b],rfl,rfl,⟨[.int .i64 x.a],[.int .i64 x.b],rfl,rfl,rfl⟩⟩
structure Db where
 name:List UInt8
 entry:Int
 params:Int
 vars:Int
 deriving DecidableEq,Inhabited
def Gb:cO Db:=Ul (fun x=>(x.name,x.entry,x.params,x.vars)) (B5 X3 (B5 (Bh .i64) (B5 (Bh .i64) (Bh .i64))))
theorem Bs {m:List Nat} {w:World} {x:Db} {cs:List Value} (h:Gb.rep m w x cs):cs=[.string (bI x.name),.int .i64 x.entry,.int .i64 x.params,.int .i64 x.vars]:=by
 obtain⟨_,_,rfl,rfl,⟨_,_,rfl,rfl,⟨_,_,rfl,rfl,rfl⟩⟩⟩:=h;exact rfl
structure Br where
 name:List UInt8
 base:Int
 size:Int
 deriving DecidableEq,Inhabited
def Dr:cO Br:=Ul (fun x=>(x.name,x.base,x.size)) (B5 X3 (B5 (Bh .i64) (Bh .i64)))
theorem F5 {m:List Nat} {w:World} {x:Br} {cs:List Value} (h:Dr.rep m w x cs):cs=[.string (bI x.name),.int .i64 x.base,.int .i64 x.size]:=by
 obtain⟨_,_,rfl,rfl,⟨_,_,rfl,rfl,rfl⟩⟩:=h;exact rfl
theorem Att {m:List Nat} {w:World} (x:Br):Dr.rep m w x [.string (bI x.name),.int .i64 x.base,.int .i64 x.size]:=⟨[.string (bI x.name)],[.int .i64 x.base,.int .i64 x.size],rfl,rfl,⟨[.int .i64 x.base],[.int .i64 x.size],rfl,rfl,rfl⟩⟩
structure Ah where
 ins:List Ax
 defs:List Db
 af:List Br
 main:Int
 stmts:Int
 deriving DecidableEq,Inhabited
def Bu:cO Ah:=Ul (fun x=>(x.ins,x.defs,x.af,x.main,x.stmts)) (B5 (oI Da) (B5 (oI Gb) (B5 (oI Dr) (B5 (Bh .i64) (Bh .i64)))))
theorem A7 {m:List Nat} {w:World} {x:Ah} {cs:List Value} (h:Bu.rep m w x cs):∃(a0:Option Addr) (c0:Nat) (a1:Option Addr) (c1:Nat) (a2:Option Addr) (c2:Nat),cs=[.slice a0 x.ins.length c0,.slice a1 x.defs.length c1,.slice a2 x.af.length c2,.int .i64 x.main,.int .i64 x.stmts]/\(x.ins.length<=c0/\br Da m w a0 x.ins)/\(x.defs.length<=c1/\br Gb m w a1 x.defs)/\(x.af.length<=c2/\br Dr m w a2 x.af):=by
 obtain⟨_,_,rfl,⟨a0,c0,rfl,p0,q0⟩,⟨_,_,rfl,⟨a1,c1,rfl,p1,q1⟩,⟨_,_,rfl,⟨a2,c2,rfl,p2,q2⟩,⟨_,_,rfl,rfl,rfl⟩⟩⟩⟩:=h;exact⟨a0,c0,a1,c1,a2,c2,rfl,⟨p0,q0⟩,⟨p1,q1⟩,⟨p2,q2⟩⟩
theorem Aw {m:List Nat} {w:World} (x:Ah) {a0:Option Addr} {c0:Nat} {a1:Option Addr} {c1:Nat} {a2:Option Addr} {c2:Nat} (h0:(x.ins.length<=c0/\br Da m w a0 x.ins)) (h1:(x.defs.length<=c1/\br Gb m w a1 x.defs)) (h2:(x.af.length<=c2/\br Dr m w a2 x.af)):Bu.rep m w x [.slice a0 x.ins.length c0,.slice a1 x.defs.length c1,.slice a2 x.af.length c2,.int .i64 x.main,.int .i64 x.stmts]:=⟨[.slice a0 x.ins.length c0],[.slice a1 x.defs.length c1,.slice a2 x.af.length c2,.int .i64 x.main,.int .i64 x.stmts],rfl,⟨_,_,rfl,h0.1,h0.2⟩,⟨[.slice a1 x.defs.length c1],[.slice a2 x.af.length c2,.int .i64 x.main,.int .i64 x.stmts],rfl,⟨_,_,rfl,h1.1,h1.2⟩,⟨[.slice a2 x.af.length c2],[.int .i64 x.main,.int .i64 x.stmts],rfl,⟨_,_,rfl,h2.1,h2.2⟩,⟨[.int .i64 x.main],[.int .i64 x.stmts],rfl,rfl,rfl⟩⟩⟩⟩
structure F6 where
 kind:Int
 chan:Int
 val:Int
 slot:Int
 goto:Int
 deriving DecidableEq,Inhabited
def Nj:cO F6:=Ul (fun x=>(x.kind,x.chan,x.val,x.slot,x.goto)) (B5 (Bh .i64) (B5 (Bh .i64) (B5 (Bh .i64) (B5 (Bh .i64) (Bh .i64)))))
theorem Gp {m:List Nat} {w:World} {x:F6} {cs:List Value} (h:Nj.rep m w x cs):cs=[.int .i64 x.kind,.int .i64 x.chan,.int .i64 x.val,.int .i64 x.slot,.int .i64 x.goto]:=by
 obtain⟨_,_,rfl,rfl,⟨_,_,rfl,rfl,⟨_,_,rfl,rfl,⟨_,_,rfl,rfl,rfl⟩⟩⟩⟩:=h;exact rfl
theorem Awj {m:List Nat} {w:World} (x:F6):Nj.rep m w x [.int .i64 x.kind,.int .i64 x.chan,.int .i64 x.val,.int .i64 x.slot,.int .i64 x.goto]:=⟨[.int .i64 x.kind],[.int .i64 x.chan,.int .i64 x.val,.int .i64 x.slot,.int .i64 x.goto],rfl,rfl,⟨[.int .i64 x.chan],[.int .i64 x.val,.int .i64 x.slot,.int .i64 x.goto],rfl,rfl,⟨[.int .i64 x.val],[.int .i64 x.slot,.int .i64 x.goto],rfl,rfl,⟨[.int .i64 x.slot],[.int .i64 x.goto],rfl,rfl,rfl⟩⟩⟩⟩
structure Ap where
 bz:Int
 at_:Int
 vars:List Int
 fuel:Int
 mode:Int
 chan:Int
 val:Int
 slot:Int
 bT:Int
 since:Int
 alts:List F6
 deriving DecidableEq,Inhabited
def Ce:cO Ap:=Ul (fun x=>(x.bz,x.at_,x.vars,x.fuel,x.mode,x.chan,x.val,x.slot,x.bT,x.since,x.alts)) (B5 (Bh .i64) (B5 (Bh .i64) (B5 (oI (Bh .i64)) (B5 (Bh .i64) (B5 (Bh .i64) (B5 (Bh .i64) (B5 (Bh .i64) (B5 (Bh .i64) (B5 (Bh .i64) (B5 (Bh .i64) (oI Nj)))))))))))
theorem A3 {m:List Nat} {w:World} {x:Ap} {cs:List Value} (h:Ce.rep m w x cs):∃(a2:Option Addr) (c2:Nat) (gd:Option Addr) (gg:Nat),cs=[.int .i64 x.bz,.int .i64 x.at_,.slice a2 x.vars.length c2,.int .i64 x.fuel,.int .i64 x.mode,.int .i64 x.chan,.int .i64 x.val,.int .i64 x.slot,.int .i64 x.bT,.int .i64 x.since,.slice gd x.alts.length gg]/\(x.vars.length<=c2/\br (Bh .i64) m w a2 x.vars)/\(x.alts.length<=gg/\br Nj m w gd x.alts):=by
 obtain⟨_,_,rfl,rfl,⟨_,_,rfl,rfl,⟨_,_,rfl,⟨a0,c0,rfl,p0,q0⟩,⟨_,_,rfl,rfl,⟨_,_,rfl,rfl,⟨_,_,rfl,rfl,⟨_,_,rfl,rfl,⟨_,_,rfl,rfl,⟨_,_,rfl,rfl,⟨_,_,rfl,rfl,⟨a1,c1,rfl,p1,q1⟩⟩⟩⟩⟩⟩⟩⟩⟩⟩⟩:=h;exact⟨a0,c0,a1,c1,rfl,⟨p0,q0⟩,⟨p1,q1⟩⟩
theorem Dc {m:List Nat} {w:World} (x:Ap) {a2:Option Addr} {c2:Nat} {gd:Option Addr} {gg:Nat} (h0:(x.vars.length<=c2/\br (Bh .i64) m w a2 x.vars)) (h1:(x.alts.length<=gg/\br Nj m w gd x.alts)):Ce.rep m w x [.int .i64 x.bz,.int .i64 x.at_,.slice a2 x.vars.length c2,.int .i64 x.fuel,.int .i64 x.mode,.int .i64 x.chan,.int .i64 x.val,.int .i64 x.slot,.int .i64 x.bT,.int .i64 x.since,.slice gd x.alts.length gg]:=⟨[.int .i64 x.bz],[.int .i64 x.at_,.slice a2 x.vars.length c2,.int .i64 x.fuel,.int .i64 x.mode,.int .i64 x.chan,.int .i64 x.val,.int .i64 x.slot,.int .i64 x.bT,.int .i64 x.since,.slice gd x.alts.length gg],rfl,rfl,⟨[.int .i64 x.at_],[.slice a2 x.vars.length c2,.int .i64 x.fuel,.int .i64 x.mode,.int .i64 x.chan,.int .i64 x.val,.int .i64 x.slot,.int .i64 x.bT,.int .i64 x.since,.slice gd x.alts.length gg],rfl,rfl,⟨[.slice a2 x.vars.length c2],[.int .i64 x.fuel,.int .i64 x.mode,.int .i64 x.chan,.int .i64 x.val,.int .i64 x.slot,.int .i64 x.bT,.int .i64 x.since,.slice gd x.alts.length gg],rfl,⟨_,_,rfl,h0.1,h0.2⟩,⟨[.int .i64 x.fuel],[.int .i64 x.mode,.int .i64 x.chan,.int .i64 x.val,.int .i64 x.slot,.int .i64 x.bT,.int .i64 x.since,.slice gd x.alts.length gg],rfl,rfl,⟨[.int .i64 x.mode],[.int .i64 x.chan,.int .i64 x.val,.int .i64 x.slot,.int .i64 x.bT,.int .i64 x.since,.slice gd x.alts.length gg],rfl,rfl,⟨[.int .i64 x.chan],[.int .i64 x.val,.int .i64 x.slot,.int .i64 x.bT,.int .i64 x.since,.slice gd x.alts.length gg],rfl,rfl,⟨[.int .i64 x.val],[.int .i64 x.slot,.int .i64 x.bT,.int .i64 x.since,.slice gd x.alts.length gg],rfl,rfl,⟨[.int .i64 x.slot],[.int .i64 x.bT,.int .i64 x.since,.slice gd x.alts.length gg],rfl,rfl,⟨[.int .i64 x.bT],[.int .i64 x.since,.slice gd x.alts.length gg],rfl,rfl,⟨[.int .i64 x.since],[.slice gd x.alts.length gg],rfl,rfl,⟨_,_,rfl,h1.1,h1.2⟩⟩⟩⟩⟩⟩⟩⟩⟩⟩⟩
structure Ay where
 now:Int
 since:Int
 halt:Int
 fault:Int
 who:Int
 procs:List Ap
 out:List Int
 deriving DecidableEq,Inhabited
def Ep:cO Ay:=Ul (fun x=>(x.now,x.since,x.halt,x.fault,x.who,x.procs,x.out)) (B5 (Bh .i64) (B5 (Bh .i64) (B5 (Bh .i64) (B5 (Bh .i64) (B5 (Bh .i64) (B5 (oI Ce) (oI (Bh .i64))))))))
theorem Dt {m:List Nat} {w:World} {x:Ay} {cs:List Value} (h:Ep.rep m w x cs):∃(a5:Option Addr) (c5:Nat) (a6:Option Addr) (c6:Nat),cs=[.int .i64 x.now,.int .i64 x.since,.int .i64 x.halt,.int .i64 x.fault,.int .i64 x.who,.slice a5 x.procs.length c5,.slice a6 x.out.length c6]/\(x.procs.length<=c5/\br Ce m w a5 x.procs)/\(x.out.length<=c6/\br (Bh .i64) m w a6 x.out):=by
 obtain⟨_,_,rfl,rfl,⟨_,_,rfl,rfl,⟨_,_,rfl,rfl,⟨_,_,rfl,rfl,⟨_,_,rfl,rfl,⟨_,_,rfl,⟨a0,c0,rfl,p0,q0⟩,⟨a1,c1,rfl,p1,q1⟩⟩⟩⟩⟩⟩⟩:=h;exact⟨a0,c0,a1,c1,rfl,⟨p0,q0⟩,⟨p1,q1⟩⟩
theorem B8 {m:List Nat} {w:World} (x:Ay) {a5:Option Addr} {c5:Nat} {a6:Option Addr} {c6:Nat} (h0:(x.procs.length<=c5/\br Ce m w a5 x.procs)) (h1:(x.out.length<=c6/\br (Bh .i64) m w a6 x.out)):Ep.rep m w x [.int .i64 x.now,.int .i64 x.since,.int .i64 x.halt,.int .i64 x.fault,.int .i64 x.who,.slice a5 x.procs.length c5,.slice a6 x.out.length c6]:=⟨[.int .i64 x.now],[.int .i64 x.since,.int .i64 x.halt,.int .i64 x.fault,.int .i64 x.who,.slice a5 x.procs.length c5,.slice a6 x.out.length c6],rfl,rfl,⟨[.int .i64 x.since],[.int .i64 x.halt,.int .i64 x.fault,.int .i64 x.who,.slice a5 x.procs.length c5,.slice a6 x.out.length c6],rfl,rfl,⟨[.int .i64 x.halt],[.int .i64 x.fault,.int .i64 x.who,.slice a5 x.procs.length c5,.slice a6 x.out.length c6],rfl,rfl,⟨[.int .i64 x.fault],[.int .i64 x.who,.slice a5 x.procs.length c5,.slice a6 x.out.length c6],rfl,rfl,⟨[.int .i64 x.who],[.slice a5 x.procs.length c5,.slice a6 x.out.length c6],rfl,rfl,⟨[.slice a5 x.procs.length c5],[.slice a6 x.out.length c6],rfl,⟨_,_,rfl,h0.1,h0.2⟩,⟨_,_,rfl,h1.1,h1.2⟩⟩⟩⟩⟩⟩⟩
structure Bd where
 x0:Int
 x1:Int
 deriving DecidableEq,Inhabited
def S0:cO Bd:=Ul (fun x=>(x.x0,x.x1)) (B5 (Bh .i64) (Bh .i64))
theorem Adn {m:List Nat} {w:World} {x:Bd} {cs:List Value} (h:S0.rep m w x cs):cs=[.int .i64 x.x0,.int .i64 x.x1]:=by
 obtain⟨_,_,rfl,rfl,rfl⟩:=h;exact rfl
theorem Ht {m:List Nat} {w:World} (x:Bd):S0.rep m w x [.int .i64 x.x0,.int .i64 x.x1]:=⟨[.int .i64 x.x0],[.int .i64 x.x1],rfl,rfl,rfl⟩
structure Ao where
 jc:Bool
 n:Int
 choose:Bool
 deriving DecidableEq,Inhabited
def Dd:cO Ao:=Ul (fun x=>(x.jc,x.n,x.choose)) (B5 yp (B5 (Bh .i64) yp))
theorem Df {m:List Nat} {w:World} {x:Ao} {cs:List Value} (h:Dd.rep m w x cs):cs=[.bool x.jc,.int .i64 x.n,.bool x.choose]:=by
 obtain⟨_,_,rfl,rfl,⟨_,_,rfl,rfl,rfl⟩⟩:=h;exact rfl
theorem G1 {m:List Nat} {w:World} (x:Ao):Dd.rep m w x [.bool x.jc,.int .i64 x.n,.bool x.choose]:=⟨[.bool x.jc],[.int .i64 x.n,.bool x.choose],rfl,rfl,⟨[.int .i64 x.n],[.bool x.choose],rfl,rfl,rfl⟩⟩
structure Dq where
 at_:Int
 ok:Bool
 deriving DecidableEq,Inhabited
def S5:cO Dq:=Ul (fun x=>(x.at_,x.ok)) (B5 (Bh .i64) yp)
theorem R5 {m:List Nat} {w:World} {x:Dq} {cs:List Value} (h:S5.rep m w x cs):cs=[.int .i64 x.at_,.bool x.ok]:=by
 obtain⟨_,_,rfl,rfl,rfl⟩:=h;exact rfl
theorem Up {m:List Nat} {w:World} (x:Dq):S5.rep m w x [.int .i64 x.at_,.bool x.ok]:=⟨[.int .i64 x.at_],[.bool x.ok],rfl,rfl,rfl⟩
structure Be where
 c:Ah
 fuel:Int
 deriving DecidableEq,Inhabited
def Eg:cO Be:=Ul (fun x=>(x.c,x.fuel)) (B5 Bu (Bh .i64))
theorem Jj {m:List Nat} {w:World} {x:Be} {cs:List Value} (h:Eg.rep m w x cs):∃(a0:Option Addr) (c0:Nat) (a1:Option Addr) (c1:Nat) (a2:Option Addr) (c2:Nat),cs=[.slice a0 x.c.ins.length c0,.slice a1 x.c.defs.length c1,.slice a2 x.c.af.length c2,.int .i64 x.c.main,.int .i64 x.c.stmts,.int .i64 x.fuel]/\(x.c.ins.length<=c0/\br Da m w a0 x.c.ins)/\(x.c.defs.length<=c1/\br Gb m w a1 x.c.defs)/\(x.c.af.length<=c2/\br Dr m w a2 x.c.af):=by
 obtain⟨_,_,rfl,⟨_,_,rfl,⟨a0,c0,rfl,p0,q0⟩,⟨_,_,rfl,⟨a1,c1,rfl,p1,q1⟩,⟨_,_,rfl,⟨a2,c2,rfl,p2,q2⟩,⟨_,_,rfl,rfl,rfl⟩⟩⟩⟩,rfl⟩:=h;exact⟨a0,c0,a1,c1,a2,c2,rfl,⟨p0,q0⟩,⟨p1,q1⟩,⟨p2,q2⟩⟩
theorem J0 {m:List Nat} {w:World} (x:Be) {a0:Option Addr} {c0:Nat} {a1:Option Addr} {c1:Nat} {a2:Option Addr} {c2:Nat} (h0:(x.c.ins.length<=c0/\br Da m w a0 x.c.ins)) (h1:(x.c.defs.length<=c1/\br Gb m w a1 x.c.defs)) (h2:(x.c.af.length<=c2/\br Dr m w a2 x.c.af)):Eg.rep m w x [.slice a0 x.c.ins.length c0,.slice a1 x.c.defs.length c1,.slice a2 x.c.af.length c2,.int .i64 x.c.main,.int .i64 x.c.stmts,.int .i64 x.fuel]:=⟨[.slice a0 x.c.ins.length c0,.slice a1 x.c.defs.length c1,.slice a2 x.c.af.length c2,.int .i64 x.c.main,.int .i64 x.c.stmts],[.int .i64 x.fuel],rfl,⟨[.slice a0 x.c.ins.length c0],[.slice a1 x.c.defs.length c1,.slice a2 x.c.af.length c2,.int .i64 x.c.main,.int .i64 x.c.stmts],rfl,⟨_,_,rfl,h0.1,h0.2⟩,⟨[.slice a1 x.c.defs.length c1],[.slice a2 x.c.af.length c2,.int .i64 x.c.main,.int .i64 x.c.stmts],rfl,⟨_,_,rfl,h1.1,h1.2⟩,⟨[.slice a2 x.c.af.length c2],[.int .i64 x.c.main,.int .i64 x.c.stmts],rfl,⟨_,_,rfl,h2.1,h2.2⟩,⟨[.int .i64 x.c.main],[.int .i64 x.c.stmts],rfl,rfl,rfl⟩⟩⟩⟩,rfl⟩
structure Ak where
 code:Ah
 marks:Int
 from_:Int
 to:Int
 vars:Int
 deriving DecidableEq,Inhabited
def Dg:cO Ak:=Ul (fun x=>(x.code,x.marks,x.from_,x.to,x.vars)) (B5 Bu (B5 (Bh .i64) (B5 (Bh .i64) (B5 (Bh .i64) (Bh .i64)))))
theorem Cf {m:List Nat} {w:World} {x:Ak} {cs:List Value} (h:Dg.rep m w x cs):∃(a0:Option Addr) (c0:Nat) (a1:Option Addr) (c1:Nat) (a2:Option Addr) (c2:Nat),cs=[.slice a0 x.code.ins.length c0,.slice a1 x.code.defs.length c1,.slice a2 x.code.af.length c2,.int .i64 x.code.main,.int .i64 x.code.stmts,.int .i64 x.marks,.int .i64 x.from_,.int .i64 x.to,.int .i64 x.vars]/\(x.code.ins.length<=c0/\br Da m w a0 x.code.ins)/\(x.code.defs.length<=c1/\br Gb m w a1 x.code.defs)/\(x.code.af.length<=c2/\br Dr m w a2 x.code.af):=by
 obtain⟨_,_,rfl,⟨_,_,rfl,⟨a0,c0,rfl,p0,q0⟩,⟨_,_,rfl,⟨a1,c1,rfl,p1,q1⟩,⟨_,_,rfl,⟨a2,c2,rfl,p2,q2⟩,⟨_,_,rfl,rfl,rfl⟩⟩⟩⟩,⟨_,_,rfl,rfl,⟨_,_,rfl,rfl,⟨_,_,rfl,rfl,rfl⟩⟩⟩⟩:=h;exact⟨a0,c0,a1,c1,a2,c2,rfl,⟨p0,q0⟩,⟨p1,q1⟩,⟨p2,q2⟩⟩
theorem Bq {m:List Nat} {w:World} (x:Ak) {a0:Option Addr} {c0:Nat} {a1:Option Addr} {c1:Nat} {a2:Option Addr} {c2:Nat} (h0:(x.code.ins.length<=c0/\br Da m w a0 x.code.ins)) (h1:(x.code.defs.length<=c1/\br Gb m w a1 x.code.defs)) (h2:(x.code.af.length<=c2/\br Dr m w a2 x.code.af)):Dg.rep m w x [.slice a0 x.code.ins.length c0,.slice a1 x.code.defs.length c1,.slice a2 x.code.af.length c2,.int .i64 x.code.main,.int .i64 x.code.stmts,.int .i64 x.marks,.int .i64 x.from_,.int .i64 x.to,.int .i64 x.vars]:=⟨[.slice a0 x.code.ins.length c0,.slice a1 x.code.defs.length c1,.slice a2 x.code.af.length c2,.int .i64 x.code.main,.int .i64 x.code.stmts],[.int .i64 x.marks,.int .i64 x.from_,.int .i64 x.to,.int .i64 x.vars],rfl,⟨[.slice a0 x.code.ins.length c0],[.slice a1 x.code.defs.length c1,.slice a2 x.code.af.length c2,.int .i64 x.code.main,.int .i64 x.code.stmts],rfl,⟨_,_,rfl,h0.1,h0.2⟩,⟨[.slice a1 x.code.defs.length c1],[.slice a2 x.code.af.length c2,.int .i64 x.code.main,.int .i64 x.code.stmts],rfl,⟨_,_,rfl,h1.1,h1.2⟩,⟨[.slice a2 x.code.af.length c2],[.int .i64 x.code.main,.int .i64 x.code.stmts],rfl,⟨_,_,rfl,h2.1,h2.2⟩,⟨[.int .i64 x.code.main],[.int .i64 x.code.stmts],rfl,rfl,rfl⟩⟩⟩⟩,⟨[.int .i64 x.marks],[.int .i64 x.from_,.int .i64 x.to,.int .i64 x.vars],rfl,rfl,⟨[.int .i64 x.from_],[.int .i64 x.to,.int .i64 x.vars],rfl,rfl,⟨[.int .i64 x.to],[.int .i64 x.vars],rfl,rfl,rfl⟩⟩⟩⟩
structure Bv where
 n:Int
 choose:Bool
 deriving DecidableEq,Inhabited
def Kh:cO Bv:=Ul (fun x=>(x.n,x.choose)) (B5 (Bh .i64) yp)
theorem O6 {m:List Nat} {w:World} {x:Bv} {cs:List Value} (h:Kh.rep m w x cs):cs=[.int .i64 x.n,.bool x.choose]:=by
 obtain⟨_,_,rfl,rfl,rfl⟩:=h;exact rfl
theorem Qi {m:List Nat} {w:World} (x:Bv):Kh.rep m w x [.int .i64 x.n,.bool x.choose]:=⟨[.int .i64 x.n],[.bool x.choose],rfl,rfl,rfl⟩
structure An where
 word:List UInt8
 Ng:Int
 takes:Int
 gives:Int
 deriving DecidableEq,Inhabited
def Wc:cO An:=Ul (fun x=>(x.word,x.Ng,x.takes,x.gives)) (B5 X3 (B5 (Bh .i64) (B5 (Bh .i64) (Bh .i64))))
theorem Og {m:List Nat} {w:World} {x:An} {cs:List Value} (h:Wc.rep m w x cs):cs=[.string (bI x.word),.int .i64 x.Ng,.int .i64 x.takes,.int .i64 x.gives]:=by
 obtain⟨_,_,rfl,rfl,⟨_,_,rfl,rfl,⟨_,_,rfl,rfl,rfl⟩⟩⟩:=h;exact rfl
theorem Xi {m:List Nat} {w:World} (x:An):Wc.rep m w x [.string (bI x.word),.int .i64 x.Ng,.int .i64 x.takes,.int .i64 x.gives]:=⟨[.string (bI x.word)],[.int .i64 x.Ng,.int .i64 x.takes,.int .i64 x.gives],rfl,rfl,⟨[.int .i64 x.Ng],[.int .i64 x.takes,.int .i64 x.gives],rfl,rfl,⟨[.int .i64 x.takes],[.int .i64 x.gives],rfl,rfl,rfl⟩⟩⟩
end Go.Ty
namespace Go.Proofs.YthkbhlmijkegiaaGreat
open Go.Vc Go.Lv Go.Ty
theorem Az5:oH Tryz.prog 22 95 3 24:=⟨Tryz.t95,.agg #[.int .i64 0,.int .i64 0,.int .i64 0],by kernel_rfl,by kernel_rfl,by kernel_rfl,by kernel_rfl,by kernel_rfl,by kernel_rfl,by decide⟩
theorem Az6:oH Tryz.prog 23 97 4 40:=⟨Tryz.t97,.agg #[.string (bI []),.int .i64 0,.int .i64 0,.int .i64 0],by kernel_rfl,by kernel_rfl,by kernel_rfl,by kernel_rfl,by kernel_rfl,by kernel_rfl,by decide⟩
theorem Az7:oH Tryz.prog 24 99 3 32:=⟨Tryz.t99,.agg #[.string (bI []),.int .i64 0,.int .i64 0],by kernel_rfl,by kernel_rfl,by kernel_rfl,by kernel_rfl,by kernel_rfl,by kernel_rfl,by decide⟩
theorem sQ:oH Tryz.prog 28 3 1 8:=⟨Tryz.t3,.int .i64 0,by kernel_rfl,by kernel_rfl,by kernel_rfl,by kernel_rfl,by kernel_rfl,by kernel_rfl,by decide⟩
theorem Atu:∀i,Tryz.prog.info? 159=some i->i.zero=some (.agg #[.bool false,.int .i64 0,.bool false]):=fun i hi=>by
 have h1:Tryz.prog.info? 159=some Tryz.t159:=by kernel_rfl
 rw [h1]at hi;have h2:Tryz.t159.zero=some (.agg #[.bool false,.int .i64 0,.bool false]):=by kernel_rfl
 exact Option.some.inj hi▸h2
theorem OH:oH Tryz.prog 102 159 3 24:=⟨Tryz.t159,.agg #[.bool false,.int .i64 0,.bool false],by kernel_rfl,by kernel_rfl,by kernel_rfl,by kernel_rfl,by kernel_rfl,by kernel_rfl,by decide⟩
def Nk:Prop:=∀(w:World),As 227 #[] w (fun v w'=>v= .agg ⟨[.s [],.q 0,.q 0,.q 0,.s [109,97,114,107],.q 1,.q 0,.q 0,.s [112,117,115,104],.q 1,.q 0,.q 1,.s [108,111,97,100],.q 1,.q 0,.q 1,.s [115,116,111,114,101],.q 1,.q 1,.q 0,.s [97,112,112,108,121],.q 1,.q 0,.q 1,.s [106,117,109,112],.q 1,.q 0,.q 0,.s [122,101,114,111],.q 1,.q 1,.q 0,.s [111,110,101],.q 1,.q 1,.q 0,.s [99,104,97,110],.q 2,.q 0,.q 1,.s [115,101,110,100],.q 0,.q 2,.q 0,.s [114,101,99,118],.q 1,.q 1,.q 0,.s [100,114,97,119],.q 1,.q 1,.q 0,.s [115,108,101,101,112],.q 0,.q 1,.q 0,.s [115,116,97,114,116],.q 2,.q 0,.q 0,.s [112,114,105,110,116],.q 0,.q 1,.q 0,.s [97,115,115,101,114,116],.q 0,.q 1,.q 0,.s [115,107,105,112],.q 0,.q 0,.q 0,.s [115,116,111,112],.q 0,.q 0,.q 0,.s [111,110,114,101,99,118],.q 2,.q 1,.q 0,.s [111,110,115,101,110,100],.q 1,.q 2,.q 0,.s [97,102,116,101,114],.q 1,.q 1,.q 0,.s [101,108,115,101],.q 1,.q 0,.q 0,.s [115,101,108,101,99,116],.q 0,.q 0,.q 0,.s [101,110,100],.q 0,.q 0,.q 0,.s [99,104,111,111,115,101],.q 0,.q 0,.q 0]⟩/\Ai [] w w')
def Xj (cq:Ah) (sx:Ay) (K:Bool->Prop):Prop:=∀(m:List Nat) (w:World),bA m w->∀(bp:List Value),Bu.rep m w cq bp->∀(ek:List Value),Ep.rep m w sx ek->As 5 #[.agg ⟨bp⟩,.agg ⟨ek⟩] w (fun v w'=>∃(r0:Bool),K r0/\(v= .bool r0)/\Ai [] w w')
def Xk (cq:Ah) (K:Bool->Prop):Prop:=∀(m:List Nat) (w:World),bA m w->∀(bp:List Value),Bu.rep m w cq bp->As 6 #[.agg ⟨bp⟩] w (fun v w'=>∃(r0:Bool),K r0/\(v= .bool r0)/\Ai [] w w')
def Qj (cq:Ah) (K:Bd->Prop):Prop:=∀(m:List Nat) (w:World),bA m w->∀(bp:List Value),Bu.rep m w cq bp->As 19 #[.agg ⟨bp⟩] w (fun v w'=>∃(r0:Bd),K r0/\(∃(fk:List Value),v= .agg ⟨fk⟩/\S0.rep m w' r0 fk)/\Ai [] w w')
def Oh (cq:Ah) (K:Bool->Prop):Prop:=∀(m:List Nat) (w:World),bA m w->∀(bp:List Value),Bu.rep m w cq bp->As 43 #[.agg ⟨bp⟩] w (fun v w'=>∃(r0:Bool),K r0/\(v= .bool r0)/\Ai [] w w')
def Nl (cq:Ah) (r:Int) (K:Int->Prop):Prop:=∀(m:List Nat) (w:World),bA m w->∀(bp:List Value),Bu.rep m w cq bp->As 44 #[.agg ⟨bp⟩,.q r] w (fun v w'=>∃(r0:Int),K r0/\(v= .q r0)/\Ai [] w w')
def Wd (cq:Ah) (r:Int) (ao:Int) (marks:Int) (K:Bool->Prop):Prop:=∀(m:List Nat) (w:World),bA m w->∀(bp:List Value),Bu.rep m w cq bp->As 45 #[.agg ⟨bp⟩,.q r,.q ao,.q marks] w (fun v w'=>∃(r0:Bool),K r0/\(v= .bool r0)/\Ai [] w w')
def S6 (cq:Ah) (r:Int) (K:(List Ao)->Int->Prop):Prop:=∀(m:List Nat) (w:World),bA m w->∀(bp:List Value),Bu.rep m w cq bp->As 46 #[.agg ⟨bp⟩,.q r] w (fun v w'=>∃(r0:List Ao) (r1:Int),K r0 r1/\(∃(a0:Option Addr) (c0:Nat),v= .tuple #[.slice a0 r0.length c0,.q r1]/\(r0.length<=c0/\br Dd m w' a0 r0))/\Ai [] w w')
def Oi (sx:List UInt8) (K:Bool->Prop):Prop:=∀(m:List Nat) (w:World),bA m w->As 87 #[.s sx] w (fun v w'=>∃(r0:Bool),K r0/\(v= .bool r0)/\Ai [] w w')
def Jk (xq:Ax) (K:Bool->Prop):Prop:=∀(m:List Nat) (w:World),bA m w->∀(eo:List Value),Da.rep m w xq eo->As 88 #[.agg ⟨eo⟩] w (fun v w'=>∃(r0:Bool),K r0/\(v= .bool r0)/\Ai [] w w')
def Gq (cq:Ah) (base:Int) (size:Int) (K:Bool->Prop):Prop:=∀(m:List Nat) (w:World),bA m w->∀(bp:List Value),Bu.rep m w cq bp->As 89 #[.agg ⟨bp⟩,.q base,.q size] w (fun v w'=>∃(r0:Bool),K r0/\(v= .bool r0)/\Ai [] w w')
def Ki (xq:Ax) (K:Int->Bool->Prop):Prop:=∀(m:List Nat) (w:World),bA m w->∀(eo:List Value),Da.rep m w xq eo->As 90 #[.agg ⟨eo⟩] w (fun v w'=>∃(r0:Int) (r1:Bool),K r0 r1/\(v= .tuple #[.q r0,.bool r1])/\Ai [] w w')
def Ek (op:Int) (K:Bool->Prop):Prop:=∀(m:List Nat) (w:World),bA m w->As 91 #[.q op] w (fun v w'=>∃(r0:Bool),K r0/\(v= .bool r0)/\Ai [] w w')
def Hb (cq:Ah) (r:Int) (ao:Int) (K:Bool->Prop):Prop:=∀(m:List Nat) (w:World),bA m w->∀(bp:List Value),Bu.rep m w cq bp->As 92 #[.agg ⟨bp⟩,.q r,.q ao] w (fun v w'=>∃(r0:Bool),K r0/\(v= .bool r0)/\Ai [] w w')
def Oj (op:Int) (K:Bool->Prop):Prop:=∀(m:List Nat) (w:World),bA m w->As 93 #[.q op] w (fun v w'=>∃(r0:Bool),K r0/\(v= .bool r0)/\Ai [] w w')
def S7 (xq:Ax) (t:Ao) (K:Bool->Prop):Prop:=∀(m:List Nat) (w:World),bA m w->∀(eo:List Value),Da.rep m w xq eo->∀(ll:List Value),Dd.rep m w t ll->As 94 #[.agg ⟨eo⟩,.agg ⟨ll⟩] w (fun v w'=>∃(r0:Bool),K r0/\(v= .bool r0)/\Ai [] w w')
def L5 (xq:Ax) (K:Int->Prop):Prop:=∀(m:List Nat) (w:World),bA m w->∀(eo:List Value),Da.rep m w xq eo->As 95 #[.agg ⟨eo⟩] w (fun v w'=>∃(r0:Int),K r0/\(v= .q r0)/\Ai [] w w')
def Qk (xq:Ax) (K:Int->Prop):Prop:=∀(m:List Nat) (w:World),bA m w->∀(eo:List Value),Da.rep m w xq eo->As 96 #[.agg ⟨eo⟩] w (fun v w'=>∃(r0:Int),K r0/\(v= .q r0)/\Ai [] w w')
def L6 (all:List Ao) (qX:Int) (ao:Int) (now:Ao) (K:(List Ao)->Bool->Prop):Prop:=∀(m:List Nat) (w:World),bA m w->∀(oM:Option Addr) (Mh:Nat) (vv:List Value),(∀b,Vc.bG oM=some b->b∈m)->Rw w 0 159 3 oM all.length Mh vv->El Dd m w all vv->∀(CE:List Value),Dd.rep m w now CE->As 97 #[.slice oM all.length Mh,.q qX,.q ao,.agg ⟨CE⟩] w (fun v w'=>∃(r0:List Ao) (r1:Bool),K r0 r1/\(∃(a0:Option Addr) (c0:Nat) (OI:List Value),v= .tuple #[.slice a0 r0.length c0,.bool r1]/\(Rw w' 0 159 3 a0 r0.length c0 OI/\El Dd ((Vc.bG a0).toList++m) w' r0 OI/\(∀b,Vc.bG a0=some b->Vc.bG oM=some b\/w.heap.size<=b)))/\Ai (Vc.bG oM).toList w w')
def Xl (op:Int) (K:Int->Prop):Prop:=∀(m:List Nat) (w:World),bA m w->As 162 #[.q op] w (fun v w'=>∃(r0:Int),K r0/\(v= .q r0)/\Ai [] w w')
def Ol (cq:Ah) (ao:Int) (K:Int->Prop):Prop:=∀(m:List Nat) (w:World),bA m w->∀(bp:List Value),Bu.rep m w cq bp->As 163 #[.agg ⟨bp⟩,.q ao] w (fun v w'=>∃(r0:Int),K r0/\(v= .q r0)/\Ai [] w w')
def Mn (cq:Ah) (ao:Int) (K:Int->Prop):Prop:=∀(m:List Nat) (w:World),bA m w->∀(bp:List Value),Bu.rep m w cq bp->As 133 #[.agg ⟨bp⟩,.q ao] w (fun v w'=>∃(r0:Int),K r0/\(v= .q r0)/\Ai [] w w')
def S8 (op:Int) (K:Int->Prop):Prop:=∀(m:List Nat) (w:World),bA m w->As 161 #[.q op] w (fun v w'=>∃(r0:Int),K r0/\(v= .q r0)/\Ai [] w w')
def S9 (op:Int) (K:Int->Prop):Prop:=∀(m:List Nat) (w:World),bA m w->As 164 #[.q op] w (fun v w'=>∃(r0:Int),K r0/\(v= .q r0)/\Ai [] w w')
def Om (cq:Int) (K:Bool->Prop):Prop:=∀(m:List Nat) (w:World),bA m w->As 157 #[.int .u8 cq] w (fun v w'=>∃(r0:Bool),K r0/\(v= .bool r0)/\Ai [] w w')
def Ql (cq:Int) (K:Bool->Prop):Prop:=∀(m:List Nat) (w:World),bA m w->As 158 #[.int .u8 cq] w (fun v w'=>∃(r0:Bool),K r0/\(v= .bool r0)/\Ai [] w w')
def Xm (K:(List (List UInt8))->Prop):Prop:=∀(m:List Nat) (w:World),bA m w->As 160 #[] w (fun v w'=>∃(r0:List (List UInt8)),K r0/\(∃(a0:Option Addr) (c0:Nat),v= .slice a0 r0.length c0/\r0.length<=c0/\br X3 m w' a0 r0)/\Ai [] w w')
def CF (l:List (List UInt8)) (sx:List UInt8) (K:Bool->Prop):Prop:=∀(m:List Nat) (w:World),bA m w->∀(lA:Option Addr) (lC:Nat),l.length<=lC->br X3 m w lA l->As 159 #[.slice lA l.length lC,.s sx] w (fun v w'=>∃(r0:Bool),K r0/\(v= .bool r0)/\Ai [] w w')
def OJ (cq:Ah) (sx:Ay) (K:Bool->Prop):Prop:=∀(m:List Nat) (w:World),bA m w->∀(bp:List Value),Bu.rep m w cq bp->∀(ek:List Value),Ep.rep m w sx ek->As 11 #[.agg ⟨bp⟩,.agg ⟨ek⟩] w (fun v w'=>∃(r0:Bool),K r0/\(v= .bool r0)/\Ai [] w w')
def On (n:Int) (K:Bool->Prop):Prop:=∀(m:List Nat) (w:World),bA m w->As 30 #[.q n] w (fun v w'=>∃(r0:Bool),K r0/\(v= .bool r0)/\Ai [] w w')
def Ri (p:Ap) (K:Dq->Prop):Prop:=∀(m:List Nat) (w:World),bA m w->∀(dH:List Value),Ce.rep m w p dH->As 31 #[.agg ⟨dH⟩] w (fun v w'=>∃(r0:Dq),K r0/\(∃(fk:List Value),v= .agg ⟨fk⟩/\S5.rep m w' r0 fk)/\Ai [] w w')
def CG (cq:Ah) (p:Ap) (K:Bool->Prop):Prop:=∀(m:List Nat) (w:World),bA m w->∀(bp:List Value),Bu.rep m w cq bp->∀(dH:List Value),Ce.rep m w p dH->As 32 #[.agg ⟨bp⟩,.agg ⟨dH⟩] w (fun v w'=>∃(r0:Bool),K r0/\(v= .bool r0)/\Ai [] w w')
def Jl (sx:Ay) (mode:Int) (K:Int->Prop):Prop:=∀(m:List Nat) (w:World),bA m w->∀(ek:List Value),Ep.rep m w sx ek->As 33 #[.agg ⟨ek⟩,.q mode] w (fun v w'=>∃(r0:Int),K r0/\(v= .q r0)/\Ai [] w w')
def Ta (sx:Ay) (K:Int->Prop):Prop:=∀(m:List Nat) (w:World),bA m w->∀(ek:List Value),Ep.rep m w sx ek->As 34 #[.agg ⟨ek⟩] w (fun v w'=>∃(r0:Int),K r0/\(v= .q r0)/\Ai [] w w')
def Qm (sx:Ay) (K:(List Int)->Prop):Prop:=∀(m:List Nat) (w:World),bA m w->∀(ek:List Value),Ep.rep m w sx ek->As 12 #[.agg ⟨ek⟩] w (fun v w'=>∃(r0:List Int),K r0/\(∃(a0:Option Addr) (c0:Nat),v= .slice a0 r0.length c0/\r0.length<=c0/\br (Bh .i64) m w' a0 r0)/\Ai [] w w')
def OK (aq:List Int) (bq:List Int) (K:Bool->Prop):Prop:=∀(m:List Nat) (w:World),bA m w->∀(oO:Option Addr) (oP:Nat),aq.length<=oP->br (Bh .i64) m w oO aq->∀(oQ:Option Addr) (oS:Nat),bq.length<=oS->br (Bh .i64) m w oQ bq->As 40 #[.slice oO aq.length oP,.slice oQ bq.length oS] w (fun v w'=>∃(r0:Bool),K r0/\(v= .bool r0)/\Ai [] w w')
def Qn (p:Ap) (K:(List Int)->Prop):Prop:=∀(m:List Nat) (w:World),bA m w->∀(dH:List Value),Ce.rep m w p dH->As 70 #[.agg ⟨dH⟩] w (fun v w'=>∃(r0:List Int),K r0/\(∃(a0:Option Addr) (c0:Nat),v= .slice a0 r0.length c0/\r0.length<=c0/\br (Bh .i64) m w' a0 r0)/\Ai [] w w')
def Cg (n:Int) (below:Int) (K:Bool->Prop):Prop:=∀(m:List Nat) (w:World),bA m w->As 71 #[.q n,.q below] w (fun v w'=>∃(r0:Bool),K r0/\(v= .bool r0)/\Ai [] w w')
def Nm (cq:Ah) (j1:Int) (ao:Int) (op:Int) (K:Bool->Prop):Prop:=∀(m:List Nat) (w:World),bA m w->∀(bp:List Value),Bu.rep m w cq bp->As 72 #[.agg ⟨bp⟩,.q j1,.q ao,.q op] w (fun v w'=>∃(r0:Bool),K r0/\(v= .bool r0)/\Ai [] w w')
def Hc (cq:Ah) (j1:Int) (ao:Int) (K:Bool->Prop):Prop:=∀(m:List Nat) (w:World),bA m w->∀(bp:List Value),Bu.rep m w cq bp->As 73 #[.agg ⟨bp⟩,.q j1,.q ao] w (fun v w'=>∃(r0:Bool),K r0/\(v= .bool r0)/\Ai [] w w')
def Hd (cq:Ah) (K:Int->Prop):Prop:=∀(m:List Nat) (w:World),bA m w->∀(bp:List Value),Bu.rep m w cq bp->As 74 #[.agg ⟨bp⟩] w (fun v w'=>∃(r0:Int),K r0/\(v= .q r0)/\Ai [] w w')
def We (cq:Ah) (p:Ap) (aq:F6) (K:Bool->Prop):Prop:=∀(m:List Nat) (w:World),bA m w->∀(bp:List Value),Bu.rep m w cq bp->∀(dH:List Value),Ce.rep m w p dH->∀(qY:List Value),Nj.rep m w aq qY->As 75 #[.agg ⟨bp⟩,.agg ⟨dH⟩,.agg ⟨qY⟩] w (fun v w'=>∃(r0:Bool),K r0/\(v= .bool r0)/\Ai [] w w')
def OL (aq:List F6) (bq:List F6) (K:Bool->Prop):Prop:=∀(m:List Nat) (w:World),bA m w->∀(oO:Option Addr) (oP:Nat),aq.length<=oP->br Nj m w oO aq->∀(oQ:Option Addr) (oS:Nat),bq.length<=oS->br Nj m w oQ bq->As 85 #[.slice oO aq.length oP,.slice oQ bq.length oS] w (fun v w'=>∃(r0:Bool),K r0/\(v= .bool r0)/\Ai [] w w')
def Ev (mx:Be) (sx:Ay) (K:Int->Prop):Prop:=∀(m:List Nat) (w:World),bA m w->∀(cP:Nat) (oT:List Value),cP∈m->df w cP oT->Eg.rep m w mx oT->∀(ek:List Value),Ep.rep m w sx ek->As 9 #[.pointer (some (Zb cP)),.agg ⟨ek⟩] w (fun v w'=>∃(r0:Int),K r0/\(v= .q r0)/\df w' cP oT/\Ai [cP] w w')
def L7 (p:Ap) (K:Int->Bool->Prop):Prop:=∀(m:List Nat) (w:World),bA m w->∀(dH:List Value),Ce.rep m w p dH->As 25 #[.agg ⟨dH⟩] w (fun v w'=>∃(r0:Int) (r1:Bool),K r0 r1/\(v= .tuple #[.q r0,.bool r1])/\Ai [] w w')
def Uq (cq:Ah) (p:Ap) (K:Int->Prop):Prop:=∀(m:List Nat) (w:World),bA m w->∀(bp:List Value),Bu.rep m w cq bp->∀(dH:List Value),Ce.rep m w p dH->As 26 #[.agg ⟨bp⟩,.agg ⟨dH⟩] w (fun v w'=>∃(r0:Int),K r0/\(v= .q r0)/\Ai [] w w')
def F7 (sx:Ay) (K:Int->Prop):Prop:=∀(m:List Nat) (w:World),bA m w->∀(ek:List Value),Ep.rep m w sx ek->As 27 #[.agg ⟨ek⟩] w (fun v w'=>∃(r0:Int),K r0/\(v= .q r0)/\Ai [] w w')
def Ju (sx:Ay) (K:Ay->Prop):Prop:=∀(m:List Nat) (w:World),bA m w->∀(ek:List Value),Ep.rep m w sx ek->As 28 #[.agg ⟨ek⟩] w (fun v w'=>∃(r0:Ay),K r0/\(∃(fk:List Value),v= .agg ⟨fk⟩/\Ep.rep m w' r0 fk)/\Ai [] w w')
def He (mx:Be) (sx:Ay) (K:(List Int)->Prop):Prop:=∀(m:List Nat) (w:World),bA m w->∀(cP:Nat) (oT:List Value),cP∈m->df w cP oT->Eg.rep m w mx oT->∀(ek:List Value),Ep.rep m w sx ek->As 10 #[.pointer (some (Zb cP)),.agg ⟨ek⟩] w (fun v w'=>∃(r0:List Int),K r0/\(∃(a0:Option Addr) (c0:Nat),v= .slice a0 r0.length c0/\r0.length<=c0/\br (Bh .i64) m w' a0 r0)/\df w' cP oT/\Ai [cP] w w')
def Gy (sx:Ay) (K:(List Int)->Prop):Prop:=∀(m:List Nat) (w:World),bA m w->∀(ek:List Value),Ep.rep m w sx ek->As 29 #[.agg ⟨ek⟩] w (fun v w'=>∃(r0:List Int),K r0/\(∃(a0:Option Addr) (c0:Nat),v= .slice a0 r0.length c0/\r0.length<=c0/\br (Bh .i64) m w' a0 r0)/\Ai [] w w')
def R6 (cq:Ah) (K:Ah->Prop):Prop:=∀(m:List Nat) (w:World),bA m w->∀(bp:List Value),Bu.rep m w cq bp->As 24 #[.agg ⟨bp⟩] w (fun v w'=>∃(r0:Ah),K r0/\(∃(fk:List Value),v= .agg ⟨fk⟩/\Bu.rep m w' r0 fk)/\Ai [] w w')
def Eh (sx:List Ax) (K:(List Ax)->Prop):Prop:=∀(m:List Nat) (w:World),bA m w->∀(dj:Option Addr) (du:Nat),sx.length<=du->br Da m w dj sx->As 59 #[.slice dj sx.length du] w (fun v w'=>∃(r0:List Ax),K r0/\(∃(a0:Option Addr) (c0:Nat),v= .slice a0 r0.length c0/\r0.length<=c0/\br Da m w' a0 r0)/\Ai [] w w')
def Ci (sx:List Db) (K:(List Db)->Prop):Prop:=∀(m:List Nat) (w:World),bA m w->∀(dj:Option Addr) (du:Nat),sx.length<=du->br Gb m w dj sx->As 60 #[.slice dj sx.length du] w (fun v w'=>∃(r0:List Db),K r0/\(∃(a0:Option Addr) (c0:Nat),v= .slice a0 r0.length c0/\r0.length<=c0/\br Gb m w' a0 r0)/\Ai [] w w')
def Bj (sx:List Br) (K:(List Br)->Prop):Prop:=∀(m:List Nat) (w:World),bA m w->∀(dj:Option Addr) (du:Nat),sx.length<=du->br Dr m w dj sx->As 61 #[.slice dj sx.length du] w (fun v w'=>∃(r0:List Br),K r0/\(∃(a0:Option Addr) (c0:Nat),v= .slice a0 r0.length c0/\r0.length<=c0/\br Dr m w' a0 r0)/\Ai [] w w')
def Bm (sx:List Ap) (K:Int->Prop):Prop:=∀(m:List Nat) (w:World),bA m w->∀(dj:Option Addr) (du:Nat),sx.length<=du->br Ce m w dj sx->As 65 #[.slice dj sx.length du,.func (.func 66) #[] #[]] w (fun v w'=>∃(r0:Int),K r0/\(v= .q r0)/\Ai [] w w')
def Bf (sx:List Ap) (K:Bool->Prop):Prop:=∀(m:List Nat) (w:World),bA m w->∀(dj:Option Addr) (du:Nat),sx.length<=du->br Ce m w dj sx->As 68 #[.slice dj sx.length du,.func (.func 67) #[] #[]] w (fun v w'=>∃(r0:Bool),K r0/\(v= .bool r0)/\Ai [] w w')
def Mp (l:List Ap) (K:Bool->Prop):Prop:=∀(m:List Nat) (w:World),bA m w->∀(lA:Option Addr) (lC:Nat),l.length<=lC->br Ce m w lA l->As 69 #[.slice lA l.length lC] w (fun v w'=>∃(r0:Bool),K r0/\(v= .bool r0)/\Ai [] w w')
def K4 (p:Ap) (K:Bool->Prop):Prop:=∀(m:List Nat) (w:World),bA m w->∀(dH:List Value),Ce.rep m w p dH->As 66 #[.agg ⟨dH⟩] w (fun v w'=>∃(r0:Bool),K r0/\(v= .bool r0)/\Ai [] w w')
def L8 (p:Ap) (K:Bool->Prop):Prop:=∀(m:List Nat) (w:World),bA m w->∀(dH:List Value),Ce.rep m w p dH->As 67 #[.agg ⟨dH⟩] w (fun v w'=>∃(r0:Bool),K r0/\(v= .bool r0)/\Ai [] w w')
def Ur (cq:Ah) (K:Int->Int->Prop):Prop:=∀(m:List Nat) (w:World),bA m w->∀(bp:List Value),Bu.rep m w cq bp->As 23 #[.agg ⟨bp⟩] w (fun v w'=>∃(r0:Int) (r1:Int),K r0 r1/\(v= .tuple #[.q r0,.q r1])/\Ai [] w w')
def Mq (cq:Ah) (K:Bool->Prop):Prop:=∀(m:List Nat) (w:World),bA m w->∀(bp:List Value),Bu.rep m w cq bp->As 55 #[.agg ⟨bp⟩] w (fun v w'=>∃(r0:Bool),K r0/\(v= .bool r0)/\Ai [] w w')
def Dy (cq:Ak) (i:Int) (K:Ak->Prop):Prop:=∀(m:List Nat) (w:World),bA m w->∀(bC:Nat) (bp:List Value),bC∈m->df w bC bp->Dg.rep m w cq bp->As 56 #[.pointer (some (Zb bC)),.q i] w (fun _ w'=>∃(OM:Ak),K OM/\(True)/\(∃fU,df w' bC fU/\Dg.rep m w' OM fU)/\Ai [bC] w w')
def G2 (cq:Ak) (ao:Int) (K:Bool->Prop):Prop:=∀(m:List Nat) (w:World),bA m w->∀(bC:Nat) (bp:List Value),bC∈m->df w bC bp->Dg.rep m w cq bp->As 57 #[.pointer (some (Zb bC)),.q ao] w (fun v w'=>∃(r0:Bool),K r0/\(v= .bool r0)/\df w' bC bp/\Ai [bC] w w')
def J8 (cq:Ak) (K:Int->Bool->Prop):Prop:=∀(m:List Nat) (w:World),bA m w->∀(bC:Nat) (bp:List Value),bC∈m->df w bC bp->Dg.rep m w cq bp->As 58 #[.pointer (some (Zb bC))] w (fun v w'=>∃(r0:Int) (r1:Bool),K r0 r1/\(v= .tuple #[.q r0,.bool r1])/\df w' bC bp/\Ai [bC] w w')
def Kj (sx:List UInt8) (K:Bool->Prop):Prop:=∀(m:List Nat) (w:World),bA m w->As 107 #[.s sx] w (fun v w'=>∃(r0:Bool),K r0/\(v= .bool r0)/\Ai [] w w')
def Jm (xq:Ax) (K:Bool->Prop):Prop:=∀(m:List Nat) (w:World),bA m w->∀(eo:List Value),Da.rep m w xq eo->As 108 #[.agg ⟨eo⟩] w (fun v w'=>∃(r0:Bool),K r0/\(v= .bool r0)/\Ai [] w w')
def A1 (sx:List Br) (kG:Ax) (K:Bool->Prop):Prop:=∀(m:List Nat) (w:World),bA m w->∀(dj:Option Addr) (du:Nat),sx.length<=du->br Dr m w dj sx->∀(oU:Nat) (qZ:List Value),G0 m w (Zb oU) qZ->Da.rep m w kG qZ->As 109 #[.slice dj sx.length du,.func (.func 110) #[] #[.pointer (some (Zb oU))]] w (fun v w'=>∃(r0:Bool),K r0/\(v= .bool r0)/\Ai [] w w')
def K5 (xq:Ax) (K:Int->Bool->Prop):Prop:=∀(m:List Nat) (w:World),bA m w->∀(eo:List Value),Da.rep m w xq eo->As 111 #[.agg ⟨eo⟩] w (fun v w'=>∃(r0:Int) (r1:Bool),K r0 r1/\(v= .tuple #[.q r0,.bool r1])/\Ai [] w w')
def Fw (cq:Ak) (ao:Int) (target:Int) (K:Bool->Prop):Prop:=∀(m:List Nat) (w:World),bA m w->∀(bC:Nat) (bp:List Value),bC∈m->df w bC bp->Dg.rep m w cq bp->As 112 #[.pointer (some (Zb bC)),.q ao,.q target] w (fun v w'=>∃(r0:Bool),K r0/\(v= .bool r0)/\df w' bC bp/\Ai [bC] w w')
def L9 (op:Int) (K:Bool->Prop):Prop:=∀(m:List Nat) (w:World),bA m w->As 113 #[.q op] w (fun v w'=>∃(r0:Bool),K r0/\(v= .bool r0)/\Ai [] w w')
def Fx (op:Int) (K:Bool->Prop):Prop:=∀(m:List Nat) (w:World),bA m w->As 115 #[.q op] w (fun v w'=>∃(r0:Bool),K r0/\(v= .bool r0)/\Ai [] w w')
def Dh (cq:Ak) (ao:Int) (K:Bool->Prop):Prop:=∀(m:List Nat) (w:World),bA m w->∀(bC:Nat) (bp:List Value),bC∈m->df w bC bp->Dg.rep m w cq bp->As 114 #[.pointer (some (Zb bC)),.q ao] w (fun v w'=>∃(r0:Bool),K r0/\(v= .bool r0)/\df w' bC bp/\Ai [bC] w w')
def Mr (cq:Ah) (ao:Int) (K:Int->Prop):Prop:=∀(m:List Nat) (w:World),bA m w->∀(bp:List Value),Bu.rep m w cq bp->As 156 #[.agg ⟨bp⟩,.q ao] w (fun v w'=>∃(r0:Int),K r0/\(v= .q r0)/\Ai [] w w')
def Xn (xq:Ax) (t:Bv) (K:Bv->Bool->Prop):Prop:=∀(m:List Nat) (w:World),bA m w->∀(eo:List Value),Da.rep m w xq eo->∀(ll:List Value),Kh.rep m w t ll->As 116 #[.agg ⟨eo⟩,.agg ⟨ll⟩] w (fun v w'=>∃(r0:Bv) (r1:Bool),K r0 r1/\(∃(fk:List Value),v= .tuple #[.agg ⟨fk⟩,.bool r1]/\Kh.rep m w' r0 fk)/\Ai [] w w')
def Qo (xq:Ax) (K:Int->Prop):Prop:=∀(m:List Nat) (w:World),bA m w->∀(eo:List Value),Da.rep m w xq eo->As 183 #[.agg ⟨eo⟩] w (fun v w'=>∃(r0:Int),K r0/\(v= .q r0)/\Ai [] w w')
def Qp (xq:Ax) (K:Int->Prop):Prop:=∀(m:List Nat) (w:World),bA m w->∀(eo:List Value),Da.rep m w xq eo->As 184 #[.agg ⟨eo⟩] w (fun v w'=>∃(r0:Int),K r0/\(v= .q r0)/\Ai [] w w')
def K6 (op:Int) (K:An->Bool->Prop):Prop:=∀(m:List Nat) (w:World),bA m w->As 180 #[.q op] w (fun v w'=>∃(r0:An) (r1:Bool),K r0 r1/\(∃(fk:List Value),v= .tuple #[.agg ⟨fk⟩,.bool r1]/\Wc.rep m w' r0 fk)/\Ai [] w w')
def E1 (op:Int) (K:Int->Prop):Prop:=∀(m:List Nat) (w:World),bA m w->As 181 #[.q op] w (fun v w'=>∃(r0:Int),K r0/\(v= .q r0)/\Ai [] w w')
def Hu (cq:Int) (K:Bool->Prop):Prop:=∀(m:List Nat) (w:World),bA m w->As 176 #[.int .u8 cq] w (fun v w'=>∃(r0:Bool),K r0/\(v= .bool r0)/\Ai [] w w')
def Em (sx:List UInt8) (K:(List UInt8)->Prop):Prop:=∀(m:List Nat) (w:World),bA m w->As 177 #[.s sx,.func (.func 178) #[] #[]] w (fun v w'=>∃(r0:List UInt8),K r0/\(v= .s r0)/\Ai [] w w')
def Oo (sx:List UInt8) (K:Bool->Prop):Prop:=∀(m:List Nat) (w:World),bA m w->As 179 #[.s sx] w (fun v w'=>∃(r0:Bool),K r0/\(v= .bool r0)/\Ai [] w w')
def K7 (cq:Int) (K:Bool->Prop):Prop:=∀(m:List Nat) (w:World),bA m w->As 178 #[.int .u8 cq] w (fun v w'=>∃(r0:Bool),K r0/\(v= .bool r0)/\Ai [] w w')
def Ms (cq:Int) (K:Bool->Prop):Prop:=∀(m:List Nat) (w:World),bA m w->As 224 #[.int .u8 cq] w (fun v w'=>∃(r0:Bool),K r0/\(v= .bool r0)/\Ai [] w w')
def R7 (K:(List (List UInt8))->Prop):Prop:=∀(m:List Nat) (w:World),bA m w->As 226 #[] w (fun v w'=>∃(r0:List (List UInt8)),K r0/\(∃(a0:Option Addr) (c0:Nat),v= .slice a0 r0.length c0/\r0.length<=c0/\br X3 m w' a0 r0)/\Ai [] w w')
def B1 (xq:List (List UInt8)) (target:List UInt8) (K:Int->Bool->Prop):Prop:=∀(m:List Nat) (w:World),bA m w->∀(yu:Option Addr) (yv:Nat),xq.length<=yv->br X3 m w yu xq->As 225 #[.slice yu xq.length yv,.s target] w (fun v w'=>∃(r0:Int) (r1:Bool),K r0 r1/\(v= .tuple #[.q r0,.bool r1])/\Ai [] w w')
def Hv (xq:List UInt8) (y:List UInt8) (K:Bool->Prop):Prop:=∀(m:List Nat) (w:World),bA m w->As 248 #[.s xq,.s y] w (fun v w'=>∃(r0:Bool),K r0/\(v= .bool r0)/\Ai [] w w')
def D8 (xq:List UInt8) (K:Bool->Prop):Prop:=∀(m:List Nat) (w:World),bA m w->As 249 #[.s xq] w (fun v w'=>∃(r0:Bool),K r0/\(v= .bool r0)/\Ai [] w w')
def E2 (xq:List UInt8) (K:Bool->Prop):Prop:=∀(m:List Nat) (w:World),bA m w->As 265 #[.s xq] w (fun v w'=>∃(r0:Bool),K r0/\(v= .bool r0)/\Ai [] w w')
def R8 (n:Int) (most:Int) (K:Bool->Prop):Prop:=∀(m:List Nat) (w:World),bA m w->As 62 #[.q n,.q most] w (fun v w'=>∃(r0:Bool),K r0/\(v= .bool r0)/\Ai [] w w')
def Xo (p:Ap) (K:Ap->Prop):Prop:=∀(m:List Nat) (w:World),bA m w->∀(dH:List Value),Ce.rep m w p dH->As 63 #[.agg ⟨dH⟩] w (fun v w'=>∃(r0:Ap),K r0/\(∃(fk:List Value),v= .agg ⟨fk⟩/\Ce.rep m w' r0 fk)/\Ai [] w w')
def OO (cq:Ah) (p:Ap) (ao:Int) (K:Int->Prop):Prop:=∀(m:List Nat) (w:World),bA m w->∀(bp:List Value),Bu.rep m w cq bp->∀(dH:List Value),Ce.rep m w p dH->As 119 #[.agg ⟨bp⟩,.agg ⟨dH⟩,.q ao] w (fun v w'=>∃(r0:Int),K r0/\(v= .q r0)/\Ai [] w w')
def Qq (cq:Ah) (ao:Int) (K:Int->Prop):Prop:=∀(m:List Nat) (w:World),bA m w->∀(bp:List Value),Bu.rep m w cq bp->As 185 #[.agg ⟨bp⟩,.q ao] w (fun v w'=>∃(r0:Int),K r0/\(v= .q r0)/\Ai [] w w')
def Us (cq:Ah) (K:Int->Prop):Prop:=∀(m:List Nat) (w:World),bA m w->∀(bp:List Value),Bu.rep m w cq bp->As 122 #[.agg ⟨bp⟩] w (fun v w'=>∃(r0:Int),K r0/\(v= .q r0)/\Ai [] w w')
def Xp (aq:Ap) (bq:Ap) (K:Bool->Prop):Prop:=∀(m:List Nat) (w:World),bA m w->∀(qY:List Value),Ce.rep m w aq qY->∀(CH:List Value),Ce.rep m w bq CH->As 54 #[.agg ⟨qY⟩,.agg ⟨CH⟩] w (fun v w'=>∃(r0:Bool),K r0/\(v= .bool r0)/\Ai [] w w')
def En (s1:List Int) (s2:List Int) (K:Bool->Prop):Prop:=∀(m:List Nat) (w:World),bA m w->∀(oV:Option Addr) (oW:Nat),s1.length<=oW->br (Bh .i64) m w oV s1->∀(oX:Option Addr) (oY:Nat),s2.length<=oY->br (Bh .i64) m w oX s2->As 52 #[.slice oV s1.length oW,.slice oX s2.length oY] w (fun v w'=>∃(r0:Bool),K r0/\(v= .bool r0)/\Ai [] w w')
def Cj (s1:List F6) (s2:List F6) (K:Bool->Prop):Prop:=∀(m:List Nat) (w:World),bA m w->∀(oV:Option Addr) (oW:Nat),s1.length<=oW->br Nj m w oV s1->∀(oX:Option Addr) (oY:Nat),s2.length<=oY->br Nj m w oX s2->As 106 #[.slice oV s1.length oW,.slice oX s2.length oY] w (fun v w'=>∃(r0:Bool),K r0/\(v= .bool r0)/\Ai [] w w')
def Bn (sx:List Ap) (K:Bool->Prop):Prop:=∀(m:List Nat) (w:World),bA m w->∀(dj:Option Addr) (du:Nat),sx.length<=du->br Ce m w dj sx->As 68 #[.slice dj sx.length du,.func (.func 132) #[] #[]] w (fun v w'=>∃(r0:Bool),K r0/\(v= .bool r0)/\Ai [] w w')
def O7 (p:Ap) (K:Bool->Prop):Prop:=∀(m:List Nat) (w:World),bA m w->∀(dH:List Value),Ce.rep m w p dH->As 132 #[.agg ⟨dH⟩] w (fun v w'=>∃(r0:Bool),K r0/\(v= .bool r0)/\Ai [] w w')
def Bt (sx:List Ap) (K:Int->Prop):Prop:=∀(m:List Nat) (w:World),bA m w->∀(dj:Option Addr) (du:Nat),sx.length<=du->br Ce m w dj sx->As 65 #[.slice dj sx.length du,.func (.func 132) #[] #[]] w (fun v w'=>∃(r0:Int),K r0/\(v= .q r0)/\Ai [] w w')
def Bg (sx:List Br) (kG:Ax) (K:Int->Prop):Prop:=∀(m:List Nat) (w:World),bA m w->∀(dj:Option Addr) (du:Nat),sx.length<=du->br Dr m w dj sx->∀(oU:Nat) (qZ:List Value),G0 m w (Zb oU) qZ->Da.rep m w kG qZ->As 182 #[.slice dj sx.length du,.func (.func 110) #[] #[.pointer (some (Zb oU))]] w (fun v w'=>∃(r0:Int),K r0/\(v= .q r0)/\Ai [] w w')
def Fy (d:Br) (p1:Ax) (K:Bool->Prop):Prop:=∀(m:List Nat) (w:World),bA m w->∀(CI:List Value),Dr.rep m w d CI->∀(yw:Nat) (CJ:List Value),G0 m w (Zb yw) CJ->Da.rep m w p1 CJ->As 110 #[.agg ⟨CI⟩,.pointer (some (Zb yw))] w (fun v w'=>∃(r0:Bool),K r0/\(v= .bool r0)/\Ai [] w w')
def Bo (sx:List Ap) (K:Int->Prop):Prop:=∀(m:List Nat) (w:World),bA m w->∀(dj:Option Addr) (du:Nat),sx.length<=du->br Ce m w dj sx->As 65 #[.slice dj sx.length du,.func (.func 67) #[] #[]] w (fun v w'=>∃(r0:Int),K r0/\(v= .q r0)/\Ai [] w w')
end Go.Proofs.YthkbhlmijkegiaaGreat
