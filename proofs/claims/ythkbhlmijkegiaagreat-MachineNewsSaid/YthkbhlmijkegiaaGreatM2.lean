/- A part of the proof: conditions of the code, contracts, the plain law. -/
import Derived.Test.YthkbhlmijkegiaaGreatM1
import Derived.Test.YthkbhlmijkegiaaGreatRows
import Derived.Test.YthkbhlmijkegiaaGreatVcI
import Derived.Test.YthkbhlmijkegiaaGreatLv
namespace Go.Proofs.YthkbhlmijkegiaaGreat
open Go.Vc
abbrev Au (f:FuncId) (a:Array Value) (w:World) (K:Value->World->Prop):Prop:=Calls Tryz.prog f a w (aG K)
def Aas (x0:Option Addr) (x1:Nat) (x2:Nat) (x3:Option Addr) (x4:Nat) (x5:Nat) (x6:Option Addr) (x7:Nat) (x8:Nat) (x9:Int) (ae:Int) (K:Value->World->Prop) (w:World):Prop:=
 ∀aa w1,aa=w.heap.size->w1=w.alloc (.cells #[.slice x0 x1 x2,.slice x3 x4 x5,.slice x6 x7 x8,.q x9,.q ae] 26)->
 ∃ad ai ag,w1.cell? ⟨aa,1,none⟩=some (.slice ad ai ag)/\
 ∃(J:Bool->World->Prop),
 (cond (decide ((ai:Int)<1))
 (J true w1)
 (cond (decide ((ai:Int)>32))
 (J true w1)
 (∃ah aj ao,w1.cell? (Zb aa)=some (.slice ah aj ao)/\
 cond (decide ((aj:Int)>65536))
 (J true w1)
 (∃ak,w1.cell? ⟨aa,3,none⟩=some (.q ak)/\
 cond (decide (ak<0))
 (J true w1)
 (∃ax,w1.cell? ⟨aa,3,none⟩=some (.q ax)/\
 cond (decide (ax>=(ai:Int)))
 (J true w1)
 (∃aA aB ay,w1.cell? ⟨aa,1,none⟩=some (.slice aA aB ay)/\
 ∃aw,w1.cell? ⟨aa,3,none⟩=some (.q aw)/\
 ((0:Int)<=aw/\aw<(aB:Int))/\
 Ak aA (fun aD=>
 ∃aN,w1.cell? ((aD.add (aw.toNat*4)).add 2)=some (.q aN)/\
 J (aN !=0) w1)))))))/\
 ∀(_x26:Nat->Value) aF w2,J aF w2->
 cond (aF)
 (K (.bool false) w2)
 (∃bg aQ aE,w2.cell? ⟨aa,1,none⟩=some (.slice bg aQ aE)/\
 ∃(I:Int->Int->World->Prop) (aJ:Int->Int->World->Nat),I (-1) 0 w2/\
 ∀(_x32:Nat->Value) (aV:Int) (bc:Int) (w3:World),I aV bc w3->
 cond (decide (bc<(aQ:Int)))
 (((0:Int)<=bc/\bc<(aQ:Int))/\
 Ak bg (fun bw=>
 ∃aO bC bJ br,Ad w3 (bw.add (bc.toNat*4)) [.s aO,.q bC,.q bJ,.q br]/\
 ∀a_ w4,a_=w3.heap.size->w4=w3.alloc (.cells #[.s [],.q 0,.q 0,.q 0] 97)->
 Af w4 (Zb a_) 4/\∀w5,w5=setCells w4 (Zb a_) [.s aO,.q bC,.q bJ,.q br]->
 ∃(J1:Bool->World->Prop),
 (∃bD,w5.cell? (Zb a_)=some (.s bD)/\
 cond (bD==[109,97,105,110])
 (J1 true w5)
 (∃bF,w5.cell? (Zb a_)=some (.s bF)/\
 Au 107 #[.s bF] w5 (fun bn w6=>
 ∃bO,bn= .bool bO/\
 J1 bO w6)))/\
 ∀(_x45:Nat->Value) bP w7,J1 bP w7->
 ∃(J2:Bool->World->Prop),
 (cond (!bP)
 (J2 true w7)
 (cond (decide (aV<0))
 (∃bA,w7.cell? ⟨a_,1,none⟩=some (.q bA)/\
 cond (bA !=0)
 (J2 true w7)
 (∃bM,w7.cell? ⟨a_,1,none⟩=some (.q bM)/\
 cond (decide (bM<=aV))
 (J2 true w7)
 (∃bW,w7.cell? ⟨a_,1,none⟩=some (.q bW)/\
 ∃bQ bT bU,w7.cell? (Zb aa)=some (.slice bQ bT bU)/\
 cond (decide (bW>=(bT:Int)))
 (J2 true w7)
 (∃b9,w7.cell? ⟨a_,2,none⟩=some (.q b9)/\
 cond (decide (b9<0))
 (J2 true w7)
 (∃cg,w7.cell? ⟨a_,2,none⟩=some (.q cg)/\
 ∃b_,w7.cell? ⟨a_,3,none⟩=some (.q b_)/\
 cond (decide (cg>b_))
 (J2 true w7)
 (∃cb,w7.cell? ⟨a_,3,none⟩=some (.q cb)/\
 J2 (decide (cb>16)) w7))))))
 (∃cv,w7.cell? ⟨a_,1,none⟩=some (.q cv)/\
 cond (decide (cv<=aV))
 (J2 true w7)
 (∃cp,w7.cell? ⟨a_,1,none⟩=some (.q cp)/\
 ∃cu cy cB,w7.cell? (Zb aa)=some (.slice cu cy cB)/\
 cond (decide (cp>=(cy:Int)))
 (J2 true w7)
 (∃cE,w7.cell? ⟨a_,2,none⟩=some (.q cE)/\
 cond (decide (cE<0))
 (J2 true w7)
 (∃cO,w7.cell? ⟨a_,2,none⟩=some (.q cO)/\
 ∃cU,w7.cell? ⟨a_,3,none⟩=some (.q cU)/\
 cond (decide (cO>cU))
 (J2 true w7)
 (∃cG,w7.cell? ⟨a_,3,none⟩=some (.q cG)/\
 J2 (decide (cG>16)) w7)))))))/\
 ∀(_x66:Nat->Value) cz w8,J2 cz w8->
 cond (cz)
 (K (.bool false) w8)
 (∃cX,w8.cell? ⟨a_,1,none⟩=some (.q cX)/\
 I cX (IntKind.i64.wrap (bc+1)) w8/\aJ cX (IntKind.i64.wrap (bc+1)) w8<aJ aV bc w3)))
 (∃dA cW dV,w3.cell? ⟨aa,2,none⟩=some (.slice dA cW dV)/\
 ∃(I1:Int->Int->World->Prop) (dP:Int->Int->World->Nat),I1 0 0 w3/\
 ∀(_x73:Nat->Value) (dG:Int) (dM:Int) (w9:World),I1 dG dM w9->
 cond (decide (dM<(cW:Int)))
 (((0:Int)<=dM/\dM<(cW:Int))/\
 Ak dA (fun eu=>
 ∃fe eh ei,Ad w9 (eu.add (dM.toNat*3)) [.s fe,.q eh,.q ei]/\
 ∀dI aK,dI=w9.heap.size->aK=w9.alloc (.cells #[.s [],.q 0,.q 0] 99)->
 Af aK (Zb dI) 3/\∀aI,aI=setCells aK (Zb dI) [.s fe,.q eh,.q ei]->
 ∃(J3:Bool->World->Prop),
 (∃dF,aI.cell? (Zb dI)=some (.s dF)/\
 Au 107 #[.s dF] aI (fun eb bj=>
 ∃ey,eb= .bool ey/\
 cond (!ey)
 (J3 true bj)
 (∃ek,bj.cell? ⟨dI,2,none⟩=some (.q ek)/\
 cond (decide (ek<0))
 (J3 true bj)
 (∃eo,bj.cell? ⟨dI,2,none⟩=some (.q eo)/\
 cond (decide (eo>16))
 (J3 true bj)
 (∃ep,bj.cell? ⟨dI,1,none⟩=some (.q ep)/\
 J3 (ep !=dG) bj)))))/\
 ∀(_x87:Nat->Value) dY bG,J3 dY bG->
 cond (dY)
 (K (.bool false) bG)
 (∃dN,bG.cell? ⟨dI,2,none⟩=some (.q dN)/\
 cond (decide ((IntKind.i64.wrap (dG+(if 1>dN then 1 else dN)))>64))
 (K (.bool false) bG)
 (I1 (IntKind.i64.wrap (dG+(if 1>dN then 1 else dN))) (IntKind.i64.wrap (dM+1)) bG/\dP (IntKind.i64.wrap (dG+(if 1>dN then 1 else dN))) (IntKind.i64.wrap (dM+1)) bG<dP dG dM w9))))
 (K (.bool true) w9)))
theorem Aat (x0:Option Addr) (x1:Nat) (x2:Nat) (x3:Option Addr) (x4:Nat) (x5:Nat) (x6:Option Addr) (x7:Nat) (x8:Nat) (x9:Int) (ae:Int) (K:Value->World->Prop) (w:World) (h:Aas x0 x1 x2 x3 x4 x5 x6 x7 x8 x9 ae K w):Calls Tryz.prog 55 #[.agg #[.slice x0 x1 x2,.slice x3 x4 x5,.slice x6 x7 x8,.q x9,.q ae]] w (aG K):=
 Ag { loops:=[(250,[(4,.int .i64),(50,.int .i64)]),(1018,[(8,.int .i64),(110,.int .i64)])],dH:=[(14,[(46,.bool)]),(16025,[(7,.bool)]),(64102,[(103,.bool)]),(130354,[(133,.bool)])] } Tryz.func55 (by kernel_rfl) h
def Nl (x0:Nat) (x1:Int) (K:Value->World->Prop) (w:World):Prop:=∃(J:World->Prop),(∀w1,w1=w.drew->∃x2 x3 x4,w1.cell? ⟨x0,1,none⟩=some (.slice x2 x3 x4)/\((0:Int)<=x1/\x1<(x3:Int))/\Ak x2 (fun x5=>∃x6,w1.cell? ((x5.add (x1.toNat*4)).add 1)=some (.q x6)/\∃x7 x8 x9,w1.cell? (Zb x0)=some (.slice x7 x8 x9)/\∃ae aa ad,w1.cell? ⟨x0,1,none⟩=some (.slice ae aa ad)/\((0:Int)<=x1/\x1<(aa:Int))/\Ak ae (fun ai=>∃ag,w1.cell? ((ai.add (x1.toNat*4)).add 3)=some (.q ag)/\Af w1 ⟨x0,6,none⟩ 1/\∀w2,w2=w1.setCell ⟨x0,6,none⟩ (.q x6)->Af w2 ⟨x0,7,none⟩ 1/\∀w3,w3=w2.setCell ⟨x0,7,none⟩ (.q (x8:Int))->Af w3 ⟨x0,8,none⟩ 1/\∀w4,w4=w3.setCell ⟨x0,8,none⟩ (.q ag)->J w4)))/\∀(_x15:Nat->Value) w5,J w5->∃aj ao ak,w5.cell? ⟨x0,1,none⟩=some (.slice aj ao ak)/\cond (decide ((IntKind.i64.wrap (x1+1))<(ao:Int))) (∃ax aA aB,w5.cell? ⟨x0,1,none⟩=some (.slice ax aA aB)/\((0:Int)<=(IntKind.i64.wrap (x1+1))/\(IntKind.i64.wrap (x1+1))<(aA:Int))/\Ak ax (fun ay=>∃aw,w5.cell? ((ay.add ((IntKind.i64.wrap (x1+1)).toNat*4)).add 1)=some (.q aw)/\Af w5 ⟨x0,7,none⟩ 1/\∀w6,w6=w5.setCell ⟨x0,7,none⟩ (.q aw)->K (.tuple #[]) w6)) (K (.tuple #[]) w5)
theorem Nm (x0:Nat) (x1:Int) (K:Value->World->Prop) (w:World) (h:Nl x0 x1 K w):Calls Tryz.prog 56 #[.pointer (some ⟨x0,0,none⟩),.q x1] w (aG K):=
 Ag { dH:=[(1,[])] } Tryz.func56 (by kernel_rfl) h
def Rz (x0:Nat) (x1:Int) (K:Value->World->Prop) (w:World):Prop:=∃x2 x3 x4,w.cell? (Zb x0)=some (.slice x2 x3 x4)/\((0:Int)<=x1/\x1<(x3:Int))/\Ak x2 (fun x5=>∃x6 x7 x8,Ad w (x5.add (x1.toNat*3)) [.q x6,.q x7,.q x8]/\∀x9 w1,x9=w.heap.size->w1=w.alloc (.cells #[.q 0,.q 0,.q 0] 95)->Af w1 (Zb x9) 3/\∀w2,w2=setCells w1 (Zb x9) [.q x6,.q x7,.q x8]->∃(J:Bool->World->Prop),(∀w3,w3=w2.drew->∃(S:World->Prop),S w3/\∃ae aa ad,(∀u,S u->Ad u (Zb x9) [.q ae,.q aa,.q ad])/\Au 108 #[.agg #[.q ae,.q aa,.q ad]] w3 (fun ai w4=>∃ag,ai= .bool ag/\S w4/\cond (!ag) (J true w4) (∃ah,(∀u,S u->u.cell? (Zb x9)=some (.q ah))/\∃aj,(∀u,S u->u.cell? ⟨x0,7,none⟩=some (.q aj))/\cond (!((ah==24)==(x1==(IntKind.i64.wrap (aj-1))))) (J true w4) (∃ao,(∀u,S u->u.cell? ⟨x0,6,none⟩=some (.q ao))/\cond (x1==ao) (∃ak,(∀u,S u->u.cell? (Zb x9)=some (.q ak))/\cond (ak !=1) (∃ax,(∀u,S u->u.cell? (Zb x9)=some (.q ax))/\J (ax !=24) w4) (J false w4)) (J false w4)))))/\∀(_x20:Nat->Value) aB w5,J aB w5->cond (aB) (K (.bool false) w5) (∃(J1:Bool->World->Prop),(∃ay,w5.cell? (Zb x9)=some (.q ay)/\cond (ay==1) (∀w6,w6=w5.drew->∃aw,w6.cell? ⟨x9,1,none⟩=some (.q aw)/\∃aD,w6.cell? ⟨x0,5,none⟩=some (.q aD)/\J1 (aw==aD) w6) (∃(J2:Bool->World->Prop),(cond (ay==3) (J2 (ay==3) w5) (cond (ay==4) (J2 (ay==4) w5) (cond (ay==11) (J2 (ay==11) w5) (cond (ay==12) (J2 (ay==12) w5) (J2 (ay==19) w5)))))/\∀(_x25:Nat->Value) aH w7,J2 aH w7->cond (aH) (∀w8,w8=w7.drew->∃aF,w8.cell? ⟨x9,1,none⟩=some (.q aF)/\cond (decide (aF>=0)) (∃bg,w8.cell? ⟨x9,1,none⟩=some (.q bg)/\∃aQ,w8.cell? ⟨x0,8,none⟩=some (.q aQ)/\J1 (decide (bg<aQ)) w8) (J1 false w8)) (cond (ay==9) (∃aE aJ aZ,w7.cell? ⟨x0,2,none⟩=some (.slice aE aJ aZ)/\Au 109 #[.slice aE aJ aZ,.func (.func 110) #[] #[.pointer (some (Zb x9))]] w7 (fun aV w9=>∃bc,aV= .bool bc/\J1 bc w9)) (cond (ay==14) (∀aK,aK=w7.drew->∃bw,aK.cell? ⟨x9,1,none⟩=some (.q bw)/\cond (decide (bw>=0)) (∃aO,aK.cell? ⟨x9,1,none⟩=some (.q aO)/\∃bC bJ br,aK.cell? ⟨x0,1,none⟩=some (.slice bC bJ br)/\cond (decide (aO<(bJ:Int))) (∃a_,aK.cell? ⟨x9,2,none⟩=some (.q a_)/\∃bD bF bn,aK.cell? ⟨x0,1,none⟩=some (.slice bD bF bn)/\∃bO,aK.cell? ⟨x9,1,none⟩=some (.q bO)/\((0:Int)<=bO/\bO<(bF:Int))/\Ak bD (fun aX=>∃bP,aK.cell? ((aX.add (bO.toNat*4)).add 2)=some (.q bP)/\J1 (a_==bP) aK)) (J1 false aK)) (J1 false aK)) (J1 true w7)))))/\∀(_x47:Nat->Value) bM aI,J1 bM aI->∃bW bQ bT,Ad aI (Zb x9) [.q bW,.q bQ,.q bT]/\Au 111 #[.agg #[.q bW,.q bQ,.q bT]] aI (fun bU bj=>∃b9 cg,bU= .tuple #[.q b9,.bool cg]/\∃(J3:Bool->World->Prop),(cond (!bM) (J3 true bj) (cond (cg) (Au 112 #[.pointer (some (Zb x0)),.q x1,.q b9] bj (fun b_ bG=>∃cb,b_= .bool cb/\J3 (!cb) bG)) (J3 false bj)))/\∀(_x57:Nat->Value) cp bt,J3 cp bt->cond (cp) (K (.bool false) bt) (∃cu,bt.cell? (Zb x9)=some (.q cu)/\Au 113 #[.q cu] bt (fun cy cr=>∃cB,cy= .bool cB/\cond (!cB) (∃cE,cr.cell? (Zb x9)=some (.q cE)/\Au 115 #[.q cE] cr (fun cO ck=>∃cU,cO= .bool cU/\cond (!cU) (K (.bool true) ck) (Au 114 #[.pointer (some (Zb x0)),.q b9] ck (fun cG cQ=>∃cL,cG= .bool cL/\K (.bool cL) cQ)))) (Au 114 #[.pointer (some (Zb x0)),.q (IntKind.i64.wrap (x1+1))] cr (fun cz cR=>∃cX,cz= .bool cX/\cond (cX) (∃dA,cR.cell? (Zb x9)=some (.q dA)/\Au 115 #[.q dA] cR (fun cW eR=>∃dV,cW= .bool dV/\cond (!dV) (K (.bool true) eR) (Au 114 #[.pointer (some (Zb x0)),.q b9] eR (fun dP dk=>∃eg,dP= .bool eg/\K (.bool eg) dk)))) (K (.bool false) cR))))))))
theorem R0 (x0:Nat) (x1:Int) (K:Value->World->Prop) (w:World) (h:Rz x0 x1 K w):Calls Tryz.prog 57 #[.pointer (some ⟨x0,0,none⟩),.q x1] w (aG K):=
 Ag { dH:=[(14,[(50,.bool)]),(31,[(6,.bool)]),(254,[(136,.bool)]),(1003,[(62,.bool)])] } Tryz.func57 (by kernel_rfl) h
def Po (x0:Nat) (x1:Int) (K:Value->World->Prop) (w:World):Prop:=∃x2 x3 x4 x5 x6 x7 x8 x9 ae aa ad,Ad w (Zb x0) [.slice x2 x3 x4,.slice x5 x6 x7,.slice x8 x9 ae,.q aa,.q ad]/\Au 156 #[.agg #[.slice x2 x3 x4,.slice x5 x6 x7,.slice x8 x9 ae,.q aa,.q ad],.q x1] w (fun ai w1=>∃ag,ai= .q ag/\∃ah,w1.cell? ⟨x0,6,none⟩=some (.q ah)/\cond (decide (ag>=ah)) (∃aj,w1.cell? ⟨x0,7,none⟩=some (.q aj)/\cond (decide (ag<aj)) (∃ao ak ax,w1.cell? (Zb x0)=some (.slice ao ak ax)/\((0:Int)<=ag/\ag<(ak:Int))/\Ak ao (fun aA=>∃aB,w1.cell? (aA.add (ag.toNat*3))=some (.q aB)/\cond (aB==1) (K (.bool true) w1) (∃ay aw aD,w1.cell? (Zb x0)=some (.slice ay aw aD)/\((0:Int)<=ag/\ag<(aw:Int))/\Ak ay (fun aN=>∃aH,w1.cell? (aN.add (ag.toNat*3))=some (.q aH)/\K (.bool (aH==24)) w1)))) (K (.bool false) w1)) (K (.bool false) w1))
theorem Pp (x0:Nat) (x1:Int) (K:Value->World->Prop) (w:World) (h:Po x0 x1 K w):Calls Tryz.prog 114 #[.pointer (some ⟨x0,0,none⟩),.q x1] w (aG K):=
 Ag {} Tryz.func114 (by kernel_rfl) h
def Pq (x0:Nat) (x1:Int) (x2:Int) (K:Value->World->Prop) (w:World):Prop:=∃x3,w.cell? ⟨x0,6,none⟩=some (.q x3)/\cond (decide (x2>=x3)) (∃x4,w.cell? ⟨x0,7,none⟩=some (.q x4)/\cond (decide (x2<x4)) (cond (decide (x2>x1)) (K (.bool true) w) (∃x5 x6 x7,w.cell? (Zb x0)=some (.slice x5 x6 x7)/\((0:Int)<=x2/\x2<(x6:Int))/\Ak x5 (fun x8=>∃x9,w.cell? (x8.add (x2.toNat*3))=some (.q x9)/\K (.bool (x9==1)) w))) (K (.bool false) w)) (K (.bool false) w)
theorem Ps (x0:Nat) (x1:Int) (x2:Int) (K:Value->World->Prop) (w:World) (h:Pq x0 x1 x2 K w):Calls Tryz.prog 112 #[.pointer (some ⟨x0,0,none⟩),.q x1,.q x2] w (aG K):=
 Ag {} Tryz.func112 (by kernel_rfl) h
def Ah5 (x0:Int) (K:Value->World->Prop) (w:World):Prop:=∃(J:Bool->World->Prop),(cond (x0==4) (J (x0==4) w) (cond (x0==10) (J (x0==10) w) (cond (x0==11) (J (x0==11) w) (cond (x0==12) (J (x0==12) w) (cond (x0==13) (J (x0==13) w) (cond (x0==14) (J (x0==14) w) (cond (x0==15) (J (x0==15) w) (cond (x0==16) (J (x0==16) w) (J (x0==17) w)))))))))/\∀(_x1:Nat->Value) x2 w1,J x2 w1->cond (x2) (K (.bool true) w1) (K (.bool false) w1)
theorem Ah6 (x0:Int) (K:Value->World->Prop) (w:World) (h:Ah5 x0 K w):Calls Tryz.prog 113 #[.q x0] w (aG K):=
 Ag { dH:=[(26,[(4,.bool)])] } Tryz.func113 (by kernel_rfl) h
def Ye (x0:Int) (K:Value->World->Prop) (w:World):Prop:=∀(_x1:Nat->Value),K (.bool ((x0==19)||((x0==20)||((x0==21)||(x0==22))))) w
theorem Yf (x0:Int) (K:Value->World->Prop) (w:World) (h:Ye x0 K w):Calls Tryz.prog 115 #[.q x0] w (aG K):=
 Ag { jJ:=[(6,[2])] } Tryz.func115 (by kernel_rfl) h
def Ah7 (x0:Int) (x1:Int) (x2:Int) (x3:Int) (x4:Bool) (K:Value->World->Prop) (w:World):Prop:=∀x5 w1,x5=w.heap.size->w1=w.alloc (.cells #[.q x0,.q x1,.q x2] 95)->∀x6 w2,x6=w1.heap.size->w2=w1.alloc (.cells #[.q x3,.bool x4] 186)->∀x7 w3,x7=w2.heap.size->w3=w2.alloc (.cells #[.q 0,.bool false] 186)->∃(J:Int->World->Prop),(∀w4,w4=w3.drew->∃(S:World->Prop),S w4/\∃x8,(∀u,S u->u.cell? (Zb x6)=some (.q x8))/\∃x9 ae aa,(∀u,S u->Ad u (Zb x5) [.q x9,.q ae,.q aa])/\Au 183 #[.agg #[.q x9,.q ae,.q aa]] w4 (fun ad w5=>∃ai,ad= .q ai/\S w5/\J (IntKind.i64.wrap (x8-ai)) w5))/\∀(_x14:Nat->Value) ah w6,J ah w6->∃(J1:Bool->World->Prop),(∃(J2:Bool->World->Prop),(∃aj,w6.cell? (Zb x5)=some (.q aj)/\cond (aj==1) (J2 (aj==1) w6) (∃ao,w6.cell? (Zb x5)=some (.q ao)/\cond (ao==24) (J2 (ao==24) w6) (∃ak,w6.cell? (Zb x5)=some (.q ak)/\J2 (ak==25) w6)))/\∀(_x19:Nat->Value) aA w7,J2 aA w7->cond (aA) (∃aB ay,Ad w7 (Zb x6) [.q aB,.bool ay]/\∃aw,w7.cell? (Zb x5)=some (.q aw)/\Af w7 ⟨x6,1,none⟩ 1/\∀w8,w8=w7.setCell ⟨x6,1,none⟩ (.bool (aw==25))->J1 ((aB==0)&&((ay==false)&&true)) w8) (∃aD,w7.cell? (Zb x5)=some (.q aD)/\cond (aD==23) (∃aN aH,Ad w7 (Zb x6) [.q aN,.bool aH]/\J1 ((aN==0)&&((aH==true)&&true)) w7) (∃aF,w7.cell? (Zb x5)=some (.q aF)/\Au 115 #[.q aF] w7 (fun bg w9=>∃aQ,bg= .bool aQ/\cond (aQ) (cond (ah==0) (∃aE,w9.cell? ⟨x6,1,none⟩=some (.bool aE)/\J1 aE w9) (J1 false w9)) (∃(J3:Bool->World->Prop),(∃aJ,w9.cell? (Zb x5)=some (.q aJ)/\Au 113 #[.q aJ] w9 (fun aZ aK=>∃aV,aZ= .bool aV/\cond (aV) (J3 aV aK) (∃bc,aK.cell? (Zb x5)=some (.q bc)/\J3 (bc==18) aK)))/\∀(_x35:Nat->Value) aO aI,J3 aO aI->cond (aO) (cond (ah==0) (∃bC,aI.cell? ⟨x6,1,none⟩=some (.bool bC)/\J1 (!bC) aI) (J1 false aI)) (J1 (decide (ah>=0)) aI))))))/\∀(_x38:Nat->Value) br bj,J1 br bj->∃a_ bD bF,Ad bj (Zb x5) [.q a_,.q bD,.q bF]/\Au 184 #[.agg #[.q a_,.q bD,.q bF]] bj (fun bn bG=>∃bO,bn= .q bO/\Af bG (Zb x6) 1/\∀bt,bt=bG.setCell (Zb x6) (.q (IntKind.i64.wrap (ah+bO)))->∃aX bP,Ad bt (Zb x6) [.q aX,.bool bP]/\Af bt (Zb x7) 2/\∀cr,cr=setCells bt (Zb x7) [.q aX,.bool bP]->∃bA bM,Ad cr (Zb x7) [.q bA,.bool bM]/\K (.tuple #[.agg #[.q bA,.bool bM],.bool br]) cr)
theorem Ah8 (x0:Int) (x1:Int) (x2:Int) (x3:Int) (x4:Bool) (K:Value->World->Prop) (w:World) (h:Ah7 x0 x1 x2 x3 x4 K w):Calls Tryz.prog 116 #[.agg #[.q x0,.q x1,.q x2],.agg #[.q x3,.bool x4]] w (aG K):=
 Ag { dH:=[(3,[(6,.int .i64)]),(15,[(7,.bool)]),(60,[(15,.bool)]),(3903,[(49,.bool)])] } Tryz.func116 (by kernel_rfl) h
def Aau (x0:Option Addr) (x1:Nat) (x2:Nat) (x3:Option Addr) (x4:Nat) (x5:Nat) (x6:Option Addr) (x7:Nat) (x8:Nat) (x9:Int) (ae:Int) (aa:Int) (K:Value->World->Prop) (w:World):Prop:=∀ad w1,ad=w.heap.size->w1=w.alloc (.cells #[.slice x0 x1 x2,.slice x3 x4 x5,.slice x6 x7 x8,.q x9,.q ae] 26)->∃ai ag ah,w1.cell? (Zb ad)=some (.slice ai ag ah)/\∃(I:Int->Int->World->Prop) (aj:Int->Int->World->Nat),I aa 0 w1/\∀(_x17:Nat->Value) (ak:Int) (ax:Int) (w2:World),I ak ax w2->cond (decide (ax<(IntKind.i64.wrap ((ag:Int)+1)))) (∃(J:Bool->World->Prop),(cond (decide (ak<0)) (J true w2) (∃aA aB ay,w2.cell? (Zb ad)=some (.slice aA aB ay)/\cond (decide (ak>=(aB:Int))) (J true w2) (∃aw aD aN,w2.cell? (Zb ad)=some (.slice aw aD aN)/\((0:Int)<=ak/\ak<(aD:Int))/\Ak aw (fun aH=>∃aF,w2.cell? (aH.add (ak.toNat*3))=some (.q aF)/\J (aF !=6) w2))))/\∀(_x28:Nat->Value) aQ w3,J aQ w3->cond (aQ) (K (.q ak) w3) (∃aE aJ aZ,w3.cell? (Zb ad)=some (.slice aE aJ aZ)/\((0:Int)<=ak/\ak<(aJ:Int))/\Ak aE (fun aV=>∃bc,w3.cell? ((aV.add (ak.toNat*3)).add 1)=some (.q bc)/\I bc (IntKind.i64.wrap (ax+1)) w3/\aj bc (IntKind.i64.wrap (ax+1)) w3<aj ak ax w2))) (K (.q aa) w2)
theorem Aav (x0:Option Addr) (x1:Nat) (x2:Nat) (x3:Option Addr) (x4:Nat) (x5:Nat) (x6:Option Addr) (x7:Nat) (x8:Nat) (x9:Int) (ae:Int) (aa:Int) (K:Value->World->Prop) (w:World) (h:Aau x0 x1 x2 x3 x4 x5 x6 x7 x8 x9 ae aa K w):Calls Tryz.prog 156 #[.agg #[.slice x0 x1 x2,.slice x3 x4 x5,.slice x6 x7 x8,.q x9,.q ae],.q aa] w (aG K):=
 Ag { loops:=[(58,[(5,.int .i64),(11,.int .i64)])],dH:=[(3736,[(30,.bool)])] } Tryz.func156 (by kernel_rfl) h
def Yg (x0:Int) (x1:Int) (x2:Int) (K:Value->World->Prop) (w:World):Prop:=∀x3 w1,x3=w.heap.size->w1=w.alloc (.cells #[.q x0,.q x1,.q x2] 95)->∃x4,w1.cell? (Zb x3)=some (.q x4)/\∃(J:Bool->World->Prop),(cond (x4==6) (J (x4==6) w1) (cond (x4==7) (J (x4==7) w1) (cond (x4==8) (J (x4==8) w1) (cond (x4==20) (J (x4==20) w1) (cond (x4==21) (J (x4==21) w1) (J (x4==22) w1))))))/\∀(_x5:Nat->Value) x6 w2,J x6 w2->cond (x6) (∃x7,w2.cell? ⟨x3,1,none⟩=some (.q x7)/\K (.tuple #[.q x7,.bool true]) w2) (cond (x4==19) (∃x8,w2.cell? ⟨x3,2,none⟩=some (.q x8)/\K (.tuple #[.q x8,.bool true]) w2) (K (.tuple #[.q 0,.bool false]) w2))
theorem Yh (x0:Int) (x1:Int) (x2:Int) (K:Value->World->Prop) (w:World) (h:Yg x0 x1 x2 K w):Calls Tryz.prog 111 #[.agg #[.q x0,.q x1,.q x2]] w (aG K):=
 Ag { dH:=[(26,[(6,.bool)])] } Tryz.func111 (by kernel_rfl) h
def Ah9 (x0:Int) (x1:Int) (x2:Int) (K:Value->World->Prop) (w:World):Prop:=∀x3 w1,x3=w.heap.size->w1=w.alloc (.cells #[.q x0,.q x1,.q x2] 95)->∃x4,w1.cell? (Zb x3)=some (.q x4)/\Au 180 #[.q x4] w1 (fun x5 w2=>∃x6 x7 x8 x9 ae,x5= .tuple #[.agg #[.s x6,.q x7,.q x8,.q x9],.bool ae]/\∀aa w3,aa=w2.heap.size->w3=w2.alloc (.cells #[.s [],.q 0,.q 0,.q 0] 223)->Af w3 (Zb aa) 4/\∀w4,w4=setCells w3 (Zb aa) [.s x6,.q x7,.q x8,.q x9]->∃(J:Bool->World->Prop),(cond (!ae) (J true w4) (∃ad,w4.cell? ⟨aa,1,none⟩=some (.q ad)/\cond (decide (ad<1)) (∃ai,w4.cell? ⟨x3,1,none⟩=some (.q ai)/\cond (ai !=0) (J true w4) (∃ag,w4.cell? ⟨aa,1,none⟩=some (.q ag)/\cond (decide (ag<2)) (∃ah,w4.cell? ⟨x3,2,none⟩=some (.q ah)/\J (ah !=0) w4) (J false w4))) (∃aj,w4.cell? ⟨aa,1,none⟩=some (.q aj)/\cond (decide (aj<2)) (∃ao,w4.cell? ⟨x3,2,none⟩=some (.q ao)/\J (ao !=0) w4) (J false w4))))/\∀(_x18:Nat->Value) ax w5,J ax w5->cond (ax) (K (.bool false) w5) (∃aA,w5.cell? (Zb x3)=some (.q aA)/\cond (aA !=14) (∃aB,w5.cell? (Zb x3)=some (.q aB)/\cond (aB !=5) (K (.bool true) w5) (∃ay,w5.cell? ⟨x3,1,none⟩=some (.q ay)/\Au 181 #[.q ay] w5 (fun aw w6=>∃aD,aw= .q aD/\K (.bool (decide (aD>0))) w6))) (∃aN,w5.cell? ⟨x3,2,none⟩=some (.q aN)/\cond (decide (aN>=0)) (∃aH,w5.cell? (Zb x3)=some (.q aH)/\cond (aH !=5) (K (.bool true) w5) (∃aF,w5.cell? ⟨x3,1,none⟩=some (.q aF)/\Au 181 #[.q aF] w5 (fun bg w7=>∃aQ,bg= .q aQ/\K (.bool (decide (aQ>0))) w7))) (K (.bool false) w5))))
theorem Aia (x0:Int) (x1:Int) (x2:Int) (K:Value->World->Prop) (w:World) (h:Ah9 x0 x1 x2 K w):Calls Tryz.prog 108 #[.agg #[.q x0,.q x1,.q x2]] w (aG K):=
 Ag { dH:=[(14,[(32,.bool)])] } Tryz.func108 (by kernel_rfl) h
def Aib (x0:Int) (x1:Int) (x2:Int) (K:Value->World->Prop) (w:World):Prop:=∀x3 w1,x3=w.heap.size->w1=w.alloc (.cells #[.q x0,.q x1,.q x2] 95)->∃x4,w1.cell? (Zb x3)=some (.q x4)/\Au 180 #[.q x4] w1 (fun x5 w2=>∃x6 x7 x8 x9 ae,x5= .tuple #[.agg #[.s x6,.q x7,.q x8,.q x9],.bool ae]/\∀aa w3,aa=w2.heap.size->w3=w2.alloc (.cells #[.s [],.q 0,.q 0,.q 0] 223)->Af w3 (Zb aa) 4/\∀w4,w4=setCells w3 (Zb aa) [.s x6,.q x7,.q x8,.q x9]->∃ad ai ag,Ad w4 (Zb x3) [.q ad,.q ai,.q ag]/\Au 108 #[.agg #[.q ad,.q ai,.q ag]] w4 (fun ah w5=>∃aj,ah= .bool aj/\cond (!aj) (K (.q 0) w5) (∃ao,w5.cell? (Zb x3)=some (.q ao)/\cond (ao==5) (∃ak,w5.cell? ⟨x3,1,none⟩=some (.q ak)/\Au 181 #[.q ak] w5 (fun ax w6=>∃aA,ax= .q aA/\K (.q aA) w6)) (∃(J:Bool->World->Prop),(∃aB,w5.cell? (Zb x3)=some (.q aB)/\cond (aB==9) (∃ay,w5.cell? ⟨x3,2,none⟩=some (.q ay)/\J (decide (ay>0)) w5) (J false w5))/\∀(_x23:Nat->Value) aD w7,J aD w7->cond (aD) (K (.q 1) w7) (∃aN,w7.cell? (Zb x3)=some (.q aN)/\cond (aN==14) (∃aH,w7.cell? ⟨x3,2,none⟩=some (.q aH)/\K (.q aH) w7) (∃aF,w7.cell? ⟨aa,2,none⟩=some (.q aF)/\K (.q aF) w7))))))
theorem Aic (x0:Int) (x1:Int) (x2:Int) (K:Value->World->Prop) (w:World) (h:Aib x0 x1 x2 K w):Calls Tryz.prog 183 #[.agg #[.q x0,.q x1,.q x2]] w (aG K):=
 Ag { dH:=[(463,[(22,.bool)])] } Tryz.func183 (by kernel_rfl) h
def Aid (x0:Int) (x1:Int) (x2:Int) (K:Value->World->Prop) (w:World):Prop:=∀x3 w1,x3=w.heap.size->w1=w.alloc (.cells #[.q x0,.q x1,.q x2] 95)->∃x4,w1.cell? (Zb x3)=some (.q x4)/\Au 180 #[.q x4] w1 (fun x5 w2=>∃x6 x7 x8 x9 ae,x5= .tuple #[.agg #[.s x6,.q x7,.q x8,.q x9],.bool ae]/\∀aa w3,aa=w2.heap.size->w3=w2.alloc (.cells #[.s [],.q 0,.q 0,.q 0] 223)->Af w3 (Zb aa) 4/\∀w4,w4=setCells w3 (Zb aa) [.s x6,.q x7,.q x8,.q x9]->∃(J:Bool->World->Prop),(cond (ae) (∃ad ai ag,Ad w4 (Zb x3) [.q ad,.q ai,.q ag]/\Au 108 #[.agg #[.q ad,.q ai,.q ag]] w4 (fun ah w5=>∃aj,ah= .bool aj/\J aj w5)) (J false w4))/\∀(_x17:Nat->Value) ak w6,J ak w6->cond (ak) (∃ax,w6.cell? ⟨aa,3,none⟩=some (.q ax)/\K (.q ax) w6) (K (.q 0) w6))
theorem Aie (x0:Int) (x1:Int) (x2:Int) (K:Value->World->Prop) (w:World) (h:Aid x0 x1 x2 K w):Calls Tryz.prog 184 #[.agg #[.q x0,.q x1,.q x2]] w (aG K):=
 Ag { dH:=[(13,[(15,.bool)])] } Tryz.func184 (by kernel_rfl) h
def Alr (x0:Int) (K:Value->World->Prop) (w:World):Prop:=∀x1 w1,x1=w.heap.size->w1=w.alloc (.cells #[.s [],.q 0,.q 0,.q 0] 223)->∀(_x2:Nat->Value),cond (((decide (x0<1))||(decide (x0>25)))) (Af w1 (Zb x1) 4/\∀w2,w2=setCells w1 (Zb x1) [.s [],.q 0,.q 0,.q 0]->∃x3 x4 x5 x6,Ad w2 (Zb x1) [.s x3,.q x4,.q x5,.q x6]/\K (.tuple #[.agg #[.s x3,.q x4,.q x5,.q x6],.bool false]) w2) (Au 227 #[] w1 (fun x7 w3=>∃x8 x9 ae aa ad ai ag ah aj ao ak ax aA aB ay aw aD aN aH aF bg aQ aE aJ aZ aV bc bw aO bC bJ br a_ bD bF bn bO aX bP bA bM bW bQ bT bU b9 cg b_ cb cv cp cu cy cB cE cO cU cG cL cz cX dA cW dV dP eg dG dM eu fe eh ei dI dF eb ey ek eo ep dW dY dN dw dr dj eH eN eO eP eK eE eQ fu fk ew eF fW e7 fl fm fo gA fX gz,x7= .agg #[.s x8,.q x9,.q ae,.q aa,.s ad,.q ai,.q ag,.q ah,.s aj,.q ao,.q ak,.q ax,.s aA,.q aB,.q ay,.q aw,.s aD,.q aN,.q aH,.q aF,.s bg,.q aQ,.q aE,.q aJ,.s aZ,.q aV,.q bc,.q bw,.s aO,.q bC,.q bJ,.q br,.s a_,.q bD,.q bF,.q bn,.s bO,.q aX,.q bP,.q bA,.s bM,.q bW,.q bQ,.q bT,.s bU,.q b9,.q cg,.q b_,.s cb,.q cv,.q cp,.q cu,.s cy,.q cB,.q cE,.q cO,.s cU,.q cG,.q cL,.q cz,.s cX,.q dA,.q cW,.q dV,.s dP,.q eg,.q dG,.q dM,.s eu,.q fe,.q eh,.q ei,.s dI,.q dF,.q eb,.q ey,.s ek,.q eo,.q ep,.q dW,.s dY,.q dN,.q dw,.q dr,.s dj,.q eH,.q eN,.q eO,.s eP,.q eK,.q eE,.q eQ,.s fu,.q fk,.q ew,.q eF,.s fW,.q e7,.q fl,.q fm,.s fo,.q gA,.q fX,.q gz]/\Bd Tryz.prog (Instr.index 255 (.agg #[.s x8,.q x9,.q ae,.q aa,.s ad,.q ai,.q ag,.q ah,.s aj,.q ao,.q ak,.q ax,.s aA,.q aB,.q ay,.q aw,.s aD,.q aN,.q aH,.q aF,.s bg,.q aQ,.q aE,.q aJ,.s aZ,.q aV,.q bc,.q bw,.s aO,.q bC,.q bJ,.q br,.s a_,.q bD,.q bF,.q bn,.s bO,.q aX,.q bP,.q bA,.s bM,.q bW,.q bQ,.q bT,.s bU,.q b9,.q cg,.q b_,.s cb,.q cv,.q cp,.q cu,.s cy,.q cB,.q cE,.q cO,.s cU,.q cG,.q cL,.q cz,.s cX,.q dA,.q cW,.q dV,.s dP,.q eg,.q dG,.q dM,.s eu,.q fe,.q eh,.q ei,.s dI,.q dF,.q eb,.q ey,.s ek,.q eo,.q ep,.q dW,.s dY,.q dN,.q dw,.q dr,.s dj,.q eH,.q eN,.q eO,.s eP,.q eK,.q eE,.q eQ,.s fu,.q fk,.q ew,.q eF,.s fW,.q e7,.q fl,.q fm,.s fo,.q gA,.q fX,.q gz]) (.q x0)) (fun gd w4=>∃gC fw gD gE,gd= .agg #[.s gC,.q fw,.q gD,.q gE]/\Af w4 (Zb x1) 4/\∀w5,w5=setCells w4 (Zb x1) [.s gC,.q fw,.q gD,.q gE]->∃iT iI i_ iU,Ad w5 (Zb x1) [.s iT,.q iI,.q i_,.q iU]/\K (.tuple #[.agg #[.s iT,.q iI,.q i_,.q iU],.bool true]) w5) w3))
theorem Als (x0:Int) (K:Value->World->Prop) (w:World) (h:Alr x0 K w):Calls Tryz.prog 180 #[.q x0] w (aG K):=
 Ag { jJ:=[(12,[9])] } Tryz.func180 (by kernel_rfl) h
def Ado (x0:Int) (K:Value->World->Prop) (w:World):Prop:=∀(_x1:Nat->Value),cond (((x0==3)||(x0==4))) (K (.q 1) w) (∀(_x2:Nat->Value),cond (((decide (x0>=5))&&(decide (x0<=17)))) (K (.q 2) w) (K (.q 0) w))
theorem Adp (x0:Int) (K:Value->World->Prop) (w:World) (h:Ado x0 K w):Calls Tryz.prog 181 #[.q x0] w (aG K):=
 Ag { jJ:=[(24,[3]),(102,[10])] } Tryz.func181 (by kernel_rfl) h
def Adq (x0:List UInt8) (K:Value->World->Prop) (w:World):Prop:=cond (!(x0==[])) (cond (decide ((x0.length:Int)<=16)) (((0:Int)<=0/\0<(x0.length:Int))/\Au 176 #[.int .u8 ((x0.getD 0 0).toNat:Int)] w (fun x1 w1=>∃x2,x1= .bool x2/\cond (x2) (Au 177 #[.s x0,.func (.func 178) #[] #[]] w1 (fun x3 w2=>∃x4,x3= .s x4/\cond (x4==x0) (Au 179 #[.s x0] w2 (fun x5 w3=>∃x6,x5= .bool x6/\K (.bool (!x6)) w3)) (K (.bool false) w2))) (K (.bool false) w1))) (K (.bool false) w)) (K (.bool false) w)
theorem Adr (x0:List UInt8) (K:Value->World->Prop) (w:World) (h:Adq x0 K w):Calls Tryz.prog 107 #[.s x0] w (aG K):=
 Ag {} Tryz.func107 (by kernel_rfl) h
def Yi (x0:Int) (K:Value->World->Prop) (w:World):Prop:=∀(_x1:Nat->Value),K (.bool ((x0==95)||((decide ((P6 .u8 x0 32)>=97))&&(decide ((P6 .u8 x0 32)<=122))))) w
theorem Yj (x0:Int) (K:Value->World->Prop) (w:World) (h:Yi x0 K w):Calls Tryz.prog 176 #[.int .u8 x0] w (aG K):=
 Ag { jJ:=[(6,[2])] } Tryz.func176 (by kernel_rfl) h
def Yk (x0:Int) (K:Value->World->Prop) (w:World):Prop:=Au 176 #[.int .u8 x0] w (fun x1 w1=>∃x2,x1= .bool x2/\cond (x2) (K (.bool true) w1) (Au 224 #[.int .u8 x0] w1 (fun x3 w2=>∃x4,x3= .bool x4/\K (.bool x4) w2)))
theorem Yl (x0:Int) (K:Value->World->Prop) (w:World) (h:Yk x0 K w):Calls Tryz.prog 178 #[.int .u8 x0] w (aG K):=
 Ag {} Tryz.func178 (by kernel_rfl) h
def Ads (x0:List UInt8) (K:Value->World->Prop) (w:World):Prop:=Au 226 #[] w (fun x1 w1=>∃x2 x3 x4,x1= .slice x2 x3 x4/\Au 225 #[.slice x2 x3 x4,.s x0] w1 (fun x5 w2=>∃x6 x7,x5= .tuple #[.q x6,.bool x7]/\K (.bool x7) w2))
theorem Adt (x0:List UInt8) (K:Value->World->Prop) (w:World) (h:Ads x0 K w):Calls Tryz.prog 179 #[.s x0] w (aG K):=
 Ag {} Tryz.func179 (by kernel_rfl) h
def Aaw (x0:Int) (K:Value->World->Prop) (w:World):Prop:=∀(_x1:Nat->Value),K (.bool ((decide (x0>=48))&&(decide (x0<=57)))) w
theorem Aax (x0:Int) (K:Value->World->Prop) (w:World) (h:Aaw x0 K w):Calls Tryz.prog 224 #[.int .u8 x0] w (aG K):=
 Ag { jJ:=[(6,[2])] } Tryz.func224 (by kernel_rfl) h
def Aay (K:Value->World->Prop) (w:World):Prop:=∀x0 w1,x0=w.heap.size->w1=w.alloc (.cells #[.s [97,102,116,101,114],.s [97,115,115,101,114,116],.s [99,97,115,101],.s [99,104,97,110],.s [101,108,115,101],.s [105,102],.s [109,97,105,110],.s [112,114,105,110,116],.s [112,114,111,99],.s [114,97,110,100,111,109],.s [115,101,108,101,99,116],.s [115,107,105,112],.s [115,108,101,101,112],.s [115,116,97,114,116],.s [115,116,111,112],.s [118,97,114],.s [119,104,101,110],.s [119,104,105,108,101]] 9)->K (.slice (some (Zb x0)) 18 18) w1
theorem Aaz (K:Value->World->Prop) (w:World) (h:Aay K w):Calls Tryz.prog 226 #[] w (aG K):=
 Ag {} Tryz.func226 (by kernel_rfl) h
def Fs (x0:Option Addr) (x1:Nat) (_x2:Nat) (x3:List UInt8) (K:Value->World->Prop) (w:World):Prop:=∃(I:Int->Int->World->Prop) (x4:Int->Int->World->Nat),I 0 (x1:Int) w/\∀(_x5:Nat->Value) (x6:Int) (x7:Int) (w1:World),I x6 x7 w1->cond (decide (x6<x7)) ((0:Int)<=1/\((0:Int)<=(IntKind.i64.wrap ((IntKind.u64.wrap (IntKind.i64.wrap (x6+x7))).fdiv (2^(min 1 IntKind.u64.bits))))/\(IntKind.i64.wrap ((IntKind.u64.wrap (IntKind.i64.wrap (x6+x7))).fdiv (2^(min 1 IntKind.u64.bits))))<(x1:Int))/\Ak x0 (fun x8=>∃x9,w1.cell? (x8.add ((IntKind.i64.wrap ((IntKind.u64.wrap (IntKind.i64.wrap (x6+x7))).fdiv (2^(min 1 IntKind.u64.bits)))).toNat*1))=some (.s x9)/\Au 248 #[.s x9,.s x3] w1 (fun ae w2=>∃aa,ae= .bool aa/\cond (aa) (I (IntKind.i64.wrap ((IntKind.i64.wrap ((IntKind.u64.wrap (IntKind.i64.wrap (x6+x7))).fdiv (2^(min 1 IntKind.u64.bits))))+1)) x7 w2/\x4 (IntKind.i64.wrap ((IntKind.i64.wrap ((IntKind.u64.wrap (IntKind.i64.wrap (x6+x7))).fdiv (2^(min 1 IntKind.u64.bits))))+1)) x7 w2<x4 x6 x7 w1) (I x6 (IntKind.i64.wrap ((IntKind.u64.wrap (IntKind.i64.wrap (x6+x7))).fdiv (2^(min 1 IntKind.u64.bits)))) w2/\x4 x6 (IntKind.i64.wrap ((IntKind.u64.wrap (IntKind.i64.wrap (x6+x7))).fdiv (2^(min 1 IntKind.u64.bits)))) w2<x4 x6 x7 w1)))) (cond (decide (x6<(x1:Int))) (((0:Int)<=x6/\x6<(x1:Int))/\Ak x0 (fun ad=>∃ai,w1.cell? (ad.add (x6.toNat*1))=some (.s ai)/\cond (ai==x3) (K (.tuple #[.q x6,.bool true]) w1) (((0:Int)<=x6/\x6<(x1:Int))/\Ak x0 (fun ag=>∃ah,w1.cell? (ag.add (x6.toNat*1))=some (.s ah)/\Au 249 #[.s ah] w1 (fun aj w3=>∃ao,aj= .bool ao/\cond (ao) (Au 249 #[.s x3] w3 (fun ak w4=>∃ax,ak= .bool ax/\K (.tuple #[.q x6,.bool ax]) w4)) (K (.tuple #[.q x6,.bool false]) w3)))))) (K (.tuple #[.q x6,.bool false]) w1))
theorem Ft (x0:Option Addr) (x1:Nat) (x2:Nat) (x3:List UInt8) (K:Value->World->Prop) (w:World) (h:Fs x0 x1 x2 x3 K w):Calls Tryz.prog 225 #[.slice x0 x1 x2,.s x3] w (aG K):=
 Ag { loops:=[(60,[(7,.int .i64),(8,.int .i64)])] } Tryz.func225 (by kernel_rfl) h
def Sx (x0:List UInt8) (x1:List UInt8) (K:Value->World->Prop) (w:World):Prop:=Au 265 #[.s x0] w (fun x2 w1=>∃x3,x2= .bool x3/\cond (x3) (Au 265 #[.s x1] w1 (fun x4 w2=>∃x5,x4= .bool x5/\cond (!x5) (K (.bool true) w2) (K (.bool (Op.bytesLess x0 x1)) w2))) (K (.bool (Op.bytesLess x0 x1)) w1))
theorem Sy (x0:List UInt8) (x1:List UInt8) (K:Value->World->Prop) (w:World) (h:Sx x0 x1 K w):Calls Tryz.prog 248 #[.s x0,.s x1] w (aG K):=
 Ag {} Tryz.func248 (by kernel_rfl) h
def Oe (x0:List UInt8) (K:Value->World->Prop) (w:World):Prop:=K (.bool (!(x0==x0))) w
theorem Of (x0:List UInt8) (K:Value->World->Prop) (w:World) (h:Oe x0 K w):Calls Tryz.prog 249 #[.s x0] w (aG K):=
 Ag {} Tryz.func249 (by kernel_rfl) h
def R1 (x0:List UInt8) (K:Value->World->Prop) (w:World):Prop:=K (.bool (!(x0==x0))) w
theorem R2 (x0:List UInt8) (K:Value->World->Prop) (w:World) (h:R1 x0 K w):Calls Tryz.prog 265 #[.s x0] w (aG K):=
 Ag {} Tryz.func265 (by kernel_rfl) h
def Aa0 (x0:Int) (x1:Int) (K:Value->World->Prop) (w:World):Prop:=∀(_x2:Nat->Value),K (.bool ((decide (x0>=0))&&(decide (x0<=x1)))) w
theorem Aa1 (x0:Int) (x1:Int) (K:Value->World->Prop) (w:World) (h:Aa0 x0 x1 K w):Calls Tryz.prog 62 #[.q x0,.q x1] w (aG K):=
 Ag { jJ:=[(6,[4])] } Tryz.func62 (by kernel_rfl) h
def Aif (x0:Int) (x1:Int) (x2:Option Addr) (x3:Nat) (x4:Nat) (x5:Int) (x6:Int) (x7:Int) (x8:Int) (x9:Int) (ae:Int) (aa:Int) (ad:Option Addr) (ai:Nat) (ag:Nat) (K:Value->World->Prop) (w:World):Prop:=∀ah w1,ah=w.heap.size->w1=w.alloc (.cells #[.q x0,.q x1,.slice x2 x3 x4,.q x5,.q x6,.q x7,.q x8,.q x9,.q ae,.q aa,.slice ad ai ag] 56)->∀aj w2,aj=w1.heap.size->w2=w1.alloc (.cells #[.q 0,.q 0,.slice none 0 0,.q 0,.q 0,.q 0,.q 0,.q 0,.q 0,.q 0,.slice none 0 0] 56)->∃ao,w2.cell? (Zb ah)=some (.q ao)/\∃ak,w2.cell? ⟨ah,1,none⟩=some (.q ak)/\∃ax aA aB,w2.cell? ⟨ah,2,none⟩=some (.slice ax aA aB)/\∃ay,w2.cell? ⟨ah,3,none⟩=some (.q ay)/\∃aw,w2.cell? ⟨ah,4,none⟩=some (.q aw)/\∀aD w3,aD=w2.heap.size->w3=w2.alloc (.cells #[.q 0,.q 0,.slice none 0 0,.q 0,.q 0,.q 0,.q 0,.q 0,.q 0,.q 0,.slice none 0 0] 56)->Af w3 (Zb aD) 11/\∀w4,w4=setCells w3 (Zb aD) [.q ao,.q ak,.slice ax aA aB,.q ay,.q aw,.q 0,.q 0,.q 0,.q 0,.q 0,.slice none 0 0]->∃(J:World->Prop),(∃aN,w4.cell? ⟨ah,4,none⟩=some (.q aN)/\cond (aN==1) (∀w5,w5=w4.drew->∃(S:World->Prop),S w5/\∃aH,(∀u,S u->u.cell? ⟨ah,5,none⟩=some (.q aH))/\∃aF,(∀u,S u->u.cell? ⟨ah,6,none⟩=some (.q aF))/\∃bg,(∀u,S u->u.cell? ⟨ah,9,none⟩=some (.q bg))/\Af w5 ⟨aD,5,none⟩ 1/\∀w6,w6=w5.setCell ⟨aD,5,none⟩ (.q aH)->S w6/\Af w6 ⟨aD,6,none⟩ 1/\∀w7,w7=w6.setCell ⟨aD,6,none⟩ (.q aF)->S w7/\Af w7 ⟨aD,9,none⟩ 1/\∀w8,w8=w7.setCell ⟨aD,9,none⟩ (.q bg)->J w8) (cond (aN==2) (∀w9,w9=w4.drew->∃(S1:World->Prop),S1 w9/\∃aQ,(∀u,S1 u->u.cell? ⟨ah,5,none⟩=some (.q aQ))/\∃aE,(∀u,S1 u->u.cell? ⟨ah,7,none⟩=some (.q aE))/\∃aJ,(∀u,S1 u->u.cell? ⟨ah,9,none⟩=some (.q aJ))/\Af w9 ⟨aD,5,none⟩ 1/\∀aK,aK=w9.setCell ⟨aD,5,none⟩ (.q aQ)->S1 aK/\Af aK ⟨aD,7,none⟩ 1/\∀aI,aI=aK.setCell ⟨aD,7,none⟩ (.q aE)->S1 aI/\Af aI ⟨aD,9,none⟩ 1/\∀bj,bj=aI.setCell ⟨aD,9,none⟩ (.q aJ)->J bj) (cond (aN==3) (∀bG,bG=w4.drew->∃(S2:World->Prop),S2 bG/\∃aZ aV bc,(∀u,S2 u->u.cell? ⟨ah,10,none⟩=some (.slice aZ aV bc))/\∃bw,(∀u,S2 u->u.cell? ⟨ah,9,none⟩=some (.q bw))/\Af bG ⟨aD,10,none⟩ 1/\∀bt,bt=bG.setCell ⟨aD,10,none⟩ (.slice aZ aV bc)->S2 bt/\Af bt ⟨aD,9,none⟩ 1/\∀cr,cr=bt.setCell ⟨aD,9,none⟩ (.q bw)->J cr) (cond (aN==4) (∃aO,w4.cell? ⟨ah,8,none⟩=some (.q aO)/\Af w4 ⟨aD,8,none⟩ 1/\∀ck,ck=w4.setCell ⟨aD,8,none⟩ (.q aO)->J ck) (J w4)))))/\∀(_x37:Nat->Value) cQ,J cQ->∃bJ br a_ bD bF bn bO aX bP bA bM bW bQ bT bU,Ad cQ (Zb aD) [.q bJ,.q br,.slice a_ bD bF,.q bn,.q bO,.q aX,.q bP,.q bA,.q bM,.q bW,.slice bQ bT bU]/\Af cQ (Zb aj) 11/\∀cR,cR=setCells cQ (Zb aj) [.q bJ,.q br,.slice a_ bD bF,.q bn,.q bO,.q aX,.q bP,.q bA,.q bM,.q bW,.slice bQ bT bU]->∃b9 cg b_ cb cv cp cu cy cB cE cO cU cG cL cz,Ad cR (Zb aj) [.q b9,.q cg,.slice b_ cb cv,.q cp,.q cu,.q cy,.q cB,.q cE,.q cO,.q cU,.slice cG cL cz]/\K (.agg #[.q b9,.q cg,.slice b_ cb cv,.q cp,.q cu,.q cy,.q cB,.q cE,.q cO,.q cU,.slice cG cL cz]) cR
theorem Aig (x0:Int) (x1:Int) (x2:Option Addr) (x3:Nat) (x4:Nat) (x5:Int) (x6:Int) (x7:Int) (x8:Int) (x9:Int) (ae:Int) (aa:Int) (ad:Option Addr) (ai:Nat) (ag:Nat) (K:Value->World->Prop) (w:World) (h:Aif x0 x1 x2 x3 x4 x5 x6 x7 x8 x9 ae aa ad ai ag K w):Calls Tryz.prog 63 #[.agg #[.q x0,.q x1,.slice x2 x3 x4,.q x5,.q x6,.q x7,.q x8,.q x9,.q ae,.q aa,.slice ad ai ag]] w (aG K):=
 Ag { dH:=[(7,[])] } Tryz.func63 (by kernel_rfl) h
def Aom (x0:Option Addr) (x1:Nat) (x2:Nat) (x3:Option Addr) (x4:Nat) (x5:Nat) (x6:Option Addr) (x7:Nat) (x8:Nat) (x9:Int) (ae:Int) (aa:Int) (ad:Int) (ai:Option Addr) (ag:Nat) (ah:Nat) (aj:Int) (ao:Int) (ak:Int) (ax:Int) (aA:Int) (aB:Int) (ay:Int) (aw:Option Addr) (aD:Nat) (aN:Nat) (aH:Int) (K:Value->World->Prop) (w:World):Prop:=∀aF w1,aF=w.heap.size->w1=w.alloc (.cells #[.slice x0 x1 x2,.slice x3 x4 x5,.slice x6 x7 x8,.q x9,.q ae] 26)->∀bg w2,bg=w1.heap.size->w2=w1.alloc (.cells #[.q aa,.q ad,.slice ai ag ah,.q aj,.q ao,.q ak,.q ax,.q aA,.q aB,.q ay,.slice aw aD aN] 56)->∃(J:Bool->World->Prop),(∀w3,w3=w2.drew->∃(S:World->Prop),S w3/\cond (decide (aH<0)) (J true w3) (∃aQ aE aJ,(∀u,S u->u.cell? (Zb aF)=some (.slice aQ aE aJ))/\cond (decide (aH>=(aE:Int))) (J true w3) (∃aZ aV bc bw aO bC bJ br a_ bD bF,(∀u,S u->Ad u (Zb aF) [.slice aZ aV bc,.slice bw aO bC,.slice bJ br a_,.q bD,.q bF])/\∃bn,(∀u,S u->u.cell? (Zb bg)=some (.q bn))/\Au 185 #[.agg #[.slice aZ aV bc,.slice bw aO bC,.slice bJ br a_,.q bD,.q bF],.q aH] w3 (fun bO w4=>∃aX,bO= .q aX/\S w4/\J (aX !=bn) w4))))/\∀(_x46:Nat->Value) bA w5,J bA w5->cond (bA) (K (.q 0) w5) (∃bM bW bQ,w5.cell? (Zb aF)=some (.slice bM bW bQ)/\((0:Int)<=aH/\aH<(bW:Int))/\Ak bM (fun bT=>∃bU,w5.cell? (bT.add (aH.toNat*3))=some (.q bU)/\K (.q bU) w5))
theorem Aon (x0:Option Addr) (x1:Nat) (x2:Nat) (x3:Option Addr) (x4:Nat) (x5:Nat) (x6:Option Addr) (x7:Nat) (x8:Nat) (x9:Int) (ae:Int) (aa:Int) (ad:Int) (ai:Option Addr) (ag:Nat) (ah:Nat) (aj:Int) (ao:Int) (ak:Int) (ax:Int) (aA:Int) (aB:Int) (ay:Int) (aw:Option Addr) (aD:Nat) (aN:Nat) (aH:Int) (K:Value->World->Prop) (w:World) (h:Aom x0 x1 x2 x3 x4 x5 x6 x7 x8 x9 ae aa ad ai ag ah aj ao ak ax aA aB ay aw aD aN aH K w):Calls Tryz.prog 119 #[.agg #[.slice x0 x1 x2,.slice x3 x4 x5,.slice x6 x7 x8,.q x9,.q ae],.agg #[.q aa,.q ad,.slice ai ag ah,.q aj,.q ao,.q ak,.q ax,.q aA,.q aB,.q ay,.slice aw aD aN],.q aH] w (aG K):=
 Ag { dH:=[(6,[(23,.bool)])] } Tryz.func119 (by kernel_rfl) h
def Adu (x0:Option Addr) (x1:Nat) (x2:Nat) (x3:Option Addr) (x4:Nat) (x5:Nat) (x6:Option Addr) (x7:Nat) (x8:Nat) (x9:Int) (ae:Int) (K:Value->World->Prop) (w:World):Prop:=
 ∀aa w1,aa=w.heap.size->w1=w.alloc (.cells #[.slice x0 x1 x2,.slice x3 x4 x5,.slice x6 x7 x8,.q x9,.q ae] 26)->
 ∃ad ai ag,w1.cell? ⟨aa,2,none⟩=some (.slice ad ai ag)/\
 ∃(I:Int->Int->World->Prop) (ah:Int->Int->World->Nat),I 0 0 w1/\
 ∀(_x16:Nat->Value) (ao:Int) (ak:Int) (w2:World),I ao ak w2->
 cond (decide (ak<(ai:Int)))
 (((0:Int)<=ak/\ak<(ai:Int))/\
 Ak ad (fun ax=>
 ∃aA aB ay,Ad w2 (ax.add (ak.toNat*3)) [.s aA,.q aB,.q ay]/\
 ∀aw w3,aw=w2.heap.size->w3=w2.alloc (.cells #[.s [],.q 0,.q 0] 99)->
 Af w3 (Zb aw) 3/\∀w4,w4=setCells w3 (Zb aw) [.s aA,.q aB,.q ay]->
 ∃aD,w4.cell? ⟨aw,2,none⟩=some (.q aD)/\
 I (IntKind.i64.wrap (ao+(if 1>aD then 1 else aD))) (IntKind.i64.wrap (ak+1)) w4/\ah (IntKind.i64.wrap (ao+(if 1>aD then 1 else aD))) (IntKind.i64.wrap (ak+1)) w4<ah ao ak w2))
 (K (.q ao) w2)
theorem Adv (x0:Option Addr) (x1:Nat) (x2:Nat) (x3:Option Addr) (x4:Nat) (x5:Nat) (x6:Option Addr) (x7:Nat) (x8:Nat) (x9:Int) (ae:Int) (K:Value->World->Prop) (w:World) (h:Adu x0 x1 x2 x3 x4 x5 x6 x7 x8 x9 ae K w):Calls Tryz.prog 122 #[.agg #[.slice x0 x1 x2,.slice x3 x4 x5,.slice x6 x7 x8,.q x9,.q ae]] w (aG K):=
 Ag { loops:=[(58,[(3,.int .i64),(9,.int .i64)])] } Tryz.func122 (by kernel_rfl) h
def Aih (x0:Int) (x1:Int) (x2:Option Addr) (x3:Nat) (x4:Nat) (x5:Int) (x6:Int) (x7:Int) (x8:Int) (x9:Int) (ae:Int) (aa:Int) (ad:Option Addr) (ai:Nat) (ag:Nat) (ah:Int) (aj:Int) (ao:Option Addr) (ak:Nat) (ax:Nat) (aA:Int) (aB:Int) (ay:Int) (aw:Int) (aD:Int) (aN:Int) (aH:Int) (aF:Option Addr) (bg:Nat) (aQ:Nat) (K:Value->World->Prop) (w:World):Prop:=∀aE w1,aE=w.heap.size->w1=w.alloc (.cells #[.q x0,.q x1,.slice x2 x3 x4,.q x5,.q x6,.q x7,.q x8,.q x9,.q ae,.q aa,.slice ad ai ag] 56)->∀aJ w2,aJ=w1.heap.size->w2=w1.alloc (.cells #[.q ah,.q aj,.slice ao ak ax,.q aA,.q aB,.q ay,.q aw,.q aD,.q aN,.q aH,.slice aF bg aQ] 56)->∃aZ,w2.cell? (Zb aE)=some (.q aZ)/\∃aV,w2.cell? (Zb aJ)=some (.q aV)/\cond (aZ==aV) (∃bc,w2.cell? ⟨aE,1,none⟩=some (.q bc)/\∃bw,w2.cell? ⟨aJ,1,none⟩=some (.q bw)/\cond (bc==bw) (∃aO bC bJ,w2.cell? ⟨aE,2,none⟩=some (.slice aO bC bJ)/\∃br a_ bD,w2.cell? ⟨aJ,2,none⟩=some (.slice br a_ bD)/\Au 52 #[.slice aO bC bJ,.slice br a_ bD] w2 (fun bF w3=>∃bn,bF= .bool bn/\cond (bn) (∃bO,w3.cell? ⟨aE,3,none⟩=some (.q bO)/\∃aX,w3.cell? ⟨aJ,3,none⟩=some (.q aX)/\cond (bO==aX) (∃bP,w3.cell? ⟨aE,4,none⟩=some (.q bP)/\∃bA,w3.cell? ⟨aJ,4,none⟩=some (.q bA)/\cond (bP==bA) (∃bM,w3.cell? ⟨aE,5,none⟩=some (.q bM)/\∃bW,w3.cell? ⟨aJ,5,none⟩=some (.q bW)/\cond (bM==bW) (∃bQ,w3.cell? ⟨aE,6,none⟩=some (.q bQ)/\∃bT,w3.cell? ⟨aJ,6,none⟩=some (.q bT)/\cond (bQ==bT) (∃bU,w3.cell? ⟨aE,7,none⟩=some (.q bU)/\∃b9,w3.cell? ⟨aJ,7,none⟩=some (.q b9)/\cond (bU==b9) (∃cg,w3.cell? ⟨aE,8,none⟩=some (.q cg)/\∃b_,w3.cell? ⟨aJ,8,none⟩=some (.q b_)/\cond (cg==b_) (∃cb,w3.cell? ⟨aE,9,none⟩=some (.q cb)/\∃cv,w3.cell? ⟨aJ,9,none⟩=some (.q cv)/\cond (cb==cv) (∃cp cu cy,w3.cell? ⟨aE,10,none⟩=some (.slice cp cu cy)/\∃cB cE cO,w3.cell? ⟨aJ,10,none⟩=some (.slice cB cE cO)/\Au 106 #[.slice cp cu cy,.slice cB cE cO] w3 (fun cU w4=>∃cG,cU= .bool cG/\K (.bool cG) w4)) (K (.bool false) w3)) (K (.bool false) w3)) (K (.bool false) w3)) (K (.bool false) w3)) (K (.bool false) w3)) (K (.bool false) w3)) (K (.bool false) w3)) (K (.bool false) w3))) (K (.bool false) w2)) (K (.bool false) w2)
theorem Aii (x0:Int) (x1:Int) (x2:Option Addr) (x3:Nat) (x4:Nat) (x5:Int) (x6:Int) (x7:Int) (x8:Int) (x9:Int) (ae:Int) (aa:Int) (ad:Option Addr) (ai:Nat) (ag:Nat) (ah:Int) (aj:Int) (ao:Option Addr) (ak:Nat) (ax:Nat) (aA:Int) (aB:Int) (ay:Int) (aw:Int) (aD:Int) (aN:Int) (aH:Int) (aF:Option Addr) (bg:Nat) (aQ:Nat) (K:Value->World->Prop) (w:World) (h:Aih x0 x1 x2 x3 x4 x5 x6 x7 x8 x9 ae aa ad ai ag ah aj ao ak ax aA aB ay aw aD aN aH aF bg aQ K w):Calls Tryz.prog 54 #[.agg #[.q x0,.q x1,.slice x2 x3 x4,.q x5,.q x6,.q x7,.q x8,.q x9,.q ae,.q aa,.slice ad ai ag],.agg #[.q ah,.q aj,.slice ao ak ax,.q aA,.q aB,.q ay,.q aw,.q aD,.q aN,.q aH,.slice aF bg aQ]] w (aG K):=
 Ag {} Tryz.func54 (by kernel_rfl) h
def Alu (x0:Option Addr) (x1:Nat) (x2:Nat) (x3:Option Addr) (x4:Nat) (x5:Nat) (x6:Option Addr) (x7:Nat) (x8:Nat) (x9:Int) (ae:Int) (aa:Int) (ad:Option Addr) (ai:Nat) (ag:Nat) (ah:Int) (K:Value->World->Prop) (w:World):Prop:=∀aj w1,aj=w.heap.size->w1=w.alloc (.cells #[.slice x0 x1 x2,.slice x3 x4 x5,.slice x6 x7 x8,.q x9,.q ae] 26)->∀ao w2,ao=w1.heap.size->w2=w1.alloc (.cells #[.q 0,.q 0,.slice none 0 0,.q 0,.q 0,.q 0,.q 0,.q 0,.q 0,.q 0,.slice none 0 0] 56)->∃(J:Bool->World->Prop),(∃ak ax aA,w2.cell? ⟨aj,1,none⟩=some (.slice ak ax aA)/\Au 62 #[.q aa,.q (IntKind.i64.wrap ((ax:Int)-1))] w2 (fun aB w3=>∃ay,aB= .bool ay/\cond (!ay) (J true w3) (∃aw aD aN,w3.cell? ⟨aj,1,none⟩=some (.slice aw aD aN)/\((0:Int)<=aa/\aa<(aD:Int))/\Ak aw (fun aH=>∃aF,w3.cell? ((aH.add (aa.toNat*4)).add 2)=some (.q aF)/\cond ((ai:Int) !=aF) (J true w3) (Au 62 #[.q ah,.q 1048576] w3 (fun bg w4=>∃aQ,bg= .bool aQ/\J (!aQ) w4))))))/\∀(_x30:Nat->Value) aJ w5,J aJ w5->cond (aJ) (Af w5 (Zb ao) 11/\∀w6,w6=setCells w5 (Zb ao) [.q 0,.q 0,.slice none 0 0,.q 0,.q 0,.q 0,.q 0,.q 0,.q 0,.q 0,.slice none 0 0]->∃aZ aV bc bw aO bC bJ br a_ bD bF bn bO aX bP,Ad w6 (Zb ao) [.q aZ,.q aV,.slice bc bw aO,.q bC,.q bJ,.q br,.q a_,.q bD,.q bF,.q bn,.slice bO aX bP]/\K (.tuple #[.agg #[.q aZ,.q aV,.slice bc bw aO,.q bC,.q bJ,.q br,.q a_,.q bD,.q bF,.q bn,.slice bO aX bP],.q 1]) w6) (Au 39 #[.slice ad ai ag] w5 (fun bA w7=>∃bM bW bQ,bA= .slice bM bW bQ/\∀bT w8,bT=w7.heap.size->w8=w7.alloc (.cells #[.q 0,.q 0,.slice none 0 0,.q 0,.q 0,.q 0,.q 0,.q 0,.q 0,.q 0,.slice none 0 0] 56)->Af w8 (Zb bT) 11/\∀w9,w9=setCells w8 (Zb bT) [.q aa,.q 0,.slice bM bW bQ,.q ah,.q 0,.q 0,.q 0,.q 0,.q 0,.q 0,.slice none 0 0]->∃(I:World->Prop) (bU:World->Nat),I w9/\∀(_x53:Nat->Value) (aK:World),I aK->∀aI,aI=aK.drew->∃cg b_ cb,aI.cell? ⟨bT,2,none⟩=some (.slice cg b_ cb)/\∃cv cp cu,aI.cell? ⟨aj,1,none⟩=some (.slice cv cp cu)/\((0:Int)<=aa/\aa<(cp:Int))/\Ak cv (fun cy=>∃cB,aI.cell? ((cy.add (aa.toNat*4)).add 3)=some (.q cB)/\cond (decide ((b_:Int)<cB)) (∃cE cO cU,aI.cell? ⟨bT,2,none⟩=some (.slice cE cO cU)/\∀cG bj,cG=aI.heap.size->bj=aI.alloc (.cells #[.q 0] 3)->Bd Tryz.prog (Builtin.append_ #[28,28] 28 #[.slice cE cO cU,.slice (some (Zb cG)) 1 1]) (fun cL bG=>∃cz cX dA,cL= .slice cz cX dA/\Af bG ⟨bT,2,none⟩ 1/\∀bt,bt=bG.setCell ⟨bT,2,none⟩ (.slice cz cX dA)->I bt/\bU bt<bU aK) bj) (∀cr,cr=aI.drew->∃(S:World->Prop),S cr/\∃cW dV dP eg dG dM eu fe eh ei dI,(∀u,S u->Ad u (Zb aj) [.slice cW dV dP,.slice eg dG dM,.slice eu fe eh,.q ei,.q dI])/\∃dF eb ey ek eo ep dW dY dN dw dr dj eH eN eO,(∀u,S u->Ad u (Zb bT) [.q dF,.q eb,.slice ey ek eo,.q ep,.q dW,.q dY,.q dN,.q dw,.q dr,.q dj,.slice eH eN eO])/\∃eP eK eE,(∀u,S u->u.cell? ⟨aj,1,none⟩=some (.slice eP eK eE))/\((0:Int)<=aa/\aa<(eK:Int))/\Ak eP (fun eQ=>∃fu,(∀u,S u->u.cell? ((eQ.add (aa.toNat*4)).add 1)=some (.q fu))/\Au 86 #[.agg #[.slice cW dV dP,.slice eg dG dM,.slice eu fe eh,.q ei,.q dI],.agg #[.q dF,.q eb,.slice ey ek eo,.q ep,.q dW,.q dY,.q dN,.q dw,.q dr,.q dj,.slice eH eN eO],.q fu] cr (fun fk ck=>∃ew eF fW e7 fl fm fo gA fX gz gd gC fw gD gE,fk= .agg #[.q ew,.q eF,.slice fW e7 fl,.q fm,.q fo,.q gA,.q fX,.q gz,.q gd,.q gC,.slice fw gD gE]/\Af ck (Zb ao) 11/\∀cQ,cQ=setCells ck (Zb ao) [.q ew,.q eF,.slice fW e7 fl,.q fm,.q fo,.q gA,.q fX,.q gz,.q gd,.q gC,.slice fw gD gE]->∃iT iI i_ iU ik jt jN ja ks jb jc jd kF je jf,Ad cQ (Zb ao) [.q iT,.q iI,.slice i_ iU ik,.q jt,.q jN,.q ja,.q ks,.q jb,.q jc,.q jd,.slice kF je jf]/\K (.tuple #[.agg #[.q iT,.q iI,.slice i_ iU ik,.q jt,.q jN,.q ja,.q ks,.q jb,.q jc,.q jd,.slice kF je jf],.q 0]) cQ))))))
theorem Alv (x0:Option Addr) (x1:Nat) (x2:Nat) (x3:Option Addr) (x4:Nat) (x5:Nat) (x6:Option Addr) (x7:Nat) (x8:Nat) (x9:Int) (ae:Int) (aa:Int) (ad:Option Addr) (ai:Nat) (ag:Nat) (ah:Int) (K:Value->World->Prop) (w:World) (h:Alu x0 x1 x2 x3 x4 x5 x6 x7 x8 x9 ae aa ad ai ag ah K w):Calls Tryz.prog 42 #[.agg #[.slice x0 x1 x2,.slice x3 x4 x5,.slice x6 x7 x8,.q x9,.q ae],.q aa,.slice ad ai ag,.q ah] w (aG K):=
 Ag { loops:=[(60,[])],dH:=[(6,[(33,.bool)])] } Tryz.func42 (by kernel_rfl) h
def Aij (x0:Option Addr) (x1:Nat) (x2:Nat) (x3:Option Addr) (x4:Nat) (x5:Nat) (x6:Option Addr) (x7:Nat) (x8:Nat) (x9:Int) (ae:Int) (aa:Int) (ad:Int) (ai:Option Addr) (ag:Nat) (ah:Nat) (aj:Int) (ao:Int) (ak:Int) (ax:Int) (aA:Int) (aB:Int) (ay:Int) (aw:Option Addr) (aD:Nat) (aN:Nat) (aH:Int) (K:Value->World->Prop) (w:World):Prop:=∀aF w1,aF=w.heap.size->w1=w.alloc (.cells #[.slice x0 x1 x2,.slice x3 x4 x5,.slice x6 x7 x8,.q x9,.q ae] 26)->∀bg w2,bg=w1.heap.size->w2=w1.alloc (.cells #[.q aa,.q ad,.slice ai ag ah,.q aj,.q ao,.q ak,.q ax,.q aA,.q aB,.q ay,.slice aw aD aN] 56)->∀aQ w3,aQ=w2.heap.size->w3=w2.alloc (.cells #[.q 0,.q 0,.slice none 0 0,.q 0,.q 0,.q 0,.q 0,.q 0,.q 0,.q 0,.slice none 0 0] 56)->∃(J:Option Addr->World->Prop),(∀w4,w4=w3.drew->∃(S:World->Prop),S w4/\∃aE,(∀u,S u->u.cell? (Zb bg)=some (.q aE))/\∃aJ aZ aV bc bw aO bC bJ br a_ bD,(∀u,S u->Ad u (Zb aF) [.slice aJ aZ aV,.slice bc bw aO,.slice bC bJ br,.q a_,.q bD])/\∃bF bn bO,(∀u,S u->u.cell? ⟨bg,2,none⟩=some (.slice bF bn bO))/\∃aX,(∀u,S u->u.cell? ⟨bg,3,none⟩=some (.q aX))/\(Au 156 #[.agg #[.slice aJ aZ aV,.slice bc bw aO,.slice bC bJ br,.q a_,.q bD],.q aH] w4 (fun bP w5=>∃bA,bP= .q bA/\S w5/\(Au 39 #[.slice bF bn bO] w5 (fun bM w6=>∃bW bQ bT,bM= .slice bW bQ bT/\S w6/\∀bU w7,bU=w6.heap.size->w7=w6.alloc (.cells #[.q 0,.q 0,.slice none 0 0,.q 0,.q 0,.q 0,.q 0,.q 0,.q 0,.q 0,.slice none 0 0] 56)->S w7/\Af w7 (Zb bU) 11/\∀w8,w8=setCells w7 (Zb bU) [.q aE,.q bA,.slice bW bQ bT,.q aX,.q 0,.q 0,.q 0,.q 0,.q 0,.q 0,.slice none 0 0]->J (some (Zb bU)) w8))/\(∀b9 w9,b9=w5.heap.size->w9=w5.alloc (.cells #[.q 0,.q 0,.slice none 0 0,.q 0,.q 0,.q 0,.q 0,.q 0,.q 0,.q 0,.slice none 0 0] 56)->S w9/\Au 39 #[.slice bF bn bO] w9 (fun cg aK=>∃b_ cb cv,cg= .slice b_ cb cv/\S aK/\Af aK (Zb b9) 11/\∀aI,aI=setCells aK (Zb b9) [.q aE,.q bA,.slice b_ cb cv,.q aX,.q 0,.q 0,.q 0,.q 0,.q 0,.q 0,.slice none 0 0]->J (some (Zb b9)) aI))))/\(∀cp bj,cp=w4.heap.size->bj=w4.alloc (.cells #[.q 0,.q 0,.slice none 0 0,.q 0,.q 0,.q 0,.q 0,.q 0,.q 0,.q 0,.slice none 0 0] 56)->S bj/\Au 156 #[.agg #[.slice aJ aZ aV,.slice bc bw aO,.slice bC bJ br,.q a_,.q bD],.q aH] bj (fun cu bG=>∃cy,cu= .q cy/\S bG/\Au 39 #[.slice bF bn bO] bG (fun cB bt=>∃cE cO cU,cB= .slice cE cO cU/\S bt/\Af bt (Zb cp) 11/\∀cr,cr=setCells bt (Zb cp) [.q aE,.q cy,.slice cE cO cU,.q aX,.q 0,.q 0,.q 0,.q 0,.q 0,.q 0,.slice none 0 0]->J (some (Zb cp)) cr))))/\∀(_x65:Nat->Value) cL ck,J cL ck->∃(J1:World->Prop),(∃(J2:Bool->World->Prop),(Ak cL (fun cz=>∃cX,ck.cell? (cz.add 1)=some (.q cX)/\cond (decide (cX>=0)) (Ak cL (fun dA=>∃cW,ck.cell? (dA.add 1)=some (.q cW)/\∃dV dP eg,ck.cell? (Zb aF)=some (.slice dV dP eg)/\cond (decide (cW<(dP:Int))) (∃dG dM eu,ck.cell? (Zb aF)=some (.slice dG dM eu)/\Ak cL (fun fe=>∃eh,ck.cell? (fe.add 1)=some (.q eh)/\((0:Int)<=eh/\eh<(dM:Int))/\Ak dG (fun ei=>∃dI,ck.cell? (ei.add (eh.toNat*3))=some (.q dI)/\J2 (dI==24) ck))) (J2 false ck))) (J2 false ck)))/\∀(_x81:Nat->Value) eb cQ,J2 eb cQ->cond (eb) (Ak cL (fun ey=>Af cQ (ey.add 1) 1/\∀cR,cR=cQ.setCell (ey.add 1) (.q 0)->Ak cL (fun ek=>Af cR (ek.add 4) 1/\∀eR,eR=cR.setCell (ek.add 4) (.q 5)->J1 eR))) (J1 cQ))/\∀(_x85:Nat->Value) dk,J1 dk->Ak cL (fun ep=>∃dW dY dN dw dr dj eH eN eO eP eK eE eQ fu fk,Ad dk ep [.q dW,.q dY,.slice dN dw dr,.q dj,.q eH,.q eN,.q eO,.q eP,.q eK,.q eE,.slice eQ fu fk]/\Af dk (Zb aQ) 11/\∀gg,gg=setCells dk (Zb aQ) [.q dW,.q dY,.slice dN dw dr,.q dj,.q eH,.q eN,.q eO,.q eP,.q eK,.q eE,.slice eQ fu fk]->∃ew eF fW e7 fl fm fo gA fX gz gd gC fw gD gE,Ad gg (Zb aQ) [.q ew,.q eF,.slice fW e7 fl,.q fm,.q fo,.q gA,.q fX,.q gz,.q gd,.q gC,.slice fw gD gE]/\K (.agg #[.q ew,.q eF,.slice fW e7 fl,.q fm,.q fo,.q gA,.q fX,.q gz,.q gd,.q gC,.slice fw gD gE]) gg)
theorem Aik (x0:Option Addr) (x1:Nat) (x2:Nat) (x3:Option Addr) (x4:Nat) (x5:Nat) (x6:Option Addr) (x7:Nat) (x8:Nat) (x9:Int) (ae:Int) (aa:Int) (ad:Int) (ai:Option Addr) (ag:Nat) (ah:Nat) (aj:Int) (ao:Int) (ak:Int) (ax:Int) (aA:Int) (aB:Int) (ay:Int) (aw:Option Addr) (aD:Nat) (aN:Nat) (aH:Int) (K:Value->World->Prop) (w:World) (h:Aij x0 x1 x2 x3 x4 x5 x6 x7 x8 x9 ae aa ad ai ag ah aj ao ak ax aA aB ay aw aD aN aH K w):Calls Tryz.prog 86 #[.agg #[.slice x0 x1 x2,.slice x3 x4 x5,.slice x6 x7 x8,.q x9,.q ae],.agg #[.q aa,.q ad,.slice ai ag ah,.q aj,.q ao,.q ak,.q ax,.q aA,.q aB,.q ay,.slice aw aD aN],.q aH] w (aG K):=
 Ag { dH:=[(3,[(7,.pointer)]),(7,[]),(14,[(39,.bool)])] } Tryz.func86 (by kernel_rfl) h
def Ail (x0:Int) (x1:Int) (x2:Option Addr) (x3:Nat) (x4:Nat) (x5:Int) (x6:Int) (x7:Int) (x8:Int) (x9:Int) (ae:Int) (aa:Int) (ad:Option Addr) (ai:Nat) (ag:Nat) (K:Value->World->Prop) (w:World):Prop:=∀ah w1,ah=w.heap.size->w1=w.alloc (.cells #[.q x0,.q x1,.slice x2 x3 x4,.q x5,.q x6,.q x7,.q x8,.q x9,.q ae,.q aa,.slice ad ai ag] 56)->∃aj,w1.cell? ⟨ah,4,none⟩=some (.q aj)/\cond (aj==4) (∃ao,w1.cell? ⟨ah,8,none⟩=some (.q ao)/\K (.tuple #[.q ao,.bool true]) w1) (∃ak ax aA,w1.cell? ⟨ah,10,none⟩=some (.slice ak ax aA)/\∃(I:Int->Bool->Int->World->Prop) (aB:Int->Bool->Int->World->Nat),I 0 false 0 w1/\∀(_x22:Nat->Value) (aw:Int) (aD:Bool) (aN:Int) (w2:World),I aw aD aN w2->cond (decide (aN<(ax:Int))) (∃(J:Int->Bool->World->Prop),(((0:Int)<=aN/\aN<(ax:Int))/\Ak ak (fun aH=>∃aF bg aQ aE aJ,Ad w2 (aH.add (aN.toNat*5)) [.q aF,.q bg,.q aQ,.q aE,.q aJ]/\∀aZ w3,aZ=w2.heap.size->w3=w2.alloc (.cells #[.q 0,.q 0,.q 0,.q 0,.q 0] 129)->Af w3 (Zb aZ) 5/\∀w4,w4=setCells w3 (Zb aZ) [.q aF,.q bg,.q aQ,.q aE,.q aJ]->∃(J1:Bool->World->Prop),(∃aV,w4.cell? ⟨ah,4,none⟩=some (.q aV)/\cond (aV==3) (∃bc,w4.cell? (Zb aZ)=some (.q bc)/\cond (bc==3) (cond (!aD) (J1 true w4) (∃bw,w4.cell? ⟨aZ,2,none⟩=some (.q bw)/\J1 (decide (bw<aw)) w4)) (J1 false w4)) (J1 false w4))/\∀(_x36:Nat->Value) bC w5,J1 bC w5->cond (bC) (∃bJ,w5.cell? ⟨aZ,2,none⟩=some (.q bJ)/\J bJ true w5) (J aw aD w5)))/\∀(_x39:Nat->Value) a_ bD w6,J a_ bD w6->I a_ bD (IntKind.i64.wrap (aN+1)) w6/\aB a_ bD (IntKind.i64.wrap (aN+1)) w6<aB aw aD aN w2) (K (.tuple #[.q aw,.bool aD]) w2))
theorem Aim (x0:Int) (x1:Int) (x2:Option Addr) (x3:Nat) (x4:Nat) (x5:Int) (x6:Int) (x7:Int) (x8:Int) (x9:Int) (ae:Int) (aa:Int) (ad:Option Addr) (ai:Nat) (ag:Nat) (K:Value->World->Prop) (w:World) (h:Ail x0 x1 x2 x3 x4 x5 x6 x7 x8 x9 ae aa ad ai ag K w):Calls Tryz.prog 25 #[.agg #[.q x0,.q x1,.slice x2 x3 x4,.q x5,.q x6,.q x7,.q x8,.q x9,.q ae,.q aa,.slice ad ai ag]] w (aG K):=
 Ag { loops:=[(122,[(4,.int .i64),(5,.bool),(16,.int .i64)])],dH:=[(979,[(4,.int .i64),(5,.bool)]),(7833,[(37,.bool)])] } Tryz.func25 (by kernel_rfl) h
def Aa2 (x0:Option Addr) (x1:Nat) (x2:Nat) (K:Value->World->Prop) (w:World):Prop:=Au 68 #[.slice x0 x1 x2,.func (.func 132) #[] #[]] w (fun x3 w1=>∃x4,x3= .bool x4/\K (.bool x4) w1)
theorem Aa3 (x0:Option Addr) (x1:Nat) (x2:Nat) (K:Value->World->Prop) (w:World) (h:Aa2 x0 x1 x2 K w):Calls Tryz.prog 69 #[.slice x0 x1 x2] w (aG K):=
 Ag {} Tryz.func69 (by kernel_rfl) h
def V7 (x0:Int) (x1:Int) (x2:Option Addr) (x3:Nat) (x4:Nat) (x5:Int) (x6:Int) (x7:Int) (x8:Int) (x9:Int) (ae:Int) (aa:Int) (ad:Option Addr) (ai:Nat) (ag:Nat) (K:Value->World->Prop) (w:World):Prop:=∀ah w1,ah=w.heap.size->w1=w.alloc (.cells #[.q x0,.q x1,.slice x2 x3 x4,.q x5,.q x6,.q x7,.q x8,.q x9,.q ae,.q aa,.slice ad ai ag] 56)->∃aj ao ak ax aA aB ay aw aD aN aH aF bg aQ aE,Ad w1 (Zb ah) [.q aj,.q ao,.slice ak ax aA,.q aB,.q ay,.q aw,.q aD,.q aN,.q aH,.q aF,.slice bg aQ aE]/\Au 25 #[.agg #[.q aj,.q ao,.slice ak ax aA,.q aB,.q ay,.q aw,.q aD,.q aN,.q aH,.q aF,.slice bg aQ aE]] w1 (fun aJ w2=>∃aZ aV,aJ= .tuple #[.q aZ,.bool aV]/\K (.bool aV) w2)
theorem V8 (x0:Int) (x1:Int) (x2:Option Addr) (x3:Nat) (x4:Nat) (x5:Int) (x6:Int) (x7:Int) (x8:Int) (x9:Int) (ae:Int) (aa:Int) (ad:Option Addr) (ai:Nat) (ag:Nat) (K:Value->World->Prop) (w:World) (h:V7 x0 x1 x2 x3 x4 x5 x6 x7 x8 x9 ae aa ad ai ag K w):Calls Tryz.prog 132 #[.agg #[.q x0,.q x1,.slice x2 x3 x4,.q x5,.q x6,.q x7,.q x8,.q x9,.q ae,.q aa,.slice ad ai ag]] w (aG K):=
 Ag {} Tryz.func132 (by kernel_rfl) h
def Ln (x0:Option Addr) (x1:Nat) (_x2:Nat) (x3:Option Addr) (x4:Nat) (_x5:Nat) (K:Value->World->Prop) (w:World):Prop:=cond ((x1:Int) !=(x4:Int)) (K (.bool false) w) (∃(I:Int->World->Prop) (x6:Int->World->Nat),I 0 w/\∀(_x7:Nat->Value) (x8:Int) (w1:World),I x8 w1->cond (decide (x8<(x1:Int))) (∀w2,w2=w1.drew->((0:Int)<=x8/\x8<(x1:Int))/\Ak x0 (fun x9=>∃ae,w2.cell? (x9.add (x8.toNat*1))=some (.q ae)/\((0:Int)<=x8/\x8<(x4:Int))/\Ak x3 (fun aa=>∃ad,w2.cell? (aa.add (x8.toNat*1))=some (.q ad)/\cond (ae !=ad) (K (.bool false) w2) (I (IntKind.i64.wrap (x8+1)) w2/\x6 (IntKind.i64.wrap (x8+1)) w2<x6 x8 w1)))) (K (.bool true) w1))
theorem Lp (x0:Option Addr) (x1:Nat) (x2:Nat) (x3:Option Addr) (x4:Nat) (x5:Nat) (K:Value->World->Prop) (w:World) (h:Ln x0 x1 x2 x3 x4 x5 K w):Calls Tryz.prog 52 #[.slice x0 x1 x2,.slice x3 x4 x5] w (aG K):=
 Ag { loops:=[(58,[(13,.int .i64)])] } Tryz.func52 (by kernel_rfl) h
def Hk (x0:Option Addr) (x1:Nat) (_x2:Nat) (x3:Option Addr) (x4:Nat) (_x5:Nat) (K:Value->World->Prop) (w:World):Prop:=cond ((x1:Int) !=(x4:Int)) (K (.bool false) w) (∃(I:Int->World->Prop) (x6:Int->World->Nat),I 0 w/\∀(_x7:Nat->Value) (x8:Int) (w1:World),I x8 w1->cond (decide (x8<(x1:Int))) (∀w2,w2=w1.drew->((0:Int)<=x8/\x8<(x1:Int))/\Ak x0 (fun x9=>∃ae aa ad ai ag,Ad w2 (x9.add (x8.toNat*5)) [.q ae,.q aa,.q ad,.q ai,.q ag]/\((0:Int)<=x8/\x8<(x4:Int))/\Ak x3 (fun ah=>∃aj ao ak ax aA,Ad w2 (ah.add (x8.toNat*5)) [.q aj,.q ao,.q ak,.q ax,.q aA]/\cond (!((ae==aj)&&((aa==ao)&&((ad==ak)&&((ai==ax)&&((ag==aA)&&true)))))) (K (.bool false) w2) (I (IntKind.i64.wrap (x8+1)) w2/\x6 (IntKind.i64.wrap (x8+1)) w2<x6 x8 w1)))) (K (.bool true) w1))
theorem Hl (x0:Option Addr) (x1:Nat) (x2:Nat) (x3:Option Addr) (x4:Nat) (x5:Nat) (K:Value->World->Prop) (w:World) (h:Hk x0 x1 x2 x3 x4 x5 K w):Calls Tryz.prog 106 #[.slice x0 x1 x2,.slice x3 x4 x5] w (aG K):=
 Ag { loops:=[(58,[(13,.int .i64)])] } Tryz.func106 (by kernel_rfl) h
def Lq (x0:Option Addr) (x1:Nat) (x2:Nat) (K:Value->World->Prop) (w:World):Prop:=cond (x0.isNone) (K (.slice none 0 0) w) (∀x3 w1,x3=w.heap.size->w1=w.alloc (.cells #[] 3)->Bd Tryz.prog (Builtin.append_ #[28,28] 28 #[.slice (some (Zb x3)) 0 0,.slice x0 x1 x2]) (fun x4 w2=>∃x5 x6 x7,x4= .slice x5 x6 x7/\K (.slice x5 x6 x7) w2) w1)
theorem Lr (x0:Option Addr) (x1:Nat) (x2:Nat) (K:Value->World->Prop) (w:World) (h:Lq x0 x1 x2 K w):Calls Tryz.prog 39 #[.slice x0 x1 x2] w (aG K):=
 Ag {} Tryz.func39 (by kernel_rfl) h
def Hm (x0:Option Addr) (x1:Nat) (x2:Nat) (K:Value->World->Prop) (w:World):Prop:=cond (x0.isNone) (K (.slice none 0 0) w) (∀x3 w1,x3=w.heap.size->w1=w.alloc (.cells #[] 95)->Bd Tryz.prog (Builtin.append_ #[22,22] 22 #[.slice (some (Zb x3)) 0 0,.slice x0 x1 x2]) (fun x4 w2=>∃x5 x6 x7,x4= .slice x5 x6 x7/\K (.slice x5 x6 x7) w2) w1)
theorem Hn (x0:Option Addr) (x1:Nat) (x2:Nat) (K:Value->World->Prop) (w:World) (h:Hm x0 x1 x2 K w):Calls Tryz.prog 59 #[.slice x0 x1 x2] w (aG K):=
 Ag {} Tryz.func59 (by kernel_rfl) h
def Ho (x0:Option Addr) (x1:Nat) (x2:Nat) (K:Value->World->Prop) (w:World):Prop:=cond (x0.isNone) (K (.slice none 0 0) w) (∀x3 w1,x3=w.heap.size->w1=w.alloc (.cells #[] 97)->Bd Tryz.prog (Builtin.append_ #[23,23] 23 #[.slice (some (Zb x3)) 0 0,.slice x0 x1 x2]) (fun x4 w2=>∃x5 x6 x7,x4= .slice x5 x6 x7/\K (.slice x5 x6 x7) w2) w1)
theorem Hp (x0:Option Addr) (x1:Nat) (x2:Nat) (K:Value->World->Prop) (w:World) (h:Ho x0 x1 x2 K w):Calls Tryz.prog 60 #[.slice x0 x1 x2] w (aG K):=
 Ag {} Tryz.func60 (by kernel_rfl) h
def Gm (x0:Option Addr) (x1:Nat) (x2:Nat) (K:Value->World->Prop) (w:World):Prop:=cond (x0.isNone) (K (.slice none 0 0) w) (∀x3 w1,x3=w.heap.size->w1=w.alloc (.cells #[] 99)->Bd Tryz.prog (Builtin.append_ #[24,24] 24 #[.slice (some (Zb x3)) 0 0,.slice x0 x1 x2]) (fun x4 w2=>∃x5 x6 x7,x4= .slice x5 x6 x7/\K (.slice x5 x6 x7) w2) w1)
theorem Gn (x0:Option Addr) (x1:Nat) (x2:Nat) (K:Value->World->Prop) (w:World) (h:Gm x0 x1 x2 K w):Calls Tryz.prog 61 #[.slice x0 x1 x2] w (aG K):=
 Ag {} Tryz.func61 (by kernel_rfl) h
def Da (x0:Option Addr) (x1:Nat) (x2:Nat) (K:Value->World->Prop) (w:World):Prop:=Au 65 #[.slice x0 x1 x2,.func (.func 132) #[] #[]] w (fun x3 w1=>∃x4,x3= .q x4/\K (.bool (decide (x4>=0))) w1)
theorem Db (x0:Option Addr) (x1:Nat) (x2:Nat) (K:Value->World->Prop) (w:World) (h:Da x0 x1 x2 K w):Calls Tryz.prog 68 #[.slice x0 x1 x2,.func (.func 132) #[] #[]] w (aG K):=
 Ag {} Tryz.func68 (by kernel_rfl) h
def Dx (x0:Option Addr) (x1:Nat) (_x2:Nat) (K:Value->World->Prop) (w:World):Prop:=∃(I:Int->World->Prop) (x3:Int->World->Nat),I 0 w/\∀(_x4:Nat->Value) (x5:Int) (w1:World),I x5 w1->cond (decide (x5<(x1:Int))) (((0:Int)<=x5/\x5<(x1:Int))/\Ak x0 (fun x6=>∃x7 x8 x9 ae aa ad ai ag ah aj ao ak ax aA aB,Ad w1 (x6.add (x5.toNat*11)) [.q x7,.q x8,.slice x9 ae aa,.q ad,.q ai,.q ag,.q ah,.q aj,.q ao,.q ak,.slice ax aA aB]/\Au 132 #[.agg #[.q x7,.q x8,.slice x9 ae aa,.q ad,.q ai,.q ag,.q ah,.q aj,.q ao,.q ak,.slice ax aA aB]] w1 (fun ay w2=>∃aw,ay= .bool aw/\cond (aw) (K (.q x5) w2) (I (IntKind.i64.wrap (x5+1)) w2/\x3 (IntKind.i64.wrap (x5+1)) w2<x3 x5 w1)))) (K (.q (-1)) w1)
theorem Dy (x0:Option Addr) (x1:Nat) (x2:Nat) (K:Value->World->Prop) (w:World) (h:Dx x0 x1 x2 K w):Calls Tryz.prog 65 #[.slice x0 x1 x2,.func (.func 132) #[] #[]] w (aG K):=
 Ag { loops:=[(26,[(8,.int .i64)])] } Tryz.func65 (by kernel_rfl) h
def Ls (x0:List UInt8) (K:Value->World->Prop) (w:World):Prop:=∃(I:Int->World->Prop) (x1:Int->World->Nat),I 0 w/\∀(_x2:Nat->Value) (x3:Int) (w1:World),I x3 w1->cond (decide (x3<(x0.length:Int))) (((0:Int)<=x3/\x3<(x0.length:Int))/\Au 178 #[.int .u8 ((x0.getD x3.toNat 0).toNat:Int)] w1 (fun x4 w2=>∃x5,x4= .bool x5/\cond (!x5) (((0:Int)<=x3/\x3<=(x0.length:Int))/\K (.string (bS (x0.take x3.toNat))) w2) (I (IntKind.i64.wrap (x3+1)) w2/\x1 (IntKind.i64.wrap (x3+1)) w2<x1 x3 w1))) (K (.s x0) w1)
theorem Lt (x0:List UInt8) (K:Value->World->Prop) (w:World) (h:Ls x0 K w):Calls Tryz.prog 177 #[.s x0,.func (.func 178) #[] #[]] w (aG K):=
 Ag { loops:=[(26,[(8,.int .i64)])] } Tryz.func177 (by kernel_rfl) h
def Cr (x0:Option Addr) (x1:Nat) (x2:Nat) (x3:Nat) (K:Value->World->Prop) (w:World):Prop:=Au 182 #[.slice x0 x1 x2,.func (.func 110) #[] #[.pointer (some (Zb x3))]] w (fun x4 w1=>∃x5,x4= .q x5/\K (.bool (decide (x5>=0))) w1)
theorem Cs (x0:Option Addr) (x1:Nat) (x2:Nat) (x3:Nat) (K:Value->World->Prop) (w:World) (h:Cr x0 x1 x2 x3 K w):Calls Tryz.prog 109 #[.slice x0 x1 x2,.func (.func 110) #[] #[.pointer (some ⟨x3,0,none⟩)]] w (aG K):=
 Ag {} Tryz.func109 (by kernel_rfl) h
def C0 (x0:Option Addr) (x1:Nat) (_x2:Nat) (x3:Nat) (K:Value->World->Prop) (w:World):Prop:=∃(I:Int->World->Prop) (x4:Int->World->Nat),I 0 w/\∀(_x5:Nat->Value) (x6:Int) (w1:World),I x6 w1->cond (decide (x6<(x1:Int))) (((0:Int)<=x6/\x6<(x1:Int))/\Ak x0 (fun x7=>∃x8 x9 ae,Ad w1 (x7.add (x6.toNat*3)) [.s x8,.q x9,.q ae]/\Au 110 #[.agg #[.s x8,.q x9,.q ae],.pointer (some (Zb x3))] w1 (fun aa w2=>∃ad,aa= .bool ad/\cond (ad) (K (.q x6) w2) (I (IntKind.i64.wrap (x6+1)) w2/\x4 (IntKind.i64.wrap (x6+1)) w2<x4 x6 w1)))) (K (.q (-1)) w1)
theorem C1 (x0:Option Addr) (x1:Nat) (x2:Nat) (x3:Nat) (K:Value->World->Prop) (w:World) (h:C0 x0 x1 x2 x3 K w):Calls Tryz.prog 182 #[.slice x0 x1 x2,.func (.func 110) #[] #[.pointer (some ⟨x3,0,none⟩)]] w (aG K):=
 Ag { loops:=[(26,[(8,.int .i64)])] } Tryz.func182 (by kernel_rfl) h
def Pt (x0:List UInt8) (x1:Int) (x2:Int) (x3:Nat) (K:Value->World->Prop) (w:World):Prop:=∀x4 w1,x4=w.heap.size->w1=w.alloc (.cells #[.s x0,.q x1,.q x2] 99)->∃x5,w1.cell? ⟨x4,1,none⟩=some (.q x5)/\∃x6,w1.cell? ⟨x3,1,none⟩=some (.q x6)/\cond (x5==x6) (∃x7,w1.cell? ⟨x4,2,none⟩=some (.q x7)/\∃x8,w1.cell? ⟨x3,2,none⟩=some (.q x8)/\K (.bool (x7==x8)) w1) (K (.bool false) w1)
theorem Pu (x0:List UInt8) (x1:Int) (x2:Int) (x3:Nat) (K:Value->World->Prop) (w:World) (h:Pt x0 x1 x2 x3 K w):Calls Tryz.prog 110 #[.agg #[.s x0,.q x1,.q x2],.pointer (some ⟨x3,0,none⟩)] w (aG K):=
 Ag {} Tryz.func110 (by kernel_rfl) h
def C2 (x0:Option Addr) (x1:Nat) (x2:Nat) (K:Value->World->Prop) (w:World):Prop:=Au 65 #[.slice x0 x1 x2,.func (.func 67) #[] #[]] w (fun x3 w1=>∃x4,x3= .q x4/\K (.bool (decide (x4>=0))) w1)
theorem C3 (x0:Option Addr) (x1:Nat) (x2:Nat) (K:Value->World->Prop) (w:World) (h:C2 x0 x1 x2 K w):Calls Tryz.prog 68 #[.slice x0 x1 x2,.func (.func 67) #[] #[]] w (aG K):=
 Ag {} Tryz.func68 (by kernel_rfl) h
def Dm (x0:Option Addr) (x1:Nat) (_x2:Nat) (K:Value->World->Prop) (w:World):Prop:=∃(I:Int->World->Prop) (x3:Int->World->Nat),I 0 w/\∀(_x4:Nat->Value) (x5:Int) (w1:World),I x5 w1->cond (decide (x5<(x1:Int))) (((0:Int)<=x5/\x5<(x1:Int))/\Ak x0 (fun x6=>∃x7 x8 x9 ae aa ad ai ag ah aj ao ak ax aA aB,Ad w1 (x6.add (x5.toNat*11)) [.q x7,.q x8,.slice x9 ae aa,.q ad,.q ai,.q ag,.q ah,.q aj,.q ao,.q ak,.slice ax aA aB]/\Au 67 #[.agg #[.q x7,.q x8,.slice x9 ae aa,.q ad,.q ai,.q ag,.q ah,.q aj,.q ao,.q ak,.slice ax aA aB]] w1 (fun ay w2=>∃aw,ay= .bool aw/\cond (aw) (K (.q x5) w2) (I (IntKind.i64.wrap (x5+1)) w2/\x3 (IntKind.i64.wrap (x5+1)) w2<x3 x5 w1)))) (K (.q (-1)) w1)
theorem Dp (x0:Option Addr) (x1:Nat) (x2:Nat) (K:Value->World->Prop) (w:World) (h:Dm x0 x1 x2 K w):Calls Tryz.prog 65 #[.slice x0 x1 x2,.func (.func 67) #[] #[]] w (aG K):=
 Ag { loops:=[(26,[(8,.int .i64)])] } Tryz.func65 (by kernel_rfl) h
def Dc (x0:Option Addr) (x1:Nat) (_x2:Nat) (K:Value->World->Prop) (w:World):Prop:=∃(I:Int->World->Prop) (x3:Int->World->Nat),I 0 w/\∀(_x4:Nat->Value) (x5:Int) (w1:World),I x5 w1->cond (decide (x5<(x1:Int))) (((0:Int)<=x5/\x5<(x1:Int))/\Ak x0 (fun x6=>∃x7 x8 x9 ae aa ad ai ag ah aj ao ak ax aA aB,Ad w1 (x6.add (x5.toNat*11)) [.q x7,.q x8,.slice x9 ae aa,.q ad,.q ai,.q ag,.q ah,.q aj,.q ao,.q ak,.slice ax aA aB]/\Au 66 #[.agg #[.q x7,.q x8,.slice x9 ae aa,.q ad,.q ai,.q ag,.q ah,.q aj,.q ao,.q ak,.slice ax aA aB]] w1 (fun ay w2=>∃aw,ay= .bool aw/\cond (aw) (K (.q x5) w2) (I (IntKind.i64.wrap (x5+1)) w2/\x3 (IntKind.i64.wrap (x5+1)) w2<x3 x5 w1)))) (K (.q (-1)) w1)
theorem Dd (x0:Option Addr) (x1:Nat) (x2:Nat) (K:Value->World->Prop) (w:World) (h:Dc x0 x1 x2 K w):Calls Tryz.prog 65 #[.slice x0 x1 x2,.func (.func 66) #[] #[]] w (aG K):=
 Ag { loops:=[(26,[(8,.int .i64)])] } Tryz.func65 (by kernel_rfl) h
end Go.Proofs.YthkbhlmijkegiaaGreat
namespace Go.Ty
open Go.Vc Go.Lv
structure Ay where
 op:Int
 a:Int
 b:Int
 deriving DecidableEq,Inhabited
def Df:dd Ay:=Su (fun x=>(x.op,x.a,x.b)) (Bz (A8 .i64) (Bz (A8 .i64) (A8 .i64)))
theorem A6 {m:List Nat} {w:World} {x:Ay} {cs:List Value} (h:Df.rep m w x cs):cs=[.int .i64 x.op,.int .i64 x.a,.int .i64 x.b]:=by
 obtain⟨_,_,rfl,rfl,⟨_,_,rfl,rfl,rfl⟩⟩:=h;exact rfl
theorem Ci {m:List Nat} {w:World} (x:Ay):Df.rep m w x [.int .i64 x.op,.int .i64 x.a,.int .i64 x.b]:=⟨[.int .i64 x.op],[.int .i64 x.a,.int .i64 x.b],rfl,rfl,⟨[.int .i64 x.a],[.int .i64 x.b],rfl,rfl,rfl⟩⟩
structure Cf where
 name:List UInt8
 entry:Int
 params:Int
 vars:Int
 deriving DecidableEq,Inhabited
def Gc:dd Cf:=Su (fun x=>(x.name,x.entry,x.params,x.vars)) (Bz Yd (Bz (A8 .i64) (Bz (A8 .i64) (A8 .i64))))
theorem Bb {m:List Nat} {w:World} {x:Cf} {cs:List Value} (h:Gc.rep m w x cs):cs=[.string (bS x.name),.int .i64 x.entry,.int .i64 x.params,.int .i64 x.vars]:=by
 obtain⟨_,_,rfl,rfl,⟨_,_,rfl,rfl,⟨_,_,rfl,rfl,rfl⟩⟩⟩:=h;exact rfl
structure Bu where
 name:List UInt8
 base:Int
 size:Int
 deriving DecidableEq,Inhabited
def Dv:dd Bu:=Su (fun x=>(x.name,x.base,x.size)) (Bz Yd (Bz (A8 .i64) (A8 .i64)))
theorem F3 {m:List Nat} {w:World} {x:Bu} {cs:List Value} (h:Dv.rep m w x cs):cs=[.string (bS x.name),.int .i64 x.base,.int .i64 x.size]:=by
 obtain⟨_,_,rfl,rfl,⟨_,_,rfl,rfl,rfl⟩⟩:=h;exact rfl
theorem Ate {m:List Nat} {w:World} (x:Bu):Dv.rep m w x [.string (bS x.name),.int .i64 x.base,.int .i64 x.size]:=⟨[.string (bS x.name)],[.int .i64 x.base,.int .i64 x.size],rfl,rfl,⟨[.int .i64 x.base],[.int .i64 x.size],rfl,rfl,rfl⟩⟩
structure Ah where
 ins:List Ay
 defs:List Cf
 af:List Bu
 main:Int
 stmts:Int
 deriving DecidableEq,Inhabited
def Bv:dd Ah:=Su (fun x=>(x.ins,x.defs,x.af,x.main,x.stmts)) (Bz (oE Df) (Bz (oE Gc) (Bz (oE Dv) (Bz (A8 .i64) (A8 .i64)))))
theorem A5 {m:List Nat} {w:World} {x:Ah} {cs:List Value} (h:Bv.rep m w x cs):∃(a0:Option Addr) (c0:Nat) (a1:Option Addr) (c1:Nat) (a2:Option Addr) (c2:Nat),cs=[.slice a0 x.ins.length c0,.slice a1 x.defs.length c1,.slice a2 x.af.length c2,.int .i64 x.main,.int .i64 x.stmts]/\(x.ins.length<=c0/\aW Df m w a0 x.ins)/\(x.defs.length<=c1/\aW Gc m w a1 x.defs)/\(x.af.length<=c2/\aW Dv m w a2 x.af):=by
 obtain⟨_,_,rfl,⟨a0,c0,rfl,p0,q0⟩,⟨_,_,rfl,⟨a1,c1,rfl,p1,q1⟩,⟨_,_,rfl,⟨a2,c2,rfl,p2,q2⟩,⟨_,_,rfl,rfl,rfl⟩⟩⟩⟩:=h;exact⟨a0,c0,a1,c1,a2,c2,rfl,⟨p0,q0⟩,⟨p1,q1⟩,⟨p2,q2⟩⟩
theorem Az {m:List Nat} {w:World} (x:Ah) {a0:Option Addr} {c0:Nat} {a1:Option Addr} {c1:Nat} {a2:Option Addr} {c2:Nat} (h0:(x.ins.length<=c0/\aW Df m w a0 x.ins)) (h1:(x.defs.length<=c1/\aW Gc m w a1 x.defs)) (h2:(x.af.length<=c2/\aW Dv m w a2 x.af)):Bv.rep m w x [.slice a0 x.ins.length c0,.slice a1 x.defs.length c1,.slice a2 x.af.length c2,.int .i64 x.main,.int .i64 x.stmts]:=⟨[.slice a0 x.ins.length c0],[.slice a1 x.defs.length c1,.slice a2 x.af.length c2,.int .i64 x.main,.int .i64 x.stmts],rfl,⟨_,_,rfl,h0.1,h0.2⟩,⟨[.slice a1 x.defs.length c1],[.slice a2 x.af.length c2,.int .i64 x.main,.int .i64 x.stmts],rfl,⟨_,_,rfl,h1.1,h1.2⟩,⟨[.slice a2 x.af.length c2],[.int .i64 x.main,.int .i64 x.stmts],rfl,⟨_,_,rfl,h2.1,h2.2⟩,⟨[.int .i64 x.main],[.int .i64 x.stmts],rfl,rfl,rfl⟩⟩⟩⟩
structure F4 where
 kind:Int
 chan:Int
 val:Int
 slot:Int
 goto:Int
 deriving DecidableEq,Inhabited
def Mb:dd F4:=Su (fun x=>(x.kind,x.chan,x.val,x.slot,x.goto)) (Bz (A8 .i64) (Bz (A8 .i64) (Bz (A8 .i64) (Bz (A8 .i64) (A8 .i64)))))
theorem Ji {m:List Nat} {w:World} {x:F4} {cs:List Value} (h:Mb.rep m w x cs):cs=[.int .i64 x.kind,.int .i64 x.chan,.int .i64 x.val,.int .i64 x.slot,.int .i64 x.goto]:=by
 obtain⟨_,_,rfl,rfl,⟨_,_,rfl,rfl,⟨_,_,rfl,rfl,⟨_,_,rfl,rfl,rfl⟩⟩⟩⟩:=h;exact rfl
structure Aj where
 bp:Int
 at_:Int
 vars:List Int
 fuel:Int
 mode:Int
 chan:Int
 val:Int
 slot:Int
 bR:Int
 since:Int
 alts:List F4
 deriving DecidableEq,Inhabited
def Bp:dd Aj:=Su (fun x=>(x.bp,x.at_,x.vars,x.fuel,x.mode,x.chan,x.val,x.slot,x.bR,x.since,x.alts)) (Bz (A8 .i64) (Bz (A8 .i64) (Bz (oE (A8 .i64)) (Bz (A8 .i64) (Bz (A8 .i64) (Bz (A8 .i64) (Bz (A8 .i64) (Bz (A8 .i64) (Bz (A8 .i64) (Bz (A8 .i64) (oE Mb)))))))))))
theorem A1 {m:List Nat} {w:World} {x:Aj} {cs:List Value} (h:Bp.rep m w x cs):∃(a2:Option Addr) (c2:Nat) (ez:Option Addr) (eA:Nat),cs=[.int .i64 x.bp,.int .i64 x.at_,.slice a2 x.vars.length c2,.int .i64 x.fuel,.int .i64 x.mode,.int .i64 x.chan,.int .i64 x.val,.int .i64 x.slot,.int .i64 x.bR,.int .i64 x.since,.slice ez x.alts.length eA]/\(x.vars.length<=c2/\aW (A8 .i64) m w a2 x.vars)/\(x.alts.length<=eA/\aW Mb m w ez x.alts):=by
 obtain⟨_,_,rfl,rfl,⟨_,_,rfl,rfl,⟨_,_,rfl,⟨a0,c0,rfl,p0,q0⟩,⟨_,_,rfl,rfl,⟨_,_,rfl,rfl,⟨_,_,rfl,rfl,⟨_,_,rfl,rfl,⟨_,_,rfl,rfl,⟨_,_,rfl,rfl,⟨_,_,rfl,rfl,⟨a1,c1,rfl,p1,q1⟩⟩⟩⟩⟩⟩⟩⟩⟩⟩⟩:=h;exact⟨a0,c0,a1,c1,rfl,⟨p0,q0⟩,⟨p1,q1⟩⟩
theorem Bq {m:List Nat} {w:World} (x:Aj) {a2:Option Addr} {c2:Nat} {ez:Option Addr} {eA:Nat} (h0:(x.vars.length<=c2/\aW (A8 .i64) m w a2 x.vars)) (h1:(x.alts.length<=eA/\aW Mb m w ez x.alts)):Bp.rep m w x [.int .i64 x.bp,.int .i64 x.at_,.slice a2 x.vars.length c2,.int .i64 x.fuel,.int .i64 x.mode,.int .i64 x.chan,.int .i64 x.val,.int .i64 x.slot,.int .i64 x.bR,.int .i64 x.since,.slice ez x.alts.length eA]:=⟨[.int .i64 x.bp],[.int .i64 x.at_,.slice a2 x.vars.length c2,.int .i64 x.fuel,.int .i64 x.mode,.int .i64 x.chan,.int .i64 x.val,.int .i64 x.slot,.int .i64 x.bR,.int .i64 x.since,.slice ez x.alts.length eA],rfl,rfl,⟨[.int .i64 x.at_],[.slice a2 x.vars.length c2,.int .i64 x.fuel,.int .i64 x.mode,.int .i64 x.chan,.int .i64 x.val,.int .i64 x.slot,.int .i64 x.bR,.int .i64 x.since,.slice ez x.alts.length eA],rfl,rfl,⟨[.slice a2 x.vars.length c2],[.int .i64 x.fuel,.int .i64 x.mode,.int .i64 x.chan,.int .i64 x.val,.int .i64 x.slot,.int .i64 x.bR,.int .i64 x.since,.slice ez x.alts.length eA],rfl,⟨_,_,rfl,h0.1,h0.2⟩,⟨[.int .i64 x.fuel],[.int .i64 x.mode,.int .i64 x.chan,.int .i64 x.val,.int .i64 x.slot,.int .i64 x.bR,.int .i64 x.since,.slice ez x.alts.length eA],rfl,rfl,⟨[.int .i64 x.mode],[.int .i64 x.chan,.int .i64 x.val,.int .i64 x.slot,.int .i64 x.bR,.int .i64 x.since,.slice ez x.alts.length eA],rfl,rfl,⟨[.int .i64 x.chan],[.int .i64 x.val,.int .i64 x.slot,.int .i64 x.bR,.int .i64 x.since,.slice ez x.alts.length eA],rfl,rfl,⟨[.int .i64 x.val],[.int .i64 x.slot,.int .i64 x.bR,.int .i64 x.since,.slice ez x.alts.length eA],rfl,rfl,⟨[.int .i64 x.slot],[.int .i64 x.bR,.int .i64 x.since,.slice ez x.alts.length eA],rfl,rfl,⟨[.int .i64 x.bR],[.int .i64 x.since,.slice ez x.alts.length eA],rfl,rfl,⟨[.int .i64 x.since],[.slice ez x.alts.length eA],rfl,rfl,⟨_,_,rfl,h1.1,h1.2⟩⟩⟩⟩⟩⟩⟩⟩⟩⟩⟩
structure Ar where
 now:Int
 since:Int
 halt:Int
 fault:Int
 who:Int
 procs:List Aj
 out:List Int
 deriving DecidableEq,Inhabited
def Dt:dd Ar:=Su (fun x=>(x.now,x.since,x.halt,x.fault,x.who,x.procs,x.out)) (Bz (A8 .i64) (Bz (A8 .i64) (Bz (A8 .i64) (Bz (A8 .i64) (Bz (A8 .i64) (Bz (oE Bp) (oE (A8 .i64))))))))
theorem Bk {m:List Nat} {w:World} {x:Ar} {cs:List Value} (h:Dt.rep m w x cs):∃(a5:Option Addr) (c5:Nat) (a6:Option Addr) (c6:Nat),cs=[.int .i64 x.now,.int .i64 x.since,.int .i64 x.halt,.int .i64 x.fault,.int .i64 x.who,.slice a5 x.procs.length c5,.slice a6 x.out.length c6]/\(x.procs.length<=c5/\aW Bp m w a5 x.procs)/\(x.out.length<=c6/\aW (A8 .i64) m w a6 x.out):=by
 obtain⟨_,_,rfl,rfl,⟨_,_,rfl,rfl,⟨_,_,rfl,rfl,⟨_,_,rfl,rfl,⟨_,_,rfl,rfl,⟨_,_,rfl,⟨a0,c0,rfl,p0,q0⟩,⟨a1,c1,rfl,p1,q1⟩⟩⟩⟩⟩⟩⟩:=h;exact⟨a0,c0,a1,c1,rfl,⟨p0,q0⟩,⟨p1,q1⟩⟩
theorem Cb {m:List Nat} {w:World} (x:Ar) {a5:Option Addr} {c5:Nat} {a6:Option Addr} {c6:Nat} (h0:(x.procs.length<=c5/\aW Bp m w a5 x.procs)) (h1:(x.out.length<=c6/\aW (A8 .i64) m w a6 x.out)):Dt.rep m w x [.int .i64 x.now,.int .i64 x.since,.int .i64 x.halt,.int .i64 x.fault,.int .i64 x.who,.slice a5 x.procs.length c5,.slice a6 x.out.length c6]:=⟨[.int .i64 x.now],[.int .i64 x.since,.int .i64 x.halt,.int .i64 x.fault,.int .i64 x.who,.slice a5 x.procs.length c5,.slice a6 x.out.length c6],rfl,rfl,⟨[.int .i64 x.since],[.int .i64 x.halt,.int .i64 x.fault,.int .i64 x.who,.slice a5 x.procs.length c5,.slice a6 x.out.length c6],rfl,rfl,⟨[.int .i64 x.halt],[.int .i64 x.fault,.int .i64 x.who,.slice a5 x.procs.length c5,.slice a6 x.out.length c6],rfl,rfl,⟨[.int .i64 x.fault],[.int .i64 x.who,.slice a5 x.procs.length c5,.slice a6 x.out.length c6],rfl,rfl,⟨[.int .i64 x.who],[.slice a5 x.procs.length c5,.slice a6 x.out.length c6],rfl,rfl,⟨[.slice a5 x.procs.length c5],[.slice a6 x.out.length c6],rfl,⟨_,_,rfl,h0.1,h0.2⟩,⟨_,_,rfl,h1.1,h1.2⟩⟩⟩⟩⟩⟩⟩
structure Bf where
 x0:Int
 x1:Int
 deriving DecidableEq,Inhabited
def Sz:dd Bf:=Su (fun x=>(x.x0,x.x1)) (Bz (A8 .i64) (A8 .i64))
theorem Mu {m:List Nat} {w:World} {x:Bf} {cs:List Value} (h:Sz.rep m w x cs):cs=[.int .i64 x.x0,.int .i64 x.x1]:=by
 obtain⟨_,_,rfl,rfl,rfl⟩:=h;exact rfl
theorem Ht {m:List Nat} {w:World} (x:Bf):Sz.rep m w x [.int .i64 x.x0,.int .i64 x.x1]:=⟨[.int .i64 x.x0],[.int .i64 x.x1],rfl,rfl,rfl⟩
structure Ap where
 jh:Bool
 n:Int
 choose:Bool
 deriving DecidableEq,Inhabited
def Dg:dd Ap:=Su (fun x=>(x.jh,x.n,x.choose)) (Bz xO (Bz (A8 .i64) xO))
theorem Dh {m:List Nat} {w:World} {x:Ap} {cs:List Value} (h:Dg.rep m w x cs):cs=[.bool x.jh,.int .i64 x.n,.bool x.choose]:=by
 obtain⟨_,_,rfl,rfl,⟨_,_,rfl,rfl,rfl⟩⟩:=h;exact rfl
theorem G0 {m:List Nat} {w:World} (x:Ap):Dg.rep m w x [.bool x.jh,.int .i64 x.n,.bool x.choose]:=⟨[.bool x.jh],[.int .i64 x.n,.bool x.choose],rfl,rfl,⟨[.int .i64 x.n],[.bool x.choose],rfl,rfl,rfl⟩⟩
structure Du where
 at_:Int
 ok:Bool
 deriving DecidableEq,Inhabited
def S0:dd Du:=Su (fun x=>(x.at_,x.ok)) (Bz (A8 .i64) xO)
theorem Adw {m:List Nat} {w:World} {x:Du} {cs:List Value} (h:S0.rep m w x cs):cs=[.int .i64 x.at_,.bool x.ok]:=by
 obtain⟨_,_,rfl,rfl,rfl⟩:=h;exact rfl
theorem Um {m:List Nat} {w:World} (x:Du):S0.rep m w x [.int .i64 x.at_,.bool x.ok]:=⟨[.int .i64 x.at_],[.bool x.ok],rfl,rfl,rfl⟩
structure Ej where
 p:Aj
 e_:Int
 deriving DecidableEq,Inhabited
def V9:dd Ej:=Su (fun x=>(x.p,x.e_)) (Bz Bp (A8 .i64))
theorem Ain {m:List Nat} {w:World} {x:Ej} {cs:List Value} (h:V9.rep m w x cs):∃(a2:Option Addr) (c2:Nat) (ez:Option Addr) (eA:Nat),cs=[.int .i64 x.p.bp,.int .i64 x.p.at_,.slice a2 x.p.vars.length c2,.int .i64 x.p.fuel,.int .i64 x.p.mode,.int .i64 x.p.chan,.int .i64 x.p.val,.int .i64 x.p.slot,.int .i64 x.p.bR,.int .i64 x.p.since,.slice ez x.p.alts.length eA,.int .i64 x.e_]/\(x.p.vars.length<=c2/\aW (A8 .i64) m w a2 x.p.vars)/\(x.p.alts.length<=eA/\aW Mb m w ez x.p.alts):=by
 obtain⟨_,_,rfl,⟨_,_,rfl,rfl,⟨_,_,rfl,rfl,⟨_,_,rfl,⟨a0,c0,rfl,p0,q0⟩,⟨_,_,rfl,rfl,⟨_,_,rfl,rfl,⟨_,_,rfl,rfl,⟨_,_,rfl,rfl,⟨_,_,rfl,rfl,⟨_,_,rfl,rfl,⟨_,_,rfl,rfl,⟨a1,c1,rfl,p1,q1⟩⟩⟩⟩⟩⟩⟩⟩⟩⟩⟩,rfl⟩:=h;exact⟨a0,c0,a1,c1,rfl,⟨p0,q0⟩,⟨p1,q1⟩⟩
theorem Xl {m:List Nat} {w:World} (x:Ej) {a2:Option Addr} {c2:Nat} {ez:Option Addr} {eA:Nat} (h0:(x.p.vars.length<=c2/\aW (A8 .i64) m w a2 x.p.vars)) (h1:(x.p.alts.length<=eA/\aW Mb m w ez x.p.alts)):V9.rep m w x [.int .i64 x.p.bp,.int .i64 x.p.at_,.slice a2 x.p.vars.length c2,.int .i64 x.p.fuel,.int .i64 x.p.mode,.int .i64 x.p.chan,.int .i64 x.p.val,.int .i64 x.p.slot,.int .i64 x.p.bR,.int .i64 x.p.since,.slice ez x.p.alts.length eA,.int .i64 x.e_]:=⟨[.int .i64 x.p.bp,.int .i64 x.p.at_,.slice a2 x.p.vars.length c2,.int .i64 x.p.fuel,.int .i64 x.p.mode,.int .i64 x.p.chan,.int .i64 x.p.val,.int .i64 x.p.slot,.int .i64 x.p.bR,.int .i64 x.p.since,.slice ez x.p.alts.length eA],[.int .i64 x.e_],rfl,⟨[.int .i64 x.p.bp],[.int .i64 x.p.at_,.slice a2 x.p.vars.length c2,.int .i64 x.p.fuel,.int .i64 x.p.mode,.int .i64 x.p.chan,.int .i64 x.p.val,.int .i64 x.p.slot,.int .i64 x.p.bR,.int .i64 x.p.since,.slice ez x.p.alts.length eA],rfl,rfl,⟨[.int .i64 x.p.at_],[.slice a2 x.p.vars.length c2,.int .i64 x.p.fuel,.int .i64 x.p.mode,.int .i64 x.p.chan,.int .i64 x.p.val,.int .i64 x.p.slot,.int .i64 x.p.bR,.int .i64 x.p.since,.slice ez x.p.alts.length eA],rfl,rfl,⟨[.slice a2 x.p.vars.length c2],[.int .i64 x.p.fuel,.int .i64 x.p.mode,.int .i64 x.p.chan,.int .i64 x.p.val,.int .i64 x.p.slot,.int .i64 x.p.bR,.int .i64 x.p.since,.slice ez x.p.alts.length eA],rfl,⟨_,_,rfl,h0.1,h0.2⟩,⟨[.int .i64 x.p.fuel],[.int .i64 x.p.mode,.int .i64 x.p.chan,.int .i64 x.p.val,.int .i64 x.p.slot,.int .i64 x.p.bR,.int .i64 x.p.since,.slice ez x.p.alts.length eA],rfl,rfl,⟨[.int .i64 x.p.mode],[.int .i64 x.p.chan,.int .i64 x.p.val,.int .i64 x.p.slot,.int .i64 x.p.bR,.int .i64 x.p.since,.slice ez x.p.alts.length eA],rfl,rfl,⟨[.int .i64 x.p.chan],[.int .i64 x.p.val,.int .i64 x.p.slot,.int .i64 x.p.bR,.int .i64 x.p.since,.slice ez x.p.alts.length eA],rfl,rfl,⟨[.int .i64 x.p.val],[.int .i64 x.p.slot,.int .i64 x.p.bR,.int .i64 x.p.since,.slice ez x.p.alts.length eA],rfl,rfl,⟨[.int .i64 x.p.slot],[.int .i64 x.p.bR,.int .i64 x.p.since,.slice ez x.p.alts.length eA],rfl,rfl,⟨[.int .i64 x.p.bR],[.int .i64 x.p.since,.slice ez x.p.alts.length eA],rfl,rfl,⟨[.int .i64 x.p.since],[.slice ez x.p.alts.length eA],rfl,rfl,⟨_,_,rfl,h1.1,h1.2⟩⟩⟩⟩⟩⟩⟩⟩⟩⟩⟩,rfl⟩
structure A9 where
 c:Ah
 fuel:Int
 deriving DecidableEq,Inhabited
def B8:dd A9:=Su (fun x=>(x.c,x.fuel)) (Bz Bv (A8 .i64))
theorem Ek {m:List Nat} {w:World} {x:A9} {cs:List Value} (h:B8.rep m w x cs):∃(a0:Option Addr) (c0:Nat) (a1:Option Addr) (c1:Nat) (a2:Option Addr) (c2:Nat),cs=[.slice a0 x.c.ins.length c0,.slice a1 x.c.defs.length c1,.slice a2 x.c.af.length c2,.int .i64 x.c.main,.int .i64 x.c.stmts,.int .i64 x.fuel]/\(x.c.ins.length<=c0/\aW Df m w a0 x.c.ins)/\(x.c.defs.length<=c1/\aW Gc m w a1 x.c.defs)/\(x.c.af.length<=c2/\aW Dv m w a2 x.c.af):=by
 obtain⟨_,_,rfl,⟨_,_,rfl,⟨a0,c0,rfl,p0,q0⟩,⟨_,_,rfl,⟨a1,c1,rfl,p1,q1⟩,⟨_,_,rfl,⟨a2,c2,rfl,p2,q2⟩,⟨_,_,rfl,rfl,rfl⟩⟩⟩⟩,rfl⟩:=h;exact⟨a0,c0,a1,c1,a2,c2,rfl,⟨p0,q0⟩,⟨p1,q1⟩,⟨p2,q2⟩⟩
theorem Jz {m:List Nat} {w:World} (x:A9) {a0:Option Addr} {c0:Nat} {a1:Option Addr} {c1:Nat} {a2:Option Addr} {c2:Nat} (h0:(x.c.ins.length<=c0/\aW Df m w a0 x.c.ins)) (h1:(x.c.defs.length<=c1/\aW Gc m w a1 x.c.defs)) (h2:(x.c.af.length<=c2/\aW Dv m w a2 x.c.af)):B8.rep m w x [.slice a0 x.c.ins.length c0,.slice a1 x.c.defs.length c1,.slice a2 x.c.af.length c2,.int .i64 x.c.main,.int .i64 x.c.stmts,.int .i64 x.fuel]:=⟨[.slice a0 x.c.ins.length c0,.slice a1 x.c.defs.length c1,.slice a2 x.c.af.length c2,.int .i64 x.c.main,.int .i64 x.c.stmts],[.int .i64 x.fuel],rfl,⟨[.slice a0 x.c.ins.length c0],[.slice a1 x.c.defs.length c1,.slice a2 x.c.af.length c2,.int .i64 x.c.main,.int .i64 x.c.stmts],rfl,⟨_,_,rfl,h0.1,h0.2⟩,⟨[.slice a1 x.c.defs.length c1],[.slice a2 x.c.af.length c2,.int .i64 x.c.main,.int .i64 x.c.stmts],rfl,⟨_,_,rfl,h1.1,h1.2⟩,⟨[.slice a2 x.c.af.length c2],[.int .i64 x.c.main,.int .i64 x.c.stmts],rfl,⟨_,_,rfl,h2.1,h2.2⟩,⟨[.int .i64 x.c.main],[.int .i64 x.c.stmts],rfl,rfl,rfl⟩⟩⟩⟩,rfl⟩
structure An where
 code:Ah
 marks:Int
 from_:Int
 to:Int
 vars:Int
 deriving DecidableEq,Inhabited
def Di:dd An:=Su (fun x=>(x.code,x.marks,x.from_,x.to,x.vars)) (Bz Bv (Bz (A8 .i64) (Bz (A8 .i64) (Bz (A8 .i64) (A8 .i64)))))
theorem Cj {m:List Nat} {w:World} {x:An} {cs:List Value} (h:Di.rep m w x cs):∃(a0:Option Addr) (c0:Nat) (a1:Option Addr) (c1:Nat) (a2:Option Addr) (c2:Nat),cs=[.slice a0 x.code.ins.length c0,.slice a1 x.code.defs.length c1,.slice a2 x.code.af.length c2,.int .i64 x.code.main,.int .i64 x.code.stmts,.int .i64 x.marks,.int .i64 x.from_,.int .i64 x.to,.int .i64 x.vars]/\(x.code.ins.length<=c0/\aW Df m w a0 x.code.ins)/\(x.code.defs.length<=c1/\aW Gc m w a1 x.code.defs)/\(x.code.af.length<=c2/\aW Dv m w a2 x.code.af):=by
 obtain⟨_,_,rfl,⟨_,_,rfl,⟨a0,c0,rfl,p0,q0⟩,⟨_,_,rfl,⟨a1,c1,rfl,p1,q1⟩,⟨_,_,rfl,⟨a2,c2,rfl,p2,q2⟩,⟨_,_,rfl,rfl,rfl⟩⟩⟩⟩,⟨_,_,rfl,rfl,⟨_,_,rfl,rfl,⟨_,_,rfl,rfl,rfl⟩⟩⟩⟩:=h;exact⟨a0,c0,a1,c1,a2,c2,rfl,⟨p0,q0⟩,⟨p1,q1⟩,⟨p2,q2⟩⟩
theorem Bt {m:List Nat} {w:World} (x:An) {a0:Option Addr} {c0:Nat} {a1:Option Addr} {c1:Nat} {a2:Option Addr} {c2:Nat} (h0:(x.code.ins.length<=c0/\aW Df m w a0 x.code.ins)) (h1:(x.code.defs.length<=c1/\aW Gc m w a1 x.code.defs)) (h2:(x.code.af.length<=c2/\aW Dv m w a2 x.code.af)):Di.rep m w x [.slice a0 x.code.ins.length c0,.slice a1 x.code.defs.length c1,.slice a2 x.code.af.length c2,.int .i64 x.code.main,.int .i64 x.code.stmts,.int .i64 x.marks,.int .i64 x.from_,.int .i64 x.to,.int .i64 x.vars]:=⟨[.slice a0 x.code.ins.length c0,.slice a1 x.code.defs.length c1,.slice a2 x.code.af.length c2,.int .i64 x.code.main,.int .i64 x.code.stmts],[.int .i64 x.marks,.int .i64 x.from_,.int .i64 x.to,.int .i64 x.vars],rfl,⟨[.slice a0 x.code.ins.length c0],[.slice a1 x.code.defs.length c1,.slice a2 x.code.af.length c2,.int .i64 x.code.main,.int .i64 x.code.stmts],rfl,⟨_,_,rfl,h0.1,h0.2⟩,⟨[.slice a1 x.code.defs.length c1],[.slice a2 x.code.af.length c2,.int .i64 x.code.main,.int .i64 x.code.stmts],rfl,⟨_,_,rfl,h1.1,h1.2⟩,⟨[.slice a2 x.code.af.length c2],[.int .i64 x.code.main,.int .i64 x.code.stmts],rfl,⟨_,_,rfl,h2.1,h2.2⟩,⟨[.int .i64 x.code.main],[.int .i64 x.code.stmts],rfl,rfl,rfl⟩⟩⟩⟩,⟨[.int .i64 x.marks],[.int .i64 x.from_,.int .i64 x.to,.int .i64 x.vars],rfl,rfl,⟨[.int .i64 x.from_],[.int .i64 x.to,.int .i64 x.vars],rfl,rfl,⟨[.int .i64 x.to],[.int .i64 x.vars],rfl,rfl,rfl⟩⟩⟩⟩
structure By where
 n:Int
 choose:Bool
 deriving DecidableEq,Inhabited
def Ki:dd By:=Su (fun x=>(x.n,x.choose)) (Bz (A8 .i64) xO)
theorem Pb {m:List Nat} {w:World} {x:By} {cs:List Value} (h:Ki.rep m w x cs):cs=[.int .i64 x.n,.bool x.choose]:=by
 obtain⟨_,_,rfl,rfl,rfl⟩:=h;exact rfl
theorem Qc {m:List Nat} {w:World} (x:By):Ki.rep m w x [.int .i64 x.n,.bool x.choose]:=⟨[.int .i64 x.n],[.bool x.choose],rfl,rfl,rfl⟩
structure Ao where
 word:List UInt8
 Nk:Int
 kJ:Int
 gives:Int
 deriving DecidableEq,Inhabited
def Wa:dd Ao:=Su (fun x=>(x.word,x.Nk,x.kJ,x.gives)) (Bz Yd (Bz (A8 .i64) (Bz (A8 .i64) (A8 .i64))))
theorem Og {m:List Nat} {w:World} {x:Ao} {cs:List Value} (h:Wa.rep m w x cs):cs=[.string (bS x.word),.int .i64 x.Nk,.int .i64 x.kJ,.int .i64 x.gives]:=by
 obtain⟨_,_,rfl,rfl,⟨_,_,rfl,rfl,⟨_,_,rfl,rfl,rfl⟩⟩⟩:=h;exact rfl
theorem Xm {m:List Nat} {w:World} (x:Ao):Wa.rep m w x [.string (bS x.word),.int .i64 x.Nk,.int .i64 x.kJ,.int .i64 x.gives]:=⟨[.string (bS x.word)],[.int .i64 x.Nk,.int .i64 x.kJ,.int .i64 x.gives],rfl,rfl,⟨[.int .i64 x.Nk],[.int .i64 x.kJ,.int .i64 x.gives],rfl,rfl,⟨[.int .i64 x.kJ],[.int .i64 x.gives],rfl,rfl,rfl⟩⟩⟩
end Go.Ty
namespace Go.Proofs.YthkbhlmijkegiaaGreat
open Go.Vc Go.Lv Go.Ty
theorem Bam:oC Tryz.prog 22 95 3 24:=⟨Tryz.t95,.agg #[.int .i64 0,.int .i64 0,.int .i64 0],by kernel_rfl,by kernel_rfl,by kernel_rfl,by kernel_rfl,by kernel_rfl,by kernel_rfl,by decide⟩
theorem Ban:oC Tryz.prog 23 97 4 40:=⟨Tryz.t97,.agg #[.string (bS []),.int .i64 0,.int .i64 0,.int .i64 0],by kernel_rfl,by kernel_rfl,by kernel_rfl,by kernel_rfl,by kernel_rfl,by kernel_rfl,by decide⟩
theorem Bao:oC Tryz.prog 24 99 3 32:=⟨Tryz.t99,.agg #[.string (bS []),.int .i64 0,.int .i64 0],by kernel_rfl,by kernel_rfl,by kernel_rfl,by kernel_rfl,by kernel_rfl,by kernel_rfl,by decide⟩
theorem Wb:oC Tryz.prog 28 3 1 8:=⟨Tryz.t3,.int .i64 0,by kernel_rfl,by kernel_rfl,by kernel_rfl,by kernel_rfl,by kernel_rfl,by kernel_rfl,by decide⟩
theorem Atf:∀i,Tryz.prog.info? 159=some i->i.zero=some (.agg #[.bool false,.int .i64 0,.bool false]):=fun i hi=>by
 have h1:Tryz.prog.info? 159=some Tryz.t159:=by kernel_rfl
 rw [h1]at hi;have h2:Tryz.t159.zero=some (.agg #[.bool false,.int .i64 0,.bool false]):=by kernel_rfl
 exact Option.some.inj hi▸h2
theorem JB:oC Tryz.prog 102 159 3 24:=⟨Tryz.t159,.agg #[.bool false,.int .i64 0,.bool false],by kernel_rfl,by kernel_rfl,by kernel_rfl,by kernel_rfl,by kernel_rfl,by kernel_rfl,by decide⟩
def Nn:Prop:=∀(w:World),Au 227 #[] w (fun v w'=>v= .agg ⟨[.s [],.q 0,.q 0,.q 0,.s [109,97,114,107],.q 1,.q 0,.q 0,.s [112,117,115,104],.q 1,.q 0,.q 1,.s [108,111,97,100],.q 1,.q 0,.q 1,.s [115,116,111,114,101],.q 1,.q 1,.q 0,.s [97,112,112,108,121],.q 1,.q 0,.q 1,.s [106,117,109,112],.q 1,.q 0,.q 0,.s [122,101,114,111],.q 1,.q 1,.q 0,.s [111,110,101],.q 1,.q 1,.q 0,.s [99,104,97,110],.q 2,.q 0,.q 1,.s [115,101,110,100],.q 0,.q 2,.q 0,.s [114,101,99,118],.q 1,.q 1,.q 0,.s [100,114,97,119],.q 1,.q 1,.q 0,.s [115,108,101,101,112],.q 0,.q 1,.q 0,.s [115,116,97,114,116],.q 2,.q 0,.q 0,.s [112,114,105,110,116],.q 0,.q 1,.q 0,.s [97,115,115,101,114,116],.q 0,.q 1,.q 0,.s [115,107,105,112],.q 0,.q 0,.q 0,.s [115,116,111,112],.q 0,.q 0,.q 0,.s [111,110,114,101,99,118],.q 2,.q 1,.q 0,.s [111,110,115,101,110,100],.q 1,.q 2,.q 0,.s [97,102,116,101,114],.q 1,.q 1,.q 0,.s [101,108,115,101],.q 1,.q 0,.q 0,.s [115,101,108,101,99,116],.q 0,.q 0,.q 0,.s [101,110,100],.q 0,.q 0,.q 0,.s [99,104,111,111,115,101],.q 0,.q 0,.q 0]⟩/\Ai [] w w')
def Xn (cq:Ah) (sx:Ar) (K:Bool->Prop):Prop:=∀(m:List Nat) (w:World),bB m w->∀(bN:List Value),Bv.rep m w cq bN->∀(fx:List Value),Dt.rep m w sx fx->Au 5 #[.agg ⟨bN⟩,.agg ⟨fx⟩] w (fun v w'=>∃(r0:Bool),K r0/\(v= .bool r0)/\Ai [] w w')
def Xo (cq:Ah) (K:Bf->Prop):Prop:=∀(m:List Nat) (w:World),bB m w->∀(bN:List Value),Bv.rep m w cq bN->Au 19 #[.agg ⟨bN⟩] w (fun v w'=>∃(r0:Bf),K r0/\(∃(c_:List Value),v= .agg ⟨c_⟩/\Sz.rep m w' r0 c_)/\Ai [] w w')
def Oh (cq:Ah) (K:Bool->Prop):Prop:=∀(m:List Nat) (w:World),bB m w->∀(bN:List Value),Bv.rep m w cq bN->Au 43 #[.agg ⟨bN⟩] w (fun v w'=>∃(r0:Bool),K r0/\(v= .bool r0)/\Ai [] w w')
def Np (cq:Ah) (r:Int) (K:Int->Prop):Prop:=∀(m:List Nat) (w:World),bB m w->∀(bN:List Value),Bv.rep m w cq bN->Au 44 #[.agg ⟨bN⟩,.q r] w (fun v w'=>∃(r0:Int),K r0/\(v= .q r0)/\Ai [] w w')
def Wc (cq:Ah) (r:Int) (au:Int) (marks:Int) (K:Bool->Prop):Prop:=∀(m:List Nat) (w:World),bB m w->∀(bN:List Value),Bv.rep m w cq bN->Au 45 #[.agg ⟨bN⟩,.q r,.q au,.q marks] w (fun v w'=>∃(r0:Bool),K r0/\(v= .bool r0)/\Ai [] w w')
def S3 (cq:Ah) (r:Int) (K:(List Ap)->Int->Prop):Prop:=∀(m:List Nat) (w:World),bB m w->∀(bN:List Value),Bv.rep m w cq bN->Au 46 #[.agg ⟨bN⟩,.q r] w (fun v w'=>∃(r0:List Ap) (r1:Int),K r0 r1/\(∃(a0:Option Addr) (c0:Nat),v= .tuple #[.slice a0 r0.length c0,.q r1]/\(r0.length<=c0/\aW Dg m w' a0 r0))/\Ai [] w w')
def Oi (sx:List UInt8) (K:Bool->Prop):Prop:=∀(m:List Nat) (w:World),bB m w->Au 87 #[.s sx] w (fun v w'=>∃(r0:Bool),K r0/\(v= .bool r0)/\Ai [] w w')
def Jj (xq:Ay) (K:Bool->Prop):Prop:=∀(m:List Nat) (w:World),bB m w->∀(eW:List Value),Df.rep m w xq eW->Au 88 #[.agg ⟨eW⟩] w (fun v w'=>∃(r0:Bool),K r0/\(v= .bool r0)/\Ai [] w w')
def Gp (cq:Ah) (base:Int) (size:Int) (K:Bool->Prop):Prop:=∀(m:List Nat) (w:World),bB m w->∀(bN:List Value),Bv.rep m w cq bN->Au 89 #[.agg ⟨bN⟩,.q base,.q size] w (fun v w'=>∃(r0:Bool),K r0/\(v= .bool r0)/\Ai [] w w')
def Kj (xq:Ay) (K:Int->Bool->Prop):Prop:=∀(m:List Nat) (w:World),bB m w->∀(eW:List Value),Df.rep m w xq eW->Au 90 #[.agg ⟨eW⟩] w (fun v w'=>∃(r0:Int) (r1:Bool),K r0 r1/\(v= .tuple #[.q r0,.bool r1])/\Ai [] w w')
def En (op:Int) (K:Bool->Prop):Prop:=∀(m:List Nat) (w:World),bB m w->Au 91 #[.q op] w (fun v w'=>∃(r0:Bool),K r0/\(v= .bool r0)/\Ai [] w w')
def Hd (cq:Ah) (r:Int) (au:Int) (K:Bool->Prop):Prop:=∀(m:List Nat) (w:World),bB m w->∀(bN:List Value),Bv.rep m w cq bN->Au 92 #[.agg ⟨bN⟩,.q r,.q au] w (fun v w'=>∃(r0:Bool),K r0/\(v= .bool r0)/\Ai [] w w')
def Oj (op:Int) (K:Bool->Prop):Prop:=∀(m:List Nat) (w:World),bB m w->Au 93 #[.q op] w (fun v w'=>∃(r0:Bool),K r0/\(v= .bool r0)/\Ai [] w w')
def S5 (xq:Ay) (t:Ap) (K:Bool->Prop):Prop:=∀(m:List Nat) (w:World),bB m w->∀(eW:List Value),Df.rep m w xq eW->∀(k9:List Value),Dg.rep m w t k9->Au 94 #[.agg ⟨eW⟩,.agg ⟨k9⟩] w (fun v w'=>∃(r0:Bool),K r0/\(v= .bool r0)/\Ai [] w w')
def Mc (xq:Ay) (K:Int->Prop):Prop:=∀(m:List Nat) (w:World),bB m w->∀(eW:List Value),Df.rep m w xq eW->Au 95 #[.agg ⟨eW⟩] w (fun v w'=>∃(r0:Int),K r0/\(v= .q r0)/\Ai [] w w')
def Qd (xq:Ay) (K:Int->Prop):Prop:=∀(m:List Nat) (w:World),bB m w->∀(eW:List Value),Df.rep m w xq eW->Au 96 #[.agg ⟨eW⟩] w (fun v w'=>∃(r0:Int),K r0/\(v= .q r0)/\Ai [] w w')
def Md (all:List Ap) (qJ:Int) (au:Int) (now:Ap) (K:(List Ap)->Bool->Prop):Prop:=∀(m:List Nat) (w:World),bB m w->∀(oL:Option Addr) (Mn:Nat) (vh:List Value),(∀b,Vc.bK oL=some b->b∈m)->Rw w 0 159 3 oL all.length Mn vh->El Dg m w all vh->∀(z9:List Value),Dg.rep m w now z9->Au 97 #[.slice oL all.length Mn,.q qJ,.q au,.agg ⟨z9⟩] w (fun v w'=>∃(r0:List Ap) (r1:Bool),K r0 r1/\(∃(a0:Option Addr) (c0:Nat) (sg:List Value),v= .tuple #[.slice a0 r0.length c0,.bool r1]/\(Rw w' 0 159 3 a0 r0.length c0 sg/\El Dg ((Vc.bK a0).toList++m) w' r0 sg/\(∀b,Vc.bK a0=some b->Vc.bK oL=some b\/w.heap.size<=b)))/\Ai (Vc.bK oL).toList w w')
def Xp (op:Int) (K:Int->Prop):Prop:=∀(m:List Nat) (w:World),bB m w->Au 162 #[.q op] w (fun v w'=>∃(r0:Int),K r0/\(v= .q r0)/\Ai [] w w')
def Kk (cq:Ah) (au:Int) (K:Int->Prop):Prop:=∀(m:List Nat) (w:World),bB m w->∀(bN:List Value),Bv.rep m w cq bN->Au 163 #[.agg ⟨bN⟩,.q au] w (fun v w'=>∃(r0:Int),K r0/\(v= .q r0)/\Ai [] w w')
def S6 (op:Int) (K:Int->Prop):Prop:=∀(m:List Nat) (w:World),bB m w->Au 161 #[.q op] w (fun v w'=>∃(r0:Int),K r0/\(v= .q r0)/\Ai [] w w')
def S7 (op:Int) (K:Int->Prop):Prop:=∀(m:List Nat) (w:World),bB m w->Au 164 #[.q op] w (fun v w'=>∃(r0:Int),K r0/\(v= .q r0)/\Ai [] w w')
def Ol (cq:Int) (K:Bool->Prop):Prop:=∀(m:List Nat) (w:World),bB m w->Au 157 #[.int .u8 cq] w (fun v w'=>∃(r0:Bool),K r0/\(v= .bool r0)/\Ai [] w w')
def Qe (cq:Int) (K:Bool->Prop):Prop:=∀(m:List Nat) (w:World),bB m w->Au 158 #[.int .u8 cq] w (fun v w'=>∃(r0:Bool),K r0/\(v= .bool r0)/\Ai [] w w')
def Xq (K:(List (List UInt8))->Prop):Prop:=∀(m:List Nat) (w:World),bB m w->Au 160 #[] w (fun v w'=>∃(r0:List (List UInt8)),K r0/\(∃(a0:Option Addr) (c0:Nat),v= .slice a0 r0.length c0/\r0.length<=c0/\aW Yd m w' a0 r0)/\Ai [] w w')
def z_ (l:List (List UInt8)) (sx:List UInt8) (K:Bool->Prop):Prop:=∀(m:List Nat) (w:World),bB m w->∀(lA:Option Addr) (lC:Nat),l.length<=lC->aW Yd m w lA l->Au 159 #[.slice lA l.length lC,.s sx] w (fun v w'=>∃(r0:Bool),K r0/\(v= .bool r0)/\Ai [] w w')
def Wd (p:Aj) (K:Du->Prop):Prop:=∀(m:List Nat) (w:World),bB m w->∀(er:List Value),Bp.rep m w p er->Au 31 #[.agg ⟨er⟩] w (fun v w'=>∃(r0:Du),K r0/\(∃(c_:List Value),v= .agg ⟨c_⟩/\S0.rep m w' r0 c_)/\Ai [] w w')
def Me (sx:Ar) (mode:Int) (K:Int->Prop):Prop:=∀(m:List Nat) (w:World),bB m w->∀(fx:List Value),Dt.rep m w sx fx->Au 33 #[.agg ⟨fx⟩,.q mode] w (fun v w'=>∃(r0:Int),K r0/\(v= .q r0)/\Ai [] w w')
def S8 (sx:Ar) (K:Int->Prop):Prop:=∀(m:List Nat) (w:World),bB m w->∀(fx:List Value),Dt.rep m w sx fx->Au 34 #[.agg ⟨fx⟩] w (fun v w'=>∃(r0:Int),K r0/\(v= .q r0)/\Ai [] w w')
def Qf (sx:Ar) (K:(List Int)->Prop):Prop:=∀(m:List Nat) (w:World),bB m w->∀(fx:List Value),Dt.rep m w sx fx->Au 12 #[.agg ⟨fx⟩] w (fun v w'=>∃(r0:List Int),K r0/\(∃(a0:Option Addr) (c0:Nat),v= .slice a0 r0.length c0/\r0.length<=c0/\aW (A8 .i64) m w' a0 r0)/\Ai [] w w')
def JC (aq:Ar) (bq:Ar) (K:Bool->Prop):Prop:=∀(m:List Nat) (w:World),bB m w->∀(kK:List Value),Dt.rep m w aq kK->∀(kL:List Value),Dt.rep m w bq kL->Au 15 #[.agg ⟨kK⟩,.agg ⟨kL⟩] w (fun v w'=>∃(r0:Bool),K r0/\(v= .bool r0)/\Ai [] w w')
def Om (aq:List Int) (bq:List Int) (K:Bool->Prop):Prop:=∀(m:List Nat) (w:World),bB m w->∀(oM:Option Addr) (oO:Nat),aq.length<=oO->aW (A8 .i64) m w oM aq->∀(oP:Option Addr) (oQ:Nat),bq.length<=oQ->aW (A8 .i64) m w oP bq->Au 40 #[.slice oM aq.length oO,.slice oP bq.length oQ] w (fun v w'=>∃(r0:Bool),K r0/\(v= .bool r0)/\Ai [] w w')
def S9 (aq:Aj) (bq:Aj) (K:Bool->Prop):Prop:=∀(m:List Nat) (w:World),bB m w->∀(kK:List Value),Bp.rep m w aq kK->∀(kL:List Value),Bp.rep m w bq kL->Au 41 #[.agg ⟨kK⟩,.agg ⟨kL⟩] w (fun v w'=>∃(r0:Bool),K r0/\(v= .bool r0)/\Ai [] w w')
def Xs (cq:Ah) (fuel:Int) (K:Ar->Prop):Prop:=∀(m:List Nat) (w:World),bB m w->∀(bN:List Value),Bv.rep m w cq bN->Au 20 #[.agg ⟨bN⟩,.q fuel] w (fun v w'=>∃(r0:Ar),K r0/\(∃(c_:List Value),v= .agg ⟨c_⟩/\Dt.rep m w' r0 c_)/\Ai [] w w')
def We (cq:Ah) (e8:Int) (args:List Int) (fuel:Int) (K:Ej->Prop):Prop:=∀(m:List Nat) (w:World),bB m w->∀(bN:List Value),Bv.rep m w cq bN->∀(oS:Option Addr) (oT:Nat),args.length<=oT->aW (A8 .i64) m w oS args->Au 48 #[.agg ⟨bN⟩,.q e8,.slice oS args.length oT,.q fuel] w (fun v w'=>∃(r0:Ej),K r0/\(∃(c_:List Value),v= .agg ⟨c_⟩/\V9.rep m w' r0 c_)/\Ai [] w w')
def Qg (sx:Ar) (K:Ar->Prop):Prop:=∀(m:List Nat) (w:World),bB m w->∀(fx:List Value),Dt.rep m w sx fx->Au 47 #[.agg ⟨fx⟩] w (fun v w'=>∃(r0:Ar),K r0/\(∃(c_:List Value),v= .agg ⟨c_⟩/\Dt.rep m w' r0 c_)/\Ai [] w w')
def Qh (p:Aj) (K:(List Int)->Prop):Prop:=∀(m:List Nat) (w:World),bB m w->∀(er:List Value),Bp.rep m w p er->Au 70 #[.agg ⟨er⟩] w (fun v w'=>∃(r0:List Int),K r0/\(∃(a0:Option Addr) (c0:Nat),v= .slice a0 r0.length c0/\r0.length<=c0/\aW (A8 .i64) m w' a0 r0)/\Ai [] w w')
def On (n:Int) (below:Int) (K:Bool->Prop):Prop:=∀(m:List Nat) (w:World),bB m w->Au 71 #[.q n,.q below] w (fun v w'=>∃(r0:Bool),K r0/\(v= .bool r0)/\Ai [] w w')
def Ta (aq:List F4) (bq:List F4) (K:Bool->Prop):Prop:=∀(m:List Nat) (w:World),bB m w->∀(oM:Option Addr) (oO:Nat),aq.length<=oO->aW Mb m w oM aq->∀(oP:Option Addr) (oQ:Nat),bq.length<=oQ->aW Mb m w oP bq->Au 85 #[.slice oM aq.length oO,.slice oP bq.length oQ] w (fun v w'=>∃(r0:Bool),K r0/\(v= .bool r0)/\Ai [] w w')
def Tb (cq:Ah) (p:Aj) (au:Int) (K:Aj->Prop):Prop:=∀(m:List Nat) (w:World),bB m w->∀(bN:List Value),Bv.rep m w cq bN->∀(er:List Value),Bp.rep m w p er->Au 98 #[.agg ⟨bN⟩,.agg ⟨er⟩,.q au] w (fun v w'=>∃(r0:Aj),K r0/\(∃(c_:List Value),v= .agg ⟨c_⟩/\Bp.rep m w' r0 c_)/\Ai [] w w')
def JD (aq:Ah) (bq:Ah) (K:Bool->Prop):Prop:=∀(m:List Nat) (w:World),bB m w->∀(kK:List Value),Bv.rep m w aq kK->∀(kL:List Value),Bv.rep m w bq kL->Au 17 #[.agg ⟨kK⟩,.agg ⟨kL⟩] w (fun v w'=>∃(r0:Bool),K r0/\(v= .bool r0)/\Ai [] w w')
def He (mx:A9) (sx:Ar) (K:Int->Prop):Prop:=∀(m:List Nat) (w:World),bB m w->∀(cM:Nat) (k_:List Value),cM∈m->dc w cM k_->B8.rep m w mx k_->∀(fx:List Value),Dt.rep m w sx fx->Au 9 #[.pointer (some (Zb cM)),.agg ⟨fx⟩] w (fun v w'=>∃(r0:Int),K r0/\(v= .q r0)/\dc w' cM k_/\Ai [cM] w w')
def Mf (p:Aj) (K:Int->Bool->Prop):Prop:=∀(m:List Nat) (w:World),bB m w->∀(er:List Value),Bp.rep m w p er->Au 25 #[.agg ⟨er⟩] w (fun v w'=>∃(r0:Int) (r1:Bool),K r0 r1/\(v= .tuple #[.q r0,.bool r1])/\Ai [] w w')
def Uo (cq:Ah) (p:Aj) (K:Int->Prop):Prop:=∀(m:List Nat) (w:World),bB m w->∀(bN:List Value),Bv.rep m w cq bN->∀(er:List Value),Bp.rep m w p er->Au 26 #[.agg ⟨bN⟩,.agg ⟨er⟩] w (fun v w'=>∃(r0:Int),K r0/\(v= .q r0)/\Ai [] w w')
def F5 (sx:Ar) (K:Int->Prop):Prop:=∀(m:List Nat) (w:World),bB m w->∀(fx:List Value),Dt.rep m w sx fx->Au 27 #[.agg ⟨fx⟩] w (fun v w'=>∃(r0:Int),K r0/\(v= .q r0)/\Ai [] w w')
def Gy (sx:Ar) (K:Ar->Prop):Prop:=∀(m:List Nat) (w:World),bB m w->∀(fx:List Value),Dt.rep m w sx fx->Au 28 #[.agg ⟨fx⟩] w (fun v w'=>∃(r0:Ar),K r0/\(∃(c_:List Value),v= .agg ⟨c_⟩/\Dt.rep m w' r0 c_)/\Ai [] w w')
def Ju (sx:Ar) (K:(List Int)->Prop):Prop:=∀(m:List Nat) (w:World),bB m w->∀(fx:List Value),Dt.rep m w sx fx->Au 29 #[.agg ⟨fx⟩] w (fun v w'=>∃(r0:List Int),K r0/\(∃(a0:Option Addr) (c0:Nat),v= .slice a0 r0.length c0/\r0.length<=c0/\aW (A8 .i64) m w' a0 r0)/\Ai [] w w')
def Hf (mx:A9) (K:Ar->Prop):Prop:=∀(m:List Nat) (w:World),bB m w->∀(cM:Nat) (k_:List Value),cM∈m->dc w cM k_->B8.rep m w mx k_->Au 16 #[.pointer (some (Zb cM))] w (fun v w'=>∃(r0:Ar),K r0/\(∃(c_:List Value),v= .agg ⟨c_⟩/\Dt.rep m w' r0 c_)/\dc w' cM k_/\Ai [cM] w w')
def Tc (cq:Ah) (e8:Int) (args:List Int) (fuel:Int) (K:Aj->Int->Prop):Prop:=∀(m:List Nat) (w:World),bB m w->∀(bN:List Value),Bv.rep m w cq bN->∀(oS:Option Addr) (oT:Nat),args.length<=oT->aW (A8 .i64) m w oS args->Au 42 #[.agg ⟨bN⟩,.q e8,.slice oS args.length oT,.q fuel] w (fun v w'=>∃(r0:Aj) (r1:Int),K r0 r1/\(∃(c_:List Value),v= .tuple #[.agg ⟨c_⟩,.q r1]/\Bp.rep m w' r0 c_)/\Ai [] w w')
def Oo (mx:A9) (K:Ah->Prop):Prop:=∀(m:List Nat) (w:World),bB m w->∀(cM:Nat) (k_:List Value),cM∈m->dc w cM k_->B8.rep m w mx k_->Au 18 #[.pointer (some (Zb cM))] w (fun v w'=>∃(r0:Ah),K r0/\(∃(c_:List Value),v= .agg ⟨c_⟩/\Bv.rep m w' r0 c_)/\dc w' cM k_/\Ai [cM] w w')
def Mv (cq:Ah) (K:Ah->Prop):Prop:=∀(m:List Nat) (w:World),bB m w->∀(bN:List Value),Bv.rep m w cq bN->Au 24 #[.agg ⟨bN⟩] w (fun v w'=>∃(r0:Ah),K r0/\(∃(c_:List Value),v= .agg ⟨c_⟩/\Bv.rep m w' r0 c_)/\Ai [] w w')
def Em (sx:List Ay) (K:(List Ay)->Prop):Prop:=∀(m:List Nat) (w:World),bB m w->∀(df:Option Addr) (dy:Nat),sx.length<=dy->aW Df m w df sx->Au 59 #[.slice df sx.length dy] w (fun v w'=>∃(r0:List Ay),K r0/\(∃(a0:Option Addr) (c0:Nat),v= .slice a0 r0.length c0/\r0.length<=c0/\aW Df m w' a0 r0)/\Ai [] w w')
def Ck (sx:List Cf) (K:(List Cf)->Prop):Prop:=∀(m:List Nat) (w:World),bB m w->∀(df:Option Addr) (dy:Nat),sx.length<=dy->aW Gc m w df sx->Au 60 #[.slice df sx.length dy] w (fun v w'=>∃(r0:List Cf),K r0/\(∃(a0:Option Addr) (c0:Nat),v= .slice a0 r0.length c0/\r0.length<=c0/\aW Gc m w' a0 r0)/\Ai [] w w')
def Bl (sx:List Bu) (K:(List Bu)->Prop):Prop:=∀(m:List Nat) (w:World),bB m w->∀(df:Option Addr) (dy:Nat),sx.length<=dy->aW Dv m w df sx->Au 61 #[.slice df sx.length dy] w (fun v w'=>∃(r0:List Bu),K r0/\(∃(a0:Option Addr) (c0:Nat),v= .slice a0 r0.length c0/\r0.length<=c0/\aW Dv m w' a0 r0)/\Ai [] w w')
def Bn (sx:List Aj) (K:Int->Prop):Prop:=∀(m:List Nat) (w:World),bB m w->∀(df:Option Addr) (dy:Nat),sx.length<=dy->aW Bp m w df sx->Au 65 #[.slice df sx.length dy,.func (.func 66) #[] #[]] w (fun v w'=>∃(r0:Int),K r0/\(v= .q r0)/\Ai [] w w')
def Bg (sx:List Aj) (K:Bool->Prop):Prop:=∀(m:List Nat) (w:World),bB m w->∀(df:Option Addr) (dy:Nat),sx.length<=dy->aW Bp m w df sx->Au 68 #[.slice df sx.length dy,.func (.func 67) #[] #[]] w (fun v w'=>∃(r0:Bool),K r0/\(v= .bool r0)/\Ai [] w w')
def Mw (l:List Aj) (K:Bool->Prop):Prop:=∀(m:List Nat) (w:World),bB m w->∀(lA:Option Addr) (lC:Nat),l.length<=lC->aW Bp m w lA l->Au 69 #[.slice lA l.length lC] w (fun v w'=>∃(r0:Bool),K r0/\(v= .bool r0)/\Ai [] w w')
def K1 (p:Aj) (K:Bool->Prop):Prop:=∀(m:List Nat) (w:World),bB m w->∀(er:List Value),Bp.rep m w p er->Au 66 #[.agg ⟨er⟩] w (fun v w'=>∃(r0:Bool),K r0/\(v= .bool r0)/\Ai [] w w')
def Mg (p:Aj) (K:Bool->Prop):Prop:=∀(m:List Nat) (w:World),bB m w->∀(er:List Value),Bp.rep m w p er->Au 67 #[.agg ⟨er⟩] w (fun v w'=>∃(r0:Bool),K r0/\(v= .bool r0)/\Ai [] w w')
def Up (cq:Ah) (K:Int->Int->Prop):Prop:=∀(m:List Nat) (w:World),bB m w->∀(bN:List Value),Bv.rep m w cq bN->Au 23 #[.agg ⟨bN⟩] w (fun v w'=>∃(r0:Int) (r1:Int),K r0 r1/\(v= .tuple #[.q r0,.q r1])/\Ai [] w w')
def Mx (cq:Ah) (K:Bool->Prop):Prop:=∀(m:List Nat) (w:World),bB m w->∀(bN:List Value),Bv.rep m w cq bN->Au 55 #[.agg ⟨bN⟩] w (fun v w'=>∃(r0:Bool),K r0/\(v= .bool r0)/\Ai [] w w')
def D1 (cq:An) (i:Int) (K:An->Prop):Prop:=∀(m:List Nat) (w:World),bB m w->∀(bL:Nat) (bN:List Value),bL∈m->dc w bL bN->Di.rep m w cq bN->Au 56 #[.pointer (some (Zb bL)),.q i] w (fun _ w'=>∃(JE:An),K JE/\(True)/\(∃gO,dc w' bL gO/\Di.rep m w' JE gO)/\Ai [bL] w w')
def G1 (cq:An) (au:Int) (K:Bool->Prop):Prop:=∀(m:List Nat) (w:World),bB m w->∀(bL:Nat) (bN:List Value),bL∈m->dc w bL bN->Di.rep m w cq bN->Au 57 #[.pointer (some (Zb bL)),.q au] w (fun v w'=>∃(r0:Bool),K r0/\(v= .bool r0)/\dc w' bL bN/\Ai [bL] w w')
def J0 (cq:An) (K:Int->Bool->Prop):Prop:=∀(m:List Nat) (w:World),bB m w->∀(bL:Nat) (bN:List Value),bL∈m->dc w bL bN->Di.rep m w cq bN->Au 58 #[.pointer (some (Zb bL))] w (fun v w'=>∃(r0:Int) (r1:Bool),K r0 r1/\(v= .tuple #[.q r0,.bool r1])/\dc w' bL bN/\Ai [bL] w w')
def Kl (sx:List UInt8) (K:Bool->Prop):Prop:=∀(m:List Nat) (w:World),bB m w->Au 107 #[.s sx] w (fun v w'=>∃(r0:Bool),K r0/\(v= .bool r0)/\Ai [] w w')
def Jk (xq:Ay) (K:Bool->Prop):Prop:=∀(m:List Nat) (w:World),bB m w->∀(eW:List Value),Df.rep m w xq eW->Au 108 #[.agg ⟨eW⟩] w (fun v w'=>∃(r0:Bool),K r0/\(v= .bool r0)/\Ai [] w w')
def A4 (sx:List Bu) (kM:Ay) (K:Bool->Prop):Prop:=∀(m:List Nat) (w:World),bB m w->∀(df:Option Addr) (dy:Nat),sx.length<=dy->aW Dv m w df sx->∀(oU:Nat) (qK:List Value),H0 m w (Zb oU) qK->Df.rep m w kM qK->Au 109 #[.slice df sx.length dy,.func (.func 110) #[] #[.pointer (some (Zb oU))]] w (fun v w'=>∃(r0:Bool),K r0/\(v= .bool r0)/\Ai [] w w')
def K2 (xq:Ay) (K:Int->Bool->Prop):Prop:=∀(m:List Nat) (w:World),bB m w->∀(eW:List Value),Df.rep m w xq eW->Au 111 #[.agg ⟨eW⟩] w (fun v w'=>∃(r0:Int) (r1:Bool),K r0 r1/\(v= .tuple #[.q r0,.bool r1])/\Ai [] w w')
def Fv (cq:An) (au:Int) (target:Int) (K:Bool->Prop):Prop:=∀(m:List Nat) (w:World),bB m w->∀(bL:Nat) (bN:List Value),bL∈m->dc w bL bN->Di.rep m w cq bN->Au 112 #[.pointer (some (Zb bL)),.q au,.q target] w (fun v w'=>∃(r0:Bool),K r0/\(v= .bool r0)/\dc w' bL bN/\Ai [bL] w w')
def Mh (op:Int) (K:Bool->Prop):Prop:=∀(m:List Nat) (w:World),bB m w->Au 113 #[.q op] w (fun v w'=>∃(r0:Bool),K r0/\(v= .bool r0)/\Ai [] w w')
def Fw (op:Int) (K:Bool->Prop):Prop:=∀(m:List Nat) (w:World),bB m w->Au 115 #[.q op] w (fun v w'=>∃(r0:Bool),K r0/\(v= .bool r0)/\Ai [] w w')
def Dj (cq:An) (au:Int) (K:Bool->Prop):Prop:=∀(m:List Nat) (w:World),bB m w->∀(bL:Nat) (bN:List Value),bL∈m->dc w bL bN->Di.rep m w cq bN->Au 114 #[.pointer (some (Zb bL)),.q au] w (fun v w'=>∃(r0:Bool),K r0/\(v= .bool r0)/\dc w' bL bN/\Ai [bL] w w')
def Jb (cq:Ah) (au:Int) (K:Int->Prop):Prop:=∀(m:List Nat) (w:World),bB m w->∀(bN:List Value),Bv.rep m w cq bN->Au 156 #[.agg ⟨bN⟩,.q au] w (fun v w'=>∃(r0:Int),K r0/\(v= .q r0)/\Ai [] w w')
def Xt (xq:Ay) (t:By) (K:By->Bool->Prop):Prop:=∀(m:List Nat) (w:World),bB m w->∀(eW:List Value),Df.rep m w xq eW->∀(k9:List Value),Ki.rep m w t k9->Au 116 #[.agg ⟨eW⟩,.agg ⟨k9⟩] w (fun v w'=>∃(r0:By) (r1:Bool),K r0 r1/\(∃(c_:List Value),v= .tuple #[.agg ⟨c_⟩,.bool r1]/\Ki.rep m w' r0 c_)/\Ai [] w w')
def Qi (xq:Ay) (K:Int->Prop):Prop:=∀(m:List Nat) (w:World),bB m w->∀(eW:List Value),Df.rep m w xq eW->Au 183 #[.agg ⟨eW⟩] w (fun v w'=>∃(r0:Int),K r0/\(v= .q r0)/\Ai [] w w')
def Qj (xq:Ay) (K:Int->Prop):Prop:=∀(m:List Nat) (w:World),bB m w->∀(eW:List Value),Df.rep m w xq eW->Au 184 #[.agg ⟨eW⟩] w (fun v w'=>∃(r0:Int),K r0/\(v= .q r0)/\Ai [] w w')
def K3 (op:Int) (K:Ao->Bool->Prop):Prop:=∀(m:List Nat) (w:World),bB m w->Au 180 #[.q op] w (fun v w'=>∃(r0:Ao) (r1:Bool),K r0 r1/\(∃(c_:List Value),v= .tuple #[.agg ⟨c_⟩,.bool r1]/\Wa.rep m w' r0 c_)/\Ai [] w w')
def E2 (op:Int) (K:Int->Prop):Prop:=∀(m:List Nat) (w:World),bB m w->Au 181 #[.q op] w (fun v w'=>∃(r0:Int),K r0/\(v= .q r0)/\Ai [] w w')
def Hu (cq:Int) (K:Bool->Prop):Prop:=∀(m:List Nat) (w:World),bB m w->Au 176 #[.int .u8 cq] w (fun v w'=>∃(r0:Bool),K r0/\(v= .bool r0)/\Ai [] w w')
def Eo (sx:List UInt8) (K:(List UInt8)->Prop):Prop:=∀(m:List Nat) (w:World),bB m w->Au 177 #[.s sx,.func (.func 178) #[] #[]] w (fun v w'=>∃(r0:List UInt8),K r0/\(v= .s r0)/\Ai [] w w')
def Oq (sx:List UInt8) (K:Bool->Prop):Prop:=∀(m:List Nat) (w:World),bB m w->Au 179 #[.s sx] w (fun v w'=>∃(r0:Bool),K r0/\(v= .bool r0)/\Ai [] w w')
def K4 (cq:Int) (K:Bool->Prop):Prop:=∀(m:List Nat) (w:World),bB m w->Au 178 #[.int .u8 cq] w (fun v w'=>∃(r0:Bool),K r0/\(v= .bool r0)/\Ai [] w w')
def My (cq:Int) (K:Bool->Prop):Prop:=∀(m:List Nat) (w:World),bB m w->Au 224 #[.int .u8 cq] w (fun v w'=>∃(r0:Bool),K r0/\(v= .bool r0)/\Ai [] w w')
def Sc (K:(List (List UInt8))->Prop):Prop:=∀(m:List Nat) (w:World),bB m w->Au 226 #[] w (fun v w'=>∃(r0:List (List UInt8)),K r0/\(∃(a0:Option Addr) (c0:Nat),v= .slice a0 r0.length c0/\r0.length<=c0/\aW Yd m w' a0 r0)/\Ai [] w w')
def B4 (xq:List (List UInt8)) (target:List UInt8) (K:Int->Bool->Prop):Prop:=∀(m:List Nat) (w:World),bB m w->∀(xV:Option Addr) (xW:Nat),xq.length<=xW->aW Yd m w xV xq->Au 225 #[.slice xV xq.length xW,.s target] w (fun v w'=>∃(r0:Int) (r1:Bool),K r0 r1/\(v= .tuple #[.q r0,.bool r1])/\Ai [] w w')
def Hv (xq:List UInt8) (y:List UInt8) (K:Bool->Prop):Prop:=∀(m:List Nat) (w:World),bB m w->Au 248 #[.s xq,.s y] w (fun v w'=>∃(r0:Bool),K r0/\(v= .bool r0)/\Ai [] w w')
def Eb (xq:List UInt8) (K:Bool->Prop):Prop:=∀(m:List Nat) (w:World),bB m w->Au 249 #[.s xq] w (fun v w'=>∃(r0:Bool),K r0/\(v= .bool r0)/\Ai [] w w')
def E3 (xq:List UInt8) (K:Bool->Prop):Prop:=∀(m:List Nat) (w:World),bB m w->Au 265 #[.s xq] w (fun v w'=>∃(r0:Bool),K r0/\(v= .bool r0)/\Ai [] w w')
def Jc (n:Int) (lG:Int) (K:Bool->Prop):Prop:=∀(m:List Nat) (w:World),bB m w->Au 62 #[.q n,.q lG] w (fun v w'=>∃(r0:Bool),K r0/\(v= .bool r0)/\Ai [] w w')
def Xu (p:Aj) (K:Aj->Prop):Prop:=∀(m:List Nat) (w:World),bB m w->∀(er:List Value),Bp.rep m w p er->Au 63 #[.agg ⟨er⟩] w (fun v w'=>∃(r0:Aj),K r0/\(∃(c_:List Value),v= .agg ⟨c_⟩/\Bp.rep m w' r0 c_)/\Ai [] w w')
def JF (cq:Ah) (p:Aj) (au:Int) (K:Int->Prop):Prop:=∀(m:List Nat) (w:World),bB m w->∀(bN:List Value),Bv.rep m w cq bN->∀(er:List Value),Bp.rep m w p er->Au 119 #[.agg ⟨bN⟩,.agg ⟨er⟩,.q au] w (fun v w'=>∃(r0:Int),K r0/\(v= .q r0)/\Ai [] w w')
def Qk (cq:Ah) (au:Int) (K:Int->Prop):Prop:=∀(m:List Nat) (w:World),bB m w->∀(bN:List Value),Bv.rep m w cq bN->Au 185 #[.agg ⟨bN⟩,.q au] w (fun v w'=>∃(r0:Int),K r0/\(v= .q r0)/\Ai [] w w')
def Uq (cq:Ah) (K:Int->Prop):Prop:=∀(m:List Nat) (w:World),bB m w->∀(bN:List Value),Bv.rep m w cq bN->Au 122 #[.agg ⟨bN⟩] w (fun v w'=>∃(r0:Int),K r0/\(v= .q r0)/\Ai [] w w')
def Xv (aq:Aj) (bq:Aj) (K:Bool->Prop):Prop:=∀(m:List Nat) (w:World),bB m w->∀(kK:List Value),Bp.rep m w aq kK->∀(kL:List Value),Bp.rep m w bq kL->Au 54 #[.agg ⟨kK⟩,.agg ⟨kL⟩] w (fun v w'=>∃(r0:Bool),K r0/\(v= .bool r0)/\Ai [] w w')
def Ep (s1:List Int) (s2:List Int) (K:Bool->Prop):Prop:=∀(m:List Nat) (w:World),bB m w->∀(oV:Option Addr) (oW:Nat),s1.length<=oW->aW (A8 .i64) m w oV s1->∀(oX:Option Addr) (oY:Nat),s2.length<=oY->aW (A8 .i64) m w oX s2->Au 52 #[.slice oV s1.length oW,.slice oX s2.length oY] w (fun v w'=>∃(r0:Bool),K r0/\(v= .bool r0)/\Ai [] w w')
def Cm (s1:List F4) (s2:List F4) (K:Bool->Prop):Prop:=∀(m:List Nat) (w:World),bB m w->∀(oV:Option Addr) (oW:Nat),s1.length<=oW->aW Mb m w oV s1->∀(oX:Option Addr) (oY:Nat),s2.length<=oY->aW Mb m w oX s2->Au 106 #[.slice oV s1.length oW,.slice oX s2.length oY] w (fun v w'=>∃(r0:Bool),K r0/\(v= .bool r0)/\Ai [] w w')
def C6 (sx:List Int) (K:(List Int)->Prop):Prop:=∀(m:List Nat) (w:World),bB m w->∀(df:Option Addr) (dy:Nat),sx.length<=dy->aW (A8 .i64) m w df sx->Au 39 #[.slice df sx.length dy] w (fun v w'=>∃(r0:List Int),K r0/\(∃(a0:Option Addr) (c0:Nat) (sg:List Value),v= .slice a0 r0.length c0/\Rw w' 0 3 1 a0 r0.length c0 sg/\El (A8 .i64) ((Vc.bK a0).toList++m) w' r0 sg/\(∀b,Vc.bK a0=some b->w.heap.size<=b))/\Ai [] w w')
def Ql (cq:Ah) (p:Aj) (au:Int) (K:Aj->Prop):Prop:=∀(m:List Nat) (w:World),bB m w->∀(bN:List Value),Bv.rep m w cq bN->∀(er:List Value),Bp.rep m w p er->Au 86 #[.agg ⟨bN⟩,.agg ⟨er⟩,.q au] w (fun v w'=>∃(r0:Aj),K r0/\(∃(c_:List Value),v= .agg ⟨c_⟩/\Bp.rep m w' r0 c_)/\Ai [] w w')
def Bo (sx:List Aj) (K:Bool->Prop):Prop:=∀(m:List Nat) (w:World),bB m w->∀(df:Option Addr) (dy:Nat),sx.length<=dy->aW Bp m w df sx->Au 68 #[.slice df sx.length dy,.func (.func 132) #[] #[]] w (fun v w'=>∃(r0:Bool),K r0/\(v= .bool r0)/\Ai [] w w')
def Pd (p:Aj) (K:Bool->Prop):Prop:=∀(m:List Nat) (w:World),bB m w->∀(er:List Value),Bp.rep m w p er->Au 132 #[.agg ⟨er⟩] w (fun v w'=>∃(r0:Bool),K r0/\(v= .bool r0)/\Ai [] w w')
def Bw (sx:List Aj) (K:Int->Prop):Prop:=∀(m:List Nat) (w:World),bB m w->∀(df:Option Addr) (dy:Nat),sx.length<=dy->aW Bp m w df sx->Au 65 #[.slice df sx.length dy,.func (.func 132) #[] #[]] w (fun v w'=>∃(r0:Int),K r0/\(v= .q r0)/\Ai [] w w')
def Bh (sx:List Bu) (kM:Ay) (K:Int->Prop):Prop:=∀(m:List Nat) (w:World),bB m w->∀(df:Option Addr) (dy:Nat),sx.length<=dy->aW Dv m w df sx->∀(oU:Nat) (qK:List Value),H0 m w (Zb oU) qK->Df.rep m w kM qK->Au 182 #[.slice df sx.length dy,.func (.func 110) #[] #[.pointer (some (Zb oU))]] w (fun v w'=>∃(r0:Int),K r0/\(v= .q r0)/\Ai [] w w')
def Fx (d:Bu) (p1:Ay) (K:Bool->Prop):Prop:=∀(m:List Nat) (w:World),bB m w->∀(AA:List Value),Dv.rep m w d AA->∀(xY:Nat) (AB:List Value),H0 m w (Zb xY) AB->Df.rep m w p1 AB->Au 110 #[.agg ⟨AA⟩,.pointer (some (Zb xY))] w (fun v w'=>∃(r0:Bool),K r0/\(v= .bool r0)/\Ai [] w w')
def Br (sx:List Aj) (K:Int->Prop):Prop:=∀(m:List Nat) (w:World),bB m w->∀(df:Option Addr) (dy:Nat),sx.length<=dy->aW Bp m w df sx->Au 65 #[.slice df sx.length dy,.func (.func 67) #[] #[]] w (fun v w'=>∃(r0:Int),K r0/\(v= .q r0)/\Ai [] w w')
end Go.Proofs.YthkbhlmijkegiaaGreat
