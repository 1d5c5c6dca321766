/- A part of the proof: conditions of the code, contracts, the plain law. -/
import Derived.Test.YthkbhlmijkegiaaGreatM10
import Derived.Test.YthkbhlmijkegiaaGreatM6
import Derived.Test.YthkbhlmijkegiaaGreatM8
import Derived.Test.YthkbhlmijkegiaaGreatM2
import Derived.Test.YthkbhlmijkegiaaGreatRows
import Derived.Test.YthkbhlmijkegiaaGreatVcI
import Derived.Test.YthkbhlmijkegiaaGreatLoop
import Derived.KernelRfl
import Derived.Test.YthkbhlmijkegiaaGreatOpenLv
open List (take_length getElem?_eq_getElem replicate getElem_mem length_take length_replicate append_nil length_cons)
open Nat (le_refl zero_le)
open Bool (and_eq_true)
open Int (toNat_natCast)
namespace Go.Proofs.YthkbhlmijkegiaaGreat
open Go.Vc
def Ae4 (x0:Option Addr) (x1:Nat) (x2:Nat) (x3:Option Addr) (x4:Nat) (x5:Nat) (x6:Option Addr) (x7:Nat) (x8:Nat) (x9:Int) (ae:Int) (aa:Int) (ad:Int) (ai:Option Addr) (ag:Nat) (ah:Nat) (aj:Int) (ao:Int) (ak:Int) (ax:Int) (aA:Int) (aB:Int) (ay:Int) (aw:Option Addr) (aD:Nat) (aN:Nat) (K:Value->World->Prop) (w:World):Prop:=∀(aH:Nat) (w1:World),aH=w.heap.size->w1=w.alloc (.cells #[.slice x0 x1 x2,.slice x3 x4 x5,.slice x6 x7 x8,.int .i64 x9,.int .i64 ae] 26)->∀(aF:Nat) (w2:World),aF=w1.heap.size->w2=w1.alloc (.cells #[.int .i64 aa,.int .i64 ad,.slice ai ag ah,.int .i64 aj,.int .i64 ao,.int .i64 ak,.int .i64 ax,.int .i64 aA,.int .i64 aB,.int .i64 ay,.slice aw aD aN] 56)->∀(bg:Nat) (w3:World),bg=w2.heap.size->w3=w2.alloc (.cells #[.nilFunc,.nilFunc,.nilFunc,.nilFunc,.nilFunc,.nilFunc,.nilFunc] 132)->∀(aQ:Nat) (w4:World),aQ=w3.heap.size->w4=w3.alloc (.cells #[.nilFunc] 33)->Value.oneCell' (.func (.func 118) #[] #[.pointer (some (Zb aH)),.pointer (some (Zb aF))])=true/\Af w4 (Zb aQ) 1/\∀w5:World,w5=w4.setCell (Zb aQ) (.func (.func 118) #[] #[.pointer (some (Zb aH)),.pointer (some (Zb aF))])->∀(aE:Nat) (w6:World),aE=w5.heap.size->w6=w5.alloc (.cells #[.nilFunc] 70)->Value.oneCell' (.func (.func 120) #[] #[.pointer (some (Zb aH)),.pointer (some (Zb aF))])=true/\Af w6 (Zb aE) 1/\∀w7:World,w7=w6.setCell (Zb aE) (.func (.func 120) #[] #[.pointer (some (Zb aH)),.pointer (some (Zb aF))])->∀(aJ:Nat) (w8:World),aJ=w7.heap.size->w8=w7.alloc (.cells #[.nilFunc] 70)->Value.oneCell' (.func (.func 121) #[] #[.pointer (some (Zb aH))])=true/\Af w8 (Zb aJ) 1/\∀w9:World,w9=w8.setCell (Zb aJ) (.func (.func 121) #[] #[.pointer (some (Zb aH))])->∀(aZ:Nat) (aK:World),aZ=w9.heap.size->aK=w9.alloc (.cells #[.nilFunc] 70)->Value.oneCell' (.func (.func 123) #[] #[.pointer (some (Zb aF))])=true/\Af aK (Zb aZ) 1/\∀aI:World,aI=aK.setCell (Zb aZ) (.func (.func 123) #[] #[.pointer (some (Zb aF))])->∀(aV:Nat) (bj:World),aV=aI.heap.size->bj=aI.alloc (.cells #[.nilFunc] 192)->Value.oneCell' (.func (.func 124) #[] #[.pointer (some (Zb aE)),.pointer (some (Zb aJ)),.pointer (some (Zb aZ))])=true/\Af bj (Zb aV) 1/\∀bG:World,bG=bj.setCell (Zb aV) (.func (.func 124) #[] #[.pointer (some (Zb aE)),.pointer (some (Zb aJ)),.pointer (some (Zb aZ))])->∃bc,bG.cell? (Zb aQ)=some (bc)/\∃bw aO,bc= .func (.func 118) #[] #[.pointer (some (Zb bw)),.pointer (some (Zb aO))]/\∃bC,bG.cell? (Zb aQ)=some (bC)/\∃bJ br,bC= .func (.func 118) #[] #[.pointer (some (Zb bJ)),.pointer (some (Zb br))]/\Value.oneCell' (.func (.func 118) #[] #[.pointer (some (Zb bw)),.pointer (some (Zb aO))])=true/\Value.oneCell' (.func (.func 125) #[] #[.pointer (some (Zb aE)),.pointer (some (Zb aF)),.pointer (some (Zb aJ))])=true/\Value.oneCell' (.func (.func 126) #[] #[.pointer (some (Zb aE)),.pointer (some (Zb aF)),.pointer (some (Zb aJ)),.pointer (some (Zb aZ))])=true/\Value.oneCell' (.func (.func 127) #[] #[.pointer (some (Zb aQ)),.pointer (some (Zb aF)),.pointer (some (Zb aV))])=true/\Value.oneCell' (.func (.func 130) #[] #[.pointer (some (Zb aE)),.pointer (some (Zb aF))])=true/\Value.oneCell' (.func (.func 131) #[] #[.pointer (some (Zb aF))])=true/\Value.oneCell' (.func (.func 118) #[] #[.pointer (some (Zb bJ)),.pointer (some (Zb br))])=true/\Af bG (Zb bg) 7/\∀bt:World,bt=setCells bG (Zb bg) [.func (.func 118) #[] #[.pointer (some (Zb bw)),.pointer (some (Zb aO))],.func (.func 125) #[] #[.pointer (some (Zb aE)),.pointer (some (Zb aF)),.pointer (some (Zb aJ))],.func (.func 126) #[] #[.pointer (some (Zb aE)),.pointer (some (Zb aF)),.pointer (some (Zb aJ)),.pointer (some (Zb aZ))],.func (.func 127) #[] #[.pointer (some (Zb aQ)),.pointer (some (Zb aF)),.pointer (some (Zb aV))],.func (.func 130) #[] #[.pointer (some (Zb aE)),.pointer (some (Zb aF))],.func (.func 131) #[] #[.pointer (some (Zb aF))],.func (.func 118) #[] #[.pointer (some (Zb bJ)),.pointer (some (Zb br))]]->Cc [] bt/\∃a_ bD bF bn bO aX bP,Ad (shut [] bt) (Zb bg) [a_,bD,bF,bn,bO,aX,bP]/\K (.agg #[a_,bD,bF,bn,bO,aX,bP]) (shut [] bt)
theorem Ae5 (x0:Option Addr) (x1:Nat) (x2:Nat) (x3:Option Addr) (x4:Nat) (x5:Nat) (x6:Option Addr) (x7:Nat) (x8:Nat) (x9:Int) (ae:Int) (aa:Int) (ad:Int) (ai:Option Addr) (ag:Nat) (ah:Nat) (aj:Int) (ao:Int) (ak:Int) (ax:Int) (aA:Int) (aB:Int) (ay:Int) (aw:Option Addr) (aD:Nat) (aN:Nat) (K:Value->World->Prop) (w:World) (h:Ae4 x0 x1 x2 x3 x4 x5 x6 x7 x8 x9 ae aa ad ai ag ah aj ao ak ax aA aB ay aw aD aN K w):Calls Tryz.prog 64 #[.agg #[.slice x0 x1 x2,.slice x3 x4 x5,.slice x6 x7 x8,.int .i64 x9,.int .i64 ae],.agg #[.int .i64 aa,.int .i64 ad,.slice ai ag ah,.int .i64 aj,.int .i64 ao,.int .i64 ak,.int .i64 ax,.int .i64 aA,.int .i64 aB,.int .i64 ay,.slice aw aD aN]] w (aG K):=
 Rl { zJ:=[(1000000015,118,2),(1000000021,118,2)] } Tryz.func64 (by kernel_rfl) h
abbrev Ef (f:FuncId) (a:Array Value) (w:World) (K:Value->World->Prop):Prop:=Calls Tryz.prog f a w (aG K)
def Ae6 (x0:Option Addr) (x1:Nat) (x2:Nat) (x3:Option Addr) (x4:Nat) (x5:Nat) (x6:Option Addr) (x7:Nat) (x8:Nat) (x9:Int) (ae:Int) (aa:Int) (ad:Int) (ai:Option Addr) (ag:Nat) (ah:Nat) (aj:Int) (ao:Int) (ak:Int) (ax:Int) (aA:Int) (aB:Int) (ay:Int) (aw:Option Addr) (aD:Nat) (aN:Nat) (K:Value->World->Prop) (w:World):Prop:=∀(aH:Nat) (w1:World),aH=w.heap.size->w1=w.alloc (.cells #[.slice x0 x1 x2,.slice x3 x4 x5,.slice x6 x7 x8,.int .i64 x9,.int .i64 ae] 26)->∀(aF:Nat) (w2:World),aF=w1.heap.size->w2=w1.alloc (.cells #[.int .i64 aa,.int .i64 ad,.slice ai ag ah,.int .i64 aj,.int .i64 ao,.int .i64 ak,.int .i64 ax,.int .i64 aA,.int .i64 aB,.int .i64 ay,.slice aw aD aN] 56)->∃(J:Bool->World->Prop),(∃bg,w2.cell? (Zb aF)=some (.int .i64 bg)/\∃aQ aE aJ,w2.cell? ⟨aH,1,none⟩=some (.slice aQ aE aJ)/\Ef 62 #[.int .i64 bg,.int .i64 (IntKind.i64.wrap ((aE:Int)-1))] w2 (fun aZ w3=>∃aV,aZ= .bool aV/\cond (aV) (∃bc,w3.cell? ⟨aF,3,none⟩=some (.int .i64 bc)/\Ef 62 #[.int .i64 bc,.int .i64 1048576] w3 (fun bw w4=>∃aO,bw= .bool aO/\cond (aO) (∃bC,w4.cell? ⟨aF,9,none⟩=some (.int .i64 bC)/\Ef 62 #[.int .i64 bC,.int .i64 1099511627776] w4 (fun bJ w5=>∃br,bJ= .bool br/\cond (br) (∃a_,w5.cell? ⟨aF,4,none⟩=some (.int .i64 a_)/\Ef 62 #[.int .i64 a_,.int .i64 6] w5 (fun bD w6=>∃bF,bD= .bool bF/\J bF w6)) (J false w5))) (J false w4))) (J false w3)))/\∀(_x43:Nat->Value) bO w7,J bO w7->∃(J1:Bool->World->Prop),(∀w8:World,w8=w7.drew->∃(S:World->Prop),S w8/\cond (!bO) (J1 true w8) (∃aX bP bA,(∀u:World,S u->u.cell? ⟨aF,2,none⟩=some (.slice aX bP bA))/\∃bM bW bQ,(∀u:World,S u->u.cell? ⟨aH,1,none⟩=some (.slice bM bW bQ))/\∃bT,(∀u:World,S u->u.cell? (Zb aF)=some (.int .i64 bT))/\((0:Int)<=bT/\bT<(bW:Int))/\Ak bM (fun bU=>∃b9,(∀u:World,S u->u.cell? ((bU.add (bT.toNat*4)).add 3)=some (.int .i64 b9))/\cond ((bP:Int) !=b9) (J1 true w8) (∃cg b_ cb cv cp cu cy cB cE cO cU cG cL cz cX,(∀u:World,S u->Ad u (Zb aF) [.int .i64 cg,.int .i64 b_,.slice cb cv cp,.int .i64 cu,.int .i64 cy,.int .i64 cB,.int .i64 cE,.int .i64 cO,.int .i64 cU,.int .i64 cG,.slice cL cz cX])/\∃dA cW dV dP eg dG dM eu fe eh ei dI dF eb ey,(∀u:World,S u->Ad u (Zb aF) [.int .i64 dA,.int .i64 cW,.slice dV dP eg,.int .i64 dG,.int .i64 dM,.int .i64 eu,.int .i64 fe,.int .i64 eh,.int .i64 ei,.int .i64 dI,.slice dF eb ey])/\Ef 63 #[.agg #[.int .i64 cg,.int .i64 b_,.slice cb cv cp,.int .i64 cu,.int .i64 cy,.int .i64 cB,.int .i64 cE,.int .i64 cO,.int .i64 cU,.int .i64 cG,.slice cL cz cX]] w8 (fun ek w9=>∃eo ep dW dY dN dw dr dj eH eN eO eP eK eE eQ,ek= .agg #[.int .i64 eo,.int .i64 ep,.slice dW dY dN,.int .i64 dw,.int .i64 dr,.int .i64 dj,.int .i64 eH,.int .i64 eN,.int .i64 eO,.int .i64 eP,.slice eK eE eQ]/\S w9/\Ef 54 #[.agg #[.int .i64 eo,.int .i64 ep,.slice dW dY dN,.int .i64 dw,.int .i64 dr,.int .i64 dj,.int .i64 eH,.int .i64 eN,.int .i64 eO,.int .i64 eP,.slice eK eE eQ],.agg #[.int .i64 dA,.int .i64 cW,.slice dV dP eg,.int .i64 dG,.int .i64 dM,.int .i64 eu,.int .i64 fe,.int .i64 eh,.int .i64 ei,.int .i64 dI,.slice dF eb ey]] w9 (fun fu aK=>∃fk,fu= .bool fk/\S aK/\cond (!fk) (J1 true aK) (∃ew eF fW e7 fl fm fo gA fX gz gd,(∀u:World,S u->Ad u (Zb aH) [.slice ew eF fW,.slice e7 fl fm,.slice fo gA fX,.int .i64 gz,.int .i64 gd])/\∃gC fw gD gE iT iI i_ iU ik jt jN ja ks jb jc,(∀u:World,S u->Ad u (Zb aF) [.int .i64 gC,.int .i64 fw,.slice gD gE iT,.int .i64 iI,.int .i64 i_,.int .i64 iU,.int .i64 ik,.int .i64 jt,.int .i64 jN,.int .i64 ja,.slice ks jb jc])/\∃jd,(∀u:World,S u->u.cell? ⟨aF,4,none⟩=some (.int .i64 jd))/\Ef 64 #[.agg #[.slice ew eF fW,.slice e7 fl fm,.slice fo gA fX,.int .i64 gz,.int .i64 gd],.agg #[.int .i64 gC,.int .i64 fw,.slice gD gE iT,.int .i64 iI,.int .i64 i_,.int .i64 iU,.int .i64 ik,.int .i64 jt,.int .i64 jN,.int .i64 ja,.slice ks jb jc]] aK (fun kF aI=>∃je jf j4 ku kZ ju jv,kF= .agg #[je,jf,j4,ku,kZ,ju,jv]/\S aI/\Bd Tryz.prog (Instr.index 132 (.agg #[je,jf,j4,ku,kZ,ju,jv]) (.int .i64 jd)) (fun j5 bj=>Eh Tryz.prog j5 #[] (fun jw bG=>∃j6,jw= .bool j6/\J1 (!j6) bG) bj) aI))))))))/\∀(_x140:Nat->Value) ly bt,J1 ly bt->cond (ly) (Cc [] bt/\K (.int .i64 9) (shut [] bt)) (Cc [] bt/\K (.int .i64 0) (shut [] bt))
theorem Ae7 (x0:Option Addr) (x1:Nat) (x2:Nat) (x3:Option Addr) (x4:Nat) (x5:Nat) (x6:Option Addr) (x7:Nat) (x8:Nat) (x9:Int) (ae:Int) (aa:Int) (ad:Int) (ai:Option Addr) (ag:Nat) (ah:Nat) (aj:Int) (ao:Int) (ak:Int) (ax:Int) (aA:Int) (aB:Int) (ay:Int) (aw:Option Addr) (aD:Nat) (aN:Nat) (K:Value->World->Prop) (w:World) (h:Ae6 x0 x1 x2 x3 x4 x5 x6 x7 x8 x9 ae aa ad ai ag ah aj ao ak ax aA aB ay aw aD aN K w):Calls Tryz.prog 26 #[.agg #[.slice x0 x1 x2,.slice x3 x4 x5,.slice x6 x7 x8,.int .i64 x9,.int .i64 ae],.agg #[.int .i64 aa,.int .i64 ad,.slice ai ag ah,.int .i64 aj,.int .i64 ao,.int .i64 ak,.int .i64 ax,.int .i64 aA,.int .i64 aB,.int .i64 ay,.slice aw aD aN]] w (aG K):=
 Rl { dH:=[(3,[(5,.bool)]),(14,[(59,.bool)])] } Tryz.func26 (by kernel_rfl) h
def Y4 (x0:Addr) (x1:Addr) (K:Value->World->Prop) (w:World):Prop:=∃x2 x3 x4 x5 x6 x7 x8 x9 ae aa ad,Ad w x0 [.slice x2 x3 x4,.slice x5 x6 x7,.slice x8 x9 ae,.int .i64 aa,.int .i64 ad]/\∃ai ag ah aj ao ak ax aA aB ay aw aD aN aH aF,Ad w x1 [.int .i64 ai,.int .i64 ag,.slice ah aj ao,.int .i64 ak,.int .i64 ax,.int .i64 aA,.int .i64 aB,.int .i64 ay,.int .i64 aw,.int .i64 aD,.slice aN aH aF]/\∃bg,w.cell? (x1.add 1)=some (.int .i64 bg)/\Ef 119 #[.agg #[.slice x2 x3 x4,.slice x5 x6 x7,.slice x8 x9 ae,.int .i64 aa,.int .i64 ad],.agg #[.int .i64 ai,.int .i64 ag,.slice ah aj ao,.int .i64 ak,.int .i64 ax,.int .i64 aA,.int .i64 aB,.int .i64 ay,.int .i64 aw,.int .i64 aD,.slice aN aH aF],.int .i64 bg] w (fun aQ w1=>∃aE,aQ= .int .i64 aE/\K (.bool (aE==1)) w1)
theorem Y5 (x0:Addr) (x1:Addr) (K:Value->World->Prop) (w:World) (h:Y4 x0 x1 K w):Calls Tryz.prog 118 #[.pointer (some x0),.pointer (some x1)] w (aG K):=
 Ag {} Tryz.func118 (by kernel_rfl) h
def Y6 (x0:Int) (x1:Addr) (x2:Addr) (K:Value->World->Prop) (w:World):Prop:=∃x3 x4 x5 x6 x7 x8 x9 ae aa ad ai,Ad w x1 [.slice x3 x4 x5,.slice x6 x7 x8,.slice x9 ae aa,.int .i64 ad,.int .i64 ai]/\∃ag ah aj ao ak ax aA aB ay aw aD aN aH aF bg,Ad w x2 [.int .i64 ag,.int .i64 ah,.slice aj ao ak,.int .i64 ax,.int .i64 aA,.int .i64 aB,.int .i64 ay,.int .i64 aw,.int .i64 aD,.int .i64 aN,.slice aH aF bg]/\Ef 119 #[.agg #[.slice x3 x4 x5,.slice x6 x7 x8,.slice x9 ae aa,.int .i64 ad,.int .i64 ai],.agg #[.int .i64 ag,.int .i64 ah,.slice aj ao ak,.int .i64 ax,.int .i64 aA,.int .i64 aB,.int .i64 ay,.int .i64 aw,.int .i64 aD,.int .i64 aN,.slice aH aF bg],.int .i64 x0] w (fun aQ w1=>∃aE,aQ= .int .i64 aE/\∀(_x31:Nat->Value),K (.bool ((aE==1)||(aE==24))) w1)
theorem Y7 (x0:Int) (x1:Addr) (x2:Addr) (K:Value->World->Prop) (w:World) (h:Y6 x0 x1 x2 K w):Calls Tryz.prog 120 #[.int .i64 x0,.pointer (some x1),.pointer (some x2)] w (aG K):=
 Ag { jJ:=[(14,[4])] } Tryz.func120 (by kernel_rfl) h
def Y8 (x0:Int) (x1:Addr) (K:Value->World->Prop) (w:World):Prop:=∃x2 x3 x4 x5 x6 x7 x8 x9 ae aa ad,Ad w x1 [.slice x2 x3 x4,.slice x5 x6 x7,.slice x8 x9 ae,.int .i64 aa,.int .i64 ad]/\Ef 122 #[.agg #[.slice x2 x3 x4,.slice x5 x6 x7,.slice x8 x9 ae,.int .i64 aa,.int .i64 ad]] w (fun ai w1=>∃ag,ai= .int .i64 ag/\Ef 62 #[.int .i64 x0,.int .i64 (IntKind.i64.wrap (ag-1))] w1 (fun ah w2=>∃aj,ah= .bool aj/\K (.bool aj) w2))
theorem Y9 (x0:Int) (x1:Addr) (K:Value->World->Prop) (w:World) (h:Y8 x0 x1 K w):Calls Tryz.prog 121 #[.int .i64 x0,.pointer (some x1)] w (aG K):=
 Ag {} Tryz.func121 (by kernel_rfl) h
def Za (x0:Int) (x1:Addr) (K:Value->World->Prop) (w:World):Prop:=∃x2 x3 x4,w.cell? (x1.add 2)=some (.slice x2 x3 x4)/\Ef 62 #[.int .i64 x0,.int .i64 (IntKind.i64.wrap ((x3:Int)-1))] w (fun x5 w1=>∃x6,x5= .bool x6/\K (.bool x6) w1)
theorem Zc (x0:Int) (x1:Addr) (K:Value->World->Prop) (w:World) (h:Za x0 x1 K w):Calls Tryz.prog 123 #[.int .i64 x0,.pointer (some x1)] w (aG K):=
 Ag {} Tryz.func123 (by kernel_rfl) h
def Zd (x0:Int) (x1:Int) (x2:Int) (x3:Int) (x4:Int) (x5:Addr) (x6:Addr) (x7:Addr) (K:Value->World->Prop) (w:World):Prop:=∀(x8:Nat) (w1:World),x8=w.heap.size->w1=w.alloc (.cells #[.int .i64 x0,.int .i64 x1,.int .i64 x2,.int .i64 x3,.int .i64 x4] 129)->∃x9,w1.cell? (Zb x8)=some (.int .i64 x9)/\∃ae,w1.cell? ⟨x8,4,none⟩=some (.int .i64 ae)/\∀(aa:Nat) (w2:World),aa=w1.heap.size->w2=w1.alloc (.cells #[.int .i64 0,.int .i64 0,.int .i64 0,.int .i64 0,.int .i64 0] 129)->Af w2 (Zb aa) 5/\∀w3:World,w3=setCells w2 (Zb aa) [.int .i64 x9,.int .i64 0,.int .i64 0,.int .i64 0,.int .i64 ae]->∃ad,w3.cell? x5=some (ad)/\∃ai,w3.cell? ⟨x8,4,none⟩=some (.int .i64 ai)/\Eh Tryz.prog ad #[.int .i64 ai] (fun ag w4=>∃ah,ag= .bool ah/\∃(J:Bool->World->Prop),(∃aj,w4.cell? (Zb x8)=some (.int .i64 aj)/\cond (aj==1) (∃(J1:World->Prop),(∀w5:World,w5=w4.drew->∃(S:World->Prop),S w5/\∃ao,(∀u:World,S u->u.cell? ⟨x8,1,none⟩=some (.int .i64 ao))/\∃ak,(∀u:World,S u->u.cell? ⟨x8,3,none⟩=some (.int .i64 ak))/\Af w5 ⟨aa,1,none⟩ 1/\∀w6:World,w6=w5.setCell ⟨aa,1,none⟩ (.int .i64 ao)->S w6/\Af w6 ⟨aa,3,none⟩ 1/\∀w7:World,w7=w6.setCell ⟨aa,3,none⟩ (.int .i64 ak)->J1 w7)/\∀(_x19:Nat->Value) w8,J1 w8->cond (ah) (∃aA,w8.cell? x6=some (aA)/\∃aB,w8.cell? ⟨x8,1,none⟩=some (.int .i64 aB)/\Eh Tryz.prog aA #[.int .i64 aB] (fun ay w9=>∃aw,ay= .bool aw/\cond (aw) (∃aD,w9.cell? x7=some (aD)/\∃aN,w9.cell? ⟨x8,3,none⟩=some (.int .i64 aN)/\Eh Tryz.prog aD #[.int .i64 aN] (fun aH aK=>∃aF,aH= .bool aF/\J aF aK) w9) (J false w9)) w8) (J false w8)) (cond (aj==2) (∃(J2:World->Prop),(∀aI:World,aI=w4.drew->∃(S1:World->Prop),S1 aI/\∃bg,(∀u:World,S1 u->u.cell? ⟨x8,1,none⟩=some (.int .i64 bg))/\∃aQ,(∀u:World,S1 u->u.cell? ⟨x8,2,none⟩=some (.int .i64 aQ))/\Af aI ⟨aa,1,none⟩ 1/\∀bj:World,bj=aI.setCell ⟨aa,1,none⟩ (.int .i64 bg)->S1 bj/\Af bj ⟨aa,2,none⟩ 1/\∀bG:World,bG=bj.setCell ⟨aa,2,none⟩ (.int .i64 aQ)->J2 bG)/\∀(_x30:Nat->Value) bt,J2 bt->cond (ah) (∃aJ,bt.cell? x6=some (aJ)/\∃aZ,bt.cell? ⟨x8,1,none⟩=some (.int .i64 aZ)/\Eh Tryz.prog aJ #[.int .i64 aZ] (fun aV cr=>∃bc,aV= .bool bc/\J bc cr) bt) (J false bt)) (cond (aj==3) (∃bw,w4.cell? ⟨x8,2,none⟩=some (.int .i64 bw)/\Af w4 ⟨aa,2,none⟩ 1/\∀ck:World,ck=w4.setCell ⟨aa,2,none⟩ (.int .i64 bw)->cond (ah) (∃aO,ck.cell? ⟨x8,2,none⟩=some (.int .i64 aO)/\Ef 62 #[.int .i64 aO,.int .i64 1099511627776] ck (fun bC cQ=>∃bJ,bC= .bool bJ/\J bJ cQ)) (J false ck)) (K (.bool false) w4))))/\∀(_x39:Nat->Value) a_ cR,J a_ cR->cond (a_) (∃bD bF bn bO aX,Ad cR (Zb aa) [.int .i64 bD,.int .i64 bF,.int .i64 bn,.int .i64 bO,.int .i64 aX]/\∃bP bA bM bW bQ,Ad cR (Zb x8) [.int .i64 bP,.int .i64 bA,.int .i64 bM,.int .i64 bW,.int .i64 bQ]/\K (.bool ((bD==bP)&&((bF==bA)&&((bn==bM)&&((bO==bW)&&((aX==bQ)&&true)))))) cR) (K (.bool false) cR)) w3
theorem Ze (x0:Int) (x1:Int) (x2:Int) (x3:Int) (x4:Int) (x5:Addr) (x6:Addr) (x7:Addr) (K:Value->World->Prop) (w:World) (h:Zd x0 x1 x2 x3 x4 x5 x6 x7 K w):Calls Tryz.prog 124 #[.agg #[.int .i64 x0,.int .i64 x1,.int .i64 x2,.int .i64 x3,.int .i64 x4],.pointer (some x5),.pointer (some x6),.pointer (some x7)] w (aG K):=
 Ag { dH:=[(15,[(7,.bool)]),(490,[]),(1966,[])] } Tryz.func124 (by kernel_rfl) h
def Zf (x0:Addr) (x1:Addr) (x2:Addr) (K:Value->World->Prop) (w:World):Prop:=∃x3,w.cell? x0=some (x3)/\∃x4,w.cell? (x1.add 1)=some (.int .i64 x4)/\Eh Tryz.prog x3 #[.int .i64 x4] (fun x5 w1=>∃x6,x5= .bool x6/\cond (x6) (∃x7,w1.cell? x2=some (x7)/\∃x8,w1.cell? (x1.add 5)=some (.int .i64 x8)/\Eh Tryz.prog x7 #[.int .i64 x8] (fun x9 w2=>∃ae,x9= .bool ae/\K (.bool ae) w2) w1) (K (.bool false) w1)) w
theorem Zg (x0:Addr) (x1:Addr) (x2:Addr) (K:Value->World->Prop) (w:World) (h:Zf x0 x1 x2 K w):Calls Tryz.prog 125 #[.pointer (some x0),.pointer (some x1),.pointer (some x2)] w (aG K):=
 Ag {} Tryz.func125 (by kernel_rfl) h
def Zh (x0:Addr) (x1:Addr) (x2:Addr) (x3:Addr) (K:Value->World->Prop) (w:World):Prop:=∃x4,w.cell? x0=some (x4)/\∃x5,w.cell? (x1.add 1)=some (.int .i64 x5)/\Eh Tryz.prog x4 #[.int .i64 x5] (fun x6 w1=>∃x7,x6= .bool x7/\cond (x7) (∃x8,w1.cell? x2=some (x8)/\∃x9,w1.cell? (x1.add 5)=some (.int .i64 x9)/\Eh Tryz.prog x8 #[.int .i64 x9] (fun ae w2=>∃aa,ae= .bool aa/\cond (aa) (∃ad,w2.cell? x3=some (ad)/\∃ai,w2.cell? (x1.add 7)=some (.int .i64 ai)/\Eh Tryz.prog ad #[.int .i64 ai] (fun ag w3=>∃ah,ag= .bool ah/\K (.bool ah) w3) w2) (K (.bool false) w2)) w1) (K (.bool false) w1)) w
theorem Zi (x0:Addr) (x1:Addr) (x2:Addr) (x3:Addr) (K:Value->World->Prop) (w:World) (h:Zh x0 x1 x2 x3 K w):Calls Tryz.prog 126 #[.pointer (some x0),.pointer (some x1),.pointer (some x2),.pointer (some x3)] w (aG K):=
 Ag {} Tryz.func126 (by kernel_rfl) h
def Zj (x0:Addr) (x1:Addr) (x2:Addr) (K:Value->World->Prop) (w:World):Prop:=∃x3,w.cell? x0=some (x3)/\Eh Tryz.prog x3 #[] (fun x4 w1=>∃x5,x4= .bool x5/\cond (x5) (∃x6 x7 x8,w1.cell? (x1.add 10)=some (.slice x6 x7 x8)/\Ef 128 #[.slice x6 x7 x8,.func (.func 129) #[] #[.pointer (some x2)]] w1 (fun x9 w2=>∃ae,x9= .bool ae/\K (.bool (!ae)) w2)) (K (.bool false) w1)) w
theorem Zk (x0:Addr) (x1:Addr) (x2:Addr) (K:Value->World->Prop) (w:World) (h:Zj x0 x1 x2 K w):Calls Tryz.prog 127 #[.pointer (some x0),.pointer (some x1),.pointer (some x2)] w (aG K):=
 Ag {} Tryz.func127 (by kernel_rfl) h
def Zl (x0:Addr) (x1:Addr) (K:Value->World->Prop) (w:World):Prop:=∃x2,w.cell? x0=some (x2)/\∃x3,w.cell? (x1.add 1)=some (.int .i64 x3)/\Eh Tryz.prog x2 #[.int .i64 x3] (fun x4 w1=>∃x5,x4= .bool x5/\cond (x5) (∃x6,w1.cell? (x1.add 8)=some (.int .i64 x6)/\Ef 62 #[.int .i64 x6,.int .i64 1099511627776] w1 (fun x7 w2=>∃x8,x7= .bool x8/\K (.bool x8) w2)) (K (.bool false) w1)) w
theorem Zm (x0:Addr) (x1:Addr) (K:Value->World->Prop) (w:World) (h:Zl x0 x1 K w):Calls Tryz.prog 130 #[.pointer (some x0),.pointer (some x1)] w (aG K):=
 Ag {} Tryz.func130 (by kernel_rfl) h
def Xa (x0:Addr) (K:Value->World->Prop) (w:World):Prop:=∃x1,w.cell? (x0.add 1)=some (.int .i64 x1)/\K (.bool (x1==0)) w
theorem Xb (x0:Addr) (K:Value->World->Prop) (w:World) (h:Xa x0 K w):Calls Tryz.prog 131 #[.pointer (some x0)] w (aG K):=
 Ag {} Tryz.func131 (by kernel_rfl) h
def Vs (x0:Int) (x1:Int) (x2:Int) (x3:Int) (x4:Int) (x5:Addr) (K:Value->World->Prop) (w:World):Prop:=∀(x6:Nat) (w1:World),x6=w.heap.size->w1=w.alloc (.cells #[.int .i64 x0,.int .i64 x1,.int .i64 x2,.int .i64 x3,.int .i64 x4] 129)->∃x7,w1.cell? x5=some (x7)/\∃x8 x9 ae aa ad,Ad w1 (Zb x6) [.int .i64 x8,.int .i64 x9,.int .i64 ae,.int .i64 aa,.int .i64 ad]/\Eh Tryz.prog x7 #[.agg #[.int .i64 x8,.int .i64 x9,.int .i64 ae,.int .i64 aa,.int .i64 ad]] (fun ai w2=>∃ag,ai= .bool ag/\K (.bool (!ag)) w2) w1
theorem Vt (x0:Int) (x1:Int) (x2:Int) (x3:Int) (x4:Int) (x5:Addr) (K:Value->World->Prop) (w:World) (h:Vs x0 x1 x2 x3 x4 x5 K w):Calls Tryz.prog 129 #[.agg #[.int .i64 x0,.int .i64 x1,.int .i64 x2,.int .i64 x3,.int .i64 x4],.pointer (some x5)] w (aG K):=
 Ag {} Tryz.func129 (by kernel_rfl) h
def Fh (x0:Option Addr) (x1:Nat) (x2:Nat) (x3:Value) (K:Value->World->Prop) (w:World):Prop:=Ef 134 #[.slice x0 x1 x2,x3] w (fun x4 w1=>∃x5,x4= .int .i64 x5/\K (.bool (decide (x5>=0))) w1)
theorem Fi (x0:Option Addr) (x1:Nat) (x2:Nat) (x3:Value) (K:Value->World->Prop) (w:World) (h:Fh x0 x1 x2 x3 K w):Calls Tryz.prog 128 #[.slice x0 x1 x2,x3] w (aG K):=
 Ag {} Tryz.func128 (by kernel_rfl) h
def Ga (x0:Option Addr) (x1:Nat) (_x2:Nat) (x3:Value) (K:Value->World->Prop) (w:World):Prop:=∃(I:Int->World->Prop) (x4:Int->World->Nat),I 0 w/\∀(_x5:Nat->Value) (x6:Int) (w1:World),I x6 w1->cond (decide (x6<(x1:Int))) (((0:Int)<=x6/\x6<(x1:Int))/\Ak x0 (fun x7=>∃x8 x9 ae aa ad,Ad w1 (x7.add (x6.toNat*5)) [.int .i64 x8,.int .i64 x9,.int .i64 ae,.int .i64 aa,.int .i64 ad]/\Eh Tryz.prog x3 #[.agg #[.int .i64 x8,.int .i64 x9,.int .i64 ae,.int .i64 aa,.int .i64 ad]] (fun ai w2=>∃ag,ai= .bool ag/\cond (ag) (K (.int .i64 x6) w2) (I (IntKind.i64.wrap (x6+1)) w2/\x4 (IntKind.i64.wrap (x6+1)) w2<x4 x6 w1)) w1)) (K (.int .i64 (-1)) w1)
theorem Gb (x0:Option Addr) (x1:Nat) (x2:Nat) (x3:Value) (K:Value->World->Prop) (w:World) (h:Ga x0 x1 x2 x3 K w):Calls Tryz.prog 134 #[.slice x0 x1 x2,x3] w (aG K):=
 Ag { loops:=[(26,[(8,.int .i64)])] } Tryz.func134 (by kernel_rfl) h
open Go.Lv Go.Ty
def tJ (c:Ah) (n:Int):Bool:=eL n (Py c.af-1)
def zy (p:Aj) (n:Int):Bool:=eL n ((p.vars.length:Int)-1)
def Rg (c:Ah) (p:Aj) (a:F4):Bool:=cond (a.kind==1) ((rP c p.bp a.goto&&(tJ c a.chan&&zy p a.slot))&&(a.val==0)) (cond (a.kind==2) ((rP c p.bp a.goto&&tJ c a.chan)&&(a.slot==0)) (cond (a.kind==3) ((rP c p.bp a.goto&&eL a.val 1099511627776)&&((a.chan==0)&&(a.slot==0))) false))
def Lm (c:Ah) (p:Aj) (k:Nat):Bool:=match k with
 |0=>l8 c p.bp p.at_==1|1=>rP c p.bp p.at_&&tJ c p.chan|2=>rP c p.bp p.at_&&(tJ c p.chan&&zy p p.slot)|3=>(l8 c p.bp p.at_==1)&& !p.alts.any (fun a=> !Rg c p a)
 |4=>rP c p.bp p.at_&&eL p.bR 1099511627776|5=>p.at_==0|_=>l8 c p.bp p.at_==1
def Jy (g:Nat) (bs:List Nat):Value:= .func (.func g) #[] (bs.map fun b=>Value.pointer (some (Zb b))).toArray
theorem Hx {P:Program} {g:Nat} {bs:List Nat} (az:List Value) {K:Value->World->Prop} {w:World} (hg:Cd P g=true) (h:Calls P g (az++bs.map fun b=>Value.pointer (some ⟨b,0,none⟩)).toArray w (aG K)):Eh P (Jy g bs) az.toArray K w:=by
 show cond (Cd P g) (Calls P g (#[]++az.toArray++(bs.map fun b=>Value.pointer (some ⟨b,0,none⟩)).toArray) w (aG K)) _
 rw [hg];simpa using h
def cCs (c:Ah) (a0:Option Addr) (c0:Nat) (a1:Option Addr) (c1:Nat) (a2:Option Addr) (c2:Nat):List Value:=[.slice a0 c.ins.length c0,.slice a1 c.defs.length c1,.slice a2 c.af.length c2,.int .i64 c.main,.int .i64 c.stmts]
def pCs (p:Aj) (a0:Option Addr) (c0:Nat) (a1:Option Addr) (c1:Nat):List Value:=[.int .i64 p.bp,.int .i64 p.at_,.slice a0 p.vars.length c0,.int .i64 p.fuel,.int .i64 p.mode,.int .i64 p.chan,.int .i64 p.val,.int .i64 p.slot,.int .i64 p.bR,.int .i64 p.since,.slice a1 p.alts.length c1]
structure nj where
 a0:Option Addr
 a1:Option Addr
 a2:Option Addr
 a3:Option Addr
 a4:Option Addr
 c0:Nat
 c1:Nat
 c2:Nat
 c3:Nat
 c4:Nat
 b:Nat
 b1:Nat
 b2:Nat
 b3:Nat
 b4:Nat
 b5:Nat
 b6:Nat
 b7:Nat
 Z:List Value
structure jH (c:Ah) (p:Aj) (m:List Nat) (w:World) (D:nj):Prop where
 lD:fj c
 cl:c.af.length<=100000
 d0:0<=p.bp
 va:p.vars.length<=100000
 al:p.alts.length<=100000
 hm:bB m w
 le:c.ins.length<=D.c0
 f:aW Df m w D.a0 c.ins
 bz:c.defs.length<=D.c1
 f1:aW Gc m w D.a1 c.defs
 bH:c.af.length<=D.c2
 f2:aW Dv m w D.a2 c.af
 cY:p.vars.length<=D.c3
 f3:aW (A8 .i64) m w D.a3 p.vars
 eB:p.alts.length<=D.c4
 f4:aW Mb m w D.a4 p.alts
def cC (c:Ah) (D:nj):List Value:=cCs c D.a0 D.c0 D.a1 D.c1 D.a2 D.c2
def pC (p:Aj) (D:nj):List Value:=pCs p D.a3 D.c3 D.a4 D.c4
def PK (c:Ah) (p:Aj) (D:nj):List Pc:=[.box D.b7 [Jy 124 [D.b4,D.b5,D.b6]],.box D.b6 [Jy 123 [D.b1]],.box D.b5 [Jy 121 [D.b]],.box D.b4 [Jy 120 [D.b,D.b1]],.box D.b3 [Jy 118 [D.b,D.b1]],.box D.b2 D.Z,.box D.b1 (pC p D),.box D.b (cC c D)]
structure St (c:Ah) (p:Aj) (m:List Nat) (w:World) (D:nj) (u:World):Prop where
 o:Mem w.heap.size [] m [([],w.heap.size,w)] [] u (PK c p D)
 st:Step m w (ms (PK c p D) m) u
theorem Cp {P:Program} {v:Value} {args:Array Value} {K K':Value->World->Prop} {u:World} (h:Eh P v args K u) (hk:∀x u',K x u'->K' x u'):Eh P v args K' u:=by
 unfold Eh at h⊢;split at h
 ·rename_i g first kz
  cases hg:Cd P g
  ·rw [hg]at h;obtain⟨x,u',h1,h2⟩:=h;exact⟨x,u',h1,hk _ _ h2⟩
  ·rw [hg]at h;exact Ac h hk
 ·exact h
section
attribute [local irreducible] Eh
variable {c:Ah} {p:Aj} {m:List Nat} {w:World} {D:nj}
theorem St.ext {u u':World} (h:St c p m w D u) (k:Ai [] u u'):St c p m w D u':=⟨h.o.ext k,h.st.trans (h.o.xE k)⟩
theorem jH.GL (F:jH c p m w D) {u:World} (h:St c p m w D u):Bv.rep (ms (PK c p D) m) u c (cC c D):=Az c ⟨F.le,F.f.st h.st⟩ ⟨F.bz,F.f1.st h.st⟩ ⟨F.bH,F.f2.st h.st⟩
theorem jH.SX (F:jH c p m w D) {u:World} (h:St c p m w D u):Bp.rep (ms (PK c p D) m) u p (pC p D):=Bq p ⟨F.cY,F.f3.st h.st⟩ ⟨F.eB,F.f4.st h.st⟩
theorem jH.dl (F:jH c p m w D):c.defs.length<=100000:=by have:=F.lD.n2;omega
def tK (c:Ah) (p:Aj) (m:List Nat) (w:World) (D:nj) (v:Value) (r:Bool):Prop:=∀u,St c p m w D u->Eh Tryz.prog v #[] (fun x u'=>x= .bool r/\Ai [] u u') u
def GM (c:Ah) (p:Aj) (m:List Nat) (w:World) (D:nj) (v:Value) (r:Int->Bool):Prop:=∀u (n:Int),St c p m w D u->Eh Tryz.prog v #[.int .i64 n] (fun x u'=>x= .bool (r n)/\Ai [] u u') u
theorem GN (F:jH c p m w D):tK c p m w D (Jy 118 [D.b,D.b1]) (l8 c p.bp p.at_==1):=fun u h=>
 Hx [] (by kernel_rfl) (Y5 ⟨D.b,0,none⟩ ⟨D.b1,0,none⟩ _ _ ⟨_,_,_,_,_,_,_,_,_,_,_,(h.o.at 7 rfl).whole,_,_,_,_,_,_,_,_,_,_,_,_,_,_,_,(h.o.at 6 rfl).whole,_,(h.o.at 6 rfl).cell rfl,
  Ac (SO c F.dl p F.d0 p.at_ (fun r=>r=l8 c p.bp p.at_) rfl _ u (h.o.mn F.hm) _ (F.GL h) _ (F.SX h)) fun _ _ ⟨_,hr,hv,hk⟩=>⟨_,hv,by rw [hr],hk⟩⟩)
theorem Z0 (F:jH c p m w D):GM c p m w D (Jy 120 [D.b,D.b1]) (rP c p.bp):=fun u n h=>
 Hx [.int .i64 n] (by kernel_rfl) (Y7 n ⟨D.b,0,none⟩ ⟨D.b1,0,none⟩ _ _ ⟨_,_,_,_,_,_,_,_,_,_,_,(h.o.at 7 rfl).whole,_,_,_,_,_,_,_,_,_,_,_,_,_,_,_,(h.o.at 6 rfl).whole,
  Ac (SO c F.dl p F.d0 n (fun r=>r=l8 c p.bp n) rfl _ u (h.o.mn F.hm) _ (F.GL h) _ (F.SX h)) fun _ _ ⟨_,hr,hv,hk⟩=>⟨_,hv,fun _=>⟨by rw [hr];rfl,hk⟩⟩⟩)
theorem zz (F:jH c p m w D):GM c p m w D (Jy 121 [D.b]) (tJ c):=fun u n h=>
 Hx [.int .i64 n] (by kernel_rfl) (Y9 n ⟨D.b,0,none⟩ _ _ ⟨_,_,_,_,_,_,_,_,_,_,_,(h.o.at 7 rfl).whole,
  Ac (Ax7 F.lD F.cl (fun r=>r=Py c.af) rfl _ u (h.o.mn F.hm) _ (F.GL h)) fun _ u1 ⟨_,hr,hv,hk⟩=>⟨_,hv,by
   subst hr;have hle:=GK F.lD c.af.length;rw [take_length]at hle;have:=F.cl;rw [A3 (by omega) (by omega)];exact Ac (Gw _ _ (fun r=>r=tJ c n) rfl _ u1 ((h.ext hk).o.mn F.hm)) fun _ _ ⟨_,hr,hv,iw⟩=>⟨_,hv,by rw [hr],hk.trans iw⟩⟩⟩)
theorem SY (F:jH c p m w D):GM c p m w D (Jy 123 [D.b1]) (zy p):=fun u n h=>
 Hx [.int .i64 n] (by kernel_rfl) (Zc n ⟨D.b1,0,none⟩ _ _ ⟨_,_,_,(h.o.at 6 rfl).cell rfl,by
  have:=F.va;rw [A3 (by omega) (by omega)];exact Ac (Gw _ _ (fun r=>r=zy p n) rfl _ u (h.o.mn F.hm)) fun _ _ ⟨_,hr,hv,hk⟩=>⟨_,hv,by rw [hr],hk⟩⟩)
theorem Bbp (F:jH c p m w D):tK c p m w D (Jy 125 [D.b4,D.b1,D.b5]) (Lm c p 1):=fun u h=>
 Hx [] (by kernel_rfl) (Zg ⟨D.b4,0,none⟩ ⟨D.b1,0,none⟩ ⟨D.b5,0,none⟩ _ _ ⟨_,(h.o.at 3 rfl).cell rfl,_,(h.o.at 6 rfl).cell rfl,
  Cp (Z0 F u p.at_ h) fun _ u1 ⟨hv,hk⟩=>⟨_,hv,by
   have h1:=h.ext hk;unfold Lm;refine Ab (fun e=>⟨_,(h1.o.at 2 rfl).cell rfl,_,(h1.o.at 6 rfl).cell rfl,Cp (zz F u1 p.chan h1) fun _ u2 ⟨lT,iw⟩=>⟨_,lT,by rw [e];rfl,hk.trans iw⟩⟩) fun e=>⟨by rw [e];rfl,hk⟩⟩⟩)
theorem Ax8 (F:jH c p m w D):tK c p m w D (Jy 126 [D.b4,D.b1,D.b5,D.b6]) (Lm c p 2):=fun u h=>
 Hx [] (by kernel_rfl) (Zi ⟨D.b4,0,none⟩ ⟨D.b1,0,none⟩ ⟨D.b5,0,none⟩ ⟨D.b6,0,none⟩ _ _ ⟨_,(h.o.at 3 rfl).cell rfl,_,(h.o.at 6 rfl).cell rfl,
  Cp (Z0 F u p.at_ h) fun _ u1 ⟨hv,hk⟩=>⟨_,hv,by
   have h1:=h.ext hk;unfold Lm;refine Ab (fun e=>⟨_,(h1.o.at 2 rfl).cell rfl,_,(h1.o.at 6 rfl).cell rfl,Cp (zz F u1 p.chan h1) fun _ u2 ⟨lT,iw⟩=>⟨_,lT,?_⟩⟩) fun e=>⟨by rw [e];rfl,hk⟩
   have h2:=h1.ext iw;refine Ab (fun e2=>⟨_,(h2.o.at 1 rfl).cell rfl,_,(h2.o.at 6 rfl).cell rfl,Cp (SY F u2 p.slot h2) fun _ u3 ⟨hv3,tL⟩=>⟨_,hv3,by rw [e,e2];rfl,(hk.trans iw).trans tL⟩⟩) fun e2=>⟨by rw [e,e2];rfl,hk.trans iw⟩⟩⟩)
theorem Bac (F:jH c p m w D):tK c p m w D (Jy 130 [D.b4,D.b1]) (Lm c p 4):=fun u h=>
 Hx [] (by kernel_rfl) (Zm ⟨D.b4,0,none⟩ ⟨D.b1,0,none⟩ _ _ ⟨_,(h.o.at 3 rfl).cell rfl,_,(h.o.at 6 rfl).cell rfl,
  Cp (Z0 F u p.at_ h) fun _ u1 ⟨hv,hk⟩=>⟨_,hv,by
   have h1:=h.ext hk;unfold Lm;refine Ab (fun e=>⟨_,(h1.o.at 6 rfl).cell rfl,Ac (Gw _ _ (fun r=>r=eL p.bR 1099511627776) rfl _ u1 (h1.o.mn F.hm)) fun _ _ ⟨_,hr,lT,iw⟩=>⟨_,lT,by rw [hr,e];rfl,hk.trans iw⟩⟩) fun e=>⟨by rw [e];rfl,hk⟩⟩⟩)
theorem Bbq (F:jH c p m w D):tK c p m w D (Jy 131 [D.b1]) (Lm c p 5):=fun u h=>
 Hx [] (by kernel_rfl) (Xb ⟨D.b1,0,none⟩ _ _ ⟨_,(h.o.at 6 rfl).cell rfl,rfl,Ai.refl _ _⟩)
end
def qo (a:F4):List Value:=[.int .i64 a.kind,.int .i64 a.chan,.int .i64 a.val,.int .i64 a.slot,.int .i64 a.goto]
section
attribute [local irreducible] Eh
variable {c:Ah} {p:Aj} {m:List Nat} {w:World} {D:nj}
def SZ (c:Ah) (p:Aj) (m:List Nat) (w:World) (D:nj) (v:Value) (r:F4->Bool):Prop:=∀u (a:F4),St c p m w D u->Eh Tryz.prog v #[.agg (qo a).toArray] (fun x u'=>x= .bool (r a)/\Ai [] u u') u
theorem Bbr (F:jH c p m w D):SZ c p m w D (Jy 124 [D.b4,D.b5,D.b6]) (Rg c p):=by
 intro u a h;refine Hx [.agg (qo a).toArray] (by kernel_rfl) (Ze a.kind a.chan a.val a.slot a.goto ⟨D.b4,0,none⟩ ⟨D.b5,0,none⟩ ⟨D.b6,0,none⟩ _ _ ?_);intro b w1 hb aU;obtain⟨_,o⟩:=(Mem.start h.o.mlt).dB hb aU;refine⟨_,(o.at 0 rfl).cell rfl,_,(o.at 0 rfl).cell rfl,?_⟩;intro b1 w2 ca cJ;obtain⟨_,o⟩:=o.dB ca cJ;refine⟨o.wr 0 rfl rfl,fun w3 eC=> ?_⟩;obtain⟨_,o⟩:=o.cH 0 eC rfl;have h3:=h.ext o.done;refine⟨_,(h3.o.at 3 rfl).cell rfl,_,(o.at 1 rfl).cell rfl,Cp (Z0 F w3 a.goto h3) ?_⟩;rintro _ w4 ⟨rfl,hk⟩;have o:=o.ext hk;refine⟨_,rfl,fun ok u'=>∃x2 x3 x4,Mem u.heap.size [] (ms (PK c p D) m) [([],u.heap.size,u)] [] u' [.box b1 [.int .i64 a.kind,.int .i64 x2,.int .i64 x3,.int .i64 x4,.int .i64 a.goto],.box b (qo a)]/\Rg c p a=(ok&&((x2==a.chan)&&((x3==a.val)&&(x4==a.slot)))),⟨_,(o.at 1 rfl).cell rfl,?_⟩,?_⟩
 ·refine Ab (fun e=> ?_) fun e=>Ab (fun e1=> ?_) fun e1=>Ab (fun e2=> ?_) fun e2=> ?_
  ·refine⟨fun u'=>Mem u.heap.size [] (ms (PK c p D) m) [([],u.heap.size,u)] [] u' [.box b1 [.int .i64 a.kind,.int .i64 a.chan,.int .i64 0,.int .i64 a.slot,.int .i64 a.goto],.box b (qo a)],fun w5 du=> ?_,fun _ w8 o=> ?_⟩
   ·obtain⟨_,o⟩:=o.dD du;refine⟨fun u'=>∃X,Mem u.heap.size [] (ms (PK c p D) m) [([],u.heap.size,u)] [] u' [.box b1 X,.box b (qo a)],⟨_,o⟩,_,fun u' ⟨_,o⟩=>(o.at 1 rfl).cell rfl,_,fun u' ⟨_,o⟩=>(o.at 1 rfl).cell rfl,o.wr 0 rfl rfl,fun w6 cZ=> ?_⟩;obtain⟨_,o⟩:=o.dS 0 cZ rfl;refine⟨⟨_,o⟩,o.wr 0 rfl rfl,fun w7 eY=> ?_⟩;exact(o.dS 0 eY rfl).2
   have h8:=h.ext o.done;refine Ab (fun r=> ?_) fun r=>⟨_,_,_,o,by unfold Rg;rw [e,cond_true,r];rfl⟩
   refine⟨_,(h8.o.at 2 rfl).cell rfl,_,(o.at 1 rfl).cell rfl,Cp (zz F w8 a.chan h8) ?_⟩;rintro _ w9 ⟨rfl,hk⟩;have o:=o.ext hk;have h9:=h8.ext hk;refine⟨_,rfl,Ab (fun r2=> ?_) fun r2=>⟨_,_,_,o,by unfold Rg;rw [e,cond_true,r,r2];rfl⟩⟩;refine⟨_,(h9.o.at 1 rfl).cell rfl,_,(o.at 1 rfl).cell rfl,Cp (SY F w9 a.slot h9) ?_⟩;rintro _ aK ⟨rfl,hk⟩;refine⟨_,rfl,_,_,_,o.ext hk,?_⟩;unfold Rg;rw [e,cond_true,r,r2,Bool.eq_iff_iff];simp;omega
  ·refine⟨fun u'=>Mem u.heap.size [] (ms (PK c p D) m) [([],u.heap.size,u)] [] u' [.box b1 [.int .i64 a.kind,.int .i64 a.chan,.int .i64 a.val,.int .i64 0,.int .i64 a.goto],.box b (qo a)],fun w5 du=> ?_,fun _ w8 o=> ?_⟩
   ·obtain⟨_,o⟩:=o.dD du;refine⟨fun u'=>∃X,Mem u.heap.size [] (ms (PK c p D) m) [([],u.heap.size,u)] [] u' [.box b1 X,.box b (qo a)],⟨_,o⟩,_,fun u' ⟨_,o⟩=>(o.at 1 rfl).cell rfl,_,fun u' ⟨_,o⟩=>(o.at 1 rfl).cell rfl,o.wr 0 rfl rfl,fun w6 cZ=> ?_⟩;obtain⟨_,o⟩:=o.dS 0 cZ rfl;refine⟨⟨_,o⟩,o.wr 0 rfl rfl,fun w7 eY=> ?_⟩;exact(o.dS 0 eY rfl).2
   have h8:=h.ext o.done;refine Ab (fun r=> ?_) fun r=>⟨_,_,_,o,by unfold Rg;rw [e,cond_false,e1,cond_true,r];rfl⟩
   refine⟨_,(h8.o.at 2 rfl).cell rfl,_,(o.at 1 rfl).cell rfl,Cp (zz F w8 a.chan h8) ?_⟩;rintro _ w9 ⟨rfl,hk⟩;refine⟨_,rfl,_,_,_,o.ext hk,?_⟩;unfold Rg;rw [e,cond_false,e1,cond_true,r,Bool.eq_iff_iff];simp;omega
  ·refine⟨_,(o.at 1 rfl).cell rfl,o.wr 0 rfl rfl,fun ck o3=> ?_⟩;obtain⟨_,o⟩:=o.dS 0 o3 rfl;have h8:=h.ext o.done;refine Ab (fun r=> ?_) fun r=>⟨_,_,_,o,by unfold Rg;rw [e,cond_false,e1,cond_false,e2,cond_true,r];rfl⟩
   refine⟨_,(o.at 1 rfl).cell rfl,Ac (Gw _ _ (fun x=>x=eL a.val 1099511627776) rfl _ ck (h8.o.mn F.hm)) ?_⟩;rintro _ w9 ⟨_,rfl,rfl,hk⟩;refine⟨_,rfl,_,_,_,o.ext hk,?_⟩;unfold Rg;rw [e,cond_false,e1,cond_false,e2,cond_true,r,Bool.eq_iff_iff];simp;omega
  ·exact⟨by unfold Rg;rw [e,cond_false,e1,cond_false,e2,cond_false],o.done⟩
 ·rintro _ ok cR ⟨x2,x3,x4,o,he⟩;refine Ab (fun e=>⟨_,_,_,_,_,(o.at 0 rfl).whole,_,_,_,_,_,(o.at 1 rfl).whole,?_,o.done⟩) fun e=>⟨by rw [he,e];rfl,o.done⟩
  rw [he,e];simp
theorem Bbs (F:jH c p m w D):SZ c p m w D (Jy 129 [D.b7]) (fun a=> !Rg c p a):=by
 intro u a h;refine Hx [.agg (qo a).toArray] (by kernel_rfl) (Vt a.kind a.chan a.val a.slot a.goto ⟨D.b7,0,none⟩ _ _ ?_);intro b w1 hb aU;obtain⟨_,o⟩:=(Mem.start h.o.mlt).dB hb aU;have h1:=h.ext o.done;refine⟨_,(h1.o.at 0 rfl).cell rfl,_,_,_,_,_,(o.at 0 rfl).whole,Cp (Bbr F w1 a h1) ?_⟩;rintro _ w4 ⟨rfl,hk⟩;exact⟨_,rfl,rfl,(o.ext hk).done⟩
theorem Bbt (F:jH c p m w D) (u:World) (h:St c p m w D u):Calls Tryz.prog 128 #[.slice D.a4 p.alts.length D.c4,Jy 129 [D.b7]] u (aG fun x u'=>x= .bool (p.alts.any fun a=> !Rg c p a)/\Ai [] u u'):=by
 refine Fi _ _ _ _ _ _ (Gb _ _ _ _ _ _ ?_);refine⟨fun x u'=>∃i:Nat,x=i/\i<=p.alts.length/\Ai [] u u'/\(p.alts.take i).any (fun a=> !Rg c p a)=false,fun x _=>((p.alts.length:Int)-x).toNat,⟨0,rfl,by omega,Ai.refl _ _,rfl⟩,?_⟩;rintro _ _ w1 ⟨i,rfl,hi,hk,ht⟩;have h1:=h.ext hk;have iP:=F.al;refine At.cond hi (fun aP=> ?_) fun heq=> ?_
 ·obtain⟨q,x,cs,hp,qn,hc,hr⟩:=(F.f4.st h1.st).elem (i:=(i:Int)) ⟨by omega,by omega⟩;rw [toNat_natCast,getElem?_eq_getElem aP,Option.some.injEq]at qn;obtain rfl:=Ji hr;refine⟨⟨by omega,by omega⟩,Ae hp ⟨_,_,_,_,_,hc.2,Cp (Bbs F w1 x h1) ?_⟩⟩;rintro _ w2 ⟨rfl,iw⟩;have htk:(p.alts.take (i+1)).any (fun a=> !Rg c p a)=(!Rg c p x):=by
   rw [List.take_add_one,getElem?_eq_getElem aP,List.any_append,ht,qn];simp
  refine⟨_,rfl,Ab (fun e=> ?_) fun e=> ?_⟩
  ·refine⟨_,rfl,?_,hk.trans iw⟩;have:p.alts.any (fun a=> !Rg c p a)=true:=List.any_eq_true.2 ⟨x,qn▸getElem_mem aP,e⟩;rw [this];exact congrArg Value.bool (decide_eq_true (by omega))
  ·rw [A3 (by omega) (by omega)];exact⟨⟨i+1,by omega,by omega,hk.trans iw,by rw [htk];exact e⟩,by show((p.alts.length:Int)-(↑i+1)).toNat<((p.alts.length:Int)-↑i).toNat;omega⟩
 ·subst heq;rw [take_length]at ht;exact⟨_,rfl,by rw [ht];rfl,hk⟩
theorem Ax9 (F:jH c p m w D):tK c p m w D (Jy 127 [D.b3,D.b1,D.b7]) (Lm c p 3):=fun u h=>
 Hx [] (by kernel_rfl) (Zk ⟨D.b3,0,none⟩ ⟨D.b1,0,none⟩ ⟨D.b7,0,none⟩ _ _ ⟨_,(h.o.at 4 rfl).cell rfl,
  Cp (GN F u h) fun _ u1 ⟨hv,hk⟩=>⟨_,hv,by
   have h1:=h.ext hk;unfold Lm;refine Ab (fun e=>⟨_,_,_,(h1.o.at 6 rfl).cell rfl,Ac (Bbt F u1 h1) fun _ _ ⟨lT,iw⟩=>⟨_,lT,by rw [e];rfl,hk.trans iw⟩⟩) fun e=>⟨by rw [e];rfl,hk⟩⟩⟩)
end
structure tM (s:Ar):Prop where
 procs:s.procs.length<=20
 out:s.out.length<=100
 each:∀p∈s.procs,p.vars.length<=40/\p.alts.length<=40
theorem Hy {α:Type} {a b:List α} {k:Nat} (ha:k<a.length) (hb:k<b.length):a.take (k+1)=b.take (k+1)↔a.take k=b.take k/\a[k]=b[k]:=by
 rw [F9 ha,F9 hb];constructor
 ·intro h;have:=List.append_inj h (by simp;omega);exact⟨this.1,by simpa using this.2⟩
 ·rintro⟨h1,h2⟩;rw [h1,h2]
theorem S_ (a b:List Int) (ha:a.length<2^40) (K:Bool->Prop) (h:K (decide (a=b))):Om a b K:=by
 refine Aeo _ _ _ (Ab (fun hc=> ?_) fun hc=> ?_)
 ·rwa [show decide (a=b)=false by
   rw [decide_eq_false_iff_not];rintro rfl;simp at hc]at h
 ·have hl:a.length=b.length:=by simp at hc;omega
  refine⟨fun i c=>At a.length (fun k=>a.take k=b.take k) i c,⟨_,At.start (by simp)⟩,?_⟩;rintro _ _ ⟨k,rfl,hk,rfl,he⟩;refine At.cond hk (fun hk=>Ax hk (Ax (by omega) (Ab (fun hc=> ?_) fun hc=>At.next (by omega) hk ?_))) fun hk=> ?_
  ·rwa [show decide (a=b)=false by
    rw [decide_eq_false_iff_not];rintro rfl;simp at hc]at h
  ·exact(Hy hk (by omega)).2 ⟨he,by simpa using hc⟩
  ·rw [hk,take_length,hl,take_length]at he
   rwa [show decide (a=b)=true by simpa using he]at h
theorem TA (x y:F4):((x.kind==y.kind)&&((x.chan==y.chan)&&((x.val==y.val)&&((x.slot==y.slot)&&((x.goto==y.goto)&&true)))))=decide (x=y):=by
 rw [Bool.eq_iff_iff];cases x;cases y
 simp
theorem Aya (a b:List F4) (ha:a.length<2^40) (K:Bool->Prop) (h:K (decide (a=b))):Ta a b K:=by
 refine Aek _ _ _ (Ab (fun hc=> ?_) fun hc=> ?_)
 ·rwa [show decide (a=b)=false by
   rw [decide_eq_false_iff_not];rintro rfl;simp at hc]at h
 ·have hl:a.length=b.length:=by simp at hc;omega
  refine⟨fun i c=>At a.length (fun k=>a.take k=b.take k) i c,⟨_,At.start (by simp)⟩,?_⟩;rintro _ _ ⟨k,rfl,hk,rfl,he⟩;refine At.cond hk (fun hk=>Ax hk (Ax (by omega) ?_)) fun hk=> ?_
  ·rw [TA];refine Ab (fun hc=> ?_) fun hc=>At.next (by omega) hk ?_
   ·rwa [show decide (a=b)=false by
     rw [decide_eq_false_iff_not];rintro rfl;simp at hc]at h
   ·exact(Hy hk (by omega)).2 ⟨he,by simpa using hc⟩
  ·rw [hk,take_length,hl,take_length]at he
   rwa [show decide (a=b)=true by simpa using he]at h
theorem Ayb (x y:Aj) (hv:x.vars.length<2^40) (ha:x.alts.length<2^40) (K:Bool->Prop) (h:K (decide (x=y))):S9 x y K:=by
 have no:∀ {b:Bool},x≠y->K (decide (x=y))->K false:=fun hn h=>by rwa [decide_eq_false hn]at h
 refine Ael _ _ _ ⟨fun b=>b= !(decide (x.bp=y.bp/\x.at_=y.at_/\x.fuel=y.fuel/\x.mode=y.mode/\x.chan=y.chan/\x.val=y.val)),?_,?_⟩
 ·refine Ab (fun hc=> ?_) fun h1=>Ab (fun hc=> ?_) fun h2=>Ab (fun hc=> ?_) fun h3=>Ab (fun hc=> ?_) fun h4=>Ab (fun hc=> ?_) fun h5=> ?_
  all_goals simp at*
  all_goals simp [*]
  all_goals (rw [Bool.eq_iff_iff];simp)
 rintro _ rfl;refine Ab (fun hc=> ?_) fun hc=> ?_
 ·refine no (b:=true) ?_ h;rintro rfl;simp at hc
 simp only [Bool.not_eq_false',decide_eq_true_eq]at hc;obtain⟨c1,c2,c3,c4,c5,c6⟩:=hc;refine Ab (fun d1=> ?_) fun d1=>no (b:=true) (fun e=>by rw [e]at d1;simp at d1) h
 refine Ab (fun d2=> ?_) fun d2=>no (b:=true) (fun e=>by rw [e]at d2;simp at d2) h
 refine Ab (fun d3=> ?_) fun d3=>no (b:=true) (fun e=>by rw [e]at d3;simp at d3) h
 refine S_ _ _ hv _ (Ab (fun d4=> ?_) fun d4=>no (b:=true) (fun e=>by rw [e]at d4;simp at d4) h);refine Aya _ _ ha _ ?_;have d1:x.slot=y.slot:=by simpa using d1
 have d2:x.bR=y.bR:=by simpa using d2
 have d3:x.since=y.since:=by simpa using d3
 have d4:x.vars=y.vars:=by simpa using d4
 rwa [show decide (x=y)=decide (x.alts=y.alts) by
  rw [Bool.eq_iff_iff,decide_eq_true_eq,decide_eq_true_eq];refine⟨fun e=>by rw [e],fun e=> ?_⟩;cases x;cases y
  simp_all]at h
theorem TB (x y:Ar) (sm:tM x) (K:Bool->Prop) (h:K (decide (x=y))):JC x y K:=by
 have ho:=sm.out;have hp:=sm.procs;have no:x≠y->K (decide (x=y))->K false:=fun hn h=>by rwa [decide_eq_false hn]at h
 refine Aef _ _ _ ⟨fun b=>b= !(decide (x.now=y.now/\x.since=y.since/\x.halt=y.halt/\x.fault=y.fault/\x.who=y.who/\x.out=y.out/\x.procs.length=y.procs.length)),?_,?_⟩
 ·refine Ab (fun hc=> ?_) fun h1=>Ab (fun hc=> ?_) fun h2=>Ab (fun hc=> ?_) fun h3=>Ab (fun hc=> ?_) fun h4=>Ab (fun hc=> ?_) fun h5=>S_ _ _ (by omega) _ (Ab (fun hc=> ?_) fun h6=> ?_)
  all_goals simp at*
  all_goals simp [*]
  all_goals (rw [Bool.eq_iff_iff];simp;omega)
 rintro _ rfl;refine Ab (fun hc=> ?_) fun hc=> ?_
 ·refine no ?_ h;rintro rfl;simp at hc
 simp only [Bool.not_eq_false',decide_eq_true_eq]at hc;obtain⟨c1,c2,c3,c4,c5,c6,c7⟩:=hc;refine⟨fun i c=>At x.procs.length (fun k=>x.procs.take k=y.procs.take k) i c,⟨_,At.start (by simp)⟩,?_⟩;rintro _ _ ⟨k,rfl,hk,rfl,he⟩;refine At.cond hk (fun hk=> ?_) fun hk=> ?_
 ·have hx:=sm.each _ (getElem_mem hk);refine⟨fun b=>b= !(decide (x.procs[k]=y.procs[k])),Ax hk (Ax (by omega) (Ayb _ _ (by omega) (by omega) _ rfl)),?_⟩;rintro _ rfl;refine Ab (fun hc=>no ?_ h) fun hc=>At.next (by omega) hk ?_
  ·rintro rfl;simp at hc
  ·exact(Hy hk (by omega)).2 ⟨he,by simpa using hc⟩
 ·rw [hk,take_length,c7,take_length]at he
  rwa [show decide (x=y)=true by
   rw [decide_eq_true_eq];cases x;cases y
   simp_all]at h
theorem Bad (a b:List Int) (ha:a.length<2^40) (K:Bool->Prop) (h:K (decide (a=b))):Ep a b K:=by
 refine Km _ _ _ (Ab (fun hc=> ?_) fun hc=> ?_)
 ·rwa [show decide (a=b)=false by
   rw [decide_eq_false_iff_not];rintro rfl;simp at hc]at h
 ·have hl:a.length=b.length:=by simp at hc;omega
  refine⟨fun i c=>At a.length (fun k=>a.take k=b.take k) i c,⟨_,At.start (by simp)⟩,?_⟩;rintro _ _ ⟨k,rfl,hk,rfl,he⟩;refine At.cond hk (fun hk=>Ax hk (Ax (by omega) (Ab (fun hc=> ?_) fun hc=>At.next (by omega) hk ?_))) fun hk=> ?_
  ·rwa [show decide (a=b)=false by
    rw [decide_eq_false_iff_not];rintro rfl;simp at hc]at h
  ·exact(Hy hk (by omega)).2 ⟨he,by simpa using hc⟩
  ·rw [hk,take_length,hl,take_length]at he
   rwa [show decide (a=b)=true by simpa using he]at h
theorem Bae (a b:List F4) (ha:a.length<2^40) (K:Bool->Prop) (h:K (decide (a=b))):Cm a b K:=by
 refine Gq _ _ _ (Ab (fun hc=> ?_) fun hc=> ?_)
 ·rwa [show decide (a=b)=false by
   rw [decide_eq_false_iff_not];rintro rfl;simp at hc]at h
 ·have hl:a.length=b.length:=by simp at hc;omega
  refine⟨fun i c=>At a.length (fun k=>a.take k=b.take k) i c,⟨_,At.start (by simp)⟩,?_⟩;rintro _ _ ⟨k,rfl,hk,rfl,he⟩;refine At.cond hk (fun hk=>Ax hk (Ax (by omega) ?_)) fun hk=> ?_
  ·rw [TA];refine Ab (fun hc=> ?_) fun hc=>At.next (by omega) hk ?_
   ·rwa [show decide (a=b)=false by
     rw [decide_eq_false_iff_not];rintro rfl;simp at hc]at h
   ·exact(Hy hk (by omega)).2 ⟨he,by simpa using hc⟩
  ·rw [hk,take_length,hl,take_length]at he
   rwa [show decide (a=b)=true by simpa using he]at h
theorem Ayc (x y:Aj) (hv:x.vars.length<2^40) (ha:x.alts.length<2^40) (K:Bool->Prop) (h:K (decide (x=y))):Xv x y K:=by
 have no:x≠y->K false:=fun hn=>by rwa [decide_eq_false hn]at h
 refine Ab3 _ _ _ ?_;refine Ab (fun d1=> ?_) fun d1=>no (fun e=>by rw [e]at d1;simp at d1)
 refine Ab (fun d2=> ?_) fun d2=>no (fun e=>by rw [e]at d2;simp at d2)
 refine Bad _ _ hv _ (Ab (fun d3=> ?_) fun d3=>no (fun e=>by rw [e]at d3;simp at d3));refine Ab (fun d4=> ?_) fun d4=>no (fun e=>by rw [e]at d4;simp at d4)
 refine Ab (fun d5=> ?_) fun d5=>no (fun e=>by rw [e]at d5;simp at d5)
 refine Ab (fun d6=> ?_) fun d6=>no (fun e=>by rw [e]at d6;simp at d6)
 refine Ab (fun d7=> ?_) fun d7=>no (fun e=>by rw [e]at d7;simp at d7)
 refine Ab (fun d8=> ?_) fun d8=>no (fun e=>by rw [e]at d8;simp at d8)
 refine Ab (fun d9=> ?_) fun d9=>no (fun e=>by rw [e]at d9;simp at d9)
 refine Ab (fun GQ=> ?_) fun GQ=>no (fun e=>by rw [e]at GQ;simp at GQ)
 refine Bae _ _ ha _ ?_
 rwa [show decide (x=y)=decide (x.alts=y.alts) by
  rw [Bool.eq_iff_iff,decide_eq_true_eq,decide_eq_true_eq];refine⟨fun e=>by rw [e],fun e=> ?_⟩;cases x;cases y
  simp_all]at h
def Ka (p:Aj):Aj:=cond (p.mode==1) ⟨p.bp,p.at_,p.vars,p.fuel,p.mode,p.chan,p.val,0,0,p.since,[]⟩ (cond (p.mode==2) ⟨p.bp,p.at_,p.vars,p.fuel,p.mode,p.chan,0,p.slot,0,p.since,[]⟩ (cond (p.mode==3) ⟨p.bp,p.at_,p.vars,p.fuel,p.mode,0,0,0,0,p.since,p.alts⟩ (cond (p.mode==4) ⟨p.bp,p.at_,p.vars,p.fuel,p.mode,0,0,0,p.bR,0,[]⟩ ⟨p.bp,p.at_,p.vars,p.fuel,p.mode,0,0,0,0,0,[]⟩)))
theorem Baf (p:Aj) (K:Aj->Prop) (h:K (Ka p)):Xu p K:=by
 refine Ab1 _ _ ⟨fun a b c d e f g i j k l=>(⟨a,b,c,d,e,f,g,i,j,k,l⟩:Aj)=Ka p,?_,fun _ _ _ _ _ _ _ _ _ _ _ e=>by rw [e];exact h⟩;unfold Ka;cases (p.mode==1)
 ·cases (p.mode==2)
  ·cases (p.mode==3)
   ·cases (p.mode==4)<;>exact rfl
   ·exact rfl
  ·exact rfl
 ·exact rfl
structure GR (c:Ah) (p:Aj):Prop where
 lD:fj c
 cl:c.af.length<=100000
 va:p.vars.length<=100000
 al:p.alts.length<=100000
section
attribute [local irreducible] Eh
variable {c:Ah} {p:Aj} {m:List Nat} {w:World}
def qp (c:Ah) (p:Aj) (w:World) (v:Value) (k:Nat):Prop:=∀u,Ai [] w u->Eh Tryz.prog v #[] (fun x u'=>x= .bool (Lm c p k)/\Ai [] u u') u
theorem Ayd (F:GR c p) (d0:0<=p.bp) (hm:bB m w) (l9 er:List Value) (hc:Bv.rep m w c l9) (hp:Bp.rep m w p er) (K:Value->World->Prop) (h:∀w' v0 v1 v2 v3 v4 v5 v6,Ai [] w w'->qp c p w' v0 0->qp c p w' v1 1->qp c p w' v2 2->qp c p w' v3 3->qp c p w' v4 4->qp c p w' v5 5->qp c p w' v6 6->K (.agg #[v0,v1,v2,v3,v4,v5,v6]) w'): Calls Tryz.prog 64 #[.agg ⟨l9⟩,.agg ⟨er⟩] w (aG K):=by
 obtain⟨a0,c0,a1,c1,a2,c2,rfl,⟨le,f⟩,⟨bz,f1⟩,⟨bH,f2⟩⟩:=A5 hc;obtain⟨a3,c3,a4,c4,rfl,⟨cY,f3⟩,⟨eB,f4⟩⟩:=A1 hp;have o:=Mem.start hm.lt;refine Ae5 _ _ _ _ _ _ _ _ _ _ _ _ _ _ _ _ _ _ _ _ _ _ _ _ _ _ _ _ ?_;intro b w1 hb aU;obtain⟨s1,o⟩:=o.dB hb aU;intro b1 w2 ca cJ;obtain⟨s2,o⟩:=o.dB ca cJ;intro b2 w3 di eC;obtain⟨s3,o⟩:=o.dB di eC;intro b3 w4 jj db;obtain⟨s4,o⟩:=o.dB jj db;refine⟨rfl,o.wr 0 rfl rfl,fun w5 du=> ?_⟩;obtain⟨s5,o⟩:=o.dS 0 du rfl;intro b4 w6 gQ cZ;obtain⟨s6,o⟩:=o.dB gQ cZ;refine⟨rfl,o.wr 0 rfl rfl,fun w7 eY=> ?_⟩;obtain⟨s7,o⟩:=o.dS 0 eY rfl;intro b5 w8 j8 gG;obtain⟨s8,o⟩:=o.dB j8 gG;refine⟨rfl,o.wr 0 rfl rfl,fun w9 ef=> ?_⟩;obtain⟨s9,o⟩:=o.dS 0 ef rfl;intro b6 aK GG fI;obtain⟨GU,o⟩:=o.dB GG fI;refine⟨rfl,o.wr 0 rfl rfl,fun aI iz=> ?_⟩;obtain⟨s11,o⟩:=o.dS 0 iz rfl;intro b7 bj GI j7;obtain⟨s12,o⟩:=o.dB GI j7;refine⟨rfl,o.wr 0 rfl rfl,fun bG nI=> ?_⟩;obtain⟨s13,o⟩:=o.dS 0 nI rfl;refine⟨_,(o.at 4 rfl).cell rfl,_,_,rfl,_,(o.at 4 rfl).cell rfl,_,_,rfl,?_⟩;refine⟨rfl,rfl,rfl,rfl,rfl,rfl,rfl,o.wr 5 rfl rfl,fun bt kN=> ?_⟩;obtain⟨s14,o⟩:=o.cH 5 kN rfl;have st:=((((((((((((s1.trans s2).trans s3).trans s4).trans s5).trans s6).trans s7).trans s8).trans s9).trans GU).trans s11).trans s12).trans s13).trans s14;obtain⟨D,hD⟩:∃D:nj,D=⟨a0,a1,a2,a3,a4,c0,c1,c2,c3,c4,b,b1,b2,b3,b4,b5,b6,b7,[Jy 118 [b,b1],Jy 125 [b4,b1,b5],Jy 126 [b4,b1,b5,b6],Jy 127 [b3,b1,b7],Jy 130 [b4,b1],Jy 131 [b1],Jy 118 [b,b1]]⟩:=⟨_,rfl⟩
 have FF:jH c p m w D:=by
  subst hD;exact⟨F.lD,F.cl,d0,F.va,F.al,hm,le,f,bz,f1,bH,f2,cY,f3,eB,f4⟩
 have S:St c p m w D bt:=by
  subst hD;exact⟨o,st⟩
 refine⟨(Kq bt 0).1,_,_,_,_,_,_,_,(o.at 5 rfl).whole,?_⟩;refine h _ _ _ _ _ _ _ _ o.done ?_ ?_ ?_ ?_ ?_ ?_ ?_
 all_goals intro u hk
 ·have:=GN FF u (S.ext hk);rw [hD]at this;exact this
 ·have:=Bbp FF u (S.ext hk);rw [hD]at this;exact this
 ·have:=Ax8 FF u (S.ext hk);rw [hD]at this;exact this
 ·have:=Ax9 FF u (S.ext hk);rw [hD]at this;exact this
 ·have:=Bac FF u (S.ext hk);rw [hD]at this;exact this
 ·have:=Bbq FF u (S.ext hk);rw [hD]at this;exact this
 ·have:=GN FF u (S.ext hk);rw [hD]at this;exact this
def Rh (c:Ah) (p:Aj):Bool:=
 ((eL p.bp ((c.defs.length:Int)-1)&&(eL p.fuel 1048576&&(eL p.since 1099511627776&&eL p.mode 6)))&&
   (match c.defs[p.bp.toNat]? with
    |some d=>(p.vars.length:Int)==d.vars|none=>false))&&(decide (Ka p=p)&&Lm c p p.mode.toNat)
theorem Bbu {v0 v1 v2 v3 v4 v5 v6:Value} {n:Int} {w:World} {K:Value->World->Prop} (hn:eL n 6=true) (h0:n=0->K v0 w) (h1:n=1->K v1 w) (h2:n=2->K v2 w) (h3:n=3->K v3 w) (h4:n=4->K v4 w) (h5:n=5->K v5 w) (h6:n=6->K v6 w): Bd Tryz.prog (Instr.index 132 (.agg #[v0,v1,v2,v3,v4,v5,v6]) (.int .i64 n)) K w:=by
 unfold eL at hn;simp at hn;have hc:n=0\/n=1\/n=2\/n=3\/n=4\/n=5\/n=6:=by omega
 rcases hc with rfl|rfl|rfl|rfl|rfl|rfl|rfl
 ·exact⟨v0,w,by kernel_rfl,h0 rfl⟩
 ·exact⟨v1,w,by kernel_rfl,h1 rfl⟩
 ·exact⟨v2,w,by kernel_rfl,h2 rfl⟩
 ·exact⟨v3,w,by kernel_rfl,h3 rfl⟩
 ·exact⟨v4,w,by kernel_rfl,h4 rfl⟩
 ·exact⟨v5,w,by kernel_rfl,h5 rfl⟩
 ·exact⟨v6,w,by kernel_rfl,h6 rfl⟩
theorem Avr (p:Aj):(Ka p).vars.length<=p.vars.length/\(Ka p).alts.length<=p.alts.length:=by
 unfold Ka;cases (p.mode==1)
 ·cases (p.mode==2)
  ·cases (p.mode==3)
   ·cases (p.mode==4)<;>exact⟨le_refl _,zero_le _⟩
   ·exact⟨le_refl _,le_refl _⟩
  ·exact⟨le_refl _,zero_le _⟩
 ·exact⟨le_refl _,zero_le _⟩
theorem Avs (F:GR c p) (K:Int->Prop) (h:K (cond (Rh c p) 0 9)):Uo c p K:=by
 intro m w hm l9 hc er hp;obtain⟨a0,c0,a1,c1,a2,c2,rfl,⟨le,f⟩,⟨bz,f1⟩,⟨bH,f2⟩⟩:=A5 hc;obtain⟨a3,c3,a4,c4,rfl,⟨cY,f3⟩,⟨eB,f4⟩⟩:=A1 hp;have dl:c.defs.length<=100000:=by have:=F.lD.n2;omega
 have o:=Mem.start hm.lt;refine Ae7 _ _ _ _ _ _ _ _ _ _ _ _ _ _ _ _ _ _ _ _ _ _ _ _ _ _ _ _ ?_;intro b w1 hb aU;obtain⟨s1,o⟩:=o.dB hb aU;intro b1 w2 ca cJ;obtain⟨s2,o⟩:=o.dB ca cJ;have st:=s1.trans s2;obtain⟨PP,l_⟩:∃PP:List Pc,PP=[.box b1 [.int .i64 p.bp,.int .i64 p.at_,.slice a3 p.vars.length c3,.int .i64 p.fuel,.int .i64 p.mode,.int .i64 p.chan,.int .i64 p.val,.int .i64 p.slot,.int .i64 p.bR,.int .i64 p.since,.slice a4 p.alts.length c4],.box b [.slice a0 c.ins.length c0,.slice a1 c.defs.length c1,.slice a2 c.af.length c2,.int .i64 c.main,.int .i64 c.stmts]]:=⟨_,rfl⟩
 refine⟨fun ok u=>ok=(eL p.bp ((c.defs.length:Int)-1)&&(eL p.fuel 1048576&&(eL p.since 1099511627776&&eL p.mode 6)))/\Mem w.heap.size [] m [([],w.heap.size,w)] [] u PP/\Step m w (ms PP m) u,⟨_,(o.at 0 rfl).cell rfl,_,_,_,(o.at 1 rfl).cell rfl,?_⟩,?_⟩
 ·rw [A3 (by omega) (by omega)];refine Ac (Gw _ _ (fun r=>r=eL p.bp ((c.defs.length:Int)-1)) rfl _ w2 (o.mn hm)) ?_;rintro _ w3 ⟨_,rfl,rfl,hk⟩;obtain⟨s3,o⟩:=o.dE hk;refine⟨_,rfl,Ab (fun e=> ?_) fun e=>⟨by rw [e];rfl,l_▸o,l_▸st.trans s3⟩⟩;rw [e];refine⟨_,(o.at 0 rfl).cell rfl,Ac (Gw _ _ (fun r=>r=eL p.fuel 1048576) rfl _ w3 (o.mn hm)) ?_⟩;rintro _ w4 ⟨_,rfl,rfl,hk⟩;obtain⟨s4,o⟩:=o.dE hk;refine⟨_,rfl,Ab (fun e=> ?_) fun e=>⟨by rw [e];rfl,l_▸o,l_▸(st.trans s3).trans s4⟩⟩;rw [e];refine⟨_,(o.at 0 rfl).cell rfl,Ac (Gw _ _ (fun r=>r=eL p.since 1099511627776) rfl _ w4 (o.mn hm)) ?_⟩;rintro _ w5 ⟨_,rfl,rfl,hk⟩;obtain⟨s5,o⟩:=o.dE hk;refine⟨_,rfl,Ab (fun e=> ?_) fun e=>⟨by rw [e];rfl,l_▸o,l_▸((st.trans s3).trans s4).trans s5⟩⟩;rw [e];refine⟨_,(o.at 0 rfl).cell rfl,Ac (Gw _ _ (fun r=>r=eL p.mode 6) rfl _ w5 (o.mn hm)) ?_⟩;rintro _ w6 ⟨_,rfl,rfl,hk⟩;obtain⟨s6,o⟩:=o.dE hk;exact⟨_,rfl,rfl,l_▸o,l_▸(((st.trans s3).trans s4).trans s5).trans s6⟩
 rintro _ ok w7 ⟨eM,o,st⟩;have hB:Rh c p=(ok&&(match c.defs[p.bp.toNat]? with
  |some d=>(p.vars.length:Int)==d.vars
  |none=>false)&&(decide (Ka p=p)&&Lm c p p.mode.toNat)):=by rw [eM];rfl
 refine⟨fun bad u=>bad=(!Rh c p)/\Ai [] w u,fun w8 gG=> ?_,?_⟩
 ·obtain⟨s3,o⟩:=o.dD gG;have st:=st.trans s3;subst l_;have ox:=o;refine⟨fun u=>Ai [] w8 u,Ai.refl _ _,?_⟩;refine Ab (fun e=> ?_) fun e=> ?_
  ·have e:ok=false:=by simpa using e
   exact⟨by rw [hB,e];rfl,o.done⟩
  have e:ok=true:=by simpa using e
  rw [e]at hB eM;have eM:=eM.symm;rw [and_eq_true,and_eq_true,and_eq_true]at eM;obtain⟨hd,_,_,hmo⟩:=eM;have dU:=hd;unfold eL at dU;simp at dU;refine⟨_,_,_,fun u hu=>((ox.at 0 rfl).bo hu (by simp)).cell rfl,_,_,_,fun u hu=>((ox.at 1 rfl).bo hu (by simp)).cell rfl,_,fun u hu=>((ox.at 0 rfl).bo hu (by simp)).cell rfl,⟨by omega,by omega⟩,?_⟩;obtain⟨q,x,cs,hq,qn,hc,hr⟩:=(f1.st st).elem (i:=p.bp) ⟨by omega,by omega⟩;obtain rfl:=Bb hr;rw [qn]at hB;have hB:Rh c p=(true&&((p.vars.length:Int)==x.vars)&&(decide (Ka p=p)&&Lm c p p.mode.toNat)):=hB;refine Ae hq ⟨_,fun u hu=>(H0.held hc hu (by simp)) 3 (Nat.le_of_ble_eq_true rfl),Ab (fun e1=> ?_) fun e1=> ?_⟩
  ·refine⟨?_,o.done⟩;rw [hB,show((p.vars.length:Int)==x.vars)=false by simpa using e1];rfl
  rw [show((p.vars.length:Int)==x.vars)=true by simpa using e1]at hB;refine⟨_,_,_,_,_,_,_,_,_,_,_,_,_,_,_,fun u hu=>((ox.at 0 rfl).bo hu (by simp)).whole,_,_,_,_,_,_,_,_,_,_,_,_,_,_,_,fun u hu=>((ox.at 0 rfl).bo hu (by simp)).whole,?_⟩;refine Ac (Baf p (fun q=>q=Ka p) rfl _ w8 (o.mn hm) _ (Bq p ⟨cY,f3.st st⟩ ⟨eB,f4.st st⟩)) ?_;rintro _ w9 ⟨_,rfl,⟨qcs,rfl,hq⟩,iR⟩;obtain⟨a5,c5,a6,c6,rfl,⟨eI,f5⟩,⟨fY,f6⟩⟩:=A1 hq;obtain⟨s4,o⟩:=o.dE iR;have ar:=st.trans s4;have bl:=Avr p;have zp:=F.va;have iP:=F.al;refine⟨_,_,_,_,_,_,_,_,_,_,_,_,_,_,_,rfl,iR,?_⟩;refine Ac (Ayc (Ka p) p (by omega) (by omega) (fun r=>r=decide (Ka p=p)) rfl _ w9 (o.mn hm) _ (Bq _ ⟨eI,f5⟩ ⟨fY,f6⟩) _ (Bq p ⟨cY,f3.st ar⟩ ⟨eB,f4.st ar⟩)) ?_;rintro _ aK ⟨_,rfl,rfl,iw⟩;obtain⟨s5,o⟩:=o.dE iw;have aR:=ar.trans s5;refine⟨_,rfl,iR.trans iw,Ab (fun e2=> ?_) fun e2=> ?_⟩
  ·refine⟨?_,o.done⟩;rw [hB,show decide (Ka p=p)=false by simpa using e2];rfl
  rw [show decide (Ka p=p)=true by simpa using e2]at hB;refine⟨_,_,_,_,_,_,_,_,_,_,_,fun u hu=>((ox.at 1 rfl).bo hu (by simp)).whole,_,_,_,_,_,_,_,_,_,_,_,_,_,_,_,fun u hu=>((ox.at 0 rfl).bo hu (by simp)).whole,_,fun u hu=>((ox.at 0 rfl).bo hu (by simp)).cell rfl,?_⟩;refine Ayd F (by omega) (o.mn hm) _ _ (Az c ⟨le,f.st aR⟩ ⟨bz,f1.st aR⟩ ⟨bH,f2.st aR⟩) (Bq p ⟨cY,f3.st aR⟩ ⟨eB,f4.st aR⟩) _ ?_;intro aI v0 v1 v2 v3 v4 v5 v6 tL l0 l1 l2 l3 l4 l5 l6;refine⟨_,_,_,_,_,_,_,rfl,(iR.trans iw).trans tL,?_⟩;have fin:∀(n:Nat) (v:Value),qp c p aI v n->p.mode=n->Eh Tryz.prog v #[] (fun jw bG=>∃j6,jw= .bool j6/\(!j6)=(!Rh c p)/\Ai [] w bG) aI:=by
   intro n v hl e3;refine Cp (hl aI (Ai.refl _ _)) ?_;rintro _ bG ⟨rfl,GV⟩;refine⟨_,rfl,?_,(o.done.trans tL).trans GV⟩;rw [hB,e3,toNat_natCast];rfl
  refine Bbu hmo ?_ ?_ ?_ ?_ ?_ ?_ ?_<;>intro e3
  ·exact fin 0 v0 l0 e3
  ·exact fin 1 v1 l1 e3
  ·exact fin 2 v2 l2 e3
  ·exact fin 3 v3 l3 e3
  ·exact fin 4 v4 l4 e3
  ·exact fin 5 v5 l5 e3
  ·exact fin 6 v6 l6 e3
 ·rintro _ bad bt ⟨rfl,hk⟩;cases hb:Rh c p
  ·rw [hb]at h;exact⟨(Kq bt 0).1,_,h,rfl,hk⟩
  ·rw [hb]at h;exact⟨(Kq bt 0).1,_,h,rfl,hk⟩
end
section
variable {c:Ah} {p:Aj}
end
def tA (p:Aj) (l:List F4):List Int:=cond (p.mode==3) ((l.filter (·.kind==3)).map (·.val)) []
def T3 (p:Aj):List Int:=cond (p.mode==4) [p.bR] (tA p p.alts)
def Sk (r:Int×Bool) (v:Int):Int×Bool:=cond (!r.2||decide (v<r.1)) (v,true) r
def oh (p:Aj):Int×Bool:=(T3 p).foldl Sk (0,false)
theorem TC (p:Aj):tA p []=[]:=by unfold tA;cases (p.mode==3)<;>rfl
theorem TD (p:Aj) {l:List F4} {k:Nat} (h:k<l.length):tA p (l.take (k+1))=tA p (l.take k)++cond (p.mode==3&&(l[k].kind==3)) [l[k].val] []:=by
 unfold tA;rw [X0 _ h];cases (p.mode==3)
 ·rfl
 ·rw [cond_true,cond_true,Bool.true_and,List.map_append];cases (l[k].kind==3)<;>rfl
theorem TE (p:Aj) (l:List F4):(tA p l).length<=l.length:=by
 unfold tA;cases (p.mode==3)
 ·exact zero_le _
 ·rw [cond_true,List.length_map];exact List.length_filter_le _ _
theorem TF (p:Aj) (al:p.alts.length<=100000) (K:Int->Bool->Prop) (h:K (oh p).1 (oh p).2):Mf p K:=by
 unfold oh T3 at h;refine Ab5 _ _ (Ab (fun e=>by rw [e]at h;exact h) fun e=> ?_);rw [e,cond_false]at h;refine⟨fun a b i n=>At p.alts.length (fun k=>(a,b)=(tA p (p.alts.take k)).foldl Sk (0,false)) i n,⟨_,At.start (by rw [List.take_zero,TC];rfl)⟩,?_⟩;rintro a b _ _ ⟨k,rfl,hk,rfl,he⟩;refine At.cond hk (fun hk=> ?_) fun hk=> ?_
 ·refine⟨fun a' b'=>(a',b')=(tA p (p.alts.take (k+1))).foldl Sk (0,false),Ax hk ?_,fun a' b' kY=>At.next (by omega) hk kY⟩;refine⟨fun x=>x=(p.mode==3&&(p.alts[k].kind==3&&(!b||decide (p.alts[k].val<a)))),?_,?_⟩
  ·refine Ab (fun e1=> ?_) fun e1=>by rw [e1];rfl
   rw [e1];refine Ab (fun e2=> ?_) fun e2=>by rw [e2];rfl
   rw [e2];cases b<;>exact rfl
  ·rintro _ rfl;rw [TD p hk,List.foldl_append,←he];cases (p.mode==3)
   ·exact rfl
   cases (p.alts[k].kind==3)
   ·exact rfl
   show cond (!b||decide (p.alts[k].val<a)) _ _
   refine Ab (fun e3=> ?_) fun e3=> ?_
   ·show(p.alts[k].val,true)=Sk (a,b) p.alts[k].val
    unfold Sk;simp only [e3,cond_true]
   ·show(a,b)=Sk (a,b) p.alts[k].val
    unfold Sk;simp only [e3,cond_false]
 ·rw [hk,take_length]at he;rw [←he]at h;exact h
theorem Aye (p:Aj) (al:p.alts.length<=100000) (K:List Int->Prop) (h:K (T3 p)):Qh p K:=by
 unfold T3 at h;refine Abr _ _ ⟨fun l=>l=cond (p.mode==4) [p.bR] [],?_,?_⟩
 ·refine Ab (fun e=> ?_) fun e=>by rw [e];rfl
  rw [e];exact⟨by show 0+1<2^32;omega,rfl⟩
 rintro _ rfl;refine⟨fun l i n=>At p.alts.length (fun k=>l=cond (p.mode==4) [p.bR] []++tA p (p.alts.take k)) i n,⟨_,At.start (by rw [List.take_zero,TC,append_nil])⟩,?_⟩;rintro l _ _ ⟨k,rfl,hk,rfl,he⟩;have hlen:l.length<=1+k:=by
  rw [he,List.length_append];have:=TE p (p.alts.take k);rw [length_take]at this;cases (p.mode==4)<;>simp<;>omega
 refine⟨fun x=>x=(decide ((k:Int)<(p.alts.length:Int))&&(p.mode==3)),?_,?_⟩
 ·cases decide ((k:Int)<(p.alts.length:Int))<;>exact rfl
 rintro _ rfl;refine Ab (fun e=> ?_) fun e=> ?_
 ·rw [and_eq_true,decide_eq_true_eq]at e;obtain⟨vw,e3⟩:=e;have hk:k<p.alts.length:=by omega
  refine⟨fun l'=>l'=cond (p.mode==4) [p.bR] []++tA p (p.alts.take (k+1)),Ax hk ?_,fun l' kY=>At.next (by omega) hk kY⟩;rw [TD p hk,←List.append_assoc,←he,e3,Bool.true_and];refine Ab (fun e4=>Ax hk ⟨by show l.length+1<2^32;omega,?_⟩) fun e4=> ?_
  ·rw [e4];rfl
  ·rw [e4];exact(append_nil _).symm
 ·have m_:l=cond (p.mode==4) [p.bR] (tA p p.alts):=by
   rw [he];cases h3:(p.mode==3)
   ·have:∀q,tA p q=[]:=fun q=>by unfold tA;rw [h3];rfl
    rw [this,this];cases (p.mode==4)<;>rfl
   ·rw [h3,Bool.and_true,decide_eq_false_iff_not]at e;have:k=p.alts.length:=by omega
    rw [this,take_length];have:(p.mode==4)=false:=by
     simp at h3⊢;omega
    rw [this];rfl
  rw [←m_]at h;exact h
theorem TG (x:Int):∀(l:List Int),l.foldl Sk (x,true)=(l.foldl (fun a v=>if v<a then v else a) x,true)
 |[]=>rfl
 |v::l=>by
  rw [List.foldl_cons,List.foldl_cons,←TG _ l];congr 1;unfold Sk;by_cases hc:v<x
  ·rw [if_pos hc,decide_eq_true hc];rfl
  ·rw [if_neg hc,decide_eq_false hc];rfl
theorem Bag (p:Aj) (al:p.alts.length<=100000) (K:Du->Prop) (h:K ⟨(oh p).1,(oh p).2⟩):Wd p K:=by
 have hl:(T3 p).length<=100001:=by
  unfold T3;have:=TE p p.alts;cases (p.mode==4)
  ·rw [cond_false];omega
  ·exact Nat.le_of_ble_eq_true rfl
 refine Aiw _ _ (Aye p al _ ?_);unfold oh at h;cases ht:T3 p with
 |nil=>rw [ht]at h;exact h
 |cons x l=>
  rw [ht]at h hl;rw [List.foldl_cons,show Sk (0,false) x=(x,true) from rfl,TG]at h;have cf:(((x::l).length:Int)==0)=false:=by simp;omega
  rw [cf,cond_false];refine⟨⟨by omega,by rw [length_cons];omega⟩,fun x' kI=> ?_⟩;cases kI
  refine⟨fun i a b n=>∃k:Nat,i=((k+1:Nat):Int)/\k<=l.length/\n=l.length-k/\a=(l.take k).foldl (fun a v=>if v<a then v else a) x/\b=true,⟨_,0,rfl,zero_le _,rfl,rfl,rfl⟩,?_⟩;rintro _ _ _ _ ⟨k,rfl,hk,rfl,rfl,rfl⟩;refine Ab (fun hc=> ?_) fun hc=> ?_
  ·have hk:k<l.length:=by
    have:=of_decide_eq_true hc;rw [length_cons]at this;omega
   refine⟨fun a b=>a=(l.take (k+1)).foldl (fun a v=>if v<a then v else a) x/\b=true,⟨⟨by omega,by rw [length_cons];omega⟩,fun x1 ph=> ?_⟩,?_⟩
   ·rw [toNat_natCast,List.getElem?_cons_succ,getElem?_eq_getElem hk]at ph;cases ph
    rw [F9 hk,List.foldl_append];exact⟨rfl,rfl⟩
   ·rintro _ _ ⟨rfl,rfl⟩;rw [length_cons]at hl;exact⟨l.length-(k+1),by omega,k+1,by rw [A3 (by omega) (by omega)];omega,by omega,rfl,rfl,rfl⟩
  ·have hk:k=l.length:=by
    have:=of_decide_eq_false hc;rw [length_cons]at this;omega
   rw [hk,take_length];exact h
theorem Xc {α:Type} (l:List α) (hl:l.length<=100000) (p:α->Bool) (V:α->(Bool->Prop)->Prop) (hV:∀x∈l,∀K,K (p x)->V x K) (K:Int->Prop) (h1:∀(i:Nat) (hi:i<l.length),p l[i]=true->(∀(j:Nat) (hj:j<i),p (l[j]'(by omega))=false)->K i) (h2:(∀x∈l,p x=false)->K (-1)): ∃(I:Int->Nat->Prop),(∃n,I 0 n)/\∀(x:Int) (n:Nat),I x n->cond (decide (x<(l.length:Int))) (((0:Int)<=x/\x<(l.length:Int))/\∀x1,l[x.toNat]? =some x1->V x1 (fun x2=>cond x2 (K x) (∃n1,n1<n/\I (IntKind.i64.wrap (x+1)) n1))) (K (-1)):=by
 refine⟨fun i n=>At l.length (fun k=>∀(j:Nat) (hj:j<l.length),j<k->p l[j]=false) i n,⟨_,At.start (fun j _ h=>absurd h (Nat.not_lt_zero _))⟩,?_⟩;rintro _ _ ⟨k,rfl,hk,rfl,he⟩;refine At.cond hk (fun hk=>Ax hk (hV _ (getElem_mem hk) _ (Ab (fun hp=> ?_) fun hp=> ?_))) fun hk=> ?_
 ·exact h1 k hk hp fun j hj=>he j (by omega) hj
 ·refine At.next (by omega) hk fun j hj aP=> ?_
  by_cases e:j=k
  ·subst e;exact hp
  ·exact he j hj (by omega)
 ·refine h2 fun x hx=> ?_
  obtain⟨j,hj,rfl⟩:=List.mem_iff_getElem.1 hx;exact he j hj (by omega)
def Zn (p:Aj):Bool:=(oh p).2
def Pl (l:List Aj):Prop:=l.length<=100/\∀p∈l,p.vars.length<=40/\p.alts.length<=40
theorem Ayf {l:List Aj} (F:Pl l) (K:Bool->Prop) (h:K (l.any Zn)):Mw l K:=by
 refine Wr _ _ (C4 _ _ (Dq _ _ ?_));obtain⟨g1,g2⟩:=FW h;have:=F.1;exact Xc l (by omega) Zn _ (fun x hx K hK=>Ti _ _ (TF x (by have:=(F.2 x hx).2;omega) _ hK)) _ (fun i hi hp _=>g1 i hi hp) g2
def X9 (l:List Aj):Int:=match l.findIdx? (·.mode==6)with
 |some i=>i|none=> -1
theorem TH (s:Ar) (F:Pl s.procs) (K:Int->Prop) (h:K (X9 s.procs)):F5 s K:=by
 refine R4 _ _ (C5 _ _ ?_);have:=F.1;refine Xc s.procs (by omega) (·.mode==6) _ (fun x _ K hK=>Pv _ _ hK) _ (fun i hi hp hn=> ?_) fun hn=> ?_
 ·have:s.procs.findIdx? (·.mode==6)=some i:=List.findIdx?_eq_some_iff_getElem.2 ⟨hi,hp,fun j hj=>by simpa using hn j hj⟩;unfold X9 at h;rw [this]at h;exact h
 ·have:s.procs.findIdx? (·.mode==6)=none:=List.findIdx?_eq_none_iff.2 fun x hx=>hn x hx
  unfold X9 at h;rw [this]at h;exact h
def jo:List Aj->Nat->List Int
 |[],_=>[]|p::l,i=>cond (p.mode==0) ((i:Int)::jo l (i+1)) (jo l (i+1))
theorem TI (x:Aj):∀(l:List Aj) (i:Nat),jo (l++[x]) i=jo l i++cond (x.mode==0) [((i+l.length:Nat):Int)] []
 |[],i=>by cases h:(x.mode==0)<;>simp [jo,h]
 |p::l,i=>by
  show cond (p.mode==0) ((i:Int)::jo (l++[x]) (i+1)) (jo (l++[x]) (i+1))=cond (p.mode==0) ((i:Int)::jo l (i+1)) (jo l (i+1))++_
  rw [TI x l (i+1),show i+1+l.length=i+(p::l).length by rw [length_cons];omega];cases (p.mode==0)<;>rfl
theorem GX:∀(l:List Aj) (i:Nat),(jo l i).length<=l.length
 |[],_=>le_refl _
 |p::l,i=>by
  have:=GX l (i+1);show(cond (p.mode==0) ((i:Int)::jo l (i+1)) (jo l (i+1))).length<=_
  cases (p.mode==0)<;>simp<;>omega
theorem TJ {l:List Aj} {k:Nat} (h:k<l.length):jo (l.take (k+1)) 0=jo (l.take k) 0++cond (l[k].mode==0) [(k:Int)] []:=by
 rw [F9 h,TI,length_take,Nat.min_eq_left (by omega),Nat.zero_add]
def O7 (s:Ar):List Int:=jo s.procs 0++cond (decide (s.now<1099511627776)&&s.procs.any Zn) [-1] []
theorem Ayg (s:Ar) (F:Pl s.procs) (K:List Int->Prop) (h:K (O7 s)):Ju s K:=by
 have hl:=F.1;refine Tg _ _ ⟨fun out i n=>At s.procs.length (fun k=>out=jo (s.procs.take k) 0) i n,⟨_,At.start rfl⟩,?_⟩;rintro out _ _ ⟨k,rfl,hk,rfl,he⟩;have hlen:out.length<=k:=by
  rw [he];have:=GX (s.procs.take k) 0;rw [length_take]at this;omega
 refine At.cond hk (fun hk=> ?_) fun hk=> ?_
 ·refine⟨fun out=>out=jo (s.procs.take (k+1)) 0,Ax hk ?_,fun _ he=>At.next (by omega) hk he⟩;rw [TJ hk,←he];refine Ab (fun e=>⟨by show out.length+1<2^32;omega,by rw [e];rfl⟩) fun e=>by rw [e];exact(append_nil _).symm
 ·rw [hk,take_length]at he;refine⟨fun b=>b=(decide (s.now<1099511627776)&&s.procs.any Zn),?_,?_⟩
  ·refine Ab (fun e=>Ayf F _ (by rw [e];rfl)) fun e=>by rw [e];rfl
  rintro _ rfl;unfold O7 at h;rw [←he]at h;refine Ab (fun e=>⟨by show out.length+1<2^32;omega,by rw [e]at h;exact h⟩) fun e=>by rw [e,cond_false,append_nil]at h;exact h
theorem Avv (s:Ar) (F:Pl s.procs) (K:List Int->Prop) (h:K (O7 s)):Qf s K:=by
 have hl:=F.1;refine Abn _ _ ⟨fun out wa i n=>At s.procs.length (fun k=>out=jo (s.procs.take k) 0/\wa=(s.procs.take k).any Zn) i n,⟨_,At.start ⟨rfl,rfl⟩⟩,?_⟩;rintro out wa _ _ ⟨k,rfl,hk,rfl,he,hw⟩;have hlen:out.length<=k:=by
  rw [he];have:=GX (s.procs.take k) 0;rw [length_take]at this;omega
 refine At.cond hk (fun hk=> ?_) fun hk=> ?_
 ·refine⟨fun out wa=>out=jo (s.procs.take (k+1)) 0/\wa=(s.procs.take (k+1)).any Zn,⟨fun out=>out=jo (s.procs.take (k+1)) 0,Ax hk ?_,?_⟩,fun _ _ he=>At.next (by omega) hk he⟩
  ·rw [TJ hk,←he];refine Ab (fun e=>⟨by show out.length+1<2^32;omega,by rw [e];rfl⟩) fun e=>by rw [e];exact(append_nil _).symm
  ·rintro _ rfl;rw [F9 hk,List.any_append,←hw];refine Ab (fun e=>⟨rfl,by rw [e];rfl⟩) fun e=>Ax hk (Bag _ (by have:=(F.2 _ (getElem_mem hk)).2;omega) _ ⟨rfl,?_⟩)
   rw [e];show Zn _=(false||(Zn _||false))
   rw [Bool.or_false,Bool.false_or]
 ·rw [hk,take_length]at he hw;refine⟨fun b=>b=(decide (s.now<1099511627776)&&s.procs.any Zn),?_,?_⟩
  ·rw [←hw];cases wa
   ·exact(Bool.and_false _).symm
   ·exact(Bool.and_true _).symm
  rintro _ rfl;unfold O7 at h;rw [←he]at h;refine Ab (fun e=>⟨by show out.length+1<2^32;omega,by rw [e]at h;exact h⟩) fun e=>by rw [e,cond_false,append_nil]at h;exact h
def Hb (l:List Aj) (mode:Int):Nat:=(l.filter (·.mode==mode)).length
theorem TK {l:List Aj} {k:Nat} (mode:Int) (h:k<l.length):Hb (l.take (k+1)) mode=Hb (l.take k) mode+cond (l[k].mode==mode) 1 0:=by
 unfold Hb;rw [X0 _ h,List.length_append];cases (l[k].mode==mode)<;>rfl
theorem TL (l:List Aj) (mode:Int):Hb l mode<=l.length:=List.length_filter_le _ _
theorem TM (s:Ar) (F:Pl s.procs) (mode:Int) (K:Int->Prop) (h:K (Hb s.procs mode:Nat)):Me s mode K:=by
 have hl:=F.1;refine Abo _ _ _ ⟨fun c i n=>At s.procs.length (fun k=>c=(Hb (s.procs.take k) mode:Nat)) i n,⟨_,At.start rfl⟩,?_⟩;rintro _ _ _ ⟨k,rfl,hk,rfl,rfl⟩;refine At.cond hk (fun hk=> ?_) fun hk=> ?_
 ·refine⟨fun c=>c=(Hb (s.procs.take (k+1)) mode:Nat),Ax hk ?_,fun _ he=>At.next (by omega) hk he⟩;have:=TL (s.procs.take k) mode;rw [length_take]at this;rw [TK mode hk,A3 (by omega) (by omega)];refine Ab (fun e=>by rw [e];rfl) fun e=>by rw [e];rfl
 ·rw [hk,take_length];exact h
def Pn (s:Ar):Int:=cond (decide (Hb s.procs 6>0)) 3 (cond (decide ((O7 s).length>0)) 0 (cond (s.procs.any fun p=>p.mode !=5) 2 1))
theorem Avx (l:List Aj):decide (X9 l>=0)=decide (Hb l 6>0):=by
 unfold X9 Hb;cases h:l.findIdx? (·.mode==6)with
 |some i=>
  obtain⟨hi,hp,_⟩:=List.findIdx?_eq_some_iff_getElem.1 h;have:0<(l.filter (·.mode==6)).length:=List.length_pos_of_mem (List.mem_filter.2 ⟨getElem_mem hi,hp⟩);simp only;rw [decide_eq_true (by omega),decide_eq_true (by omega)]
 |none=>
  have:l.filter (·.mode==6)=[]:=List.filter_eq_nil_iff.2 fun x hx=>by have:=List.findIdx?_eq_none_iff.1 h x hx;simpa using this
  rw [this];rfl
theorem Avy (l:List Aj):((Hb l 5:Int)==(l.length:Int))= !l.any fun p=>p.mode !=5:=by
 unfold Hb;have:(l.filter (·.mode==5)).length=l.length↔∀x∈l,(x.mode==5)=true:=List.length_filter_eq_length_iff;rw [Bool.eq_iff_iff,beq_iff_eq,Int.natCast_inj,this,Bool.not_eq_true',List.any_eq_false];simp
theorem TN (s:Ar) (F:Pl s.procs) (K:Ar->Prop) (h:K ⟨s.now,s.since,Pn s,s.fault,s.who,s.procs,s.out⟩):Gy s K:=by
 refine Tf _ _ ⟨fun a b c d e f g=>(⟨a,b,c,d,e,f,g⟩:Ar)=⟨s.now,s.since,Pn s,s.fault,s.who,s.procs,s.out⟩,?_,fun _ _ _ _ _ _ _ e=>by rw [e];exact h⟩;refine TH s F _ ?_;rw [Avx];unfold Pn;refine Ab (fun e=>by rw [e];rfl) fun e=>Ayg s F _ ?_
 rw [e,cond_false,show decide (((O7 s).length:Int)>0)=decide ((O7 s).length>0) by simp];refine Ab (fun e=>by rw [e];rfl) fun e=> ?_
 rw [e,cond_false];refine Cw _ _ (C8 _ _ ?_);have:=F.1;obtain⟨g1,g2⟩:=FW (l:=s.procs) (p:=fun p=>p.mode !=5) (K:=fun x2=>cond (!x2) ((⟨s.now,s.since,1,s.fault,s.who,s.procs,s.out⟩:Ar)=⟨s.now,s.since,cond (s.procs.any fun p=>p.mode !=5) 2 1,s.fault,s.who,s.procs,s.out⟩) ((⟨s.now,s.since,2,s.fault,s.who,s.procs,s.out⟩:Ar)=⟨s.now,s.since,cond (s.procs.any fun p=>p.mode !=5) 2 1,s.fault,s.who,s.procs,s.out⟩)) (by
  cases s.procs.any fun p=>p.mode !=5<;>exact rfl)
 exact Xc s.procs (by omega) (fun p=>p.mode !=5) _ (fun x _ K hK=>Qo _ _ hK) _ (fun i hi hp _=>g1 i hi hp) g2
theorem Ayh (s:Ar) (F:Pl s.procs) (K:Int->Prop) (h:K (Pn s)):S8 s K:=by
 refine Aee _ _ (TM s F 6 _ ?_);unfold Pn at h;rw [show decide (((Hb s.procs 6:Nat):Int)>0)=decide (Hb s.procs 6>0) by simp];refine Ab (fun e=>by rw [e]at h;exact h) fun e=>Avv s F _ ?_
 rw [e,cond_false]at h;rw [show decide (((O7 s).length:Int)>0)=decide ((O7 s).length>0) by simp];refine Ab (fun e=>by rw [e]at h;exact h) fun e=> ?_
 rw [e,cond_false]at h;refine⟨fun b=>b= !s.procs.any fun p=>p.mode !=5,TM s F 5 _ (Avy _),?_⟩;rintro _ rfl;cases ha:s.procs.any fun p=>p.mode !=5
 ·rw [ha]at h;exact h
 ·rw [ha]at h;exact h
theorem Avz (s:Ar) (F:Pl s.procs) (K:Ar->Prop) (h:K ⟨s.now,s.since,Pn s,s.fault,s.who,s.procs,s.out⟩):Qg s K:=Abq _ _ (Ayh s F _ h)
def isM:Option Aj->Bool
 |some x=>x.mode==6|none=>false
def tN (d:Int):Option Aj->Bool
 |some x=>x.bp==d|none=>false
def wJ (l:List Aj) (who:Int):Bool:=decide (0<=who)&&isM l[who.toNat]?
theorem Av1 {l:List Aj} {who:Int} (h:Hb l 6=1):(who==X9 l)=wJ l who:=by
 cases hf:l.findIdx? (·.mode==6)with
 |none=>
  have:l.filter (·.mode==6)=[]:=List.filter_eq_nil_iff.2 fun x hx=>by have:=List.findIdx?_eq_none_iff.1 hf x hx;simpa using this
  unfold Hb at h;rw [this]at h;cases h
 |some i=>
  obtain⟨hi,hp,Brr⟩:=List.findIdx?_eq_some_iff_getElem.1 hf;have hF:X9 l=i:=by unfold X9;rw [hf]
  rw [hF,Bool.eq_iff_iff,beq_iff_eq];unfold wJ;rw [and_eq_true,decide_eq_true_eq];constructor
  ·rintro rfl;refine⟨by omega,?_⟩;rw [toNat_natCast,getElem?_eq_getElem hi];exact hp
  ·rintro⟨h0,hx⟩;obtain⟨j,rfl⟩:∃j:Nat,who=j:=⟨who.toNat,by omega⟩
   rw [toNat_natCast]at hx;by_cases hj:j<l.length
   ·rw [getElem?_eq_getElem hj]at hx;have hx:(l[j].mode==6)=true:=hx;rcases Nat.lt_trichotomy j i with aP|rfl|hgt
    ·exact absurd hx (by simpa using Brr j aP)
    ·rfl
    ·have h1:0<((l.take j).filter (·.mode==6)).length:=List.length_pos_of_mem (List.mem_filter.2 ⟨List.mem_iff_getElem.2 ⟨i,by rw [length_take];omega,by rw [List.getElem_take]⟩,hp⟩);have h2:0<((l.drop j).filter (·.mode==6)).length:=List.length_pos_of_mem (List.mem_filter.2 ⟨List.mem_iff_getElem.2 ⟨0,by rw [List.length_drop];omega,by rw [List.getElem_drop];rfl⟩,hx⟩);unfold Hb at h;rw [←List.take_append_drop j l,List.filter_append,List.length_append]at h;omega
   ·rw [List.getElem?_eq_none (by omega)]at hx;cases hx
def rQ (c:Ah) (s:Ar):Bool:=decide (1<=s.procs.length)&&(decide (s.procs.length<=16)&&(tN c.main s.procs[0]? &&(eL s.now 1099511627776&&eL s.since 1099511627776)))
def pB (c:Ah) (s:Ar) (p:Aj):Bool:=Rh c p&&(decide (p.since<=s.since)&& !(Zn p&&decide ((oh p).1<=s.now)))
def fB (s:Ar):Bool:=cond (Hb s.procs 6==0) ((s.fault==0)&&(s.who==0)) (cond (Hb s.procs 6==1) (wJ s.procs s.who&&(decide (1<=s.fault)&&decide (s.fault<=7))) false)
def wK (c:Ah) (s:Ar):Bool:=rQ c s&&(s.procs.all (pB c s)&&(fB s&&(s.halt==Pn s)))
structure SF (c:Ah) (s:Ar):Prop where
 lD:fj c
 cl:c.af.length<=100000
 sm:tM s
section
variable {c:Ah} {s:Ar}
theorem SF.pl (F:SF c s):Pl s.procs:=⟨by have:=F.sm.procs;omega,F.sm.each⟩
theorem SF.pc (F:SF c s) {p:Aj} (h:p∈s.procs):GR c p:=⟨F.lD,F.cl,by have:=F.sm.each p h;omega,by have:=F.sm.each p h;omega⟩
theorem Av2 {l:List Aj} {k:Nat} (f:Aj->Bool) (h:k<l.length):(l.take (k+1)).all f=((l.take k).all f&&f l[k]):=by
 rw [F9 h,List.all_append];simp
theorem Ayi {l:List Aj} {k:Nat} {f:Aj->Bool} (h:k<l.length) (hf:f l[k]=false):l.all f=false:=by
 cases e:l.all f
 ·rfl
 ·have:=List.all_eq_true.1 e _ (getElem_mem h);rw [hf]at this;cases this
theorem Av3 (mx:A9) (F:SF mx.c s) (K:Int->Prop) (h:K (cond (wK mx.c s) 0 9)):He mx s K:=by
 have hn:=F.sm.procs;unfold wK at h;refine K5 _ _ _ ⟨fun b=>b= !rQ mx.c s,?_,?_⟩
 ·unfold rQ;refine Ab (fun e=> ?_) fun e=>Ab (fun e1=> ?_) fun e1=> ?_
  ·rw [decide_eq_false (by have:=of_decide_eq_true e;omega)];rfl
  ·rw [decide_eq_false (p:=s.procs.length<=16) (by have:=of_decide_eq_true e1;omega)];simp
  have e:=of_decide_eq_false e;have e1:=of_decide_eq_false e1;rw [decide_eq_true (p:=1<=s.procs.length) (by omega),decide_eq_true (p:=s.procs.length<=16) (by omega)];refine⟨⟨by omega,by omega⟩,fun x1 hx=> ?_⟩;rw [hx];refine Ab (fun e2=> ?_) fun e2=> ?_
  ·rw [show tN mx.c.main (some x1)=false by unfold tN;simpa using e2];rfl
  rw [show tN mx.c.main (some x1)=true by unfold tN;simpa using e2];unfold eL;refine Ab (fun e3=> ?_) fun e3=>Ab (fun e4=> ?_) fun e4=>Ab (fun e5=> ?_) fun e5=> ?_
  ·have:=of_decide_eq_true e3;simp;omega
  ·have:=of_decide_eq_true e4;simp;omega
  ·have:=of_decide_eq_true e5;simp;omega
  ·have:=of_decide_eq_false e3;have:=of_decide_eq_false e4;have:=of_decide_eq_false e5;show decide (s.since>1099511627776)=_
   rw [Bool.eq_iff_iff];simp;omega
 rintro _ rfl;refine Ab (fun e=>by rw [show rQ mx.c s=false by simpa using e]at h;exact h) fun e=> ?_
 rw [show rQ mx.c s=true by simpa using e,Bool.true_and]at h;refine⟨fun fa i n=>At s.procs.length (fun k=>fa=(Hb (s.procs.take k) 6:Nat)/\(s.procs.take k).all (pB mx.c s)=true) i n,⟨_,At.start ⟨rfl,rfl⟩⟩,?_⟩;rintro _ _ _ ⟨k,rfl,hk,rfl,rfl,ha⟩;refine At.cond hk (fun hk=> ?_) fun hk=> ?_
 ·refine⟨fun fa=>fa=(Hb (s.procs.take (k+1)) 6:Nat)/\(s.procs.take (k+1)).all (pB mx.c s)=true,Ax hk ?_,fun _ he=>At.next (by omega) hk he⟩;refine TF _ (by have:=(F.sm.each _ (getElem_mem hk)).2;omega) _ ⟨fun b=>b= !pB mx.c s s.procs[k],?_,?_⟩
  ·refine Avs (F.pc (getElem_mem hk)) _ ?_;unfold pB;cases Rh mx.c s.procs[k]
   ·exact rfl
   refine Bj rfl (Ab (fun e1=> ?_) fun e1=> ?_)
   ·rw [decide_eq_false (p:=s.procs[k].since<=s.since) (by have:=of_decide_eq_true e1;omega)];rfl
   rw [decide_eq_true (p:=s.procs[k].since<=s.since) (by have:=of_decide_eq_false e1;omega)];show cond (oh _).2 _ _
   unfold Zn;cases (oh s.procs[k]).2
   ·exact rfl
   ·show _= !(true&&(true&& !(true&&_)))
    simp
  rintro _ rfl;refine Ab (fun e1=> ?_) fun e1=> ?_
  ·rw [Ayi hk (by simpa using e1),Bool.false_and]at h;exact h
  have hl:((s.procs.take (k+1)).all (pB mx.c s))=true:=by rw [Av2 _ hk,ha];simpa using e1
  have:=TL (s.procs.take k) 6;rw [length_take]at this;rw [TK 6 hk,A3 (by omega) (by omega)];refine Ab (fun e=>by rw [e];exact⟨rfl,hl⟩) fun e=>by rw [e];exact⟨rfl,hl⟩
 ·rw [hk,take_length]at ha⊢;rw [ha,Bool.true_and]at h;refine⟨fun b=>b=((s.fault==0)&&(s.who==0)),?_,?_⟩
  ·cases (s.fault==0)<;>exact rfl
  rintro _ rfl;have wL:(fB s=cond (((Hb s.procs 6:Nat):Int)==1) (wJ s.procs s.who&&(decide (1<=s.fault)&&decide (s.fault<=7))) ((s.fault==0)&&(s.who==0))/\decide (((Hb s.procs 6:Nat):Int)>1)=false)\/(fB s=false/\decide (((Hb s.procs 6:Nat):Int)>1)=true):=by
   unfold fB;rcases Nat.lt_trichotomy (Hb s.procs 6) 1 with hc|hc|hc
   ·rw [show Hb s.procs 6=0 by omega];exact .inl ⟨rfl,rfl⟩
   ·rw [hc];exact .inl ⟨rfl,rfl⟩
   ·refine .inr ⟨?_,decide_eq_true (by omega)⟩;rw [show(Hb s.procs 6==0)=false by simp;omega,show(Hb s.procs 6==1)=false by simp;omega];rfl
  refine⟨fun b=>b=cond (((Hb s.procs 6:Nat):Int)==1) (wJ s.procs s.who&&(decide (1<=s.fault)&&decide (s.fault<=7))) ((s.fault==0)&&(s.who==0)),?_,?_⟩
  ·refine Ab (fun e1=>TH s F.pl _ ?_) fun e1=>by rw [e1];rfl
   rw [e1,cond_true,Av1 (by have:=of_decide_eq_true (p:=((Hb s.procs 6:Nat):Int)=1) (by simpa using e1);omega)];refine Ab (fun e2=> ?_) fun e2=>by rw [e2];rfl
   rw [e2,Bool.true_and];refine Ab (fun e3=> ?_) fun e3=> ?_
   ·rw [decide_eq_true (p:=1<=s.fault) (of_decide_eq_true e3)];rfl
   ·rw [decide_eq_false (p:=1<=s.fault) (of_decide_eq_false e3)];rfl
  rintro _ rfl;refine⟨fun b=>b= !(fB s&&(s.halt==Pn s)),?_,?_⟩
  ·rcases wL with⟨wL,hc⟩|⟨wL,hc⟩
   ·rw [←wL,hc];cases fB s
    ·exact rfl
    ·exact TN s F.pl _ rfl
   ·rw [wL,hc];exact Ab (fun _=>rfl) fun _=>rfl
  rintro _ rfl;cases hb:(fB s&&(s.halt==Pn s))
  ·rw [hb]at h;exact h
  ·rw [hb]at h;exact h
end
theorem Ayj (c:Ah) (s:Ar) (K:Bool->Prop) (h1:∀b,(b=false->(c.ins.length<=150/\c.defs.length<=40/\c.af.length<=80)/\tM s)->K b):Xn c s K:=by
 have ht:=h1 true nofun;refine Aa9 _ _ _ ⟨fun b=>b=false->(c.ins.length<=150/\c.defs.length<=40/\c.af.length<=80)/\s.procs.length<=20/\s.out.length<=100,?_,?_⟩
 ·refine Ab (fun _=>nofun) fun e1=>Ab (fun _=>nofun) fun e2=>Ab (fun _=>nofun) fun e3=>Ab (fun _=>nofun) fun e4=>fun e5=> ?_
  have:=of_decide_eq_false e1;have:=of_decide_eq_false e2;have:=of_decide_eq_false e3;have:=of_decide_eq_false e4;have:=of_decide_eq_false e5;omega
 intro b hb;refine Ab (fun _=>ht) fun e=> ?_
 obtain⟨hc,hp,ho⟩:=hb e;refine⟨fun i n=>At s.procs.length (fun k=>∀p∈s.procs.take k,p.vars.length<=40/\p.alts.length<=40) i n,⟨_,At.start (fun _ h=>by simp at h)⟩,?_⟩;rintro _ _ ⟨k,rfl,hk,rfl,he⟩;refine At.cond hk (fun hk=>⟨fun b=>b=false->s.procs[k].vars.length<=40/\s.procs[k].alts.length<=40,Ax hk ?_,?_⟩) fun hk=> ?_
 ·refine Ab (fun _=>nofun) fun e1=>Ax hk fun e2=> ?_
  have:=of_decide_eq_false e1;have:=of_decide_eq_false e2;omega
 ·intro b hb;refine Ab (fun _=>ht) fun e=>At.next (by omega) hk ?_
  intro p hp;rw [F9 hk,List.mem_append]at hp;rcases hp with hp|hp
  ·exact he p hp
  ·rw [List.mem_singleton]at hp;subst hp;exact hb e
 ·rw [hk,take_length]at he;exact h1 false fun _=>⟨hc,hp,ho,he⟩
theorem TP (c:Ah) (kW:c.ins.length<=100000) (hd:c.defs.length<=100000) (gN:c.af.length<=100000) (K:Ah->Prop) (h:K c):Mv c K:=by
 refine Wh _ _ ⟨fun a b d e f=>(⟨a,b,d,e,f⟩:Ah)=c,?_,fun _ _ _ _ _ e=>by rw [e];exact h⟩;refine Gr _ _ fun z hz=> ?_
 have g1:∀x:List Ay,x=c.ins->Ck c.defs (fun x1=>Bl c.af (fun x2=>(⟨x,x1,x2,c.main,c.stmts⟩:Ah)=c)):=by
  rintro _ rfl;refine Gs _ _ fun z hz=> ?_
  have g2:∀x:List Cf,x=c.defs->Bl c.af (fun x2=>(⟨c.ins,x,x2,c.main,c.stmts⟩:Ah)=c):=by
   rintro _ rfl;refine F6 _ _ fun z hz=> ?_
   refine Ab (fun e=>by rw [←hz e]) fun e=>⟨by omega,rfl⟩
  exact Ab (fun e=>g2 _ (hz e).symm) fun e=>⟨by omega,g2 _ rfl⟩
 exact Ab (fun e=>g1 _ (hz e).symm) fun e=>⟨by omega,g1 _ rfl⟩
theorem Bbv {c:Ah} {fuel:Int} (kW:c.ins.length<=100000) (hd:c.defs.length<=100000) (gN:c.af.length<=100000) {m:List Nat} {w:World} (hm:bB m w) (l9:List Value) (hc:Bv.rep m w c l9) (K:Value->World->Prop) (h1:iy c≠0->∀w',Ai [] w w'->K (.tuple #[.pointer none,.int .i64 (iy c)]) w') (h2:iy c=0->(fuel<0\/1048576<fuel)->∀w',Ai [] w w'->K (.tuple #[.pointer none,.int .i64 1]) w') (h3:iy c=0->0<=fuel->fuel<=1048576->∀(w3 w4:World) (b:Nat) (a0:Option Addr) (c0:Nat) (a1:Option Addr) (c1:Nat) (a2:Option Addr) (c2:Nat),Ai [] w w3->(c.ins.length<=c0/\aW Df m w3 a0 c.ins)->(c.defs.length<=c1/\aW Gc m w3 a1 c.defs)->(c.af.length<=c2/\aW Dv m w3 a2 c.af)->b=w3.heap.size->w4=w3.alloc (.cells #[.slice a0 c.ins.length c0,.slice a1 c.defs.length c1,.slice a2 c.af.length c2,.int .i64 c.main,.int .i64 c.stmts,.int .i64 fuel] 64)->K (.tuple #[.pointer (some ⟨b,0,none⟩),.int .i64 0]) w4): Calls Tryz.prog 8 #[.agg ⟨l9⟩,.int .i64 fuel] w (aG K):=by
 obtain⟨a0,c0,a1,c1,a2,c2,rfl,⟨le,f⟩,⟨bz,f1⟩,⟨bH,f2⟩⟩:=A5 hc;have o:=Mem.start hm.lt;refine Ac0 _ _ _ _ _ _ _ _ _ _ _ _ _ _ ?_;intro b w1 hb aU;obtain⟨s1,o⟩:=o.dB hb aU;refine⟨_,_,_,_,_,_,_,_,_,_,_,(o.at 0 rfl).whole,Ac (Ax5 c kW hd gN (fun _ e=>e=iy c) (fun _=>rfl) _ w1 (o.mn hm) _ (Az c ⟨le,f.st s1⟩ ⟨bz,f1.st s1⟩ ⟨bH,f2.st s1⟩)) ?_⟩;rintro _ w2 ⟨_,_,rfl,rfl,hk⟩;obtain⟨s2,o⟩:=o.dE hk;have st:=s1.trans s2;refine⟨_,_,rfl,Ab (fun e=>h1 (by simpa using e) _ o.done) fun e=> ?_⟩;have e:iy c=0:=by simpa using e
 intro _;refine Ab (fun e1=>h2 e (by simpa using e1) _ o.done) fun e1=> ?_
 simp at e1;refine⟨_,_,_,_,_,_,_,_,_,_,_,(o.at 0 rfl).whole,Ac (TP c kW hd gN (fun r=>r=c) rfl _ w2 (o.mn hm) _ (Az c ⟨le,f.st st⟩ ⟨bz,f1.st st⟩ ⟨bH,f2.st st⟩)) ?_⟩;rintro _ w3 ⟨r,qw,⟨c_,rfl,hr⟩,iw⟩;rw [qw]at hr;obtain⟨s3,o⟩:=o.dE iw;obtain⟨a3,c3,a4,c4,a5,c5,rfl,⟨cY,f3⟩,⟨eB,f4⟩,⟨eI,f5⟩⟩:=A5 hr;refine⟨_,_,_,_,_,_,_,_,_,_,_,rfl,fun b1 w4 ca db=> ?_⟩;exact h3 e e1.1 e1.2 w3 w4 b1 _ _ _ _ _ _ o.done ⟨cY,f3.st Mem.d_⟩ ⟨eB,f4.st Mem.d_⟩ ⟨eI,f5.st Mem.d_⟩ ca db
def Vu (c:Ah) (p:Aj) (a:Int):Aj:=cond (decide (Bm c.ins a>=0)&&(decide (Bm c.ins a<(c.ins.length:Int))&&(O4 c.ins (Bm c.ins a)==24))) ⟨p.bp,0,p.vars,p.fuel,5,0,0,0,0,0,[]⟩ ⟨p.bp,Bm c.ins a,p.vars,p.fuel,0,0,0,0,0,0,[]⟩
theorem TQ {l:List Ay} {s:Int} {J:Bool->Prop} (h:J (decide (s>=0)&&(decide (s<(l.length:Int))&&(O4 l s==24)))): cond (decide (s>=0)) (cond (decide (s<(l.length:Int))) (((0:Int)<=s/\s<(l.length:Int))/\∀x1,l[s.toNat]? =some x1->J (x1.op==24)) (J false)) (J false):=by
 refine Ab (fun ha=> ?_) fun ha=>by rw [ha]at h;exact h
 refine Ab (fun hb=> ?_) fun hb=>by rw [ha,hb]at h;exact h
 rw [ha,hb]at h;have ha:=of_decide_eq_true ha;have hb:=of_decide_eq_true hb;refine⟨⟨by omega,by omega⟩,fun x hx=> ?_⟩;rw [H5 hx]at h;exact h
theorem GY (l:List Int) (hl:l.length<=1000) (K:List Int->Prop) (h:K l):C6 l K:=
 Ko _ _ fun z hz=>Ab (fun e=>by rw [←hz e];exact h) fun e=>⟨by omega,h⟩
theorem Bah (c:Ah) (hl:c.ins.length<=100000) (p:Aj) (hv:p.vars.length<=1000) (a:Int) (K:Aj->Prop) (h:K (Vu c p a)):Ql c p a K:=by
 unfold Vu at h;refine Ab4 _ _ _ _ ⟨fun d a' v f m ch va sl un si=>d=p.bp/\a'=Bm c.ins a/\v=p.vars/\f=p.fuel/\m=0/\ch=0/\va=0/\sl=0/\un=0/\si=0,Q_ c hl a _ (GY _ hv _ ⟨rfl,rfl,rfl,rfl,rfl,rfl,rfl,rfl,rfl,rfl⟩),?_⟩;rintro _ _ _ _ _ _ _ _ _ _ ⟨rfl,rfl,rfl,rfl,rfl,rfl,rfl,rfl,rfl,rfl⟩;refine⟨fun d a' v f m ch va sl un si=>(⟨d,a',v,f,m,ch,va,sl,un,si,[]⟩:Aj)=Vu c p a,⟨fun b=>b=(decide (Bm c.ins a>=0)&&(decide (Bm c.ins a<(c.ins.length:Int))&&(O4 c.ins (Bm c.ins a)==24))),TQ (J:=fun b=>b=_) rfl,?_⟩,fun _ _ _ _ _ _ _ _ _ _ e=>by rw [e];exact h⟩;rintro _ rfl;unfold Vu;exact Ab (fun e=>by rw [e];rfl) fun e=>by rw [e];rfl
theorem Ayk (c:Ah) (hl:c.ins.length<=100000) (p:Aj) (hv:p.vars.length<=1000) (a:Int) (K:Aj->Prop) (h:K (Vu c p a)):Tb c p a K:=by
 unfold Vu at h;refine Aem _ _ _ _ ⟨fun d a' v f m ch va sl un si al=>d=p.bp/\a'=0/\v=p.vars/\f=p.fuel/\m=0/\ch=0/\va=0/\sl=0/\un=0/\si=0/\al=[],⟨by omega,rfl,rfl,rfl,rfl,rfl,rfl,rfl,rfl,rfl,rfl,rfl⟩,?_⟩;rintro _ _ _ _ _ _ _ _ _ _ _ ⟨rfl,rfl,rfl,rfl,rfl,rfl,rfl,rfl,rfl,rfl,rfl⟩;refine RA c hl a _ ⟨fun b=>b=(decide (Bm c.ins a>=0)&&(decide (Bm c.ins a<(c.ins.length:Int))&&(O4 c.ins (Bm c.ins a)==24))),TQ (J:=fun b=>b=_) rfl,?_⟩;rintro _ rfl;exact Ab (fun e=>by rw [e]at h;exact h) fun e=>by rw [e]at h;exact h
def Fj (c:Ah) (fuel:Int) (d:Cf):Aj:=Vu c ⟨c.main,0,replicate d.vars.toNat 0,fuel,0,0,0,0,0,0,[]⟩ d.entry
section
variable {c:Ah} {fuel:Int} {d:Cf}
theorem TR (k:Nat):replicate k (0:Int)++[0]=replicate (k+1) 0:=by rw [List.replicate_succ']
theorem Bbw (T:fj c) (hl:c.ins.length<=100000) (h0:0<=fuel) (h1:fuel<=1048576) (hd:c.defs[c.main.toNat]? =some d) (K:Aj->Int->Prop) (h:K (Fj c fuel d) 0):Tc c c.main [] fuel K:=by
 have n2:=T.n2;have m0:=T.m0;have m1:=T.m1;have hp:=T.par _ _ hd;refine Aex _ _ _ _ _ ⟨fun b=>b=false,?_,?_⟩
 ·rw [A3 (by omega) (by omega)];refine Gw _ _ _ (Bj (by unfold eL;simp;omega) ⟨⟨by omega,by omega⟩,fun x2 hx=> ?_⟩);rw [hd]at hx;cases hx;refine Bj (by rw [T.mp _ hd];rfl) (Gw _ _ _ ?_);unfold eL;simp;omega
 rintro _ rfl;refine GY [] (by decide) _ ⟨fun de a v f m ch va sl un si n=>∃k:Nat,k<=d.vars.toNat/\n=d.vars.toNat-k/\de=c.main/\a=0/\v=replicate k 0/\f=fuel/\m=0/\ch=0/\va=0/\sl=0/\un=0/\si=0,⟨_,0,zero_le _,rfl,rfl,rfl,rfl,rfl,rfl,rfl,rfl,rfl,rfl,rfl⟩,?_⟩;rintro _ _ _ _ _ _ _ _ _ _ _ ⟨k,hk,rfl,rfl,rfl,rfl,rfl,rfl,rfl,rfl,rfl,rfl,rfl⟩;refine⟨⟨by omega,by omega⟩,fun x5 hx=> ?_⟩;rw [hd]at hx;cases hx;rw [length_replicate];refine Ab (fun e=> ?_) fun e=>⟨⟨by omega,by omega⟩,fun x6 hx=> ?_⟩
 ·have e:=of_decide_eq_true e;refine⟨by show k+1<2^32;omega,d.vars.toNat-(k+1),by omega,k+1,by omega,rfl,rfl,rfl,TR k,rfl,rfl,rfl,rfl,rfl,rfl,rfl⟩
 ·rw [hd]at hx;cases hx;have e:=of_decide_eq_false e;have:k=d.vars.toNat:=by omega
  subst this;exact Bah c hl _ (by show(replicate _ _).length<=1000;rw [length_replicate];omega) _ _ h
theorem Bai (T:fj c) (hl:c.ins.length<=100000) (h0:0<=fuel) (h1:fuel<=1048576) (hd:c.defs[c.main.toNat]? =some d) (K:Ej->Prop) (h:K ⟨Fj c fuel d,0⟩):We c c.main [] fuel K:=by
 have n2:=T.n2;have m0:=T.m0;have m1:=T.m1;have hp:=T.par _ _ hd;refine Ai0 _ _ _ _ _ ⟨fun b=>b=false,?_,?_⟩
 ·refine SR _ _ _ (Bj (by unfold eL;simp;omega) ⟨⟨by omega,by omega⟩,fun x2 hx=> ?_⟩);rw [hd]at hx;cases hx;refine Bj (by rw [T.mp _ hd];rfl) (SR _ _ _ ?_);unfold eL;simp;omega
 rintro _ rfl;refine⟨by decide,fun v k n=>∃j:Nat,j<=d.vars.toNat/\n=d.vars.toNat-j/\v=replicate j 0/\k=j,⟨_,0,zero_le _,rfl,rfl,rfl⟩,?_⟩;rintro _ _ _ ⟨k,hk,rfl,rfl,rfl⟩;refine⟨⟨by omega,by omega⟩,fun x5 hx=> ?_⟩;rw [hd]at hx;cases hx;refine Ab (fun e=> ?_) fun e=>⟨⟨by omega,by omega⟩,fun x6 hx=> ?_⟩
 ·have e:=of_decide_eq_true e;refine⟨by rw [length_replicate];show k+1<2^32;omega,d.vars.toNat-(k+1),by omega,k+1,by omega,rfl,TR k,?_⟩;rw [A3 (by omega) (by omega)];omega
 ·rw [hd]at hx;cases hx;have e:=of_decide_eq_false e;have:k=d.vars.toNat:=by omega
  subst this;exact Ayk c hl _ (by show(replicate _ _).length<=1000;rw [length_replicate];omega) _ _ h
def Es (c:Ah) (fuel:Int) (d:Cf):Ar:=⟨0,0,Pn ⟨0,0,0,0,0,[Fj c fuel d],[]⟩,0,0,[Fj c fuel d],[]⟩
theorem Asp (T:fj c) (hd:c.defs[c.main.toNat]? =some d):(Fj c fuel d).vars.length<=40/\(Fj c fuel d).alts.length<=40:=by
 have hp:=T.par _ _ hd;unfold Fj Vu;cases (decide (Bm c.ins d.entry>=0)&&(decide (Bm c.ins d.entry<(c.ins.length:Int))&&(O4 c.ins (Bm c.ins d.entry)==24)))
 ·rw [cond_false];refine⟨?_,zero_le _⟩;show(replicate _ _).length<=_;rw [length_replicate];omega
 ·rw [cond_true];refine⟨?_,zero_le _⟩;show(replicate _ _).length<=_;rw [length_replicate];omega
theorem GZ (T:fj c) (hd:c.defs[c.main.toNat]? =some d):Pl [Fj c fuel d]:=⟨by simp,fun p hp=>by rw [List.mem_singleton]at hp;subst hp;exact Asp T hd⟩
theorem G_ (T:fj c) (hl:c.ins.length<=100000) (h0:0<=fuel) (h1:fuel<=1048576) (hd:c.defs[c.main.toNat]? =some d) (K:Ar->Prop) (h:K (Es c fuel d)):Hf ⟨c,fuel⟩ K:=by
 refine K6 _ _ ⟨fun a b v e f g i j k l al=>(⟨a,b,v,e,f,g,i,j,k,l,al⟩:Aj)=Fj c fuel d,Bbw T hl h0 h1 hd _ rfl,?_⟩;intro _ _ _ _ _ _ _ _ _ _ _ e;rw [e];exact TN _ (GZ T hd) _ h
theorem TS (T:fj c) (hl:c.ins.length<=100000) (h0:0<=fuel) (h1:fuel<=1048576) (hd:c.defs[c.main.toNat]? =some d) (K:Ar->Prop) (h:K (Es c fuel d)):Xs c fuel K:=
 Abp _ _ _ (Bai T hl h0 h1 hd _ (Avz _ (GZ T hd) _ h))
end
section
variable {c:Ah} {fuel:Int} {d:Cf}
theorem fj.sorted (T:fj c):∀(n i:Nat) (x y:Cf),c.defs[i]? =some x->c.defs[i+n+1]? =some y->x.entry<y.entry
 |0,i,x,y,hx,hy=>T.mono i x y hx hy
 |n+1,i,x,y,hx,hy=>by
  have hl:i+(n+1)+1<c.defs.length:=(List.getElem?_eq_some_iff.1 hy).1;obtain⟨z,hz⟩:∃z,c.defs[i+n+1]? =some z:=⟨_,getElem?_eq_getElem (by omega)⟩
  have h1:=T.sorted n i x z hx hz;have h2:=T.mono (i+n+1) z y hz hy;omega
theorem Apo (T:fj c) {r:Nat} (hd:c.defs[r]? =some d):Lj c d.entry=r:=by
 have he:=T.tz _ _ hd;have hr:r<c.defs.length:=(List.getElem?_eq_some_iff.1 hd).1;unfold Lj;rw [if_pos he];have key:∀k,r<k->k<=c.defs.length->Vl c.defs d.entry k=r:=by
  intro k
  induction k with
  |zero=>intro h;omega
  |succ k ih=>
   intro h1 h2;rw [Vl,getElem?_eq_getElem (by omega)];by_cases e:r=k
   ·subst e;rw [getElem?_eq_getElem hr,Option.some.injEq]at hd;rw [hd];exact if_pos (Int.le_refl _)
   ·have:=T.sorted (k-r-1) r d c.defs[k] hd (by rw [show r+(k-r-1)+1=k by omega];exact getElem?_eq_getElem (by omega));show(if c.defs[k].entry<=d.entry then(k:Int)else Vl c.defs d.entry k)=r
    rw [if_neg (by omega)];exact ih (by omega) (by omega)
 exact key _ hr (le_refl _)
theorem Av4 (T:fj c) (hm:G9 c) (hd:c.defs[c.main.toNat]? =some d):O4 c.ins d.entry=1\/O4 c.ins d.entry=24:=by
 have he:=T.tz _ _ hd;have hr:c.main.toNat<c.defs.length:=(List.getElem?_eq_some_iff.1 hd).1;have hf:cw c c.main.toNat=d.entry:=by unfold cw;rw [hd];rfl
 have ht:=T.tB hr;have RH:=T.rL c.main.toNat;rw [hf]at ht;obtain⟨x,hx⟩:∃x,c.ins[d.entry.toNat]? =some x:=⟨_,getElem?_eq_getElem (by omega)⟩
 have h:=hm _ hr d.entry.toNat x (by rw [hf];omega) (by omega) hx;unfold T1 at h;rw [and_eq_true,Bool.not_eq_true']at h;have h:=h.1;unfold tD at h;rw [Bool.or_eq_false_iff,Bool.or_eq_false_iff,hf,Int.toNat_of_nonneg he.1]at h;have h:=h.2.2;rw [beq_self_eq_true,Bool.true_and]at h;rw [H5 hx];simp at h;omega
theorem An0 {l:List Ay} {a:Int} (h0:0<=a) (h1:a<l.length) (hn:O4 l a≠6):Bm l a=a:=by
 unfold Bm;obtain⟨x,hx⟩:∃x,l[a.toNat]? =some x:=⟨_,getElem?_eq_getElem (by omega)⟩
 rw [H5 hx]at hn;rw [Anc h0 h1 hx,if_neg hn]
theorem TT (T:fj c) (hm:G9 c) (hd:c.defs[c.main.toNat]? =some d):(O4 c.ins d.entry=24/\Fj c fuel d=⟨c.main,0,replicate d.vars.toNat 0,fuel,5,0,0,0,0,0,[]⟩)\/(O4 c.ins d.entry=1/\Fj c fuel d=⟨c.main,d.entry,replicate d.vars.toNat 0,fuel,0,0,0,0,0,0,[]⟩):=by
 have he:=T.tz _ _ hd;have ho:=Av4 T hm hd;have hs:Bm c.ins d.entry=d.entry:=An0 he.1 he.2 (by omega);unfold Fj Vu;rw [hs];rcases ho with ho|ho
 ·refine .inr ⟨ho,?_⟩;rw [ho,show((1:Int)==24)=false from rfl,Bool.and_false,Bool.and_false];rfl
 ·refine .inl ⟨ho,?_⟩;rw [ho,decide_eq_true he.1,decide_eq_true he.2];rfl
theorem Av5 (T:fj c) (hm:G9 c) (h0:0<=fuel) (h1:fuel<=1048576) (hd:c.defs[c.main.toNat]? =some d):Rh c (Fj c fuel d)=true:=by
 have hp:=T.par _ _ hd;have m0:=T.m0;have m1:=T.m1;have hw:eL c.main ((c.defs.length:Int)-1)=true:=by unfold eL;simp;omega
 have hf:eL fuel 1048576=true:=by unfold eL;simp;omega
 have hv:(((replicate d.vars.toNat (0:Int)).length:Int)==d.vars)=true:=by rw [length_replicate];simp;omega
 rcases TT (fuel:=fuel) T hm hd with⟨ho,e⟩|⟨ho,e⟩
 ·rw [e];unfold Rh;simp only [];rw [hw,hf,hd];simp only [];rw [hv,show eL 0 1099511627776=true from rfl,show eL 5 6=true from rfl];simp [Ka,Lm]
 ·rw [e];unfold Rh;simp only [];rw [hw,hf,hd];simp only [];rw [hv,show eL 0 1099511627776=true from rfl,show eL 0 6=true from rfl];have hr:=Apo T hd;have kh:l8 c c.main d.entry=1:=by unfold l8;rw [hr,if_pos (by omega)];exact ho
  simp [Ka,Lm,kh]
theorem Av6 (T:fj c) (hm:G9 c) (h0:0<=fuel) (h1:fuel<=1048576) (hd:c.defs[c.main.toNat]? =some d):wK c (Es c fuel d)=true:=by
 have hp:=Av5 T hm h0 h1 hd;have key:(Fj c fuel d).bp=c.main/\(Fj c fuel d).since=0/\Zn (Fj c fuel d)=false/\((Fj c fuel d).mode==6)=false:=by
  rcases TT (fuel:=fuel) T hm hd with⟨_,e⟩|⟨_,e⟩<;>(rw [e];exact⟨rfl,rfl,rfl,rfl⟩)
 obtain⟨k1,k2,k3,k4⟩:=key;unfold wK;have h1:rQ c (Es c fuel d)=true:=by
  unfold rQ Es;simp [tN,k1,eL]
 have h2:(Es c fuel d).procs.all (pB c (Es c fuel d))=true:=by
  show([Fj c fuel d]).all _=true
  rw [List.all_cons,List.all_nil,Bool.and_true];unfold pB;rw [hp,k2,k3];rfl
 have h3:fB (Es c fuel d)=true:=by
  unfold fB Es Hb;simp [k4]
 rw [h1,h2,h3];show(Pn _==Pn (Es c fuel d))=true
 exact beq_iff_eq.2 rfl
end
end Go.Proofs.YthkbhlmijkegiaaGreat
namespace Go.Proofs.YthkbhlmijkegiaaGreat.TU
open Go.Am
theorem mixed:Tryz.prog.follows .mixedOrders=true:=by kernel_rfl
theorem Bbx:rF Tryz.prog (fun c:Ba AV=>c) 12 60 7 [] Tr.nil 0 (fun av _ _=>some av)=some (.lit (.bool true)):=by kernel_rfl
theorem Bcg:Nat.ble (Nat.succ (7:FuncId)) YB=true:=by kernel_rfl
set_option maxRecDepth 100000 in
theorem Baj:FJ Tryz.prog 7 (.bool true):=@Ash Tryz.prog mixed (fun c=>c) (Lg Tryz.prog) 12 60 7 (.bool true) Bcg Bbx
theorem Bch:Go.Vc.Cd Tryz.prog 7=true:=by kernel_rfl
open Go.Vc in
set_option maxRecDepth 100000 in
theorem Ayl (w:World):Calls Tryz.prog 7 #[] w (aG fun u w'=>u= .bool true/\Go.RowKit.Below w.heap.size w w'):=Ajw Bch Baj w
end Go.Proofs.YthkbhlmijkegiaaGreat.TU
namespace Go.Proofs.YthkbhlmijkegiaaGreat
open Go.Vc
open Go.Lv Go.Ty
open Go.RowKit (Below)
theorem TV (w:World):Calls Tryz.prog 7 #[] w (aG fun u w'=>u= .bool true/\Ai [] w w'):=
 Ac (TU.Ayl w) fun _ _ h=>⟨h.1,Ai.oD h.2⟩
structure HA (c:Ah):Prop where
 dn:∀d∈c.defs,d.name.length<2^63
 cn:∀d∈c.af,d.name.length<2^63
def T4 (x0:Option Addr) (x1:Nat) (x2:Nat) (x3:Option Addr) (x4:Nat) (x5:Nat) (x6:Option Addr) (x7:Nat) (x8:Nat) (x9:Int) (ae:Int) (aa:Int) (K:Value->World->Prop) (w:World):Prop:=∀(ad:Nat) (w1:World),ad=w.heap.size->w1=w.alloc (.cells #[.slice x0 x1 x2,.slice x3 x4 x5,.slice x6 x7 x8,.int .i64 x9,.int .i64 ae] 26)->∃ai ag ah aj ao ak ax aA aB ay aw,Ad w1 (Zb ad) [.slice ai ag ah,.slice aj ao ak,.slice ax aA aB,.int .i64 ay,.int .i64 aw]/\Ef 5 #[.agg #[.slice ai ag ah,.slice aj ao ak,.slice ax aA aB,.int .i64 ay,.int .i64 aw],.agg #[.int .i64 0,.int .i64 0,.int .i64 0,.int .i64 0,.int .i64 0,.slice none 0 0,.slice none 0 0]] w1 (fun aD w2=>∃aN,aD= .bool aN/\cond (aN) (Ef 7 #[] w2 (fun aH w3=>∃aF,aH= .bool aF/\K (.bool aF) w3)) (Ef 14 #[.slice none 0 0] w2 (fun bg w4=>∃aQ,bg= .pointer aQ/\Ef 13 #[.pointer none,.agg #[.int .i64 0,.int .i64 0,.int .i64 0,.int .i64 0,.int .i64 0,.slice none 0 0,.slice none 0 0],.iface 44 (.pointer aQ)] w4 (fun aE w5=>∃aJ aZ aV bc bw aO bC bJ br a_ bD bF bn bO aX bP bA,aE= .tuple #[.agg #[.int .i64 aJ,.int .i64 aZ,.int .i64 aV,.int .i64 bc,.int .i64 bw,.slice aO bC bJ,.slice br a_ bD],.agg #[.int .i64 bF,.int .i64 bn,.int .i64 bO,.int .i64 aX,.int .i64 bP],.int .i64 bA]/\∀(bM:Nat) (w6:World),bM=w5.heap.size->w6=w5.alloc (.cells #[.int .i64 0,.int .i64 0,.int .i64 0,.int .i64 0,.int .i64 0,.slice none 0 0,.slice none 0 0] 30)->∀(bW:Nat) (w7:World),bW=w6.heap.size->w7=w6.alloc (.cells #[.int .i64 0,.int .i64 0,.int .i64 0,.int .i64 0,.int .i64 0] 41)->Af w7 (Zb bM) 7/\∀w8:World,w8=setCells w7 (Zb bM) [.int .i64 aJ,.int .i64 aZ,.int .i64 aV,.int .i64 bc,.int .i64 bw,.slice aO bC bJ,.slice br a_ bD]->Af w8 (Zb bW) 5/\∀w9:World,w9=setCells w8 (Zb bW) [.int .i64 bF,.int .i64 bn,.int .i64 bO,.int .i64 aX,.int .i64 bP]->∃(J:Bool->World->Prop),(Ef 16 #[.pointer none] w9 (fun bQ aK=>∃bT bU b9 cg b_ cb cv cp cu cy cB,bQ= .agg #[.int .i64 bT,.int .i64 bU,.int .i64 b9,.int .i64 cg,.int .i64 b_,.slice cb cv cp,.slice cu cy cB]/\Ef 15 #[.agg #[.int .i64 bT,.int .i64 bU,.int .i64 b9,.int .i64 cg,.int .i64 b_,.slice cb cv cp,.slice cu cy cB],.agg #[.int .i64 0,.int .i64 0,.int .i64 0,.int .i64 0,.int .i64 0,.slice none 0 0,.slice none 0 0]] aK (fun cE aI=>∃cO,cE= .bool cO/\cond (!cO) (J true aI) (Ef 18 #[.pointer none] aI (fun cU bj=>∃cG cL cz cX dA cW dV dP eg dG dM,cU= .agg #[.slice cG cL cz,.slice cX dA cW,.slice dV dP eg,.int .i64 dG,.int .i64 dM]/\Ef 17 #[.agg #[.slice cG cL cz,.slice cX dA cW,.slice dV dP eg,.int .i64 dG,.int .i64 dM],.agg #[.slice none 0 0,.slice none 0 0,.slice none 0 0,.int .i64 0,.int .i64 0]] bj (fun eu bG=>∃fe,eu= .bool fe/\cond (!fe) (J true bG) (Ef 10 #[.pointer none,.agg #[.int .i64 0,.int .i64 0,.int .i64 0,.int .i64 0,.int .i64 0,.slice none 0 0,.slice none 0 0]] bG (fun eh bt=>∃ei dI dF,eh= .slice ei dI dF/\cond ((dI:Int) !=0) (J true bt) (Ef 9 #[.pointer none,.agg #[.int .i64 0,.int .i64 0,.int .i64 0,.int .i64 0,.int .i64 0,.slice none 0 0,.slice none 0 0]] bt (fun eb cr=>∃ey,eb= .int .i64 ey/\cond (ey !=9) (J true cr) (J (bA !=9) cr)))))))))))/\∀(_x84:Nat->Value) eo ck,J eo ck->cond (eo) (K (.bool false) ck) (∃ep dW dY dN dw dr dj eH eN eO eP,Ad ck (Zb ad) [.slice ep dW dY,.slice dN dw dr,.slice dj eH eN,.int .i64 eO,.int .i64 eP]/\Ef 8 #[.agg #[.slice ep dW dY,.slice dN dw dr,.slice dj eH eN,.int .i64 eO,.int .i64 eP],.int .i64 aa] ck (fun eK cQ=>∃eE eQ,eK= .tuple #[.pointer eE,.int .i64 eQ]/\∃fu fk ew eF fW e7 fl fm fo gA fX,Ad cQ (Zb ad) [.slice fu fk ew,.slice eF fW e7,.slice fl fm fo,.int .i64 gA,.int .i64 fX]/\Ef 19 #[.agg #[.slice fu fk ew,.slice eF fW e7,.slice fl fm fo,.int .i64 gA,.int .i64 fX]] cQ (fun gz cR=>∃gd gC,gz= .agg #[.int .i64 gd,.int .i64 gC]/\∀(fw:Nat) (eR:World),fw=cR.heap.size->eR=cR.alloc (.cells #[.int .i64 0,.int .i64 0] 50)->Af eR (Zb fw) 2/\∀dk:World,dk=setCells eR (Zb fw) [.int .i64 gd,.int .i64 gC]->((0:Int)<=(1:Int)/\(1:Int)<(2:Int))/\∃gD,dk.cell? ⟨fw,1,none⟩=some (.int .i64 gD)/\cond (gD !=0) (cond (eE.isNone) (((0:Int)<=(1:Int)/\(1:Int)<(2:Int))/\∃gE,dk.cell? ⟨fw,1,none⟩=some (.int .i64 gE)/\cond (eQ==gE) (Ef 7 #[] dk (fun iT gg=>∃iI,iT= .bool iI/\K (.bool iI) gg)) (K (.bool false) dk)) (K (.bool false) dk)) (∀(_x119:Nat->Value),cond (((decide (aa<0))||(decide (aa>1048576)))) (cond (eE.isNone) (cond (eQ==1) (Ef 7 #[] dk (fun iU iJ=>∃ik,iU= .bool ik/\K (.bool ik) iJ)) (K (.bool false) dk)) (K (.bool false) dk)) (∀il:World,il=dk.drew->∃(S:World->Prop),S il/\cond (!eE.isNone) (cond (eQ==0) (∃jt jN ja ks jb jc jd kF je jf j4,(∀u:World,S u->Ad u (Zb ad) [.slice jt jN ja,.slice ks jb jc,.slice jd kF je,.int .i64 jf,.int .i64 j4])/\Ef 18 #[.pointer eE] il (fun ku jx=>∃kZ ju jv j5 jw j6 k7 ly mz sb nu,ku= .agg #[.slice kZ ju jv,.slice j5 jw j6,.slice k7 ly mz,.int .i64 sb,.int .i64 nu]/\S jx/\Ef 17 #[.agg #[.slice kZ ju jv,.slice j5 jw j6,.slice k7 ly mz,.int .i64 sb,.int .i64 nu],.agg #[.slice jt jN ja,.slice ks jb jc,.slice jd kF je,.int .i64 jf,.int .i64 j4]] jx (fun qF gM=>∃mB,qF= .bool mB/\S gM/\cond (mB) ((Ef 16 #[.pointer eE] gM (fun pA jO=>∃nv pD oz nw nx ny sc pE k8 pF pG,pA= .agg #[.int .i64 nv,.int .i64 pD,.int .i64 oz,.int .i64 nw,.int .i64 nx,.slice ny sc pE,.slice k8 pF pG]/\S jO/\∃TW oA pH oB ua ub xh mg uc ud ue,Ad jO (Zb ad) [.slice TW oA pH,.slice oB ua ub,.slice xh mg uc,.int .i64 ud,.int .i64 ue]/\S jO/\Ef 20 #[.agg #[.slice TW oA pH,.slice oB ua ub,.slice xh mg uc,.int .i64 ud,.int .i64 ue],.int .i64 aa] jO (fun zT im=>∃xj uf xk ug xm uh ui uj uk um uo,zT= .agg #[.int .i64 xj,.int .i64 uf,.int .i64 xk,.int .i64 ug,.int .i64 xm,.slice uh ui uj,.slice uk um uo]/\Ef 15 #[.agg #[.int .i64 nv,.int .i64 pD,.int .i64 oz,.int .i64 nw,.int .i64 nx,.slice ny sc pE,.slice k8 pF pG],.agg #[.int .i64 xj,.int .i64 uf,.int .i64 xk,.int .i64 ug,.int .i64 xm,.slice uh ui uj,.slice uk um uo]] im (fun xn jg=>∃uq,xn= .bool uq/\cond (uq) (Ef 16 #[.pointer eE] jg (fun xo nA=>∃ur uu uv xp uw xr ux xu uy uz uA,xo= .agg #[.int .i64 ur,.int .i64 uu,.int .i64 uv,.int .i64 xp,.int .i64 uw,.slice xr ux xu,.slice uy uz uA]/\Ef 9 #[.pointer eE,.agg #[.int .i64 ur,.int .i64 uu,.int .i64 uv,.int .i64 xp,.int .i64 uw,.slice xr ux xu,.slice uy uz uA]] nA (fun xw iK=>∃uB,xw= .int .i64 uB/\cond (uB==0) (Ef 7 #[] iK (fun xy lz=>∃uC,xy= .bool uC/\K (.bool uC) lz)) (K (.bool false) iK)))) (K (.bool false) jg)))))/\(∃uD uE uF uG uH xz uI TX uJ TY xD,Ad gM (Zb ad) [.slice uD uE uF,.slice uG uH xz,.slice uI TX uJ,.int .i64 TY,.int .i64 xD]/\S gM/\Ef 16 #[.pointer eE] gM (fun xF nB=>∃xG uK uL uM uN uO uP uQ uR uS uT,xF= .agg #[.int .i64 xG,.int .i64 uK,.int .i64 uL,.int .i64 uM,.int .i64 uN,.slice uO uP uQ,.slice uR uS uT]/\S nB/\Ef 20 #[.agg #[.slice uD uE uF,.slice uG uH xz,.slice uI TX uJ,.int .i64 TY,.int .i64 xD],.int .i64 aa] nB (fun xH mC=>∃uU xI uV TZ T_ UA UB UC UD UE UF,xH= .agg #[.int .i64 uU,.int .i64 xI,.int .i64 uV,.int .i64 TZ,.int .i64 T_,.slice UA UB UC,.slice UD UE UF]/\Ef 15 #[.agg #[.int .i64 xG,.int .i64 uK,.int .i64 uL,.int .i64 uM,.int .i64 uN,.slice uO uP uQ,.slice uR uS uT],.agg #[.int .i64 uU,.int .i64 xI,.int .i64 uV,.int .i64 TZ,.int .i64 T_,.slice UA UB UC,.slice UD UE UF]] mC (fun Brs lB=>∃UG,Brs= .bool UG/\cond (UG) (Ef 16 #[.pointer eE] lB (fun Brt uW=>∃UH UI UJ UK UL UM UN UO UP UQ UR,Brt= .agg #[.int .i64 UH,.int .i64 UI,.int .i64 UJ,.int .i64 UK,.int .i64 UL,.slice UM UN UO,.slice UP UQ UR]/\Ef 9 #[.pointer eE,.agg #[.int .i64 UH,.int .i64 UI,.int .i64 UJ,.int .i64 UK,.int .i64 UL,.slice UM UN UO,.slice UP UQ UR]] uW (fun Bru sd=>∃US,Bru= .int .i64 US/\cond (US==0) (Ef 7 #[] sd (fun Brv uX=>∃UT,Brv= .bool UT/\K (.bool UT) uX)) (K (.bool false) sd)))) (K (.bool false) lB)))))) ((K (.bool false) gM)/\(K (.bool false) gM))))) ((K (.bool false) il)/\(K (.bool false) il))) ((K (.bool false) il)/\(K (.bool false) il)))))))))))
theorem T5 (x0:Option Addr) (x1:Nat) (x2:Nat) (x3:Option Addr) (x4:Nat) (x5:Nat) (x6:Option Addr) (x7:Nat) (x8:Nat) (x9:Int) (ae:Int) (aa:Int) (K:Value->World->Prop) (w:World) (h:T4 x0 x1 x2 x3 x4 x5 x6 x7 x8 x9 ae aa K w):Calls Tryz.prog 4 #[.agg #[.slice x0 x1 x2,.slice x3 x4 x5,.slice x6 x7 x8,.int .i64 x9,.int .i64 ae],.int .i64 aa] w (aG K):=
 Ag { dH:=[(62,[(53,.bool)])],jJ:=[(2044,[81])] } Tryz.func4 (by kernel_rfl) h
def Akb (x0:Option Addr) (x1:Nat) (x2:Nat) (K:Value->World->Prop) (w:World):Prop:=Ef 39 #[.slice x0 x1 x2] w (fun x3 w1=>∃x4 x5 x6,x3= .slice x4 x5 x6/\∀(x7:Nat) (w2:World),x7=w1.heap.size->w2=w1.alloc (.cells #[.slice x4 x5 x6] 89)->K (.pointer (some (Zb x7))) w2)
theorem Akc (x0:Option Addr) (x1:Nat) (x2:Nat) (K:Value->World->Prop) (w:World) (h:Akb x0 x1 x2 K w):Calls Tryz.prog 14 #[.slice x0 x1 x2] w (aG K):=
 Ag {} Tryz.func14 (by kernel_rfl) h
end Go.Proofs.YthkbhlmijkegiaaGreat
namespace Go.Am
open Go.Vc
theorem N5 {P:Program} (hm:P.follows .mixedOrders=true) {ext:Ba AV->Ba AV} (he:R9 P ext) {lf k:Nat} {g:FuncId} {x:AV} {v:Value} {az:List AV} (hx:x.val? =some v) (lX:Nat.ble (Nat.succ g) YB=true) (eM:Cd P g=true) (h:rF P ext lf k g az Tr.nil 0 (fun av _ _=>some av)=some x) {vs:List Value} (j0:AV.bI (fun _=>none) az vs) (w:World): Calls P g ⟨vs⟩ w (aG fun u w'=>u=v/\Go.RowKit.Below w.heap.size w w'):=by
 obtain⟨av,M',n',h1,h2⟩:=FI hm he k _ _ _ _ _ _ h;cases h1
 have wA:g<YB:=Nat.le_of_ble_eq_true lX;have:=h2.1 wA (base w) (fun _=>none) w vs (Bc.start w) j0 (fun u w'=>u=v/\Go.RowKit.Below w.heap.size w w') fun e' u w' _ f_ hu=>⟨Zs hx hu,f_.below⟩
 rw [Lf eM]at this;refine Calls.mono (this:Calls P g _ w _) fun en w' h=> ?_
 cases en with
 |returned v=>exact h
 |panicked c=>exact(h:False).elim
 |outgrown=>exact(h:False).elim
end Go.Am
namespace Go.Proofs.YthkbhlmijkegiaaGreat
open Go.Vc Go.Lv Go.Ty
def kE:List Value:=[.int .i64 0,.int .i64 0,.int .i64 0,.int .i64 0,.int .i64 0,.slice none 0 0,.slice none 0 0]
def pj:Go.Am.AV:= .agg (kE.map .lit)
def nk:Go.Am.AV:= .lit (.pointer none)
theorem UU:Go.Am.AV.bI (fun _=>none) [nk] [.pointer none]:=by simp [Go.Am.AV.bI,Go.Am.AV.rep,nk]
theorem UW:Go.Am.AV.bI (fun _=>none) [nk,pj] [.pointer none,.agg ⟨kE⟩]:=by simp [Go.Am.AV.bI,Go.Am.AV.rep,nk,pj,kE]
theorem Av8 (v:Value):Go.Am.AV.bI (fun _=>none) [nk,pj,.lit v] [.pointer none,.agg ⟨kE⟩,v]:=by simp [Go.Am.AV.bI,Go.Am.AV.rep,nk,pj,kE]
set_option maxRecDepth 100000 in
theorem Asq (w:World):Calls Tryz.prog 16 #[.pointer none] w (aG fun v w'=>v= .agg ⟨kE⟩/\Ai [] w w'):=
 Ac (@Go.Am.N5 Tryz.prog mixed (fun c=>c) (Go.Am.Lg Tryz.prog) 12 60 16 pj (.agg ⟨kE⟩) [nk] rfl (by kernel_rfl) (by kernel_rfl) (by kernel_rfl) [.pointer none] UU w) fun _ _ h=>⟨h.1,Ai.oD h.2⟩
def zA:List Value:=[.slice none 0 0,.slice none 0 0,.slice none 0 0,.int .i64 0,.int .i64 0]
set_option maxRecDepth 100000 in
theorem Av9 (w:World):Calls Tryz.prog 18 #[.pointer none] w (aG fun v w'=>v= .agg ⟨zA⟩/\Ai [] w w'):=
 Ac (@Go.Am.N5 Tryz.prog mixed (fun c=>c) (Go.Am.Lg Tryz.prog) 12 60 18 (.agg (zA.map .lit)) (.agg ⟨zA⟩) [nk] rfl (by kernel_rfl) (by kernel_rfl) (by kernel_rfl) [.pointer none] UU w) fun _ _ h=>⟨h.1,Ai.oD h.2⟩
set_option maxRecDepth 100000 in
theorem Asr (w:World):Calls Tryz.prog 10 #[.pointer none,.agg ⟨kE⟩] w (aG fun v w'=>v= .slice none 0 0/\Ai [] w w'):=
 Ac (@Go.Am.N5 Tryz.prog mixed (fun c=>c) (Go.Am.Lg Tryz.prog) 12 60 10 (.lit (.slice none 0 0)) (.slice none 0 0) [nk,pj] rfl (by kernel_rfl) (by kernel_rfl) (by kernel_rfl) [.pointer none,.agg ⟨kE⟩] UW w) fun _ _ h=>⟨h.1,Ai.oD h.2⟩
set_option maxRecDepth 100000 in
theorem Ass (w:World):Calls Tryz.prog 9 #[.pointer none,.agg ⟨kE⟩] w (aG fun v w'=>v= .int .i64 9/\Ai [] w w'):=
 Ac (@Go.Am.N5 Tryz.prog mixed (fun c=>c) (Go.Am.Lg Tryz.prog) 12 60 9 (.lit (.int .i64 9)) (.int .i64 9) [nk,pj] rfl (by kernel_rfl) (by kernel_rfl) (by kernel_rfl) [.pointer none,.agg ⟨kE⟩] UW w) fun _ _ h=>⟨h.1,Ai.oD h.2⟩
def HB:List Value:=[.int .i64 0,.int .i64 0,.int .i64 0,.int .i64 0,.int .i64 0]
set_option maxRecDepth 100000 in
theorem Awa (v:Value) (w:World):Calls Tryz.prog 13 #[.pointer none,.agg ⟨kE⟩,v] w (aG fun r w'=>r= .tuple #[.agg ⟨kE⟩,.agg ⟨HB⟩,.int .i64 9]/\Ai [] w w'):=
 Ac (@Go.Am.N5 Tryz.prog mixed (fun c=>c) (Go.Am.Lg Tryz.prog) 12 60 13 (.tuple [pj,.agg (HB.map .lit),.lit (.int .i64 9)]) (.tuple #[.agg ⟨kE⟩,.agg ⟨HB⟩,.int .i64 9]) [nk,pj,.lit v] rfl (by kernel_rfl) (by kernel_rfl) (by kernel_rfl) [.pointer none,.agg ⟨kE⟩,v] (Av8 v) w) fun _ _ h=>⟨h.1,Ai.oD h.2⟩
open Go.RowKit (Below)
theorem UX (c:Ah) (kW:c.ins.length<=100000) (hd:c.defs.length<=100000) (gN:c.af.length<=100000) (K:Bool->Prop) (h:K true):JD c c K:=by
 refine Aen _ _ _ ⟨fun b=>b=false,?_,?_⟩
 ·exact Bj (by simp) (Bj (by simp) (Bj (by simp) (Bj (by simp) (by simp))))
 rintro _ rfl;refine Bj rfl ⟨fun i n=>At c.ins.length (fun _=>True) i n,⟨_,At.start trivial⟩,?_⟩;rintro _ _ ⟨k,rfl,hk,rfl,_⟩;refine At.cond hk (fun hk=>Ax hk (Ax hk (Bj (by simp) (At.next (by omega) hk trivial)))) fun _=> ?_
 refine⟨fun i n=>At c.defs.length (fun _=>True) i n,⟨_,At.start trivial⟩,?_⟩;rintro _ _ ⟨k,rfl,hk,rfl,_⟩;refine At.cond hk (fun hk=>Ax hk (Ax hk (Bj (by simp) (At.next (by omega) hk trivial)))) fun _=> ?_
 refine⟨fun i n=>At c.af.length (fun _=>True) i n,⟨_,At.start trivial⟩,?_⟩;rintro _ _ ⟨k,rfl,hk,rfl,_⟩;exact At.cond hk (fun hk=>Ax hk (Ax hk (Bj (by simp) (At.next (by omega) hk trivial)))) fun _=>h
def z0:Ar:=⟨0,0,0,0,0,[],[]⟩
def zc:Ah:=⟨[],[],[],0,0⟩
theorem HC (m:List Nat) (w:World):Dt.rep m w z0 kE:=Cb z0 ⟨le_refl 0,.inl rfl⟩ ⟨le_refl 0,.inl rfl⟩
theorem UY (m:List Nat) (w:World):Bv.rep m w zc zA:=Az zc ⟨le_refl 0,.inl rfl⟩ ⟨le_refl 0,.inl rfl⟩ ⟨le_refl 0,.inl rfl⟩
theorem Bby:tM z0:=⟨zero_le _,zero_le _,fun _ h=>(by first | (cases h; done) | simp at h)⟩
theorem Bci {m:List Nat} {w:World} (hm:bB m w):Calls Tryz.prog 14 #[.slice none 0 0] w (aG fun v w'=>∃p,v= .pointer p/\Ai [] w w'):=by
 have o:=Mem.start hm.lt;refine Akc _ _ _ _ _ (Ac (GY [] (by decide) (fun _=>True) trivial _ w hm none 0 (le_refl _) (.inl rfl)) ?_);rintro _ w1 ⟨r,_,⟨a0,c0,sg,rfl,_⟩,hk⟩;obtain⟨_,o⟩:=o.dE hk;refine⟨_,_,_,rfl,fun b w2 hb cJ=> ?_⟩;obtain⟨_,o⟩:=o.dB hb cJ;exact⟨_,rfl,o.done⟩
theorem Awc {c:Ah} {fuel:Int} {d:Cf} (T:fj c) (hd:c.defs[c.main.toNat]? =some d):tM (Es c fuel d):=⟨by show 1<=20;omega,zero_le _,(GZ T hd).2⟩
theorem UZ {c:Ah} {fuel:Int} {d:Cf} (T:fj c) (kA:G9 c) (kW:c.ins.length<=100000) (gN:c.af.length<=100000) (h0:0<=fuel) (h1:fuel<=1048576) (hd:c.defs[c.main.toNat]? =some d) {m:List Nat} {w:World} (hm:bB m w) (bm:Nat) (HD:List Value) (jP:bm∈m) (mv:dc w bm HD) (hf:B8.rep m w ⟨c,fuel⟩ HD) (s1 s2:List Value) (r1:Dt.rep m w (Es c fuel d) s1) (r2:Dt.rep m w (Es c fuel d) s2) (K:Value->World->Prop) (hK:∀u,Ai [bm] w u->dc u bm HD->K (.bool true) u): Calls Tryz.prog 15 #[.agg ⟨s1⟩,.agg ⟨s2⟩] w (aG fun v jg=>∃ag,v= .bool ag/\cond ag (Calls Tryz.prog 16 #[.pointer (some ⟨bm,0,none⟩)] jg (aG fun v nA=>∃bT bU b9 cg b_ cb cv cp cu cy cB,v= .agg #[.int .i64 bT,.int .i64 bU,.int .i64 b9,.int .i64 cg,.int .i64 b_,.slice cb cv cp,.slice cu cy cB]/\Calls Tryz.prog 9 #[.pointer (some ⟨bm,0,none⟩),.agg #[.int .i64 bT,.int .i64 bU,.int .i64 b9,.int .i64 cg,.int .i64 b_,.slice cb cv cp,.slice cu cy cB]] nA (aG fun v iK=>∃ah,v= .int .i64 ah/\cond (ah==0) (Calls Tryz.prog 7 #[] iK (aG fun v lz=>∃aj,v= .bool aj/\K (.bool aj) lz)) (K (.bool false) iK)))) (K (.bool false) jg)):=by
 have sm:=Awc (fuel:=fuel) T hd;obtain⟨q0,k0,q1,k1,q2,k2,rfl,g0,g1,g2⟩:=Ek hf;have qq:∀ {m':List Nat} {u:World},Step m w m' u->B8.rep m' u ⟨c,fuel⟩ _:=fun t=>Jz ⟨c,fuel⟩ ⟨g0.1,g0.2.st t⟩ ⟨g1.1,g1.2.st t⟩ ⟨g2.1,g2.2.st t⟩
 have o:=Mem.recv hm.lt jP mv;have st:=Mem.oH (w:=w) jP mv;have fT:∀b∈[bm],b∈m:=fun b hb=>(List.mem_singleton.1 hb)▸jP
 refine Ac (TB _ _ sm (fun r=>r=true) (by simp) _ w hm _ r1 _ r2) ?_;rintro _ jg ⟨_,rfl,rfl,hk⟩;obtain⟨t1,o⟩:=o.dE hk;have st:=st.trans t1;refine⟨_,rfl,Cu rfl (Ac (G_ T kW h0 h1 hd (fun r=>r=Es c fuel d) rfl _ jg (o.mp hm fT) bm _ (Mem.kH 0 rfl) (o.at 0 rfl) (qq st)) ?_)⟩;rintro _ nA ⟨r,hr,⟨c_,rfl,jQ⟩,Brw,iw⟩;rw [hr]at jQ;obtain⟨a3,c3,a4,c4,rfl,y3,y4⟩:=Bk jQ;obtain⟨t2,o⟩:=o.dC 0 iw Brw rfl;have st:=st.trans t2;refine⟨_,_,_,_,_,_,_,_,_,_,_,rfl,Ac (Av3 ⟨c,fuel⟩ ⟨T,gN,sm⟩ (fun r=>r=0) (by show cond (wK c (Es c fuel d)) 0 9=(0:Int);rw [Av6 T kA h0 h1 hd];rfl) _ nA (o.mp hm fT) bm _ (Mem.kH 0 rfl) (o.at 0 rfl) (qq st) _ jQ) ?_⟩;rintro _ iK ⟨_,rfl,rfl,Brx,tL⟩;obtain⟨t3,o⟩:=o.dC 0 tL Brx rfl;refine⟨_,rfl,Cu rfl (Ac (TV iK) ?_)⟩;rintro _ lz ⟨rfl,GV⟩;have o:=o.ext GV;exact⟨_,rfl,hK _ o.done (o.at 0 rfl)⟩
set_option maxHeartbeats 2000000 in
theorem Awd (c:Ah) (fuel:Int) (N:HA c) {m:List Nat} {w:World} (hm:bB m w) (l9:List Value) (hc:Bv.rep m w c l9): Calls Tryz.prog 4 #[.agg ⟨l9⟩,.int .i64 fuel] w (aG fun v w'=>v= .bool true/\Ai [] w w'):=by
 obtain⟨a0,c0,a1,c1,a2,c2,rfl,⟨le,f⟩,⟨bz,f1⟩,⟨bH,f2⟩⟩:=A5 hc;have o:=Mem.start hm.lt;refine T5 _ _ _ _ _ _ _ _ _ _ _ _ _ _ ?_;intro b w1 hb aU;obtain⟨s1,o⟩:=o.dB hb aU;have st:=s1;have live:∀ {u:World},Ai [] w u->Calls Tryz.prog 7 #[] u (aG fun v w'=>∃x:Bool,v= .bool x/\(Value.bool x= .bool true/\Ai [] w w')):=fun k=>Ac (TV _) fun _ _ h=>⟨true,h.1,rfl,k.trans h.2⟩
 refine⟨_,_,_,_,_,_,_,_,_,_,_,(o.at 0 rfl).whole,?_⟩;refine Ac (Ayj c z0 (fun b=>b=false->(c.ins.length<=150/\c.defs.length<=40/\c.af.length<=80)/\tM z0) (fun _ h=>h) _ w1 (o.mn hm) _ (Az c ⟨le,f.st st⟩ ⟨bz,f1.st st⟩ ⟨bH,f2.st st⟩) _ (HC _ _)) ?_;rintro _ w2 ⟨x,hx,rfl,hk⟩;obtain⟨s2,o⟩:=o.dE hk;have st:=st.trans s2;refine⟨_,rfl,Ab (fun _=>live o.done) fun e=> ?_⟩;obtain⟨⟨l1,l2,l3⟩,_⟩:=hx e;refine Ac (Bci (o.mn hm)) ?_;rintro _ w4 ⟨p,rfl,hk⟩;obtain⟨s3,o⟩:=o.dE hk;have st:=st.trans s3;refine⟨_,rfl,Ac (Awa _ w4) ?_⟩;rintro _ w5 ⟨rfl,hk⟩;obtain⟨s4,o⟩:=o.dE hk;have st:=st.trans s4;refine⟨_,_,_,_,_,_,_,_,_,_,_,_,_,_,_,_,_,rfl,?_⟩;intro b1 w6 ca cZ;obtain⟨s5,o⟩:=o.dB ca cZ;intro b2 w7 di eY;obtain⟨s6,o⟩:=o.dB di eY;refine⟨o.wr 1 rfl rfl,fun w8 gG=> ?_⟩;obtain⟨s7,o⟩:=o.cH 1 gG rfl;refine⟨o.wr 0 rfl rfl,fun w9 ef=> ?_⟩;obtain⟨s8,o⟩:=o.cH 0 ef rfl;obtain⟨s9,o⟩:=o.dX 0;obtain⟨GU,o⟩:=o.dX 0;have st:=(((((st.trans s5).trans s6).trans s7).trans s8).trans s9).trans GU;obtain⟨PP,l_⟩:∃PP:List Pc,PP=[.box b [.slice a0 c.ins.length c0,.slice a1 c.defs.length c1,.slice a2 c.af.length c2,.int .i64 c.main,.int .i64 c.stmts]]:=⟨_,rfl⟩
 have o:Mem w.heap.size [] m [([],w.heap.size,w)] [] w9 PP:=l_▸o;have st:Step m w (ms PP m) w9:=l_▸st;refine⟨fun bad u=>bad=false/\Mem w.heap.size [] m [([],w.heap.size,w)] [] u PP/\Step m w (ms PP m) u,?_,?_⟩
 ·refine Ac (Asq w9) ?_;rintro _ aK ⟨rfl,hk⟩;obtain⟨t1,o⟩:=o.dE hk;have st:=st.trans t1;refine⟨_,_,_,_,_,_,_,_,_,_,_,rfl,Ac (TB z0 z0 Bby (fun r=>r=true) (by simp) _ aK (o.mn hm) _ (HC _ _) _ (HC _ _)) ?_⟩;rintro _ aI ⟨_,rfl,rfl,hk⟩;obtain⟨t2,o⟩:=o.dE hk;have st:=st.trans t2;refine⟨_,rfl,Bj rfl (Ac (Av9 aI) ?_)⟩;rintro _ bj ⟨rfl,hk⟩;obtain⟨t3,o⟩:=o.dE hk;have st:=st.trans t3;refine⟨_,_,_,_,_,_,_,_,_,_,_,rfl,Ac (UX zc (by decide) (by decide) (by decide) (fun r=>r=true) rfl _ bj (o.mn hm) _ (UY _ _) _ (UY _ _)) ?_⟩;rintro _ bG ⟨_,rfl,rfl,hk⟩;obtain⟨t4,o⟩:=o.dE hk;have st:=st.trans t4;refine⟨_,rfl,Bj rfl (Ac (Asr bG) ?_)⟩;rintro _ bt ⟨rfl,hk⟩;obtain⟨t5,o⟩:=o.dE hk;have st:=st.trans t5;refine⟨_,_,_,rfl,Bj rfl (Ac (Ass bt) ?_)⟩;rintro _ cr ⟨rfl,hk⟩;obtain⟨t6,o⟩:=o.dE hk;exact⟨_,rfl,Bj rfl ⟨rfl,o,st.trans t6⟩⟩
 rintro _ _ ck ⟨rfl,o,st⟩;subst l_;refine Bj rfl ⟨_,_,_,_,_,_,_,_,_,_,_,(o.at 0 rfl).whole,?_⟩;refine Bbv (c:=c) (fuel:=fuel) (by omega) (by omega) (by omega) (o.mn hm) _ (Az c ⟨le,f.st st⟩ ⟨bz,f1.st st⟩ ⟨bH,f2.st st⟩) _ ?_ ?_ ?_
 ·intro he cQ hk;obtain⟨t1,o⟩:=o.dE hk;have st:=st.trans t1;refine⟨_,_,rfl,_,_,_,_,_,_,_,_,_,_,_,(o.at 0 rfl).whole,Ac (GJ c (by omega) (by omega) N.dn N.cn (fun r=>r.2=iy c) (fun _ _=>rfl) _ cQ (o.mn hm) _ (Az c ⟨le,f.st st⟩ ⟨bz,f1.st st⟩ ⟨bH,f2.st st⟩)) ?_⟩;rintro _ cR ⟨r,hr,⟨c_,rfl,jQ⟩,hk⟩;obtain rfl:=Mu jQ;obtain⟨u1,o⟩:=o.dE hk;have st:=st.trans u1;refine⟨_,_,rfl,?_⟩;intro b3 eR jj kR;obtain⟨u2,o⟩:=o.dB jj kR;refine⟨o.wr 0 rfl rfl,fun dk iY=> ?_⟩;obtain⟨u3,o⟩:=o.cH 0 iY rfl;have st:=(st.trans u2).trans u3;refine⟨⟨by omega,by omega⟩,_,(o.at 0 rfl).cell rfl,?_⟩;refine Cu (by rw [hr];simpa using he) (Cu rfl ⟨⟨by omega,by omega⟩,_,(o.at 0 rfl).cell rfl,Cu (by rw [hr];simp) (live o.done)⟩)
 ·intro he hfu cQ hk;obtain⟨t1,o⟩:=o.dE hk;have st:=st.trans t1;refine⟨_,_,rfl,_,_,_,_,_,_,_,_,_,_,_,(o.at 0 rfl).whole,Ac (GJ c (by omega) (by omega) N.dn N.cn (fun r=>r.2=iy c) (fun _ _=>rfl) _ cQ (o.mn hm) _ (Az c ⟨le,f.st st⟩ ⟨bz,f1.st st⟩ ⟨bH,f2.st st⟩)) ?_⟩;rintro _ cR ⟨r,hr,⟨c_,rfl,jQ⟩,hk⟩;obtain rfl:=Mu jQ;obtain⟨u1,o⟩:=o.dE hk;have st:=st.trans u1;refine⟨_,_,rfl,?_⟩;intro b3 eR jj kR;obtain⟨u2,o⟩:=o.dB jj kR;refine⟨o.wr 0 rfl rfl,fun dk iY=> ?_⟩;obtain⟨u3,o⟩:=o.cH 0 iY rfl;have st:=(st.trans u2).trans u3;refine⟨⟨by omega,by omega⟩,_,(o.at 0 rfl).cell rfl,?_⟩;refine Bj (by rw [hr,he];rfl) ?_;intro _;exact Cu (by simp;omega) (Cu rfl (Cu rfl (live o.done)))
 ·intro he h0 h1 w3 cQ bm q0 k0 q1 k1 q2 k2 hk g0 g1 g2 zn lk;obtain⟨t1,o⟩:=o.dE hk;obtain⟨t2,o⟩:=o.dB zn lk;have st:=(st.trans t1).trans t2;have hz:=Avm he;have T:=FT hz.1;obtain⟨d,hd⟩:∃d,c.defs[c.main.toNat]? =some d:=⟨_,getElem?_eq_getElem (by have:=T.m0;have:=T.m1;omega)⟩
  have qq:∀ {m':List Nat} {u:World},Step _ w3 m' u->B8.rep m' u ⟨c,fuel⟩ [.slice q0 c.ins.length k0,.slice q1 c.defs.length k1,.slice q2 c.af.length k2,.int .i64 c.main,.int .i64 c.stmts,.int .i64 fuel]:=fun t=>Jz ⟨c,fuel⟩ ⟨g0.1,g0.2.st t⟩ ⟨g1.1,g1.2.st t⟩ ⟨g2.1,g2.2.st t⟩
  have sf:=t2;refine⟨_,_,rfl,_,_,_,_,_,_,_,_,_,_,_,(o.at 1 rfl).whole,Ac (GJ c (by omega) (by omega) N.dn N.cn (fun r=>r.2=iy c) (fun _ _=>rfl) _ cQ (o.mn hm) _ (Az c ⟨le,f.st st⟩ ⟨bz,f1.st st⟩ ⟨bH,f2.st st⟩)) ?_⟩;rintro _ cR ⟨r,hr,⟨c_,rfl,jQ⟩,hk⟩;obtain rfl:=Mu jQ;obtain⟨u1,o⟩:=o.dE hk;have st:=st.trans u1;have sf:=sf.trans u1;refine⟨_,_,rfl,?_⟩;intro b3 eR jj kR;obtain⟨u2,o⟩:=o.dB jj kR;refine⟨o.wr 0 rfl rfl,fun dk iY=> ?_⟩;obtain⟨u3,o⟩:=o.cH 0 iY rfl;have st:=(st.trans u2).trans u3;have sf:=(sf.trans u2).trans u3;refine⟨⟨by omega,by omega⟩,_,(o.at 0 rfl).cell rfl,?_⟩;refine Bj (by rw [hr,he];rfl) ?_;intro _;refine Bj (by simp;omega) ?_;intro il Bry;obtain⟨u4,o⟩:=o.dD Bry;have st:=st.trans u4;have sf:=sf.trans u4;refine⟨fun u=>dc u b [.slice a0 c.ins.length c0,.slice a1 c.defs.length c1,.slice a2 c.af.length c2,.int .i64 c.main,.int .i64 c.stmts],o.at 2 rfl,Cu rfl (Cu rfl ⟨_,_,_,_,_,_,_,_,_,_,_,fun u hu=>hu.whole,?_⟩)⟩;refine Ac (Ly ⟨c,fuel⟩ (fun r=>r=c) (TP c (by omega) (by omega) (by omega) _ rfl) _ il (o.mn hm) bm _ (Mem.kH 1 rfl) (o.at 1 rfl) (qq sf)) ?_;rintro _ jx ⟨r',mi,⟨gP,rfl,U_⟩,mv,hk⟩;rw [mi]at U_;obtain⟨a3,c3,a4,c4,a5,c5,rfl,v0,v1,v2⟩:=A5 U_;obtain⟨u5,o⟩:=o.dC 1 hk mv rfl;have st:=st.trans u5;have sf:=sf.trans u5;refine⟨_,_,_,_,_,_,_,_,_,_,_,rfl,o.at 2 rfl,Ac (UX c (by omega) (by omega) (by omega) (fun r=>r=true) rfl _ jx (o.mn hm) _ (Az c v0 v1 v2) _ (Az c ⟨le,f.st st⟩ ⟨bz,f1.st st⟩ ⟨bH,f2.st st⟩)) ?_⟩;rintro _ gM ⟨_,rfl,rfl,hk⟩;obtain⟨u6,o⟩:=o.dE hk;have st:=st.trans u6;have sf:=sf.trans u6;refine⟨_,rfl,o.at 2 rfl,Cu rfl ⟨?_,?_⟩⟩
  ·refine Ac (G_ T (by omega) h0 h1 hd (fun r=>r=Es c fuel d) rfl _ gM (o.mn hm) bm _ (Mem.kH 1 rfl) (o.at 1 rfl) (qq sf)) ?_;rintro _ jO ⟨r1,cT,⟨kO,rfl,pk⟩,mv,hk⟩;rw [cT]at pk;obtain⟨e3,g3,e4,g4,rfl,y3,y4⟩:=Bk pk;obtain⟨u7,o⟩:=o.dC 1 hk mv rfl;have st:=st.trans u7;have sf:=sf.trans u7;refine⟨_,_,_,_,_,_,_,_,_,_,_,rfl,o.at 2 rfl,_,_,_,_,_,_,_,_,_,_,_,(o.at 2 rfl).whole,o.at 2 rfl,?_⟩;refine Ac (TS T (by omega) h0 h1 hd (fun r=>r=Es c fuel d) rfl _ jO (o.mn hm) _ (Az c ⟨le,f.st st⟩ ⟨bz,f1.st st⟩ ⟨bH,f2.st st⟩)) ?_;rintro _ im ⟨r2,eZ,⟨pL,rfl,rR⟩,hk⟩;rw [eZ]at rR;obtain⟨e5,g5,e6,g6,rfl,y5,y6⟩:=Bk rR;obtain⟨u8,o⟩:=o.dE hk;have sf:=sf.trans u8;have pk:=Cb (Es c fuel d) ⟨y3.1,y3.2.st u8⟩ ⟨y4.1,y4.2.st u8⟩;exact⟨_,_,_,_,_,_,_,_,_,_,_,rfl,UZ T hz.2.1 (by omega) (by omega) h0 h1 hd (o.mn hm) bm _ (Mem.kH 1 rfl) (o.at 1 rfl) (qq sf) _ _ pk rR (fun v w'=>v= .bool true/\Ai [] w w') (fun u hk mv=>⟨rfl,(o.dC 1 hk mv rfl).2.done⟩)⟩
  ·refine⟨_,_,_,_,_,_,_,_,_,_,_,(o.at 2 rfl).whole,o.at 2 rfl,?_⟩;refine Ac (G_ T (by omega) h0 h1 hd (fun r=>r=Es c fuel d) rfl _ gM (o.mn hm) bm _ (Mem.kH 1 rfl) (o.at 1 rfl) (qq sf)) ?_;rintro _ jO ⟨r1,cT,⟨kO,rfl,pk⟩,mv,hk⟩;rw [cT]at pk;obtain⟨e3,g3,e4,g4,rfl,y3,y4⟩:=Bk pk;obtain⟨u7,o⟩:=o.dC 1 hk mv rfl;have st:=st.trans u7;have sf:=sf.trans u7;refine⟨_,_,_,_,_,_,_,_,_,_,_,rfl,o.at 2 rfl,?_⟩;refine Ac (TS T (by omega) h0 h1 hd (fun r=>r=Es c fuel d) rfl _ jO (o.mn hm) _ (Az c ⟨le,f.st st⟩ ⟨bz,f1.st st⟩ ⟨bH,f2.st st⟩)) ?_;rintro _ im ⟨r2,eZ,⟨pL,rfl,rR⟩,hk⟩;rw [eZ]at rR;obtain⟨e5,g5,e6,g6,rfl,y5,y6⟩:=Bk rR;obtain⟨u8,o⟩:=o.dE hk;have sf:=sf.trans u8;have pk:=Cb (Es c fuel d) ⟨y3.1,y3.2.st u8⟩ ⟨y4.1,y4.2.st u8⟩;exact⟨_,_,_,_,_,_,_,_,_,_,_,rfl,UZ T hz.2.1 (by omega) (by omega) h0 h1 hd (o.mn hm) bm _ (Mem.kH 1 rfl) (o.at 1 rfl) (qq sf) _ _ pk rR (fun v w'=>v= .bool true/\Ai [] w w') (fun u hk mv=>⟨rfl,(o.dC 1 hk mv rfl).2.done⟩)⟩
theorem Xd (c:Ah) (fuel:Int) (N:HA c) (l9:Array Value) (W:World) (hc:Bv.rep [] W c l9.toList): Calls Tryz.prog 4 #[.agg l9,.int .i64 fuel] W (aG fun v w'=>v= .bool true/\Below W.heap.size W w'):=
 Ac (Awd c fuel N (bB.nil trivial) l9.toList hc) fun _ _ ⟨hv,k⟩=>⟨hv,k.ext⟩
def VA (x:Ay):Prop:=(IntKind.i64.min<=x.op/\x.op<=IntKind.i64.max)/\(IntKind.i64.min<=x.a/\x.a<=IntKind.i64.max)/\(IntKind.i64.min<=x.b/\x.b<=IntKind.i64.max)
theorem Ast {w:World} :og Tryz.prog w 95 Df VA:=by
 intro m cs h;obtain⟨m',rfl,hl,hx⟩:=h.struct Tryz.underlying95;have rH:cs.length=3:=hl.trans (by kernel_rfl);have k0:Tryz.prog.cellsOf 3=1:=by kernel_rfl
 have g0:gu Tryz.prog w m' 3 ((cs.drop 0).take (Tryz.prog.cellsOf 3)):=hx 0 _ rfl;rw [k0]at g0;obtain⟨x0,r0,q0⟩:=(Je Tryz.underlying3) m' _ g0;have k1:Tryz.prog.cellsOf 3=1:=by kernel_rfl
 have g1:gu Tryz.prog w m' 3 ((cs.drop 1).take (Tryz.prog.cellsOf 3)):=hx 1 _ rfl;rw [k1]at g1;obtain⟨x1,r1,q1⟩:=(Je Tryz.underlying3) m' _ g1;have k2:Tryz.prog.cellsOf 3=1:=by kernel_rfl
 have g2:gu Tryz.prog w m' 3 ((cs.drop 2).take (Tryz.prog.cellsOf 3)):=hx 2 _ rfl;rw [k2]at g2;obtain⟨x2,r2,q2⟩:=(Je Tryz.underlying3) m' _ g2;exact⟨⟨x0,x1,x2⟩,Ey r0 (Ey r1 (Rv (by omega) r2)),q0,q1,q2⟩
def VB (x:Cf):Prop:=(x.name).length<=wI/\(IntKind.i64.min<=x.entry/\x.entry<=IntKind.i64.max)/\(IntKind.i64.min<=x.params/\x.params<=IntKind.i64.max)/\(IntKind.i64.min<=x.vars/\x.vars<=IntKind.i64.max)
theorem Asu {w:World} :og Tryz.prog w 97 Gc VB:=by
 intro m cs h;obtain⟨m',rfl,hl,hx⟩:=h.struct Tryz.underlying97;have rH:cs.length=4:=hl.trans (by kernel_rfl);have k0:Tryz.prog.cellsOf 9=1:=by kernel_rfl
 have g0:gu Tryz.prog w m' 9 ((cs.drop 0).take (Tryz.prog.cellsOf 9)):=hx 0 _ rfl;rw [k0]at g0;obtain⟨x0,r0,q0⟩:=(SV Tryz.underlying9) m' _ g0;have k1:Tryz.prog.cellsOf 3=1:=by kernel_rfl
 have g1:gu Tryz.prog w m' 3 ((cs.drop 1).take (Tryz.prog.cellsOf 3)):=hx 1 _ rfl;rw [k1]at g1;obtain⟨x1,r1,q1⟩:=(Je Tryz.underlying3) m' _ g1;have k2:Tryz.prog.cellsOf 3=1:=by kernel_rfl
 have g2:gu Tryz.prog w m' 3 ((cs.drop 2).take (Tryz.prog.cellsOf 3)):=hx 2 _ rfl;rw [k2]at g2;obtain⟨x2,r2,q2⟩:=(Je Tryz.underlying3) m' _ g2;have k3:Tryz.prog.cellsOf 3=1:=by kernel_rfl
 have g3:gu Tryz.prog w m' 3 ((cs.drop 3).take (Tryz.prog.cellsOf 3)):=hx 3 _ rfl;rw [k3]at g3;obtain⟨x3,r3,q3⟩:=(Je Tryz.underlying3) m' _ g3;exact⟨⟨x0,x1,x2,x3⟩,Ey r0 (Ey r1 (Ey r2 (Rv (by omega) r3))),q0,q1,q2,q3⟩
def VC (x:Bu):Prop:=(x.name).length<=wI/\(IntKind.i64.min<=x.base/\x.base<=IntKind.i64.max)/\(IntKind.i64.min<=x.size/\x.size<=IntKind.i64.max)
theorem Apr {w:World} :og Tryz.prog w 99 Dv VC:=by
 intro m cs h;obtain⟨m',rfl,hl,hx⟩:=h.struct Tryz.underlying99;have rH:cs.length=3:=hl.trans (by kernel_rfl);have k0:Tryz.prog.cellsOf 9=1:=by kernel_rfl
 have g0:gu Tryz.prog w m' 9 ((cs.drop 0).take (Tryz.prog.cellsOf 9)):=hx 0 _ rfl;rw [k0]at g0;obtain⟨x0,r0,q0⟩:=(SV Tryz.underlying9) m' _ g0;have k1:Tryz.prog.cellsOf 3=1:=by kernel_rfl
 have g1:gu Tryz.prog w m' 3 ((cs.drop 1).take (Tryz.prog.cellsOf 3)):=hx 1 _ rfl;rw [k1]at g1;obtain⟨x1,r1,q1⟩:=(Je Tryz.underlying3) m' _ g1;have k2:Tryz.prog.cellsOf 3=1:=by kernel_rfl
 have g2:gu Tryz.prog w m' 3 ((cs.drop 2).take (Tryz.prog.cellsOf 3)):=hx 2 _ rfl;rw [k2]at g2;obtain⟨x2,r2,q2⟩:=(Je Tryz.underlying3) m' _ g2;exact⟨⟨x0,x1,x2⟩,Ey r0 (Ey r1 (Rv (by omega) r2)),q0,q1,q2⟩
def VD (x:Ah):Prop:=((x.ins).length<=maxLen/\∀y∈x.ins,VA y)/\((x.defs).length<=maxLen/\∀y∈x.defs,VB y)/\((x.af).length<=maxLen/\∀y∈x.af,VC y)/\(IntKind.i64.min<=x.main/\x.main<=IntKind.i64.max)/\(IntKind.i64.min<=x.stmts/\x.stmts<=IntKind.i64.max)
theorem Aps {w:World} :og Tryz.prog w 26 Bv VD:=by
 intro m cs h;obtain⟨m',rfl,hl,hx⟩:=h.struct Tryz.underlying26;have rH:cs.length=5:=hl.trans (by kernel_rfl);have k0:Tryz.prog.cellsOf 22=1:=by kernel_rfl
 have g0:gu Tryz.prog w m' 22 ((cs.drop 0).take (Tryz.prog.cellsOf 22)):=hx 0 _ rfl;rw [k0]at g0;obtain⟨x0,r0,q0⟩:=(W9 Ast Tryz.underlying22 (by kernel_rfl)) m' _ g0;have k1:Tryz.prog.cellsOf 23=1:=by kernel_rfl
 have g1:gu Tryz.prog w m' 23 ((cs.drop 1).take (Tryz.prog.cellsOf 23)):=hx 1 _ rfl;rw [k1]at g1;obtain⟨x1,r1,q1⟩:=(W9 Asu Tryz.underlying23 (by kernel_rfl)) m' _ g1;have k2:Tryz.prog.cellsOf 24=1:=by kernel_rfl
 have g2:gu Tryz.prog w m' 24 ((cs.drop 2).take (Tryz.prog.cellsOf 24)):=hx 2 _ rfl;rw [k2]at g2;obtain⟨x2,r2,q2⟩:=(W9 Apr Tryz.underlying24 (by kernel_rfl)) m' _ g2;have k3:Tryz.prog.cellsOf 3=1:=by kernel_rfl
 have g3:gu Tryz.prog w m' 3 ((cs.drop 3).take (Tryz.prog.cellsOf 3)):=hx 3 _ rfl;rw [k3]at g3;obtain⟨x3,r3,q3⟩:=(Je Tryz.underlying3) m' _ g3;have k4:Tryz.prog.cellsOf 3=1:=by kernel_rfl
 have g4:gu Tryz.prog w m' 3 ((cs.drop 4).take (Tryz.prog.cellsOf 3)):=hx 4 _ rfl;rw [k4]at g4;obtain⟨x4,r4,q4⟩:=(Je Tryz.underlying3) m' _ g4;exact⟨⟨x0,x1,x2,x3,x4⟩,Ey r0 (Ey r1 (Ey r2 (Ey r3 (Rv (by omega) r4)))),q0,q1,q2,q3,q4⟩
end Go.Proofs.YthkbhlmijkegiaaGreat
