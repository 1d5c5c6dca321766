/- A part of the proof: conditions of the code, contracts, the plain law. -/
import Derived.Test.YthkbhlmijkegiaaGreatM10
import Derived.Test.YthkbhlmijkegiaaGreatM5
import Derived.Test.YthkbhlmijkegiaaGreatM8
import Derived.Test.YthkbhlmijkegiaaGreatM2
import Derived.Test.YthkbhlmijkegiaaGreatRows
import Derived.Test.YthkbhlmijkegiaaGreatVcI
import Derived.Test.YthkbhlmijkegiaaGreatLoop
import Derived.KernelRfl
import Derived.Test.YthkbhlmijkegiaaGreatOpenLv
open List (take_length getElem_mem length_take getElem?_eq_getElem append_nil length_cons length_append)
open Nat (zero_le le_refl)
open Bool (and_eq_true)
open Int (toNat_natCast)
namespace Go.Proofs.YthkbhlmijkegiaaGreat
open Go.Vc
def Aep (x0:Option Addr) (x1:Nat) (x2:Nat) (x3:Option Addr) (x4:Nat) (x5:Nat) (x6:Option Addr) (x7:Nat) (x8:Nat) (x9:Int) (ae:Int) (aa:Int) (ad:Int) (ai:Option Addr) (ah:Nat) (ag:Nat) (aj:Int) (aw:Int) (ak:Int) (ay:Int) (aA:Int) (aB:Int) (aE:Int) (ax:Option Addr) (aD:Nat) (aM:Nat) (K:Value->World->Prop) (w:World):Prop:=∀(aH:Nat) (w1:World),aH=w.heap.size->w1=w.alloc (.cells #[.slice x0 x1 x2,.slice x3 x4 x5,.slice x6 x7 x8,.int .i64 x9,.int .i64 ae] 26)->∀(ar:Nat) (w2:World),ar=w1.heap.size->w2=w1.alloc (.cells #[.int .i64 aa,.int .i64 ad,.slice ai ah ag,.int .i64 aj,.int .i64 aw,.int .i64 ak,.int .i64 ay,.int .i64 aA,.int .i64 aB,.int .i64 aE,.slice ax aD aM] 56)->∀(bf:Nat) (w3:World),bf=w2.heap.size->w3=w2.alloc (.cells #[.nilFunc,.nilFunc,.nilFunc,.nilFunc,.nilFunc,.nilFunc,.nilFunc] 132)->∀(a_:Nat) (w4:World),a_=w3.heap.size->w4=w3.alloc (.cells #[.nilFunc] 33)->Value.oneCell' (.func (.func 118) #[] #[.pointer (some (Zb aH)),.pointer (some (Zb ar))])=true/\Ag w4 (Zb a_) 1/\∀w5:World,w5=w4.setCell (Zb a_) (.func (.func 118) #[] #[.pointer (some (Zb aH)),.pointer (some (Zb ar))])->∀(aG:Nat) (w6:World),aG=w5.heap.size->w6=w5.alloc (.cells #[.nilFunc] 70)->Value.oneCell' (.func (.func 120) #[] #[.pointer (some (Zb aH)),.pointer (some (Zb ar))])=true/\Ag w6 (Zb aG) 1/\∀w7:World,w7=w6.setCell (Zb aG) (.func (.func 120) #[] #[.pointer (some (Zb aH)),.pointer (some (Zb ar))])->∀(aR:Nat) (w8:World),aR=w7.heap.size->w8=w7.alloc (.cells #[.nilFunc] 70)->Value.oneCell' (.func (.func 121) #[] #[.pointer (some (Zb aH))])=true/\Ag w8 (Zb aR) 1/\∀w9:World,w9=w8.setCell (Zb aR) (.func (.func 121) #[] #[.pointer (some (Zb aH))])->∀(bh:Nat) (aK:World),bh=w9.heap.size->aK=w9.alloc (.cells #[.nilFunc] 70)->Value.oneCell' (.func (.func 123) #[] #[.pointer (some (Zb ar))])=true/\Ag aK (Zb bh) 1/\∀aF:World,aF=aK.setCell (Zb bh) (.func (.func 123) #[] #[.pointer (some (Zb ar))])->∀(bc:Nat) (aZ:World),bc=aF.heap.size->aZ=aF.alloc (.cells #[.nilFunc] 192)->Value.oneCell' (.func (.func 124) #[] #[.pointer (some (Zb aG)),.pointer (some (Zb aR)),.pointer (some (Zb bh))])=true/\Ag aZ (Zb bc) 1/\∀bB:World,bB=aZ.setCell (Zb bc) (.func (.func 124) #[] #[.pointer (some (Zb aG)),.pointer (some (Zb aR)),.pointer (some (Zb bh))])->∃bk,bB.cell? (Zb a_)=some (bk)/\∃bJ aQ,bk= .func (.func 118) #[] #[.pointer (some (Zb bJ)),.pointer (some (Zb aQ))]/\∃bK,bB.cell? (Zb a_)=some (bK)/\∃bQ bE,bK= .func (.func 118) #[] #[.pointer (some (Zb bQ)),.pointer (some (Zb bE))]/\Value.oneCell' (.func (.func 118) #[] #[.pointer (some (Zb bJ)),.pointer (some (Zb aQ))])=true/\Value.oneCell' (.func (.func 125) #[] #[.pointer (some (Zb aG)),.pointer (some (Zb ar)),.pointer (some (Zb aR))])=true/\Value.oneCell' (.func (.func 126) #[] #[.pointer (some (Zb aG)),.pointer (some (Zb ar)),.pointer (some (Zb aR)),.pointer (some (Zb bh))])=true/\Value.oneCell' (.func (.func 127) #[] #[.pointer (some (Zb a_)),.pointer (some (Zb ar)),.pointer (some (Zb bc))])=true/\Value.oneCell' (.func (.func 130) #[] #[.pointer (some (Zb aG)),.pointer (some (Zb ar))])=true/\Value.oneCell' (.func (.func 131) #[] #[.pointer (some (Zb ar))])=true/\Value.oneCell' (.func (.func 118) #[] #[.pointer (some (Zb bQ)),.pointer (some (Zb bE))])=true/\Ag bB (Zb bf) 7/\∀aU:World,aU=setCells bB (Zb bf) [.func (.func 118) #[] #[.pointer (some (Zb bJ)),.pointer (some (Zb aQ))],.func (.func 125) #[] #[.pointer (some (Zb aG)),.pointer (some (Zb ar)),.pointer (some (Zb aR))],.func (.func 126) #[] #[.pointer (some (Zb aG)),.pointer (some (Zb ar)),.pointer (some (Zb aR)),.pointer (some (Zb bh))],.func (.func 127) #[] #[.pointer (some (Zb a_)),.pointer (some (Zb ar)),.pointer (some (Zb bc))],.func (.func 130) #[] #[.pointer (some (Zb aG)),.pointer (some (Zb ar))],.func (.func 131) #[] #[.pointer (some (Zb ar))],.func (.func 118) #[] #[.pointer (some (Zb bQ)),.pointer (some (Zb bE))]]->Ca [] aU/\∃bj bN bS bD bW bn bO,Ad (shut [] aU) (Zb bf) [bj,bN,bS,bD,bW,bn,bO]/\K (.agg #[bj,bN,bS,bD,bW,bn,bO]) (shut [] aU)
theorem Aeq (x0:Option Addr) (x1:Nat) (x2:Nat) (x3:Option Addr) (x4:Nat) (x5:Nat) (x6:Option Addr) (x7:Nat) (x8:Nat) (x9:Int) (ae:Int) (aa:Int) (ad:Int) (ai:Option Addr) (ah:Nat) (ag:Nat) (aj:Int) (aw:Int) (ak:Int) (ay:Int) (aA:Int) (aB:Int) (aE:Int) (ax:Option Addr) (aD:Nat) (aM:Nat) (K:Value->World->Prop) (w:World) (h:Aep x0 x1 x2 x3 x4 x5 x6 x7 x8 x9 ae aa ad ai ah ag aj aw ak ay aA aB aE ax aD aM K w):Calls Tryz.prog 64 #[.agg #[.slice x0 x1 x2,.slice x3 x4 x5,.slice x6 x7 x8,.int .i64 x9,.int .i64 ae],.agg #[.int .i64 aa,.int .i64 ad,.slice ai ah ag,.int .i64 aj,.int .i64 aw,.int .i64 ak,.int .i64 ay,.int .i64 aA,.int .i64 aB,.int .i64 aE,.slice ax aD aM]] w (aN K):=
 Rd { zT:=[(1000000015,118,2),(1000000021,118,2)] } Tryz.func64 (by kernel_rfl) h
abbrev Jr (f:FuncId) (a:Array Value) (w:World) (K:Value->World->Prop):Prop:=Calls Tryz.prog f a w (aN K)
def Aer (x0:Option Addr) (x1:Nat) (x2:Nat) (x3:Option Addr) (x4:Nat) (x5:Nat) (x6:Option Addr) (x7:Nat) (x8:Nat) (x9:Int) (ae:Int) (aa:Int) (ad:Int) (ai:Option Addr) (ah:Nat) (ag:Nat) (aj:Int) (aw:Int) (ak:Int) (ay:Int) (aA:Int) (aB:Int) (aE:Int) (ax:Option Addr) (aD:Nat) (aM:Nat) (K:Value->World->Prop) (w:World):Prop:=∀(aH:Nat) (w1:World),aH=w.heap.size->w1=w.alloc (.cells #[.slice x0 x1 x2,.slice x3 x4 x5,.slice x6 x7 x8,.int .i64 x9,.int .i64 ae] 26)->∀(ar:Nat) (w2:World),ar=w1.heap.size->w2=w1.alloc (.cells #[.int .i64 aa,.int .i64 ad,.slice ai ah ag,.int .i64 aj,.int .i64 aw,.int .i64 ak,.int .i64 ay,.int .i64 aA,.int .i64 aB,.int .i64 aE,.slice ax aD aM] 56)->∃(J:Bool->World->Prop),(∃bf,w2.cell? (Zb ar)=some (.int .i64 bf)/\∃a_ aG aR,w2.cell? ⟨aH,1,none⟩=some (.slice a_ aG aR)/\Jr 62 #[.int .i64 bf,.int .i64 (IntKind.i64.wrap ((aG:Int)-1))] w2 (fun bh w3=>∃bc,bh= .bool bc/\cond (bc) (∃bk,w3.cell? ⟨ar,3,none⟩=some (.int .i64 bk)/\Jr 62 #[.int .i64 bk,.int .i64 1048576] w3 (fun bJ w4=>∃aQ,bJ= .bool aQ/\cond (aQ) (∃bK,w4.cell? ⟨ar,9,none⟩=some (.int .i64 bK)/\Jr 62 #[.int .i64 bK,.int .i64 1099511627776] w4 (fun bQ w5=>∃bE,bQ= .bool bE/\cond (bE) (∃bj,w5.cell? ⟨ar,4,none⟩=some (.int .i64 bj)/\Jr 62 #[.int .i64 bj,.int .i64 6] w5 (fun bN w6=>∃bS,bN= .bool bS/\J bS w6)) (J false w5))) (J false w4))) (J false w3)))/\∀(_x43:Nat->Value) bW w7,J bW w7->∃(J1:Bool->World->Prop),(∀w8:World,w8=w7.drew->∃(S:World->Prop),S w8/\cond (!bW) (J1 true w8) (∃bn bO bM,(∀u:World,S u->u.cell? ⟨ar,2,none⟩=some (.slice bn bO bM))/\∃bR b_ ca,(∀u:World,S u->u.cell? ⟨aH,1,none⟩=some (.slice bR b_ ca))/\∃b9,(∀u:World,S u->u.cell? (Zb ar)=some (.int .i64 b9))/\((0:Int)<=b9/\b9<(b_:Int))/\Aj bR (fun cr=>∃cA,(∀u:World,S u->u.cell? ((cr.add (b9.toNat*4)).add 3)=some (.int .i64 cA))/\cond ((bO:Int) !=cA) (J1 true w8) (∃ct cv cB c_ cN cJ cU di cX dr dG cK dP cI dy,(∀u:World,S u->Ad u (Zb ar) [.int .i64 ct,.int .i64 cv,.slice cB c_ cN,.int .i64 cJ,.int .i64 cU,.int .i64 di,.int .i64 cX,.int .i64 dr,.int .i64 dG,.int .i64 cK,.slice dP cI dy])/\∃dL dV ev dW eB eg dY eP fQ eX eH ei dJ eC fe,(∀u:World,S u->Ad u (Zb ar) [.int .i64 dL,.int .i64 dV,.slice ev dW eB,.int .i64 eg,.int .i64 dY,.int .i64 eP,.int .i64 fQ,.int .i64 eX,.int .i64 eH,.int .i64 ei,.slice dJ eC fe])/\Jr 63 #[.agg #[.int .i64 ct,.int .i64 cv,.slice cB c_ cN,.int .i64 cJ,.int .i64 cU,.int .i64 di,.int .i64 cX,.int .i64 dr,.int .i64 dG,.int .i64 cK,.slice dP cI dy]] w8 (fun eQ w9=>∃ew eY eZ eI eD dZ dK eJ e8 fj f_ fm fM gw fD,eQ= .agg #[.int .i64 ew,.int .i64 eY,.slice eZ eI eD,.int .i64 dZ,.int .i64 dK,.int .i64 eJ,.int .i64 e8,.int .i64 fj,.int .i64 f_,.int .i64 fm,.slice fM gw fD]/\S w9/\Jr 54 #[.agg #[.int .i64 ew,.int .i64 eY,.slice eZ eI eD,.int .i64 dZ,.int .i64 dK,.int .i64 eJ,.int .i64 e8,.int .i64 fj,.int .i64 f_,.int .i64 fm,.slice fM gw fD],.agg #[.int .i64 dL,.int .i64 dV,.slice ev dW eB,.int .i64 eg,.int .i64 dY,.int .i64 eP,.int .i64 fQ,.int .i64 eX,.int .i64 eH,.int .i64 ei,.slice dJ eC fe]] w9 (fun h_ aK=>∃gb,h_= .bool gb/\S aK/\cond (!gb) (J1 true aK) (∃dQ fP ia fc gz gK gL i5 gA gY gS,(∀u:World,S u->Ad u (Zb aH) [.slice dQ fP ia,.slice fc gz gK,.slice gL i5 gA,.int .i64 gY,.int .i64 gS])/\∃ic ib ie ig iz iP ij iA gZ jr jN i6 kg i7 js,(∀u:World,S u->Ad u (Zb ar) [.int .i64 ic,.int .i64 ib,.slice ie ig iz,.int .i64 iP,.int .i64 ij,.int .i64 iA,.int .i64 gZ,.int .i64 jr,.int .i64 jN,.int .i64 i6,.slice kg i7 js])/\∃iQ,(∀u:World,S u->u.cell? ⟨ar,4,none⟩=some (.int .i64 iQ))/\Jr 64 #[.agg #[.slice dQ fP ia,.slice fc gz gK,.slice gL i5 gA,.int .i64 gY,.int .i64 gS],.agg #[.int .i64 ic,.int .i64 ib,.slice ie ig iz,.int .i64 iP,.int .i64 ij,.int .i64 iA,.int .i64 gZ,.int .i64 jr,.int .i64 jN,.int .i64 i6,.slice kg i7 js]] aK (fun kY aF=>∃i9 kh i_ jt j0 iR iB,kY= .agg #[i9,kh,i_,jt,j0,iR,iB]/\S aF/\Bl Tryz.prog (Instr.index 132 (.agg #[i9,kh,i_,jt,j0,iR,iB]) (.int .i64 iQ)) (fun ju aZ=>Ee Tryz.prog ju #[] (fun iC bB=>∃jb,iC= .bool jb/\J1 (!jb) bB) aZ) aF))))))))/\∀(_x140:Nat->Value) iT aU,J1 iT aU->cond (iT) (Ca [] aU/\K (.int .i64 9) (shut [] aU)) (Ca [] aU/\K (.int .i64 0) (shut [] aU))
theorem Aes (x0:Option Addr) (x1:Nat) (x2:Nat) (x3:Option Addr) (x4:Nat) (x5:Nat) (x6:Option Addr) (x7:Nat) (x8:Nat) (x9:Int) (ae:Int) (aa:Int) (ad:Int) (ai:Option Addr) (ah:Nat) (ag:Nat) (aj:Int) (aw:Int) (ak:Int) (ay:Int) (aA:Int) (aB:Int) (aE:Int) (ax:Option Addr) (aD:Nat) (aM:Nat) (K:Value->World->Prop) (w:World) (h:Aer x0 x1 x2 x3 x4 x5 x6 x7 x8 x9 ae aa ad ai ah ag aj aw ak ay aA aB aE ax aD aM K w):Calls Tryz.prog 26 #[.agg #[.slice x0 x1 x2,.slice x3 x4 x5,.slice x6 x7 x8,.int .i64 x9,.int .i64 ae],.agg #[.int .i64 aa,.int .i64 ad,.slice ai ah ag,.int .i64 aj,.int .i64 aw,.int .i64 ak,.int .i64 ay,.int .i64 aA,.int .i64 aB,.int .i64 aE,.slice ax aD aM]] w (aN K):=
 Rd { dx:=[(3,[(5,.bool)]),(14,[(59,.bool)])] } Tryz.func26 (by kernel_rfl) h
def Yu (x0:Addr) (x1:Addr) (K:Value->World->Prop) (w:World):Prop:=∃x2 x3 x4 x5 x6 x7 x8 x9 ae aa ad,Ad w x0 [.slice x2 x3 x4,.slice x5 x6 x7,.slice x8 x9 ae,.int .i64 aa,.int .i64 ad]/\∃ai ah ag aj aw ak ay aA aB aE ax aD aM aH ar,Ad w x1 [.int .i64 ai,.int .i64 ah,.slice ag aj aw,.int .i64 ak,.int .i64 ay,.int .i64 aA,.int .i64 aB,.int .i64 aE,.int .i64 ax,.int .i64 aD,.slice aM aH ar]/\∃bf,w.cell? (x1.add 1)=some (.int .i64 bf)/\Jr 119 #[.agg #[.slice x2 x3 x4,.slice x5 x6 x7,.slice x8 x9 ae,.int .i64 aa,.int .i64 ad],.agg #[.int .i64 ai,.int .i64 ah,.slice ag aj aw,.int .i64 ak,.int .i64 ay,.int .i64 aA,.int .i64 aB,.int .i64 aE,.int .i64 ax,.int .i64 aD,.slice aM aH ar],.int .i64 bf] w (fun a_ w1=>∃aG,a_= .int .i64 aG/\K (.bool (aG==1)) w1)
theorem Yv (x0:Addr) (x1:Addr) (K:Value->World->Prop) (w:World) (h:Yu x0 x1 K w):Calls Tryz.prog 118 #[.pointer (some x0),.pointer (some x1)] w (aN K):=
 Af {} Tryz.func118 (by kernel_rfl) h
def Yw (x0:Int) (x1:Addr) (x2:Addr) (K:Value->World->Prop) (w:World):Prop:=∃x3 x4 x5 x6 x7 x8 x9 ae aa ad ai,Ad w x1 [.slice x3 x4 x5,.slice x6 x7 x8,.slice x9 ae aa,.int .i64 ad,.int .i64 ai]/\∃ah ag aj aw ak ay aA aB aE ax aD aM aH ar bf,Ad w x2 [.int .i64 ah,.int .i64 ag,.slice aj aw ak,.int .i64 ay,.int .i64 aA,.int .i64 aB,.int .i64 aE,.int .i64 ax,.int .i64 aD,.int .i64 aM,.slice aH ar bf]/\Jr 119 #[.agg #[.slice x3 x4 x5,.slice x6 x7 x8,.slice x9 ae aa,.int .i64 ad,.int .i64 ai],.agg #[.int .i64 ah,.int .i64 ag,.slice aj aw ak,.int .i64 ay,.int .i64 aA,.int .i64 aB,.int .i64 aE,.int .i64 ax,.int .i64 aD,.int .i64 aM,.slice aH ar bf],.int .i64 x0] w (fun a_ w1=>∃aG,a_= .int .i64 aG/\∀(_x31:Nat->Value),K (.bool ((aG==1)||(aG==24))) w1)
theorem Yx (x0:Int) (x1:Addr) (x2:Addr) (K:Value->World->Prop) (w:World) (h:Yw x0 x1 x2 K w):Calls Tryz.prog 120 #[.int .i64 x0,.pointer (some x1),.pointer (some x2)] w (aN K):=
 Af { jl:=[(14,[4])] } Tryz.func120 (by kernel_rfl) h
def Yy (x0:Int) (x1:Addr) (K:Value->World->Prop) (w:World):Prop:=∃x2 x3 x4 x5 x6 x7 x8 x9 ae aa ad,Ad w x1 [.slice x2 x3 x4,.slice x5 x6 x7,.slice x8 x9 ae,.int .i64 aa,.int .i64 ad]/\Jr 122 #[.agg #[.slice x2 x3 x4,.slice x5 x6 x7,.slice x8 x9 ae,.int .i64 aa,.int .i64 ad]] w (fun ai w1=>∃ah,ai= .int .i64 ah/\Jr 62 #[.int .i64 x0,.int .i64 (IntKind.i64.wrap (ah-1))] w1 (fun ag w2=>∃aj,ag= .bool aj/\K (.bool aj) w2))
theorem Yz (x0:Int) (x1:Addr) (K:Value->World->Prop) (w:World) (h:Yy x0 x1 K w):Calls Tryz.prog 121 #[.int .i64 x0,.pointer (some x1)] w (aN K):=
 Af {} Tryz.func121 (by kernel_rfl) h
def Y0 (x0:Int) (x1:Addr) (K:Value->World->Prop) (w:World):Prop:=∃x2 x3 x4,w.cell? (x1.add 2)=some (.slice x2 x3 x4)/\Jr 62 #[.int .i64 x0,.int .i64 (IntKind.i64.wrap ((x3:Int)-1))] w (fun x5 w1=>∃x6,x5= .bool x6/\K (.bool x6) w1)
theorem Y1 (x0:Int) (x1:Addr) (K:Value->World->Prop) (w:World) (h:Y0 x0 x1 K w):Calls Tryz.prog 123 #[.int .i64 x0,.pointer (some x1)] w (aN K):=
 Af {} Tryz.func123 (by kernel_rfl) h
def Y2 (x0:Int) (x1:Int) (x2:Int) (x3:Int) (x4:Int) (x5:Addr) (x6:Addr) (x7:Addr) (K:Value->World->Prop) (w:World):Prop:=∀(x8:Nat) (w1:World),x8=w.heap.size->w1=w.alloc (.cells #[.int .i64 x0,.int .i64 x1,.int .i64 x2,.int .i64 x3,.int .i64 x4] 129)->∃x9,w1.cell? (Zb x8)=some (.int .i64 x9)/\∃ae,w1.cell? ⟨x8,4,none⟩=some (.int .i64 ae)/\∀(aa:Nat) (w2:World),aa=w1.heap.size->w2=w1.alloc (.cells #[.int .i64 0,.int .i64 0,.int .i64 0,.int .i64 0,.int .i64 0] 129)->Ag w2 (Zb aa) 5/\∀w3:World,w3=setCells w2 (Zb aa) [.int .i64 x9,.int .i64 0,.int .i64 0,.int .i64 0,.int .i64 ae]->∃ad,w3.cell? x5=some (ad)/\∃ai,w3.cell? ⟨x8,4,none⟩=some (.int .i64 ai)/\Ee Tryz.prog ad #[.int .i64 ai] (fun ah w4=>∃ag,ah= .bool ag/\∃(J:Bool->World->Prop),(∃aj,w4.cell? (Zb x8)=some (.int .i64 aj)/\cond (aj==1) (∃(J1:World->Prop),(∀w5:World,w5=w4.drew->∃(S:World->Prop),S w5/\∃aw,(∀u:World,S u->u.cell? ⟨x8,1,none⟩=some (.int .i64 aw))/\∃ak,(∀u:World,S u->u.cell? ⟨x8,3,none⟩=some (.int .i64 ak))/\Ag w5 ⟨aa,1,none⟩ 1/\∀w6:World,w6=w5.setCell ⟨aa,1,none⟩ (.int .i64 aw)->S w6/\Ag w6 ⟨aa,3,none⟩ 1/\∀w7:World,w7=w6.setCell ⟨aa,3,none⟩ (.int .i64 ak)->J1 w7)/\∀(_x19:Nat->Value) w8,J1 w8->cond (ag) (∃aA,w8.cell? x6=some (aA)/\∃aB,w8.cell? ⟨x8,1,none⟩=some (.int .i64 aB)/\Ee Tryz.prog aA #[.int .i64 aB] (fun aE w9=>∃ax,aE= .bool ax/\cond (ax) (∃aD,w9.cell? x7=some (aD)/\∃aM,w9.cell? ⟨x8,3,none⟩=some (.int .i64 aM)/\Ee Tryz.prog aD #[.int .i64 aM] (fun aH aK=>∃ar,aH= .bool ar/\J ar aK) w9) (J false w9)) w8) (J false w8)) (cond (aj==2) (∃(J2:World->Prop),(∀aF:World,aF=w4.drew->∃(S1:World->Prop),S1 aF/\∃bf,(∀u:World,S1 u->u.cell? ⟨x8,1,none⟩=some (.int .i64 bf))/\∃a_,(∀u:World,S1 u->u.cell? ⟨x8,2,none⟩=some (.int .i64 a_))/\Ag aF ⟨aa,1,none⟩ 1/\∀aZ:World,aZ=aF.setCell ⟨aa,1,none⟩ (.int .i64 bf)->S1 aZ/\Ag aZ ⟨aa,2,none⟩ 1/\∀bB:World,bB=aZ.setCell ⟨aa,2,none⟩ (.int .i64 a_)->J2 bB)/\∀(_x30:Nat->Value) aU,J2 aU->cond (ag) (∃aR,aU.cell? x6=some (aR)/\∃bh,aU.cell? ⟨x8,1,none⟩=some (.int .i64 bh)/\Ee Tryz.prog aR #[.int .i64 bh] (fun bc bV=>∃bk,bc= .bool bk/\J bk bV) aU) (J false aU)) (cond (aj==3) (∃bJ,w4.cell? ⟨x8,2,none⟩=some (.int .i64 bJ)/\Ag w4 ⟨aa,2,none⟩ 1/\∀ck:World,ck=w4.setCell ⟨aa,2,none⟩ (.int .i64 bJ)->cond (ag) (∃aQ,ck.cell? ⟨x8,2,none⟩=some (.int .i64 aQ)/\Jr 62 #[.int .i64 aQ,.int .i64 1099511627776] ck (fun bK dh=>∃bQ,bK= .bool bQ/\J bQ dh)) (J false ck)) (K (.bool false) w4))))/\∀(_x39:Nat->Value) bj cG,J bj cG->cond (bj) (∃bN bS bD bW bn,Ad cG (Zb aa) [.int .i64 bN,.int .i64 bS,.int .i64 bD,.int .i64 bW,.int .i64 bn]/\∃bO bM bR b_ ca,Ad cG (Zb x8) [.int .i64 bO,.int .i64 bM,.int .i64 bR,.int .i64 b_,.int .i64 ca]/\K (.bool ((bN==bO)&&((bS==bM)&&((bD==bR)&&((bW==b_)&&((bn==ca)&&true)))))) cG) (K (.bool false) cG)) w3
theorem Y3 (x0:Int) (x1:Int) (x2:Int) (x3:Int) (x4:Int) (x5:Addr) (x6:Addr) (x7:Addr) (K:Value->World->Prop) (w:World) (h:Y2 x0 x1 x2 x3 x4 x5 x6 x7 K w):Calls Tryz.prog 124 #[.agg #[.int .i64 x0,.int .i64 x1,.int .i64 x2,.int .i64 x3,.int .i64 x4],.pointer (some x5),.pointer (some x6),.pointer (some x7)] w (aN K):=
 Af { dx:=[(15,[(7,.bool)]),(490,[]),(1966,[])] } Tryz.func124 (by kernel_rfl) h
def Y4 (x0:Addr) (x1:Addr) (x2:Addr) (K:Value->World->Prop) (w:World):Prop:=∃x3,w.cell? x0=some (x3)/\∃x4,w.cell? (x1.add 1)=some (.int .i64 x4)/\Ee Tryz.prog x3 #[.int .i64 x4] (fun x5 w1=>∃x6,x5= .bool x6/\cond (x6) (∃x7,w1.cell? x2=some (x7)/\∃x8,w1.cell? (x1.add 5)=some (.int .i64 x8)/\Ee Tryz.prog x7 #[.int .i64 x8] (fun x9 w2=>∃ae,x9= .bool ae/\K (.bool ae) w2) w1) (K (.bool false) w1)) w
theorem Y5 (x0:Addr) (x1:Addr) (x2:Addr) (K:Value->World->Prop) (w:World) (h:Y4 x0 x1 x2 K w):Calls Tryz.prog 125 #[.pointer (some x0),.pointer (some x1),.pointer (some x2)] w (aN K):=
 Af {} Tryz.func125 (by kernel_rfl) h
def Y6 (x0:Addr) (x1:Addr) (x2:Addr) (x3:Addr) (K:Value->World->Prop) (w:World):Prop:=∃x4,w.cell? x0=some (x4)/\∃x5,w.cell? (x1.add 1)=some (.int .i64 x5)/\Ee Tryz.prog x4 #[.int .i64 x5] (fun x6 w1=>∃x7,x6= .bool x7/\cond (x7) (∃x8,w1.cell? x2=some (x8)/\∃x9,w1.cell? (x1.add 5)=some (.int .i64 x9)/\Ee Tryz.prog x8 #[.int .i64 x9] (fun ae w2=>∃aa,ae= .bool aa/\cond (aa) (∃ad,w2.cell? x3=some (ad)/\∃ai,w2.cell? (x1.add 7)=some (.int .i64 ai)/\Ee Tryz.prog ad #[.int .i64 ai] (fun ah w3=>∃ag,ah= .bool ag/\K (.bool ag) w3) w2) (K (.bool false) w2)) w1) (K (.bool false) w1)) w
theorem Y7 (x0:Addr) (x1:Addr) (x2:Addr) (x3:Addr) (K:Value->World->Prop) (w:World) (h:Y6 x0 x1 x2 x3 K w):Calls Tryz.prog 126 #[.pointer (some x0),.pointer (some x1),.pointer (some x2),.pointer (some x3)] w (aN K):=
 Af {} Tryz.func126 (by kernel_rfl) h
def Y8 (x0:Addr) (x1:Addr) (x2:Addr) (K:Value->World->Prop) (w:World):Prop:=∃x3,w.cell? x0=some (x3)/\Ee Tryz.prog x3 #[] (fun x4 w1=>∃x5,x4= .bool x5/\cond (x5) (∃x6 x7 x8,w1.cell? (x1.add 10)=some (.slice x6 x7 x8)/\Jr 128 #[.slice x6 x7 x8,.func (.func 129) #[] #[.pointer (some x2)]] w1 (fun x9 w2=>∃ae,x9= .bool ae/\K (.bool (!ae)) w2)) (K (.bool false) w1)) w
theorem Y9 (x0:Addr) (x1:Addr) (x2:Addr) (K:Value->World->Prop) (w:World) (h:Y8 x0 x1 x2 K w):Calls Tryz.prog 127 #[.pointer (some x0),.pointer (some x1),.pointer (some x2)] w (aN K):=
 Af {} Tryz.func127 (by kernel_rfl) h
def Za (x0:Addr) (x1:Addr) (K:Value->World->Prop) (w:World):Prop:=∃x2,w.cell? x0=some (x2)/\∃x3,w.cell? (x1.add 1)=some (.int .i64 x3)/\Ee Tryz.prog x2 #[.int .i64 x3] (fun x4 w1=>∃x5,x4= .bool x5/\cond (x5) (∃x6,w1.cell? (x1.add 8)=some (.int .i64 x6)/\Jr 62 #[.int .i64 x6,.int .i64 1099511627776] w1 (fun x7 w2=>∃x8,x7= .bool x8/\K (.bool x8) w2)) (K (.bool false) w1)) w
theorem Zc (x0:Addr) (x1:Addr) (K:Value->World->Prop) (w:World) (h:Za x0 x1 K w):Calls Tryz.prog 130 #[.pointer (some x0),.pointer (some x1)] w (aN K):=
 Af {} Tryz.func130 (by kernel_rfl) h
def Wx (x0:Addr) (K:Value->World->Prop) (w:World):Prop:=∃x1,w.cell? (x0.add 1)=some (.int .i64 x1)/\K (.bool (x1==0)) w
theorem Wy (x0:Addr) (K:Value->World->Prop) (w:World) (h:Wx x0 K w):Calls Tryz.prog 131 #[.pointer (some x0)] w (aN K):=
 Af {} Tryz.func131 (by kernel_rfl) h
def Vl (x0:Int) (x1:Int) (x2:Int) (x3:Int) (x4:Int) (x5:Addr) (K:Value->World->Prop) (w:World):Prop:=∀(x6:Nat) (w1:World),x6=w.heap.size->w1=w.alloc (.cells #[.int .i64 x0,.int .i64 x1,.int .i64 x2,.int .i64 x3,.int .i64 x4] 129)->∃x7,w1.cell? x5=some (x7)/\∃x8 x9 ae aa ad,Ad w1 (Zb x6) [.int .i64 x8,.int .i64 x9,.int .i64 ae,.int .i64 aa,.int .i64 ad]/\Ee Tryz.prog x7 #[.agg #[.int .i64 x8,.int .i64 x9,.int .i64 ae,.int .i64 aa,.int .i64 ad]] (fun ai w2=>∃ah,ai= .bool ah/\K (.bool (!ah)) w2) w1
theorem Vm (x0:Int) (x1:Int) (x2:Int) (x3:Int) (x4:Int) (x5:Addr) (K:Value->World->Prop) (w:World) (h:Vl x0 x1 x2 x3 x4 x5 K w):Calls Tryz.prog 129 #[.agg #[.int .i64 x0,.int .i64 x1,.int .i64 x2,.int .i64 x3,.int .i64 x4],.pointer (some x5)] w (aN K):=
 Af {} Tryz.func129 (by kernel_rfl) h
def Fg (x0:Option Addr) (x1:Nat) (x2:Nat) (x3:Value) (K:Value->World->Prop) (w:World):Prop:=Jr 134 #[.slice x0 x1 x2,x3] w (fun x4 w1=>∃x5,x4= .int .i64 x5/\K (.bool (decide (x5>=0))) w1)
theorem Fh (x0:Option Addr) (x1:Nat) (x2:Nat) (x3:Value) (K:Value->World->Prop) (w:World) (h:Fg x0 x1 x2 x3 K w):Calls Tryz.prog 128 #[.slice x0 x1 x2,x3] w (aN K):=
 Af {} Tryz.func128 (by kernel_rfl) h
def F9 (x0:Option Addr) (x1:Nat) (_x2:Nat) (x3:Value) (K:Value->World->Prop) (w:World):Prop:=∃(I:Int->World->Prop) (x4:Int->World->Nat),I 0 w/\∀(_x5:Nat->Value) (x6:Int) (w1:World),I x6 w1->cond (decide (x6<(x1:Int))) (((0:Int)<=x6/\x6<(x1:Int))/\Aj x0 (fun x7=>∃x8 x9 ae aa ad,Ad w1 (x7.add (x6.toNat*5)) [.int .i64 x8,.int .i64 x9,.int .i64 ae,.int .i64 aa,.int .i64 ad]/\Ee Tryz.prog x3 #[.agg #[.int .i64 x8,.int .i64 x9,.int .i64 ae,.int .i64 aa,.int .i64 ad]] (fun ai w2=>∃ah,ai= .bool ah/\cond (ah) (K (.int .i64 x6) w2) (I (IntKind.i64.wrap (x6+1)) w2/\x4 (IntKind.i64.wrap (x6+1)) w2<x4 x6 w1)) w1)) (K (.int .i64 (-1)) w1)
theorem Ga (x0:Option Addr) (x1:Nat) (x2:Nat) (x3:Value) (K:Value->World->Prop) (w:World) (h:F9 x0 x1 x2 x3 K w):Calls Tryz.prog 134 #[.slice x0 x1 x2,x3] w (aN K):=
 Af { loops:=[(26,[(8,.int .i64)])] } Tryz.func134 (by kernel_rfl) h
open Go.Lv Go.Ty
def Me (c:Ah) (n:Int):Bool:=dm n (Mx c.af-1)
def rO (p:Ap) (n:Int):Bool:=dm n ((p.vars.length:Int)-1)
def Lj (c:Ah) (p:Ap) (a:F6):Bool:=cond (a.kind==1) ((Md c p.bz a.goto&&(Me c a.chan&&rO p a.slot))&&(a.val==0)) (cond (a.kind==2) ((Md c p.bz a.goto&&Me c a.chan)&&(a.slot==0)) (cond (a.kind==3) ((Md c p.bz a.goto&&dm a.val 1099511627776)&&((a.chan==0)&&(a.slot==0))) false))
def Mf (c:Ah) (p:Ap) (k:Nat):Bool:=match k with
 |0=>lE c p.bz p.at_==1|1=>Md c p.bz p.at_&&Me c p.chan|2=>Md c p.bz p.at_&&(Me c p.chan&&rO p p.slot)|3=>(lE c p.bz p.at_==1)&& !p.alts.any (fun a=> !Lj c p a)
 |4=>Md c p.bz p.at_&&dm p.bT 1099511627776|5=>p.at_==0|_=>lE c p.bz p.at_==1
def Jw (g:Nat) (bs:List Nat):Value:= .func (.func g) #[] (bs.map fun b=>Value.pointer (some (Zb b))).toArray
theorem Hw {P:Program} {g:Nat} {bs:List Nat} (az:List Value) {K:Value->World->Prop} {w:World} (hg:Cc P g=true) (h:Calls P g (az++bs.map fun b=>Value.pointer (some ⟨b,0,none⟩)).toArray w (aN K)):Ee P (Jw g bs) az.toArray K w:=by
 show cond (Cc P g) (Calls P g (#[]++az.toArray++(bs.map fun b=>Value.pointer (some ⟨b,0,none⟩)).toArray) w (aN K)) _
 rw [hg];simpa using h
def cCs (c:Ah) (a0:Option Addr) (c0:Nat) (a1:Option Addr) (c1:Nat) (a2:Option Addr) (c2:Nat):List Value:=[.slice a0 c.ins.length c0,.slice a1 c.defs.length c1,.slice a2 c.af.length c2,.int .i64 c.main,.int .i64 c.stmts]
def pCs (p:Ap) (a0:Option Addr) (c0:Nat) (a1:Option Addr) (c1:Nat):List Value:=[.int .i64 p.bz,.int .i64 p.at_,.slice a0 p.vars.length c0,.int .i64 p.fuel,.int .i64 p.mode,.int .i64 p.chan,.int .i64 p.val,.int .i64 p.slot,.int .i64 p.bT,.int .i64 p.since,.slice a1 p.alts.length c1]
structure ny where
 a0:Option Addr
 a1:Option Addr
 a2:Option Addr
 a3:Option Addr
 a4:Option Addr
 c0:Nat
 c1:Nat
 c2:Nat
 c3:Nat
 c4:Nat
 b:Nat
 b1:Nat
 b2:Nat
 b3:Nat
 b4:Nat
 b5:Nat
 b6:Nat
 b7:Nat
 Z:List Value
structure jF (c:Ah) (p:Ap) (m:List Nat) (w:World) (D:ny):Prop where
 jv:ir c
 cl:c.af.length<=100000
 d0:0<=p.bz
 va:p.vars.length<=100000
 al:p.alts.length<=100000
 hm:bA m w
 le:c.ins.length<=D.c0
 f:br Da m w D.a0 c.ins
 bo:c.defs.length<=D.c1
 f1:br Gb m w D.a1 c.defs
 bw:c.af.length<=D.c2
 f2:br Dr m w D.a2 c.af
 cY:p.vars.length<=D.c3
 f3:br (Bh .i64) m w D.a3 p.vars
 dM:p.alts.length<=D.c4
 f4:br Nj m w D.a4 p.alts
def cC (c:Ah) (D:ny):List Value:=cCs c D.a0 D.c0 D.a1 D.c1 D.a2 D.c2
def pC (p:Ap) (D:ny):List Value:=pCs p D.a3 D.c3 D.a4 D.c4
def PK (c:Ah) (p:Ap) (D:ny):List Pc:=[.box D.b7 [Jw 124 [D.b4,D.b5,D.b6]],.box D.b6 [Jw 123 [D.b1]],.box D.b5 [Jw 121 [D.b]],.box D.b4 [Jw 120 [D.b,D.b1]],.box D.b3 [Jw 118 [D.b,D.b1]],.box D.b2 D.Z,.box D.b1 (pC p D),.box D.b (cC c D)]
structure St (c:Ah) (p:Ap) (m:List Nat) (w:World) (D:ny) (u:World):Prop where
 o:Mem w.heap.size [] m [([],w.heap.size,w)] [] u (PK c p D)
 st:Step m w (ms (PK c p D) m) u
theorem Cm {P:Program} {v:Value} {args:Array Value} {K K':Value->World->Prop} {u:World} (h:Ee P v args K u) (hk:∀x u',K x u'->K' x u'):Ee P v args K' u:=by
 unfold Ee at h⊢;split at h
 ·rename_i g first kf
  cases hg:Cc P g
  ·rw [hg]at h;obtain⟨x,u',h1,h2⟩:=h;exact⟨x,u',h1,hk _ _ h2⟩
  ·rw [hg]at h;exact Ac h hk
 ·exact h
section
attribute [local irreducible] Ee
variable {c:Ah} {p:Ap} {m:List Nat} {w:World} {D:ny}
theorem St.ext {u u':World} (h:St c p m w D u) (k:Ai [] u u'):St c p m w D u':=⟨h.o.ext k,h.st.trans (h.o.xE k)⟩
theorem jF.GC (F:jF c p m w D) {u:World} (h:St c p m w D u):Bu.rep (ms (PK c p D) m) u c (cC c D):=Aw c ⟨F.le,F.f.st h.st⟩ ⟨F.bo,F.f1.st h.st⟩ ⟨F.bw,F.f2.st h.st⟩
theorem jF.UL (F:jF c p m w D) {u:World} (h:St c p m w D u):Ce.rep (ms (PK c p D) m) u p (pC p D):=Dc p ⟨F.cY,F.f3.st h.st⟩ ⟨F.dM,F.f4.st h.st⟩
theorem jF.dl (F:jF c p m w D):c.defs.length<=100000:=by have:=F.jv.n2;omega
def tI (c:Ah) (p:Ap) (m:List Nat) (w:World) (D:ny) (v:Value) (r:Bool):Prop:=∀u,St c p m w D u->Ee Tryz.prog v #[] (fun x u'=>x= .bool r/\Ai [] u u') u
def GD (c:Ah) (p:Ap) (m:List Nat) (w:World) (D:ny) (v:Value) (r:Int->Bool):Prop:=∀u (n:Int),St c p m w D u->Ee Tryz.prog v #[.int .i64 n] (fun x u'=>x= .bool (r n)/\Ai [] u u') u
theorem GF (F:jF c p m w D):tI c p m w D (Jw 118 [D.b,D.b1]) (lE c p.bz p.at_==1):=fun u h=>
 Hw [] (by kernel_rfl) (Yv ⟨D.b,0,none⟩ ⟨D.b1,0,none⟩ _ _ ⟨_,_,_,_,_,_,_,_,_,_,_,(h.o.at 7 rfl).whole,_,_,_,_,_,_,_,_,_,_,_,_,_,_,_,(h.o.at 6 rfl).whole,_,(h.o.at 6 rfl).cell rfl,
  Ac (UE c F.dl p F.d0 p.at_ (fun r=>r=lE c p.bz p.at_) rfl _ u (h.o.mn F.hm) _ (F.GC h) _ (F.UL h)) fun _ _ ⟨_,hr,hv,hk⟩=>⟨_,hv,by rw [hr],hk⟩⟩)
theorem Zq (F:jF c p m w D):GD c p m w D (Jw 120 [D.b,D.b1]) (Md c p.bz):=fun u n h=>
 Hw [.int .i64 n] (by kernel_rfl) (Yx n ⟨D.b,0,none⟩ ⟨D.b1,0,none⟩ _ _ ⟨_,_,_,_,_,_,_,_,_,_,_,(h.o.at 7 rfl).whole,_,_,_,_,_,_,_,_,_,_,_,_,_,_,_,(h.o.at 6 rfl).whole,
  Ac (UE c F.dl p F.d0 n (fun r=>r=lE c p.bz n) rfl _ u (h.o.mn F.hm) _ (F.GC h) _ (F.UL h)) fun _ _ ⟨_,hr,hv,hk⟩=>⟨_,hv,fun _=>⟨by rw [hr];rfl,hk⟩⟩⟩)
theorem zk (F:jF c p m w D):GD c p m w D (Jw 121 [D.b]) (Me c):=fun u n h=>
 Hw [.int .i64 n] (by kernel_rfl) (Yz n ⟨D.b,0,none⟩ _ _ ⟨_,_,_,_,_,_,_,_,_,_,_,(h.o.at 7 rfl).whole,
  Ac (Axe F.jv F.cl (fun r=>r=Mx c.af) rfl _ u (h.o.mn F.hm) _ (F.GC h)) fun _ u1 ⟨_,hr,hv,hk⟩=>⟨_,hv,by
   subst hr;have hle:=Vj F.jv c.af.length;rw [take_length]at hle;have:=F.cl;rw [A0 (by omega) (by omega)];exact Ac (Jq _ _ (fun r=>r=Me c n) rfl _ u1 ((h.ext hk).o.mn F.hm)) fun _ _ ⟨_,hr,hv,g_⟩=>⟨_,hv,by rw [hr],hk.trans g_⟩⟩⟩)
theorem UM (F:jF c p m w D):GD c p m w D (Jw 123 [D.b1]) (rO p):=fun u n h=>
 Hw [.int .i64 n] (by kernel_rfl) (Y1 n ⟨D.b1,0,none⟩ _ _ ⟨_,_,_,(h.o.at 6 rfl).cell rfl,by
  have:=F.va;rw [A0 (by omega) (by omega)];exact Ac (Jq _ _ (fun r=>r=rO p n) rfl _ u (h.o.mn F.hm)) fun _ _ ⟨_,hr,hv,hk⟩=>⟨_,hv,by rw [hr],hk⟩⟩)
theorem Bar (F:jF c p m w D):tI c p m w D (Jw 125 [D.b4,D.b1,D.b5]) (Mf c p 1):=fun u h=>
 Hw [] (by kernel_rfl) (Y5 ⟨D.b4,0,none⟩ ⟨D.b1,0,none⟩ ⟨D.b5,0,none⟩ _ _ ⟨_,(h.o.at 3 rfl).cell rfl,_,(h.o.at 6 rfl).cell rfl,
  Cm (Zq F u p.at_ h) fun _ u1 ⟨hv,hk⟩=>⟨_,hv,by
   have h1:=h.ext hk;unfold Mf;refine Ab (fun e=>⟨_,(h1.o.at 2 rfl).cell rfl,_,(h1.o.at 6 rfl).cell rfl,Cm (zk F u1 p.chan h1) fun _ u2 ⟨lI,g_⟩=>⟨_,lI,by rw [e];rfl,hk.trans g_⟩⟩) fun e=>⟨by rw [e];rfl,hk⟩⟩⟩)
theorem Axf (F:jF c p m w D):tI c p m w D (Jw 126 [D.b4,D.b1,D.b5,D.b6]) (Mf c p 2):=fun u h=>
 Hw [] (by kernel_rfl) (Y7 ⟨D.b4,0,none⟩ ⟨D.b1,0,none⟩ ⟨D.b5,0,none⟩ ⟨D.b6,0,none⟩ _ _ ⟨_,(h.o.at 3 rfl).cell rfl,_,(h.o.at 6 rfl).cell rfl,
  Cm (Zq F u p.at_ h) fun _ u1 ⟨hv,hk⟩=>⟨_,hv,by
   have h1:=h.ext hk;unfold Mf;refine Ab (fun e=>⟨_,(h1.o.at 2 rfl).cell rfl,_,(h1.o.at 6 rfl).cell rfl,Cm (zk F u1 p.chan h1) fun _ u2 ⟨lI,g_⟩=>⟨_,lI,?_⟩⟩) fun e=>⟨by rw [e];rfl,hk⟩
   have h2:=h1.ext g_;refine Ab (fun e2=>⟨_,(h2.o.at 1 rfl).cell rfl,_,(h2.o.at 6 rfl).cell rfl,Cm (UM F u2 p.slot h2) fun _ u3 ⟨hv3,tJ⟩=>⟨_,hv3,by rw [e,e2];rfl,(hk.trans g_).trans tJ⟩⟩) fun e2=>⟨by rw [e,e2];rfl,hk.trans g_⟩⟩⟩)
theorem Azg (F:jF c p m w D):tI c p m w D (Jw 130 [D.b4,D.b1]) (Mf c p 4):=fun u h=>
 Hw [] (by kernel_rfl) (Zc ⟨D.b4,0,none⟩ ⟨D.b1,0,none⟩ _ _ ⟨_,(h.o.at 3 rfl).cell rfl,_,(h.o.at 6 rfl).cell rfl,
  Cm (Zq F u p.at_ h) fun _ u1 ⟨hv,hk⟩=>⟨_,hv,by
   have h1:=h.ext hk;unfold Mf;refine Ab (fun e=>⟨_,(h1.o.at 6 rfl).cell rfl,Ac (Jq _ _ (fun r=>r=dm p.bT 1099511627776) rfl _ u1 (h1.o.mn F.hm)) fun _ _ ⟨_,hr,lI,g_⟩=>⟨_,lI,by rw [hr,e];rfl,hk.trans g_⟩⟩) fun e=>⟨by rw [e];rfl,hk⟩⟩⟩)
theorem Bas (F:jF c p m w D):tI c p m w D (Jw 131 [D.b1]) (Mf c p 5):=fun u h=>
 Hw [] (by kernel_rfl) (Wy ⟨D.b1,0,none⟩ _ _ ⟨_,(h.o.at 6 rfl).cell rfl,rfl,Ai.refl _ _⟩)
end
def qq (a:F6):List Value:=[.int .i64 a.kind,.int .i64 a.chan,.int .i64 a.val,.int .i64 a.slot,.int .i64 a.goto]
section
attribute [local irreducible] Ee
variable {c:Ah} {p:Ap} {m:List Nat} {w:World} {D:ny}
def UN (c:Ah) (p:Ap) (m:List Nat) (w:World) (D:ny) (v:Value) (r:F6->Bool):Prop:=∀u (a:F6),St c p m w D u->Ee Tryz.prog v #[.agg (qq a).toArray] (fun x u'=>x= .bool (r a)/\Ai [] u u') u
theorem Bat (F:jF c p m w D):UN c p m w D (Jw 124 [D.b4,D.b5,D.b6]) (Lj c p):=by
 intro u a h;refine Hw [.agg (qq a).toArray] (by kernel_rfl) (Y3 a.kind a.chan a.val a.slot a.goto ⟨D.b4,0,none⟩ ⟨D.b5,0,none⟩ ⟨D.b6,0,none⟩ _ _ ?_);intro b w1 hb aX;obtain⟨_,o⟩:=(Mem.start h.o.mlt).dB hb aX;refine⟨_,(o.at 0 rfl).cell rfl,_,(o.at 0 rfl).cell rfl,?_⟩;intro b1 w2 cg cM;obtain⟨_,o⟩:=o.dB cg cM;refine⟨o.wr 0 rfl rfl,fun w3 ez=> ?_⟩;obtain⟨_,o⟩:=o.dz 0 ez rfl;have h3:=h.ext o.done;refine⟨_,(h3.o.at 3 rfl).cell rfl,_,(o.at 1 rfl).cell rfl,Cm (Zq F w3 a.goto h3) ?_⟩;rintro _ w4 ⟨rfl,hk⟩;have o:=o.ext hk;refine⟨_,rfl,fun ok u'=>∃x2 x3 x4,Mem u.heap.size [] (ms (PK c p D) m) [([],u.heap.size,u)] [] u' [.box b1 [.int .i64 a.kind,.int .i64 x2,.int .i64 x3,.int .i64 x4,.int .i64 a.goto],.box b (qq a)]/\Lj c p a=(ok&&((x2==a.chan)&&((x3==a.val)&&(x4==a.slot)))),⟨_,(o.at 1 rfl).cell rfl,?_⟩,?_⟩
 ·refine Ab (fun e=> ?_) fun e=>Ab (fun e1=> ?_) fun e1=>Ab (fun e2=> ?_) fun e2=> ?_
  ·refine⟨fun u'=>Mem u.heap.size [] (ms (PK c p D) m) [([],u.heap.size,u)] [] u' [.box b1 [.int .i64 a.kind,.int .i64 a.chan,.int .i64 0,.int .i64 a.slot,.int .i64 a.goto],.box b (qq a)],fun w5 dI=> ?_,fun _ w8 o=> ?_⟩
   ·obtain⟨_,o⟩:=o.dD dI;refine⟨fun u'=>∃X,Mem u.heap.size [] (ms (PK c p D) m) [([],u.heap.size,u)] [] u' [.box b1 X,.box b (qq a)],⟨_,o⟩,_,fun u' ⟨_,o⟩=>(o.at 1 rfl).cell rfl,_,fun u' ⟨_,o⟩=>(o.at 1 rfl).cell rfl,o.wr 0 rfl rfl,fun w6 gm=> ?_⟩;obtain⟨_,o⟩:=o.dS 0 gm rfl;refine⟨⟨_,o⟩,o.wr 0 rfl rfl,fun w7 jy=> ?_⟩;exact(o.dS 0 jy rfl).2
   have h8:=h.ext o.done;refine Ab (fun r=> ?_) fun r=>⟨_,_,_,o,by unfold Lj;rw [e,cond_true,r];rfl⟩
   refine⟨_,(h8.o.at 2 rfl).cell rfl,_,(o.at 1 rfl).cell rfl,Cm (zk F w8 a.chan h8) ?_⟩;rintro _ w9 ⟨rfl,hk⟩;have o:=o.ext hk;have h9:=h8.ext hk;refine⟨_,rfl,Ab (fun r2=> ?_) fun r2=>⟨_,_,_,o,by unfold Lj;rw [e,cond_true,r,r2];rfl⟩⟩;refine⟨_,(h9.o.at 1 rfl).cell rfl,_,(o.at 1 rfl).cell rfl,Cm (UM F w9 a.slot h9) ?_⟩;rintro _ aK ⟨rfl,hk⟩;refine⟨_,rfl,_,_,_,o.ext hk,?_⟩;unfold Lj;rw [e,cond_true,r,r2,Bool.eq_iff_iff];simp;omega
  ·refine⟨fun u'=>Mem u.heap.size [] (ms (PK c p D) m) [([],u.heap.size,u)] [] u' [.box b1 [.int .i64 a.kind,.int .i64 a.chan,.int .i64 a.val,.int .i64 0,.int .i64 a.goto],.box b (qq a)],fun w5 dI=> ?_,fun _ w8 o=> ?_⟩
   ·obtain⟨_,o⟩:=o.dD dI;refine⟨fun u'=>∃X,Mem u.heap.size [] (ms (PK c p D) m) [([],u.heap.size,u)] [] u' [.box b1 X,.box b (qq a)],⟨_,o⟩,_,fun u' ⟨_,o⟩=>(o.at 1 rfl).cell rfl,_,fun u' ⟨_,o⟩=>(o.at 1 rfl).cell rfl,o.wr 0 rfl rfl,fun w6 gm=> ?_⟩;obtain⟨_,o⟩:=o.dS 0 gm rfl;refine⟨⟨_,o⟩,o.wr 0 rfl rfl,fun w7 jy=> ?_⟩;exact(o.dS 0 jy rfl).2
   have h8:=h.ext o.done;refine Ab (fun r=> ?_) fun r=>⟨_,_,_,o,by unfold Lj;rw [e,cond_false,e1,cond_true,r];rfl⟩
   refine⟨_,(h8.o.at 2 rfl).cell rfl,_,(o.at 1 rfl).cell rfl,Cm (zk F w8 a.chan h8) ?_⟩;rintro _ w9 ⟨rfl,hk⟩;refine⟨_,rfl,_,_,_,o.ext hk,?_⟩;unfold Lj;rw [e,cond_false,e1,cond_true,r,Bool.eq_iff_iff];simp;omega
  ·refine⟨_,(o.at 1 rfl).cell rfl,o.wr 0 rfl rfl,fun ck o8=> ?_⟩;obtain⟨_,o⟩:=o.dS 0 o8 rfl;have h8:=h.ext o.done;refine Ab (fun r=> ?_) fun r=>⟨_,_,_,o,by unfold Lj;rw [e,cond_false,e1,cond_false,e2,cond_true,r];rfl⟩
   refine⟨_,(o.at 1 rfl).cell rfl,Ac (Jq _ _ (fun x=>x=dm a.val 1099511627776) rfl _ ck (h8.o.mn F.hm)) ?_⟩;rintro _ w9 ⟨_,rfl,rfl,hk⟩;refine⟨_,rfl,_,_,_,o.ext hk,?_⟩;unfold Lj;rw [e,cond_false,e1,cond_false,e2,cond_true,r,Bool.eq_iff_iff];simp;omega
  ·exact⟨by unfold Lj;rw [e,cond_false,e1,cond_false,e2,cond_false],o.done⟩
 ·rintro _ ok cG ⟨x2,x3,x4,o,he⟩;refine Ab (fun e=>⟨_,_,_,_,_,(o.at 0 rfl).whole,_,_,_,_,_,(o.at 1 rfl).whole,?_,o.done⟩) fun e=>⟨by rw [he,e];rfl,o.done⟩
  rw [he,e];simp
theorem Bau (F:jF c p m w D):UN c p m w D (Jw 129 [D.b7]) (fun a=> !Lj c p a):=by
 intro u a h;refine Hw [.agg (qq a).toArray] (by kernel_rfl) (Vm a.kind a.chan a.val a.slot a.goto ⟨D.b7,0,none⟩ _ _ ?_);intro b w1 hb aX;obtain⟨_,o⟩:=(Mem.start h.o.mlt).dB hb aX;have h1:=h.ext o.done;refine⟨_,(h1.o.at 0 rfl).cell rfl,_,_,_,_,_,(o.at 0 rfl).whole,Cm (Bat F w1 a h1) ?_⟩;rintro _ w4 ⟨rfl,hk⟩;exact⟨_,rfl,rfl,(o.ext hk).done⟩
theorem Bav (F:jF c p m w D) (u:World) (h:St c p m w D u):Calls Tryz.prog 128 #[.slice D.a4 p.alts.length D.c4,Jw 129 [D.b7]] u (aN fun x u'=>x= .bool (p.alts.any fun a=> !Lj c p a)/\Ai [] u u'):=by
 refine Fh _ _ _ _ _ _ (Ga _ _ _ _ _ _ ?_);refine⟨fun x u'=>∃i:Nat,x=i/\i<=p.alts.length/\Ai [] u u'/\(p.alts.take i).any (fun a=> !Lj c p a)=false,fun x _=>((p.alts.length:Int)-x).toNat,⟨0,rfl,by omega,Ai.refl _ _,rfl⟩,?_⟩;rintro _ _ w1 ⟨i,rfl,hi,hk,ht⟩;have h1:=h.ext hk;have gV:=F.al;refine At.cond hi (fun aO=> ?_) fun heq=> ?_
 ·obtain⟨q,x,cs,hp,od,hc,hr⟩:=(F.f4.st h1.st).elem (i:=(i:Int)) ⟨by omega,by omega⟩;rw [toNat_natCast,getElem?_eq_getElem aO,Option.some.injEq]at od;obtain rfl:=Gp hr;refine⟨⟨by omega,by omega⟩,Ae hp ⟨_,_,_,_,_,hc.2,Cm (Bau F w1 x h1) ?_⟩⟩;rintro _ w2 ⟨rfl,g_⟩;have htk:(p.alts.take (i+1)).any (fun a=> !Lj c p a)=(!Lj c p x):=by
   rw [List.take_add_one,getElem?_eq_getElem aO,List.any_append,ht,od];simp
  refine⟨_,rfl,Ab (fun e=> ?_) fun e=> ?_⟩
  ·refine⟨_,rfl,?_,hk.trans g_⟩;have:p.alts.any (fun a=> !Lj c p a)=true:=List.any_eq_true.2 ⟨x,od▸getElem_mem aO,e⟩;rw [this];exact congrArg Value.bool (decide_eq_true (by omega))
  ·rw [A0 (by omega) (by omega)];exact⟨⟨i+1,by omega,by omega,hk.trans g_,by rw [htk];exact e⟩,by show((p.alts.length:Int)-(↑i+1)).toNat<((p.alts.length:Int)-↑i).toNat;omega⟩
 ·subst heq;rw [take_length]at ht;exact⟨_,rfl,by rw [ht];rfl,hk⟩
theorem Axg (F:jF c p m w D):tI c p m w D (Jw 127 [D.b3,D.b1,D.b7]) (Mf c p 3):=fun u h=>
 Hw [] (by kernel_rfl) (Y9 ⟨D.b3,0,none⟩ ⟨D.b1,0,none⟩ ⟨D.b7,0,none⟩ _ _ ⟨_,(h.o.at 4 rfl).cell rfl,
  Cm (GF F u h) fun _ u1 ⟨hv,hk⟩=>⟨_,hv,by
   have h1:=h.ext hk;unfold Mf;refine Ab (fun e=>⟨_,_,_,(h1.o.at 6 rfl).cell rfl,Ac (Bav F u1 h1) fun _ _ ⟨lI,g_⟩=>⟨_,lI,by rw [e];rfl,hk.trans g_⟩⟩) fun e=>⟨by rw [e];rfl,hk⟩⟩⟩)
end
structure zl (s:Ay):Prop where
 procs:s.procs.length<=20
 out:s.out.length<=100
 each:∀p∈s.procs,p.vars.length<=40/\p.alts.length<=40
theorem Ko {α:Type} {a b:List α} {k:Nat} (ha:k<a.length) (hb:k<b.length):a.take (k+1)=b.take (k+1)↔a.take k=b.take k/\a[k]=b[k]:=by
 rw [E8 ha,E8 hb];constructor
 ·intro h;have:=List.append_inj h (by simp;omega);exact⟨this.1,by simpa using this.2⟩
 ·rintro⟨h1,h2⟩;rw [h1,h2]
theorem Ba6 (a b:List Int) (ha:a.length<2^40) (K:Bool->Prop) (h:K (decide (a=b))):OK a b K:=by
 refine Aed _ _ _ (Ab (fun hc=> ?_) fun hc=> ?_)
 ·rwa [show decide (a=b)=false by
   rw [decide_eq_false_iff_not];rintro rfl;simp at hc]at h
 ·have hl:a.length=b.length:=by simp at hc;omega
  refine⟨fun i c=>At a.length (fun k=>a.take k=b.take k) i c,⟨_,At.start (by simp)⟩,?_⟩;rintro _ _ ⟨k,rfl,hk,rfl,he⟩;refine At.cond hk (fun hk=>Av hk (Av (by omega) (Ab (fun hc=> ?_) fun hc=>At.next (by omega) hk ?_))) fun hk=> ?_
  ·rwa [show decide (a=b)=false by
    rw [decide_eq_false_iff_not];rintro rfl;simp at hc]at h
  ·exact(Ko hk (by omega)).2 ⟨he,by simpa using hc⟩
  ·rw [hk,take_length,hl,take_length]at he
   rwa [show decide (a=b)=true by simpa using he]at h
theorem UO (x y:F6):((x.kind==y.kind)&&((x.chan==y.chan)&&((x.val==y.val)&&((x.slot==y.slot)&&((x.goto==y.goto)&&true)))))=decide (x=y):=by
 rw [Bool.eq_iff_iff];cases x;cases y
 simp
theorem Ba7 (a b:List F6) (ha:a.length<2^40) (K:Bool->Prop) (h:K (decide (a=b))):OL a b K:=by
 refine Aec _ _ _ (Ab (fun hc=> ?_) fun hc=> ?_)
 ·rwa [show decide (a=b)=false by
   rw [decide_eq_false_iff_not];rintro rfl;simp at hc]at h
 ·have hl:a.length=b.length:=by simp at hc;omega
  refine⟨fun i c=>At a.length (fun k=>a.take k=b.take k) i c,⟨_,At.start (by simp)⟩,?_⟩;rintro _ _ ⟨k,rfl,hk,rfl,he⟩;refine At.cond hk (fun hk=>Av hk (Av (by omega) ?_)) fun hk=> ?_
  ·rw [UO];refine Ab (fun hc=> ?_) fun hc=>At.next (by omega) hk ?_
   ·rwa [show decide (a=b)=false by
     rw [decide_eq_false_iff_not];rintro rfl;simp at hc]at h
   ·exact(Ko hk (by omega)).2 ⟨he,by simpa using hc⟩
  ·rw [hk,take_length,hl,take_length]at he
   rwa [show decide (a=b)=true by simpa using he]at h
theorem Azh (a b:List Int) (ha:a.length<2^40) (K:Bool->Prop) (h:K (decide (a=b))):En a b K:=by
 refine Kk _ _ _ (Ab (fun hc=> ?_) fun hc=> ?_)
 ·rwa [show decide (a=b)=false by
   rw [decide_eq_false_iff_not];rintro rfl;simp at hc]at h
 ·have hl:a.length=b.length:=by simp at hc;omega
  refine⟨fun i c=>At a.length (fun k=>a.take k=b.take k) i c,⟨_,At.start (by simp)⟩,?_⟩;rintro _ _ ⟨k,rfl,hk,rfl,he⟩;refine At.cond hk (fun hk=>Av hk (Av (by omega) (Ab (fun hc=> ?_) fun hc=>At.next (by omega) hk ?_))) fun hk=> ?_
  ·rwa [show decide (a=b)=false by
    rw [decide_eq_false_iff_not];rintro rfl;simp at hc]at h
  ·exact(Ko hk (by omega)).2 ⟨he,by simpa using hc⟩
  ·rw [hk,take_length,hl,take_length]at he
   rwa [show decide (a=b)=true by simpa using he]at h
theorem Azi (a b:List F6) (ha:a.length<2^40) (K:Bool->Prop) (h:K (decide (a=b))):Cj a b K:=by
 refine Gr _ _ _ (Ab (fun hc=> ?_) fun hc=> ?_)
 ·rwa [show decide (a=b)=false by
   rw [decide_eq_false_iff_not];rintro rfl;simp at hc]at h
 ·have hl:a.length=b.length:=by simp at hc;omega
  refine⟨fun i c=>At a.length (fun k=>a.take k=b.take k) i c,⟨_,At.start (by simp)⟩,?_⟩;rintro _ _ ⟨k,rfl,hk,rfl,he⟩;refine At.cond hk (fun hk=>Av hk (Av (by omega) ?_)) fun hk=> ?_
  ·rw [UO];refine Ab (fun hc=> ?_) fun hc=>At.next (by omega) hk ?_
   ·rwa [show decide (a=b)=false by
     rw [decide_eq_false_iff_not];rintro rfl;simp at hc]at h
   ·exact(Ko hk (by omega)).2 ⟨he,by simpa using hc⟩
  ·rw [hk,take_length,hl,take_length]at he
   rwa [show decide (a=b)=true by simpa using he]at h
theorem Axh (x y:Ap) (hv:x.vars.length<2^40) (ha:x.alts.length<2^40) (K:Bool->Prop) (h:K (decide (x=y))):Xp x y K:=by
 have no:x≠y->K false:=fun hn=>by rwa [decide_eq_false hn]at h
 refine Acg _ _ _ ?_;refine Ab (fun d1=> ?_) fun d1=>no (fun e=>by rw [e]at d1;simp at d1)
 refine Ab (fun d2=> ?_) fun d2=>no (fun e=>by rw [e]at d2;simp at d2)
 refine Azh _ _ hv _ (Ab (fun d3=> ?_) fun d3=>no (fun e=>by rw [e]at d3;simp at d3));refine Ab (fun d4=> ?_) fun d4=>no (fun e=>by rw [e]at d4;simp at d4)
 refine Ab (fun d5=> ?_) fun d5=>no (fun e=>by rw [e]at d5;simp at d5)
 refine Ab (fun d6=> ?_) fun d6=>no (fun e=>by rw [e]at d6;simp at d6)
 refine Ab (fun d7=> ?_) fun d7=>no (fun e=>by rw [e]at d7;simp at d7)
 refine Ab (fun d8=> ?_) fun d8=>no (fun e=>by rw [e]at d8;simp at d8)
 refine Ab (fun d9=> ?_) fun d9=>no (fun e=>by rw [e]at d9;simp at d9)
 refine Ab (fun GG=> ?_) fun GG=>no (fun e=>by rw [e]at GG;simp at GG)
 refine Azi _ _ ha _ ?_
 rwa [show decide (x=y)=decide (x.alts=y.alts) by
  rw [Bool.eq_iff_iff,decide_eq_true_eq,decide_eq_true_eq];refine⟨fun e=>by rw [e],fun e=> ?_⟩;cases x;cases y
  simp_all]at h
def J9 (p:Ap):Ap:=cond (p.mode==1) ⟨p.bz,p.at_,p.vars,p.fuel,p.mode,p.chan,p.val,0,0,p.since,[]⟩ (cond (p.mode==2) ⟨p.bz,p.at_,p.vars,p.fuel,p.mode,p.chan,0,p.slot,0,p.since,[]⟩ (cond (p.mode==3) ⟨p.bz,p.at_,p.vars,p.fuel,p.mode,0,0,0,0,p.since,p.alts⟩ (cond (p.mode==4) ⟨p.bz,p.at_,p.vars,p.fuel,p.mode,0,0,0,p.bT,0,[]⟩ ⟨p.bz,p.at_,p.vars,p.fuel,p.mode,0,0,0,0,0,[]⟩)))
theorem Azj (p:Ap) (K:Ap->Prop) (h:K (J9 p)):Xo p K:=by
 refine Ace _ _ ⟨fun a b c d e f g i j k l=>(⟨a,b,c,d,e,f,g,i,j,k,l⟩:Ap)=J9 p,?_,fun _ _ _ _ _ _ _ _ _ _ _ e=>by rw [e];exact h⟩;unfold J9;cases (p.mode==1)
 ·cases (p.mode==2)
  ·cases (p.mode==3)
   ·cases (p.mode==4)<;>exact rfl
   ·exact rfl
  ·exact rfl
 ·exact rfl
structure wy (c:Ah) (p:Ap):Prop where
 jv:ir c
 cl:c.af.length<=100000
 va:p.vars.length<=100000
 al:p.alts.length<=100000
section
attribute [local irreducible] Ee
variable {c:Ah} {p:Ap} {m:List Nat} {w:World}
def qt (c:Ah) (p:Ap) (w:World) (v:Value) (k:Nat):Prop:=∀u,Ai [] w u->Ee Tryz.prog v #[] (fun x u'=>x= .bool (Mf c p k)/\Ai [] u u') u
theorem Axi (F:wy c p) (d0:0<=p.bz) (hm:bA m w) (mf dH:List Value) (hc:Bu.rep m w c mf) (hp:Ce.rep m w p dH) (K:Value->World->Prop) (h:∀w' v0 v1 v2 v3 v4 v5 v6,Ai [] w w'->qt c p w' v0 0->qt c p w' v1 1->qt c p w' v2 2->qt c p w' v3 3->qt c p w' v4 4->qt c p w' v5 5->qt c p w' v6 6->K (.agg #[v0,v1,v2,v3,v4,v5,v6]) w'): Calls Tryz.prog 64 #[.agg ⟨mf⟩,.agg ⟨dH⟩] w (aN K):=by
 obtain⟨a0,c0,a1,c1,a2,c2,rfl,⟨le,f⟩,⟨bo,f1⟩,⟨bw,f2⟩⟩:=A7 hc;obtain⟨a3,c3,a4,c4,rfl,⟨cY,f3⟩,⟨dM,f4⟩⟩:=A3 hp;have o:=Mem.start hm.lt;refine Aeq _ _ _ _ _ _ _ _ _ _ _ _ _ _ _ _ _ _ _ _ _ _ _ _ _ _ _ _ ?_;intro b w1 hb aX;obtain⟨s1,o⟩:=o.dB hb aX;intro b1 w2 cg cM;obtain⟨s2,o⟩:=o.dB cg cM;intro b2 w3 ec ez;obtain⟨s3,o⟩:=o.dB ec ez;intro b3 w4 qf dg;obtain⟨s4,o⟩:=o.dB qf dg;refine⟨rfl,o.wr 0 rfl rfl,fun w5 dI=> ?_⟩;obtain⟨s5,o⟩:=o.dS 0 dI rfl;intro b4 w6 ly gm;obtain⟨s6,o⟩:=o.dB ly gm;refine⟨rfl,o.wr 0 rfl rfl,fun w7 jy=> ?_⟩;obtain⟨s7,o⟩:=o.dS 0 jy rfl;intro b5 w8 o6 kK;obtain⟨s8,o⟩:=o.dB o6 kK;refine⟨rfl,o.wr 0 rfl rfl,fun w9 fT=> ?_⟩;obtain⟨s9,o⟩:=o.dS 0 fT rfl;intro b6 aK F_ fR;obtain⟨s10,o⟩:=o.dB F_ fR;refine⟨rfl,o.wr 0 rfl rfl,fun aF jx=> ?_⟩;obtain⟨s11,o⟩:=o.dS 0 jx rfl;intro b7 aZ GB lr;obtain⟨s12,o⟩:=o.dB GB lr;refine⟨rfl,o.wr 0 rfl rfl,fun bB lu=> ?_⟩;obtain⟨s13,o⟩:=o.dS 0 lu rfl;refine⟨_,(o.at 4 rfl).cell rfl,_,_,rfl,_,(o.at 4 rfl).cell rfl,_,_,rfl,?_⟩;refine⟨rfl,rfl,rfl,rfl,rfl,rfl,rfl,o.wr 5 rfl rfl,fun aU mQ=> ?_⟩;obtain⟨s14,o⟩:=o.dz 5 mQ rfl;have st:=((((((((((((s1.trans s2).trans s3).trans s4).trans s5).trans s6).trans s7).trans s8).trans s9).trans s10).trans s11).trans s12).trans s13).trans s14;obtain⟨D,hD⟩:∃D:ny,D=⟨a0,a1,a2,a3,a4,c0,c1,c2,c3,c4,b,b1,b2,b3,b4,b5,b6,b7,[Jw 118 [b,b1],Jw 125 [b4,b1,b5],Jw 126 [b4,b1,b5,b6],Jw 127 [b3,b1,b7],Jw 130 [b4,b1],Jw 131 [b1],Jw 118 [b,b1]]⟩:=⟨_,rfl⟩
 have FF:jF c p m w D:=by
  subst hD;exact⟨F.jv,F.cl,d0,F.va,F.al,hm,le,f,bo,f1,bw,f2,cY,f3,dM,f4⟩
 have S:St c p m w D aU:=by
  subst hD;exact⟨o,st⟩
 refine⟨(Kp aU 0).1,_,_,_,_,_,_,_,(o.at 5 rfl).whole,?_⟩;refine h _ _ _ _ _ _ _ _ o.done ?_ ?_ ?_ ?_ ?_ ?_ ?_
 all_goals intro u hk
 ·have:=GF FF u (S.ext hk);rw [hD]at this;exact this
 ·have:=Bar FF u (S.ext hk);rw [hD]at this;exact this
 ·have:=Axf FF u (S.ext hk);rw [hD]at this;exact this
 ·have:=Axg FF u (S.ext hk);rw [hD]at this;exact this
 ·have:=Azg FF u (S.ext hk);rw [hD]at this;exact this
 ·have:=Bas FF u (S.ext hk);rw [hD]at this;exact this
 ·have:=GF FF u (S.ext hk);rw [hD]at this;exact this
def Pe (c:Ah) (p:Ap):Bool:=
 ((dm p.bz ((c.defs.length:Int)-1)&&(dm p.fuel 1048576&&(dm p.since 1099511627776&&dm p.mode 6)))&&
   (match c.defs[p.bz.toNat]? with
    |some d=>(p.vars.length:Int)==d.vars|none=>false))&&(decide (J9 p=p)&&Mf c p p.mode.toNat)
theorem Baw {v0 v1 v2 v3 v4 v5 v6:Value} {n:Int} {w:World} {K:Value->World->Prop} (hn:dm n 6=true) (h0:n=0->K v0 w) (h1:n=1->K v1 w) (h2:n=2->K v2 w) (h3:n=3->K v3 w) (h4:n=4->K v4 w) (h5:n=5->K v5 w) (h6:n=6->K v6 w): Bl Tryz.prog (Instr.index 132 (.agg #[v0,v1,v2,v3,v4,v5,v6]) (.int .i64 n)) K w:=by
 unfold dm at hn;simp at hn;have hc:n=0\/n=1\/n=2\/n=3\/n=4\/n=5\/n=6:=by omega
 rcases hc with rfl|rfl|rfl|rfl|rfl|rfl|rfl
 ·exact⟨v0,w,by kernel_rfl,h0 rfl⟩
 ·exact⟨v1,w,by kernel_rfl,h1 rfl⟩
 ·exact⟨v2,w,by kernel_rfl,h2 rfl⟩
 ·exact⟨v3,w,by kernel_rfl,h3 rfl⟩
 ·exact⟨v4,w,by kernel_rfl,h4 rfl⟩
 ·exact⟨v5,w,by kernel_rfl,h5 rfl⟩
 ·exact⟨v6,w,by kernel_rfl,h6 rfl⟩
theorem Au7 (p:Ap):(J9 p).vars.length<=p.vars.length/\(J9 p).alts.length<=p.alts.length:=by
 unfold J9;cases (p.mode==1)
 ·cases (p.mode==2)
  ·cases (p.mode==3)
   ·cases (p.mode==4)<;>exact⟨le_refl _,zero_le _⟩
   ·exact⟨le_refl _,le_refl _⟩
  ·exact⟨le_refl _,zero_le _⟩
 ·exact⟨le_refl _,zero_le _⟩
theorem Au8 (F:wy c p) (K:Int->Prop) (h:K (cond (Pe c p) 0 9)):Uq c p K:=by
 intro m w hm mf hc dH hp;obtain⟨a0,c0,a1,c1,a2,c2,rfl,⟨le,f⟩,⟨bo,f1⟩,⟨bw,f2⟩⟩:=A7 hc;obtain⟨a3,c3,a4,c4,rfl,⟨cY,f3⟩,⟨dM,f4⟩⟩:=A3 hp;have dl:c.defs.length<=100000:=by have:=F.jv.n2;omega
 have o:=Mem.start hm.lt;refine Aes _ _ _ _ _ _ _ _ _ _ _ _ _ _ _ _ _ _ _ _ _ _ _ _ _ _ _ _ ?_;intro b w1 hb aX;obtain⟨s1,o⟩:=o.dB hb aX;intro b1 w2 cg cM;obtain⟨s2,o⟩:=o.dB cg cM;have st:=s1.trans s2;obtain⟨PP,lF⟩:∃PP:List Pc,PP=[.box b1 [.int .i64 p.bz,.int .i64 p.at_,.slice a3 p.vars.length c3,.int .i64 p.fuel,.int .i64 p.mode,.int .i64 p.chan,.int .i64 p.val,.int .i64 p.slot,.int .i64 p.bT,.int .i64 p.since,.slice a4 p.alts.length c4],.box b [.slice a0 c.ins.length c0,.slice a1 c.defs.length c1,.slice a2 c.af.length c2,.int .i64 c.main,.int .i64 c.stmts]]:=⟨_,rfl⟩
 refine⟨fun ok u=>ok=(dm p.bz ((c.defs.length:Int)-1)&&(dm p.fuel 1048576&&(dm p.since 1099511627776&&dm p.mode 6)))/\Mem w.heap.size [] m [([],w.heap.size,w)] [] u PP/\Step m w (ms PP m) u,⟨_,(o.at 0 rfl).cell rfl,_,_,_,(o.at 1 rfl).cell rfl,?_⟩,?_⟩
 ·rw [A0 (by omega) (by omega)];refine Ac (Jq _ _ (fun r=>r=dm p.bz ((c.defs.length:Int)-1)) rfl _ w2 (o.mn hm)) ?_;rintro _ w3 ⟨_,rfl,rfl,hk⟩;obtain⟨s3,o⟩:=o.dE hk;refine⟨_,rfl,Ab (fun e=> ?_) fun e=>⟨by rw [e];rfl,lF▸o,lF▸st.trans s3⟩⟩;rw [e];refine⟨_,(o.at 0 rfl).cell rfl,Ac (Jq _ _ (fun r=>r=dm p.fuel 1048576) rfl _ w3 (o.mn hm)) ?_⟩;rintro _ w4 ⟨_,rfl,rfl,hk⟩;obtain⟨s4,o⟩:=o.dE hk;refine⟨_,rfl,Ab (fun e=> ?_) fun e=>⟨by rw [e];rfl,lF▸o,lF▸(st.trans s3).trans s4⟩⟩;rw [e];refine⟨_,(o.at 0 rfl).cell rfl,Ac (Jq _ _ (fun r=>r=dm p.since 1099511627776) rfl _ w4 (o.mn hm)) ?_⟩;rintro _ w5 ⟨_,rfl,rfl,hk⟩;obtain⟨s5,o⟩:=o.dE hk;refine⟨_,rfl,Ab (fun e=> ?_) fun e=>⟨by rw [e];rfl,lF▸o,lF▸((st.trans s3).trans s4).trans s5⟩⟩;rw [e];refine⟨_,(o.at 0 rfl).cell rfl,Ac (Jq _ _ (fun r=>r=dm p.mode 6) rfl _ w5 (o.mn hm)) ?_⟩;rintro _ w6 ⟨_,rfl,rfl,hk⟩;obtain⟨s6,o⟩:=o.dE hk;exact⟨_,rfl,rfl,lF▸o,lF▸(((st.trans s3).trans s4).trans s5).trans s6⟩
 rintro _ ok w7 ⟨eu,o,st⟩;have hB:Pe c p=(ok&&(match c.defs[p.bz.toNat]? with
  |some d=>(p.vars.length:Int)==d.vars
  |none=>false)&&(decide (J9 p=p)&&Mf c p p.mode.toNat)):=by rw [eu];rfl
 refine⟨fun bad u=>bad=(!Pe c p)/\Ai [] w u,fun w8 kK=> ?_,?_⟩
 ·obtain⟨s3,o⟩:=o.dD kK;have st:=st.trans s3;subst lF;have ox:=o;refine⟨fun u=>Ai [] w8 u,Ai.refl _ _,?_⟩;refine Ab (fun e=> ?_) fun e=> ?_
  ·have e:ok=false:=by simpa using e
   exact⟨by rw [hB,e];rfl,o.done⟩
  have e:ok=true:=by simpa using e
  rw [e]at hB eu;have eu:=eu.symm;rw [and_eq_true,and_eq_true,and_eq_true]at eu;obtain⟨hd,_,_,hmo⟩:=eu;have dw:=hd;unfold dm at dw;simp at dw;refine⟨_,_,_,fun u hu=>((ox.at 0 rfl).aP hu (by simp)).cell rfl,_,_,_,fun u hu=>((ox.at 1 rfl).aP hu (by simp)).cell rfl,_,fun u hu=>((ox.at 0 rfl).aP hu (by simp)).cell rfl,⟨by omega,by omega⟩,?_⟩;obtain⟨q,x,cs,hq,od,hc,hr⟩:=(f1.st st).elem (i:=p.bz) ⟨by omega,by omega⟩;obtain rfl:=Bs hr;rw [od]at hB;have hB:Pe c p=(true&&((p.vars.length:Int)==x.vars)&&(decide (J9 p=p)&&Mf c p p.mode.toNat)):=hB;refine Ae hq ⟨_,fun u hu=>(G0.held hc hu (by simp)) 3 (Nat.le_of_ble_eq_true rfl),Ab (fun e1=> ?_) fun e1=> ?_⟩
  ·refine⟨?_,o.done⟩;rw [hB,show((p.vars.length:Int)==x.vars)=false by simpa using e1];rfl
  rw [show((p.vars.length:Int)==x.vars)=true by simpa using e1]at hB;refine⟨_,_,_,_,_,_,_,_,_,_,_,_,_,_,_,fun u hu=>((ox.at 0 rfl).aP hu (by simp)).whole,_,_,_,_,_,_,_,_,_,_,_,_,_,_,_,fun u hu=>((ox.at 0 rfl).aP hu (by simp)).whole,?_⟩;refine Ac (Azj p (fun q=>q=J9 p) rfl _ w8 (o.mn hm) _ (Dc p ⟨cY,f3.st st⟩ ⟨dM,f4.st st⟩)) ?_;rintro _ w9 ⟨_,rfl,⟨qcs,rfl,hq⟩,iM⟩;obtain⟨a5,c5,a6,c6,rfl,⟨iE,f5⟩,⟨mv,f6⟩⟩:=A3 hq;obtain⟨s4,o⟩:=o.dE iM;have au:=st.trans s4;have bl:=Au7 p;have za:=F.va;have gV:=F.al;refine⟨_,_,_,_,_,_,_,_,_,_,_,_,_,_,_,rfl,iM,?_⟩;refine Ac (Axh (J9 p) p (by omega) (by omega) (fun r=>r=decide (J9 p=p)) rfl _ w9 (o.mn hm) _ (Dc _ ⟨iE,f5⟩ ⟨mv,f6⟩) _ (Dc p ⟨cY,f3.st au⟩ ⟨dM,f4.st au⟩)) ?_;rintro _ aK ⟨_,rfl,rfl,g_⟩;obtain⟨s5,o⟩:=o.dE g_;have aY:=au.trans s5;refine⟨_,rfl,iM.trans g_,Ab (fun e2=> ?_) fun e2=> ?_⟩
  ·refine⟨?_,o.done⟩;rw [hB,show decide (J9 p=p)=false by simpa using e2];rfl
  rw [show decide (J9 p=p)=true by simpa using e2]at hB;refine⟨_,_,_,_,_,_,_,_,_,_,_,fun u hu=>((ox.at 1 rfl).aP hu (by simp)).whole,_,_,_,_,_,_,_,_,_,_,_,_,_,_,_,fun u hu=>((ox.at 0 rfl).aP hu (by simp)).whole,_,fun u hu=>((ox.at 0 rfl).aP hu (by simp)).cell rfl,?_⟩;refine Axi F (by omega) (o.mn hm) _ _ (Aw c ⟨le,f.st aY⟩ ⟨bo,f1.st aY⟩ ⟨bw,f2.st aY⟩) (Dc p ⟨cY,f3.st aY⟩ ⟨dM,f4.st aY⟩) _ ?_;intro aF v0 v1 v2 v3 v4 v5 v6 tJ l0 l1 l2 l3 l4 l5 l6;refine⟨_,_,_,_,_,_,_,rfl,(iM.trans g_).trans tJ,?_⟩;have fin:∀(n:Nat) (v:Value),qt c p aF v n->p.mode=n->Ee Tryz.prog v #[] (fun iC bB=>∃jb,iC= .bool jb/\(!jb)=(!Pe c p)/\Ai [] w bB) aF:=by
   intro n v hl e3;refine Cm (hl aF (Ai.refl _ _)) ?_;rintro _ bB ⟨rfl,GH⟩;refine⟨_,rfl,?_,(o.done.trans tJ).trans GH⟩;rw [hB,e3,toNat_natCast];rfl
  refine Baw hmo ?_ ?_ ?_ ?_ ?_ ?_ ?_<;>intro e3
  ·exact fin 0 v0 l0 e3
  ·exact fin 1 v1 l1 e3
  ·exact fin 2 v2 l2 e3
  ·exact fin 3 v3 l3 e3
  ·exact fin 4 v4 l4 e3
  ·exact fin 5 v5 l5 e3
  ·exact fin 6 v6 l6 e3
 ·rintro _ bad aU ⟨rfl,hk⟩;cases hb:Pe c p
  ·rw [hb]at h;exact⟨(Kp aU 0).1,_,h,rfl,hk⟩
  ·rw [hb]at h;exact⟨(Kp aU 0).1,_,h,rfl,hk⟩
end
def pj (p:Ap):Bool:=cond (p.mode==1) true (p.mode==2)
def rP (p:Ap):Bool:=cond (!pj p&&(p.chan !=0)) true (cond (p.mode !=1&&(p.val !=0)) true (cond (p.mode !=2&&(p.slot !=0)) true (p.mode !=4&&(p.bT !=0))))
def rQ (p:Ap):Bool:=cond (!pj p&&(p.mode !=3&&(p.since !=0))) true (p.mode !=3&&decide ((p.alts.length:Int)>0))
theorem Axj (p:Ap):decide (J9 p=p)=(!rP p&& !rQ p):=by
 obtain⟨d,a,v,f,mo,ch,va,sl,un,si,al⟩:=p;have gV:decide ((al.length:Int)>0)= !decide ([]=al):=by cases al<;>simp
 unfold J9 rP rQ pj;rw [Bool.eq_iff_iff];simp only [gV];by_cases h1:mo=1
 ·subst h1;simp;constructor<;>(intro h;grind)
 by_cases h2:mo=2
 ·subst h2;simp;constructor<;>(intro h;grind)
 by_cases h3:mo=3
 ·subst h3;simp;constructor<;>(intro h;grind)
 by_cases h4:mo=4
 ·subst h4;simp;constructor<;>(intro h;grind)
 ·rw [show(mo==1)=false by simpa using h1,show(mo==2)=false by simpa using h2,show(mo==3)=false by simpa using h3,show(mo==4)=false by simpa using h4];simp [h1,h2,h3,h4];constructor<;>(intro h;grind)
section
variable {c:Ah} {p:Ap}
theorem Azk (F:wy c p) (d0:0<=p.bz) (a:F6) (K:Bool->Prop) (h:K (Lj c p a)):We c p a K:=by
 have dl:c.defs.length<=100000:=by have:=F.jv.n2;omega
 refine Ai0 _ _ _ _ (Zp c dl _ _ d0 _ ?_);unfold Lj at h;refine Ab (fun e=> ?_) fun e=> ?_
 ·have e:Md c p.bz a.goto=false:=by simpa using e
  rw [e]at h;cases h1:a.kind==1<;>cases h2:a.kind==2<;>cases h3:a.kind==3<;>simpa [h1,h2,h3] using h
 have e:Md c p.bz a.goto=true:=by simpa using e
 rw [e]at h;refine Ab (fun e1=> ?_) fun e1=>Ab (fun e2=> ?_) fun e2=>Ab (fun e3=> ?_) fun e3=> ?_
 ·rw [e1,cond_true,Bool.true_and]at h;refine Vk F.jv F.cl _ (Li _ _ _ ?_);refine Ab (fun e4=> ?_) fun e4=> ?_
  ·rw [show Me c a.chan=true from e4,Bool.true_and]at h;refine Li _ _ _ (Ab (fun e5=> ?_) fun e5=> ?_)
   ·rwa [show rO p a.slot=true from e5,Bool.true_and]at h
   ·rwa [show rO p a.slot=false from e5,Bool.false_and]at h
  ·rwa [show Me c a.chan=false from e4,Bool.false_and,Bool.false_and]at h
 ·rw [e1,e2,cond_false,cond_true,Bool.true_and]at h;refine Vk F.jv F.cl _ (Li _ _ _ ?_);refine Ab (fun e4=> ?_) fun e4=> ?_
  ·rwa [show Me c a.chan=true from e4,Bool.true_and]at h
  ·rwa [show Me c a.chan=false from e4,Bool.false_and]at h
 ·rw [e1,e2,e3,cond_false,cond_false,cond_true,Bool.true_and]at h;refine Li _ _ _ ?_;refine Ab (fun e4=> ?_) fun e4=> ?_
  ·rw [show dm a.val 1099511627776=true from e4,Bool.true_and]at h;refine Ab (fun e5=> ?_) fun e5=> ?_
   ·rwa [e5,Bool.true_and]at h
   ·rwa [e5,Bool.false_and]at h
  ·rwa [show dm a.val 1099511627776=false from e4,Bool.false_and]at h
 ·rwa [e1,e2,e3,cond_false,cond_false,cond_false]at h
def preB (c:Ah) (p:Ap):Bool:=dm p.bz ((c.defs.length:Int)-1)&&((match c.defs[p.bz.toNat]? with
 |some d=>(p.vars.length:Int)==d.vars|none=>false)&&(dm p.fuel 1048576&&dm p.since 1099511627776))
theorem Au9 (c:Ah) (p:Ap):Pe c p=(preB c p&&(!rP p&&(!rQ p&&(dm p.mode 6&&Mf c p p.mode.toNat)))):=by
 unfold Pe preB;rw [Axj];cases dm p.bz ((c.defs.length:Int)-1)<;>cases dm p.fuel 1048576<;>cases dm p.since 1099511627776<;>cases dm p.mode 6<;>(try simp [Bool.and_assoc])<;>try rfl
theorem Bbk (p:Ap) (J2:Bool->Prop) (h:J2 (rP p)):(cond (!pj p) (cond (p.chan !=0) (J2 true) (cond (p.mode !=1) (cond (p.val !=0) (J2 true) (cond (p.mode !=2) (cond (p.slot !=0) (J2 true) (cond (p.mode !=4) (J2 (p.bT !=0)) (J2 false))) (cond (p.mode !=4) (J2 (p.bT !=0)) (J2 false)))) (cond (p.mode !=2) (cond (p.slot !=0) (J2 true) (cond (p.mode !=4) (J2 (p.bT !=0)) (J2 false))) (cond (p.mode !=4) (J2 (p.bT !=0)) (J2 false))))) (cond (p.mode !=1) (cond (p.val !=0) (J2 true) (cond (p.mode !=2) (cond (p.slot !=0) (J2 true) (cond (p.mode !=4) (J2 (p.bT !=0)) (J2 false))) (cond (p.mode !=4) (J2 (p.bT !=0)) (J2 false)))) (cond (p.mode !=2) (cond (p.slot !=0) (J2 true) (cond (p.mode !=4) (J2 (p.bT !=0)) (J2 false))) (cond (p.mode !=4) (J2 (p.bT !=0)) (J2 false))))):=by
 unfold rP at h
 revert h
 generalize pj p=a;generalize (p.chan !=0)=b;generalize (p.mode !=1)=c;generalize (p.val !=0)=d;generalize (p.mode !=2)=e;generalize (p.slot !=0)=f;generalize (p.mode !=4)=g;generalize (p.bT !=0)=i;cases a<;>cases b<;>cases c<;>cases d<;>cases e<;>cases f<;>cases g<;>exact fun h=>h
theorem Bbl (p:Ap) (J3:Bool->Prop) (h:J3 (rQ p)):(cond (!pj p) (cond (p.mode !=3) (cond (p.since !=0) (J3 true) (cond (p.mode !=3) (J3 (decide ((p.alts.length:Int)>0))) (J3 false))) (cond (p.mode !=3) (J3 (decide ((p.alts.length:Int)>0))) (J3 false))) (cond (p.mode !=3) (J3 (decide ((p.alts.length:Int)>0))) (J3 false))):=by
 unfold rQ at h
 revert h
 generalize pj p=a;generalize (p.mode !=3)=b;generalize (p.since !=0)=c;cases a<;>cases b<;>cases c<;>exact fun h=>h
theorem Bax (F:wy c p) (K:Bool->Prop) (h:K (Pe c p)):CG c p K:=by
 have dl:c.defs.length<=100000:=by have:=F.jv.n2;omega
 rw [Au9]at h;refine Alv _ _ _ ⟨fun x=>x= !preB c p,?_,?_⟩
 ·unfold preB;refine Li _ _ _ (Ab (fun e=> ?_) fun e=> ?_)
  ·rw [show dm p.bz ((c.defs.length:Int)-1)=false by simpa using e];rfl
  have e:dm p.bz ((c.defs.length:Int)-1)=true:=by simpa using e
  have e':=e;unfold dm at e';simp at e';refine⟨⟨by omega,by omega⟩,fun x2 mB=> ?_⟩;rw [e,mB];refine Ab (fun e1=> ?_) fun e1=> ?_
  ·show true= !(true&&(((p.vars.length:Int)==x2.vars)&&_))
   rw [show((p.vars.length:Int)==x2.vars)=false by simpa using e1];rfl
  show Cg p.fuel 1048577 _
  refine Li _ _ _ ?_;simp only [];rw [show((p.vars.length:Int)==x2.vars)=true by simpa using e1];refine Ab (fun e2=> ?_) fun e2=> ?_
  ·rw [show dm p.fuel 1048576=false by simpa using e2];rfl
  rw [show dm p.fuel 1048576=true by simpa using e2];exact Li _ _ _ rfl
 rintro _ rfl;refine Ab (fun e=> ?_) fun e=> ?_
 ·rw [show preB c p=false by simpa using e]at h;exact h
 have e:preB c p=true:=by simpa using e
 rw [e,Bool.true_and]at h;have hd:0<=p.bz:=by
  unfold preB dm at e;simp only [and_eq_true,decide_eq_true_eq]at e;exact e.1.1
 refine⟨fun x=>x=pj p,?_,?_⟩
 ·unfold pj;cases (p.mode==1)<;>exact rfl
 rintro _ rfl;refine⟨fun x=>x=rP p,Bbk p (fun x=>x=rP p) rfl,?_⟩;rintro _ rfl;refine Ab (fun e2=>by rw [e2]at h;exact h) fun e2=> ?_
 rw [e2,Bool.not_false,Bool.true_and]at h;refine⟨fun x=>x=rQ p,Bbl p (fun x=>x=rQ p) rfl,?_⟩;rintro _ rfl;refine Ab (fun e3=>by rw [e3]at h;exact h) fun e3=> ?_
 rw [e3,Bool.not_false,Bool.true_and]at h;refine⟨fun x=>x=cond (p.mode==0) true (p.mode==6),?_,?_⟩
 ·cases h0:(p.mode==0)<;>exact rfl
 rintro _ rfl;refine Ab (fun e4=> ?_) fun e4=> ?_
 ·refine zj c dl _ _ _ _ ?_;rw [zi hd (by omega)];have hm:p.mode=0\/p.mode=6:=by
   cases h0:(p.mode==0)
   ·rw [h0,cond_false]at e4;exact .inr (by simpa using e4)
   ·exact .inl (by simpa using h0)
  rcases hm with hm|hm<;>(rw [hm]at h;exact h)
 have n0:p.mode≠0:=by intro e;rw [e]at e4;simp at e4
 have n6:p.mode≠6:=by intro e;rw [e]at e4;simp at e4
 refine Ab (fun m1=> ?_) fun m1=>Ab (fun m2=> ?_) fun m2=>Ab (fun m4=> ?_) fun m4=>Ab (fun m5=> ?_) fun m5=>Ab (fun m3=> ?_) fun m3=> ?_
 ·have m1:p.mode=1:=by simpa using m1
  rw [m1]at h;have h:K (Md c p.bz p.at_&&Me c p.chan):=h;refine Zp c dl _ _ hd _ (Ab (fun e5=> ?_) fun e5=>by rw [e5]at h;exact h);rw [e5,Bool.true_and]at h;exact Vk F.jv F.cl _ (Li _ _ _ h)
 ·have m2:p.mode=2:=by simpa using m2
  rw [m2]at h;have h:K (Md c p.bz p.at_&&(Me c p.chan&&rO p p.slot)):=h;refine Zp c dl _ _ hd _ (Ab (fun e5=> ?_) fun e5=>by rw [e5]at h;exact h);rw [e5,Bool.true_and]at h;refine Vk F.jv F.cl _ (Li _ _ _ (Ab (fun e6=> ?_) fun e6=> ?_))
  ·rw [show Me c p.chan=true from e6,Bool.true_and]at h;exact Li _ _ _ h
  ·rw [show Me c p.chan=false from e6,Bool.false_and]at h;exact h
 ·have m4:p.mode=4:=by simpa using m4
  rw [m4]at h;have h:K (Md c p.bz p.at_&&dm p.bT 1099511627776):=h;refine Zp c dl _ _ hd _ (Ab (fun e5=> ?_) fun e5=>by rw [e5]at h;exact h);rw [e5,Bool.true_and]at h;exact Li _ _ _ h
 ·have m5:p.mode=5:=by simpa using m5
  rw [m5]at h;exact h
 ·have m3:p.mode=3:=by simpa using m3
  rw [m3]at h;have h:K ((lE c p.bz p.at_==1)&& !p.alts.any (fun a=> !Lj c p a)):=h;have gV:=F.al;refine⟨fun i n=>At p.alts.length (fun k=>(p.alts.take k).any (fun a=> !Lj c p a)=false) i n,⟨_,At.start rfl⟩,?_⟩;rintro _ _ ⟨k,rfl,hk,rfl,he⟩;refine At.cond hk (fun hk=> ?_) fun hk=> ?_
  ·refine⟨fun b=>b= !Lj c p p.alts[k],Av hk (Azk F hd _ _ rfl),?_⟩;rintro _ rfl;refine Ab (fun e5=> ?_) fun e5=>At.next (by omega) hk ?_
   ·rw [show p.alts.any (fun a=> !Lj c p a)=true from List.any_eq_true.2 ⟨_,getElem_mem hk,e5⟩,Bool.not_true,Bool.and_false]at h;exact h
   ·rw [List.take_add_one,getElem?_eq_getElem hk,List.any_append,he];simpa using e5
  ·rw [hk,take_length]at he;rw [he,Bool.not_false,Bool.and_true]at h;refine zj c dl _ _ _ _ ?_;rw [zi hd (by omega)];exact h
 ·have:dm p.mode 6=false:=by
   unfold dm;simp at m1 m2 m3 m4 m5;simp;omega
  rw [this,Bool.false_and]at h;exact h
end
def tA (p:Ap) (l:List F6):List Int:=cond (p.mode==3) ((l.filter (·.kind==3)).map (·.val)) []
def Tp (p:Ap):List Int:=cond (p.mode==4) [p.bT] (tA p p.alts)
def Sb (r:Int×Bool) (v:Int):Int×Bool:=cond (!r.2||decide (v<r.1)) (v,true) r
def Zd (p:Ap):Int×Bool:=(Tp p).foldl Sb (0,false)
theorem UP (p:Ap):tA p []=[]:=by unfold tA;cases (p.mode==3)<;>rfl
theorem UQ (p:Ap) {l:List F6} {k:Nat} (h:k<l.length):tA p (l.take (k+1))=tA p (l.take k)++cond (p.mode==3&&(l[k].kind==3)) [l[k].val] []:=by
 unfold tA;rw [Xq _ h];cases (p.mode==3)
 ·rfl
 ·rw [cond_true,cond_true,Bool.true_and,List.map_append];cases (l[k].kind==3)<;>rfl
theorem UR (p:Ap) (l:List F6):(tA p l).length<=l.length:=by
 unfold tA;cases (p.mode==3)
 ·exact zero_le _
 ·rw [cond_true,List.length_map];exact List.length_filter_le _ _
theorem US (p:Ap) (al:p.alts.length<=100000) (K:Int->Bool->Prop) (h:K (Zd p).1 (Zd p).2):L7 p K:=by
 unfold Zd Tp at h;refine Ach _ _ (Ab (fun e=>by rw [e]at h;exact h) fun e=> ?_);rw [e,cond_false]at h;refine⟨fun a b i n=>At p.alts.length (fun k=>(a,b)=(tA p (p.alts.take k)).foldl Sb (0,false)) i n,⟨_,At.start (by rw [List.take_zero,UP];rfl)⟩,?_⟩;rintro a b _ _ ⟨k,rfl,hk,rfl,he⟩;refine At.cond hk (fun hk=> ?_) fun hk=> ?_
 ·refine⟨fun a' b'=>(a',b')=(tA p (p.alts.take (k+1))).foldl Sb (0,false),Av hk ?_,fun a' b' kS=>At.next (by omega) hk kS⟩;refine⟨fun x=>x=(p.mode==3&&(p.alts[k].kind==3&&(!b||decide (p.alts[k].val<a)))),?_,?_⟩
  ·refine Ab (fun e1=> ?_) fun e1=>by rw [e1];rfl
   rw [e1];refine Ab (fun e2=> ?_) fun e2=>by rw [e2];rfl
   rw [e2];cases b<;>exact rfl
  ·rintro _ rfl;rw [UQ p hk,List.foldl_append,←he];cases (p.mode==3)
   ·exact rfl
   cases (p.alts[k].kind==3)
   ·exact rfl
   show cond (!b||decide (p.alts[k].val<a)) _ _
   refine Ab (fun e3=> ?_) fun e3=> ?_
   ·show(p.alts[k].val,true)=Sb (a,b) p.alts[k].val
    unfold Sb;simp only [e3,cond_true]
   ·show(a,b)=Sb (a,b) p.alts[k].val
    unfold Sb;simp only [e3,cond_false]
 ·rw [hk,take_length]at he;rw [←he]at h;exact h
theorem Axk (p:Ap) (al:p.alts.length<=100000) (K:List Int->Prop) (h:K (Tp p)):Qn p K:=by
 unfold Tp at h;refine Ab1 _ _ ⟨fun l=>l=cond (p.mode==4) [p.bT] [],?_,?_⟩
 ·refine Ab (fun e=> ?_) fun e=>by rw [e];rfl
  rw [e];exact⟨by show 0+1<2^32;omega,rfl⟩
 rintro _ rfl;refine⟨fun l i n=>At p.alts.length (fun k=>l=cond (p.mode==4) [p.bT] []++tA p (p.alts.take k)) i n,⟨_,At.start (by rw [List.take_zero,UP,append_nil])⟩,?_⟩;rintro l _ _ ⟨k,rfl,hk,rfl,he⟩;have hlen:l.length<=1+k:=by
  rw [he,length_append];have:=UR p (p.alts.take k);rw [length_take]at this;cases (p.mode==4)<;>simp<;>omega
 refine⟨fun x=>x=(decide ((k:Int)<(p.alts.length:Int))&&(p.mode==3)),?_,?_⟩
 ·cases decide ((k:Int)<(p.alts.length:Int))<;>exact rfl
 rintro _ rfl;refine Ab (fun e=> ?_) fun e=> ?_
 ·rw [and_eq_true,decide_eq_true_eq]at e;obtain⟨tV,e3⟩:=e;have hk:k<p.alts.length:=by omega
  refine⟨fun l'=>l'=cond (p.mode==4) [p.bT] []++tA p (p.alts.take (k+1)),Av hk ?_,fun l' kS=>At.next (by omega) hk kS⟩;rw [UQ p hk,←List.append_assoc,←he,e3,Bool.true_and];refine Ab (fun e4=>Av hk ⟨by show l.length+1<2^32;omega,?_⟩) fun e4=> ?_
  ·rw [e4];rfl
  ·rw [e4];exact(append_nil _).symm
 ·have mK:l=cond (p.mode==4) [p.bT] (tA p p.alts):=by
   rw [he];cases h3:(p.mode==3)
   ·have:∀q,tA p q=[]:=fun q=>by unfold tA;rw [h3];rfl
    rw [this,this];cases (p.mode==4)<;>rfl
   ·rw [h3,Bool.and_true,decide_eq_false_iff_not]at e;have:k=p.alts.length:=by omega
    rw [this,take_length];have:(p.mode==4)=false:=by
     simp at h3⊢;omega
    rw [this];rfl
  rw [←mK]at h;exact h
theorem UT (x:Int):∀(l:List Int),l.foldl Sb (x,true)=(l.foldl (fun a v=>if v<a then v else a) x,true)
 |[]=>rfl
 |v::l=>by
  rw [List.foldl_cons,List.foldl_cons,←UT _ l];congr 1;unfold Sb;by_cases hc:v<x
  ·rw [if_pos hc,decide_eq_true hc];rfl
  ·rw [if_neg hc,decide_eq_false hc];rfl
theorem UU (p:Ap) (al:p.alts.length<=100000) (K:Dq->Prop) (h:K ⟨(Zd p).1,(Zd p).2⟩):Ri p K:=by
 have hl:(Tp p).length<=100001:=by
  unfold Tp;have:=UR p p.alts;cases (p.mode==4)
  ·rw [cond_false];omega
  ·exact Nat.le_of_ble_eq_true rfl
 refine Aiy _ _ (Axk p al _ ?_);unfold Zd at h;cases ht:Tp p with
 |nil=>rw [ht]at h;exact h
 |cons x l=>
  rw [ht]at h hl;rw [List.foldl_cons,show Sb (0,false) x=(x,true) from rfl,UT]at h;have bZ:(((x::l).length:Int)==0)=false:=by simp;omega
  rw [bZ,cond_false];refine⟨⟨by omega,by rw [length_cons];omega⟩,fun x' kA=> ?_⟩;cases kA
  refine⟨fun i a b n=>∃k:Nat,i=((k+1:Nat):Int)/\k<=l.length/\n=l.length-k/\a=(l.take k).foldl (fun a v=>if v<a then v else a) x/\b=true,⟨_,0,rfl,zero_le _,rfl,rfl,rfl⟩,?_⟩;rintro _ _ _ _ ⟨k,rfl,hk,rfl,rfl,rfl⟩;refine Ab (fun hc=> ?_) fun hc=> ?_
  ·have hk:k<l.length:=by
    have:=of_decide_eq_true hc;rw [length_cons]at this;omega
   refine⟨fun a b=>a=(l.take (k+1)).foldl (fun a v=>if v<a then v else a) x/\b=true,⟨⟨by omega,by rw [length_cons];omega⟩,fun x1 ph=> ?_⟩,?_⟩
   ·rw [toNat_natCast,List.getElem?_cons_succ,getElem?_eq_getElem hk]at ph;cases ph
    rw [E8 hk,List.foldl_append];exact⟨rfl,rfl⟩
   ·rintro _ _ ⟨rfl,rfl⟩;rw [length_cons]at hl;exact⟨l.length-(k+1),by omega,k+1,by rw [A0 (by omega) (by omega)];omega,by omega,rfl,rfl,rfl⟩
  ·have hk:k=l.length:=by
    have:=of_decide_eq_false hc;rw [length_cons]at this;omega
   rw [hk,take_length];exact h
theorem Wz {α:Type} (l:List α) (hl:l.length<=100000) (p:α->Bool) (V:α->(Bool->Prop)->Prop) (hV:∀x∈l,∀K,K (p x)->V x K) (K:Int->Prop) (h1:∀(i:Nat) (hi:i<l.length),p l[i]=true->(∀(j:Nat) (hj:j<i),p (l[j]'(by omega))=false)->K i) (h2:(∀x∈l,p x=false)->K (-1)): ∃(I:Int->Nat->Prop),(∃n,I 0 n)/\∀(x:Int) (n:Nat),I x n->cond (decide (x<(l.length:Int))) (((0:Int)<=x/\x<(l.length:Int))/\∀x1,l[x.toNat]? =some x1->V x1 (fun x2=>cond x2 (K x) (∃n1,n1<n/\I (IntKind.i64.wrap (x+1)) n1))) (K (-1)):=by
 refine⟨fun i n=>At l.length (fun k=>∀(j:Nat) (hj:j<l.length),j<k->p l[j]=false) i n,⟨_,At.start (fun j _ h=>absurd h (Nat.not_lt_zero _))⟩,?_⟩;rintro _ _ ⟨k,rfl,hk,rfl,he⟩;refine At.cond hk (fun hk=>Av hk (hV _ (getElem_mem hk) _ (Ab (fun hp=> ?_) fun hp=> ?_))) fun hk=> ?_
 ·exact h1 k hk hp fun j hj=>he j (by omega) hj
 ·refine At.next (by omega) hk fun j hj aO=> ?_
  by_cases e:j=k
  ·subst e;exact hp
  ·exact he j hj (by omega)
 ·refine h2 fun x hx=> ?_
  obtain⟨j,hj,rfl⟩:=List.mem_iff_getElem.1 hx;exact he j hj (by omega)
def W4 (p:Ap):Bool:=(Zd p).2
def Pl (l:List Ap):Prop:=l.length<=100/\∀p∈l,p.vars.length<=40/\p.alts.length<=40
theorem Axl {l:List Ap} (F:Pl l) (K:Bool->Prop) (h:K (l.any W4)):Mp l K:=by
 refine Ws _ _ (C1 _ _ (Dm _ _ ?_));obtain⟨g1,g2⟩:=FO h;have:=F.1;exact Wz l (by omega) W4 _ (fun x hx K hK=>Tf _ _ (US x (by have:=(F.2 x hx).2;omega) _ hK)) _ (fun i hi hp _=>g1 i hi hp) g2
def Xy (l:List Ap):Int:=match l.findIdx? (·.mode==6)with
 |some i=>i|none=> -1
theorem UW (s:Ay) (F:Pl s.procs) (K:Int->Prop) (h:K (Xy s.procs)):F7 s K:=by
 refine Rt _ _ (C2 _ _ ?_);have:=F.1;refine Wz s.procs (by omega) (·.mode==6) _ (fun x _ K hK=>Pn _ _ hK) _ (fun i hi hp hn=> ?_) fun hn=> ?_
 ·have:s.procs.findIdx? (·.mode==6)=some i:=List.findIdx?_eq_some_iff_getElem.2 ⟨hi,hp,fun j hj=>by simpa using hn j hj⟩;unfold Xy at h;rw [this]at h;exact h
 ·have:s.procs.findIdx? (·.mode==6)=none:=List.findIdx?_eq_none_iff.2 fun x hx=>hn x hx
  unfold Xy at h;rw [this]at h;exact h
def jj:List Ap->Nat->List Int
 |[],_=>[]|p::l,i=>cond (p.mode==0) ((i:Int)::jj l (i+1)) (jj l (i+1))
theorem UX (x:Ap):∀(l:List Ap) (i:Nat),jj (l++[x]) i=jj l i++cond (x.mode==0) [((i+l.length:Nat):Int)] []
 |[],i=>by cases h:(x.mode==0)<;>simp [jj,h]
 |p::l,i=>by
  show cond (p.mode==0) ((i:Int)::jj (l++[x]) (i+1)) (jj (l++[x]) (i+1))=cond (p.mode==0) ((i:Int)::jj l (i+1)) (jj l (i+1))++_
  rw [UX x l (i+1),show i+1+l.length=i+(p::l).length by rw [length_cons];omega];cases (p.mode==0)<;>rfl
theorem Zr:∀(l:List Ap) (i:Nat),(jj l i).length<=l.length
 |[],_=>le_refl _
 |p::l,i=>by
  have:=Zr l (i+1);show(cond (p.mode==0) ((i:Int)::jj l (i+1)) (jj l (i+1))).length<=_
  cases (p.mode==0)<;>simp<;>omega
theorem UY {l:List Ap} {k:Nat} (h:k<l.length):jj (l.take (k+1)) 0=jj (l.take k) 0++cond (l[k].mode==0) [(k:Int)] []:=by
 rw [E8 h,UX,length_take,Nat.min_eq_left (by omega),Nat.zero_add]
def H3 (s:Ay):List Int:=jj s.procs 0++cond (decide (s.now<1099511627776)&&s.procs.any W4) [-1] []
theorem UZ (s:Ay) (F:Pl s.procs) (K:List Int->Prop) (h:K (H3 s)):Gy s K:=by
 have hl:=F.1;refine Te _ _ ⟨fun out i n=>At s.procs.length (fun k=>out=jj (s.procs.take k) 0) i n,⟨_,At.start rfl⟩,?_⟩;rintro out _ _ ⟨k,rfl,hk,rfl,he⟩;have hlen:out.length<=k:=by
  rw [he];have:=Zr (s.procs.take k) 0;rw [length_take]at this;omega
 refine At.cond hk (fun hk=> ?_) fun hk=> ?_
 ·refine⟨fun out=>out=jj (s.procs.take (k+1)) 0,Av hk ?_,fun _ he=>At.next (by omega) hk he⟩;rw [UY hk,←he];refine Ab (fun e=>⟨by show out.length+1<2^32;omega,by rw [e];rfl⟩) fun e=>by rw [e];exact(append_nil _).symm
 ·rw [hk,take_length]at he;refine⟨fun b=>b=(decide (s.now<1099511627776)&&s.procs.any W4),?_,?_⟩
  ·refine Ab (fun e=>Axl F _ (by rw [e];rfl)) fun e=>by rw [e];rfl
  rintro _ rfl;unfold H3 at h;rw [←he]at h;refine Ab (fun e=>⟨by show out.length+1<2^32;omega,by rw [e]at h;exact h⟩) fun e=>by rw [e,cond_false,append_nil]at h;exact h
theorem U_ (s:Ay) (F:Pl s.procs) (K:List Int->Prop) (h:K (H3 s)):Qm s K:=by
 have hl:=F.1;refine Abz _ _ ⟨fun out wa i n=>At s.procs.length (fun k=>out=jj (s.procs.take k) 0/\wa=(s.procs.take k).any W4) i n,⟨_,At.start ⟨rfl,rfl⟩⟩,?_⟩;rintro out wa _ _ ⟨k,rfl,hk,rfl,he,hw⟩;have hlen:out.length<=k:=by
  rw [he];have:=Zr (s.procs.take k) 0;rw [length_take]at this;omega
 refine At.cond hk (fun hk=> ?_) fun hk=> ?_
 ·refine⟨fun out wa=>out=jj (s.procs.take (k+1)) 0/\wa=(s.procs.take (k+1)).any W4,⟨fun out=>out=jj (s.procs.take (k+1)) 0,Av hk ?_,?_⟩,fun _ _ he=>At.next (by omega) hk he⟩
  ·rw [UY hk,←he];refine Ab (fun e=>⟨by show out.length+1<2^32;omega,by rw [e];rfl⟩) fun e=>by rw [e];exact(append_nil _).symm
  ·rintro _ rfl;rw [E8 hk,List.any_append,←hw];refine Ab (fun e=>⟨rfl,by rw [e];rfl⟩) fun e=>Av hk (UU _ (by have:=(F.2 _ (getElem_mem hk)).2;omega) _ ⟨rfl,?_⟩)
   rw [e];show W4 _=(false||(W4 _||false))
   rw [Bool.or_false,Bool.false_or]
 ·rw [hk,take_length]at he hw;refine⟨fun b=>b=(decide (s.now<1099511627776)&&s.procs.any W4),?_,?_⟩
  ·rw [←hw];cases wa
   ·exact(Bool.and_false _).symm
   ·exact(Bool.and_true _).symm
  rintro _ rfl;unfold H3 at h;rw [←he]at h;refine Ab (fun e=>⟨by show out.length+1<2^32;omega,by rw [e]at h;exact h⟩) fun e=>by rw [e,cond_false,append_nil]at h;exact h
def Fm (l:List Ap) (mode:Int):Nat:=(l.filter (·.mode==mode)).length
theorem VA {l:List Ap} {k:Nat} (mode:Int) (h:k<l.length):Fm (l.take (k+1)) mode=Fm (l.take k) mode+cond (l[k].mode==mode) 1 0:=by
 unfold Fm;rw [Xq _ h,length_append];cases (l[k].mode==mode)<;>rfl
theorem VB (l:List Ap) (mode:Int):Fm l mode<=l.length:=List.length_filter_le _ _
theorem GI (s:Ay) (F:Pl s.procs) (mode:Int) (K:Int->Prop) (h:K (Fm s.procs mode:Nat)):Jl s mode K:=by
 have hl:=F.1;refine Ab0 _ _ _ ⟨fun c i n=>At s.procs.length (fun k=>c=(Fm (s.procs.take k) mode:Nat)) i n,⟨_,At.start rfl⟩,?_⟩;rintro _ _ _ ⟨k,rfl,hk,rfl,rfl⟩;refine At.cond hk (fun hk=> ?_) fun hk=> ?_
 ·refine⟨fun c=>c=(Fm (s.procs.take (k+1)) mode:Nat),Av hk ?_,fun _ he=>At.next (by omega) hk he⟩;have:=VB (s.procs.take k) mode;rw [length_take]at this;rw [VA mode hk,A0 (by omega) (by omega)];refine Ab (fun e=>by rw [e];rfl) fun e=>by rw [e];rfl
 ·rw [hk,take_length];exact h
def Sc (s:Ay):Int:=cond (decide (Fm s.procs 6>0)) 3 (cond (decide ((H3 s).length>0)) 0 (cond (s.procs.any fun p=>p.mode !=5) 2 1))
theorem Ave (l:List Ap):decide (Xy l>=0)=decide (Fm l 6>0):=by
 unfold Xy Fm;cases h:l.findIdx? (·.mode==6)with
 |some i=>
  obtain⟨hi,hp,_⟩:=List.findIdx?_eq_some_iff_getElem.1 h;have:0<(l.filter (·.mode==6)).length:=List.length_pos_of_mem (List.mem_filter.2 ⟨getElem_mem hi,hp⟩);simp only;rw [decide_eq_true (by omega),decide_eq_true (by omega)]
 |none=>
  have:l.filter (·.mode==6)=[]:=List.filter_eq_nil_iff.2 fun x hx=>by have:=List.findIdx?_eq_none_iff.1 h x hx;simpa using this
  rw [this];rfl
theorem Avf (l:List Ap):((Fm l 5:Int)==(l.length:Int))= !l.any fun p=>p.mode !=5:=by
 unfold Fm;have:(l.filter (·.mode==5)).length=l.length↔∀x∈l,(x.mode==5)=true:=List.length_filter_eq_length_iff;rw [Bool.eq_iff_iff,beq_iff_eq,Int.natCast_inj,this,Bool.not_eq_true',List.any_eq_false];simp
theorem Axm (s:Ay) (F:Pl s.procs) (K:Ay->Prop) (h:K ⟨s.now,s.since,Sc s,s.fault,s.who,s.procs,s.out⟩):Ju s K:=by
 refine Td _ _ ⟨fun a b c d e f g=>(⟨a,b,c,d,e,f,g⟩:Ay)=⟨s.now,s.since,Sc s,s.fault,s.who,s.procs,s.out⟩,?_,fun _ _ _ _ _ _ _ e=>by rw [e];exact h⟩;refine UW s F _ ?_;rw [Ave];unfold Sc;refine Ab (fun e=>by rw [e];rfl) fun e=>UZ s F _ ?_
 rw [e,cond_false,show decide (((H3 s).length:Int)>0)=decide ((H3 s).length>0) by simp];refine Ab (fun e=>by rw [e];rfl) fun e=> ?_
 rw [e,cond_false];refine Cs _ _ (C4 _ _ ?_);have:=F.1;obtain⟨g1,g2⟩:=FO (l:=s.procs) (p:=fun p=>p.mode !=5) (K:=fun x2=>cond (!x2) ((⟨s.now,s.since,1,s.fault,s.who,s.procs,s.out⟩:Ay)=⟨s.now,s.since,cond (s.procs.any fun p=>p.mode !=5) 2 1,s.fault,s.who,s.procs,s.out⟩) ((⟨s.now,s.since,2,s.fault,s.who,s.procs,s.out⟩:Ay)=⟨s.now,s.since,cond (s.procs.any fun p=>p.mode !=5) 2 1,s.fault,s.who,s.procs,s.out⟩)) (by
  cases s.procs.any fun p=>p.mode !=5<;>exact rfl)
 exact Wz s.procs (by omega) (fun p=>p.mode !=5) _ (fun x _ K hK=>Qt _ _ hK) _ (fun i hi hp _=>g1 i hi hp) g2
theorem Axn (s:Ay) (F:Pl s.procs) (K:Int->Prop) (h:K (Sc s)):Ta s K:=by
 refine Ad7 _ _ (GI s F 6 _ ?_);unfold Sc at h;rw [show decide (((Fm s.procs 6:Nat):Int)>0)=decide (Fm s.procs 6>0) by simp];refine Ab (fun e=>by rw [e]at h;exact h) fun e=>U_ s F _ ?_
 rw [e,cond_false]at h;rw [show decide (((H3 s).length:Int)>0)=decide ((H3 s).length>0) by simp];refine Ab (fun e=>by rw [e]at h;exact h) fun e=> ?_
 rw [e,cond_false]at h;refine⟨fun b=>b= !s.procs.any fun p=>p.mode !=5,GI s F 5 _ (Avf _),?_⟩;rintro _ rfl;cases ha:s.procs.any fun p=>p.mode !=5
 ·rw [ha]at h;exact h
 ·rw [ha]at h;exact h
def tK:Option Ap->Bool
 |some x=>x.mode==6|none=>false
def pk (d:Int):Option Ap->Bool
 |some x=>x.bz==d|none=>false
def pn (l:List Ap) (who:Int):Bool:=decide (0<=who)&&tK l[who.toNat]?
theorem Avg {l:List Ap} {who:Int} (h:Fm l 6=1):(who==Xy l)=pn l who:=by
 cases hf:l.findIdx? (·.mode==6)with
 |none=>
  have:l.filter (·.mode==6)=[]:=List.filter_eq_nil_iff.2 fun x hx=>by have:=List.findIdx?_eq_none_iff.1 hf x hx;simpa using this
  unfold Fm at h;rw [this]at h;cases h
 |some i=>
  obtain⟨hi,hp,Brq⟩:=List.findIdx?_eq_some_iff_getElem.1 hf;have hF:Xy l=i:=by unfold Xy;rw [hf]
  rw [hF,Bool.eq_iff_iff,beq_iff_eq];unfold pn;rw [and_eq_true,decide_eq_true_eq];constructor
  ·rintro rfl;refine⟨by omega,?_⟩;rw [toNat_natCast,getElem?_eq_getElem hi];exact hp
  ·rintro⟨h0,hx⟩;obtain⟨j,rfl⟩:∃j:Nat,who=j:=⟨who.toNat,by omega⟩
   rw [toNat_natCast]at hx;by_cases hj:j<l.length
   ·rw [getElem?_eq_getElem hj]at hx;have hx:(l[j].mode==6)=true:=hx;rcases Nat.lt_trichotomy j i with aO|rfl|hgt
    ·exact absurd hx (by simpa using Brq j aO)
    ·rfl
    ·have h1:0<((l.take j).filter (·.mode==6)).length:=List.length_pos_of_mem (List.mem_filter.2 ⟨List.mem_iff_getElem.2 ⟨i,by rw [length_take];omega,by rw [List.getElem_take]⟩,hp⟩);have h2:0<((l.drop j).filter (·.mode==6)).length:=List.length_pos_of_mem (List.mem_filter.2 ⟨List.mem_iff_getElem.2 ⟨0,by rw [List.length_drop];omega,by rw [List.getElem_drop];rfl⟩,hx⟩);unfold Fm at h;rw [←List.take_append_drop j l,List.filter_append,length_append]at h;omega
   ·rw [List.getElem?_eq_none (by omega)]at hx;cases hx
def po (c:Ah) (s:Ay):Bool:=decide (1<=s.procs.length)&&(decide (s.procs.length<=16)&&(pk c.main s.procs[0]? &&(dm s.now 1099511627776&&dm s.since 1099511627776)))
def pB (c:Ah) (s:Ay) (p:Ap):Bool:=Pe c p&&(decide (p.since<=s.since)&& !(W4 p&&decide ((Zd p).1<=s.now)))
def fB (s:Ay):Bool:=cond (Fm s.procs 6==0) ((s.fault==0)&&(s.who==0)) (cond (Fm s.procs 6==1) (pn s.procs s.who&&(decide (1<=s.fault)&&decide (s.fault<=7))) false)
def H4 (c:Ah) (s:Ay):Bool:=po c s&&(s.procs.all (pB c s)&&(fB s&&(s.halt==Sc s)))
structure SF (c:Ah) (s:Ay):Prop where
 jv:ir c
 cl:c.af.length<=100000
 sm:zl s
section
variable {c:Ah} {s:Ay}
theorem SF.pl (F:SF c s):Pl s.procs:=⟨by have:=F.sm.procs;omega,F.sm.each⟩
theorem SF.pc (F:SF c s) {p:Ap} (h:p∈s.procs):wy c p:=⟨F.jv,F.cl,by have:=F.sm.each p h;omega,by have:=F.sm.each p h;omega⟩
theorem VC {l:List Ap} {k:Nat} (f:Ap->Bool) (h:k<l.length):(l.take (k+1)).all f=((l.take k).all f&&f l[k]):=by
 rw [E8 h,List.all_append];simp
theorem VD {l:List Ap} {k:Nat} {f:Ap->Bool} (h:k<l.length) (hf:f l[k]=false):l.all f=false:=by
 cases e:l.all f
 ·rfl
 ·have:=List.all_eq_true.1 e _ (getElem_mem h);rw [hf]at this;cases this
theorem VE (mx:Be) (F:SF mx.c s) (K:Int->Prop) (h:K (cond (H4 mx.c s) 0 9)):Ev mx s K:=by
 have hn:=F.sm.procs;unfold H4 at h;refine K8 _ _ _ ⟨fun b=>b= !po mx.c s,?_,?_⟩
 ·unfold po;refine Ab (fun e=> ?_) fun e=>Ab (fun e1=> ?_) fun e1=> ?_
  ·rw [decide_eq_false (by have:=of_decide_eq_true e;omega)];rfl
  ·rw [decide_eq_false (p:=s.procs.length<=16) (by have:=of_decide_eq_true e1;omega)];simp
  have e:=of_decide_eq_false e;have e1:=of_decide_eq_false e1;rw [decide_eq_true (p:=1<=s.procs.length) (by omega),decide_eq_true (p:=s.procs.length<=16) (by omega)];refine⟨⟨by omega,by omega⟩,fun x1 hx=> ?_⟩;rw [hx];refine Ab (fun e2=> ?_) fun e2=> ?_
  ·rw [show pk mx.c.main (some x1)=false by unfold pk;simpa using e2];rfl
  rw [show pk mx.c.main (some x1)=true by unfold pk;simpa using e2];unfold dm;refine Ab (fun e3=> ?_) fun e3=>Ab (fun e4=> ?_) fun e4=>Ab (fun e5=> ?_) fun e5=> ?_
  ·have:=of_decide_eq_true e3;simp;omega
  ·have:=of_decide_eq_true e4;simp;omega
  ·have:=of_decide_eq_true e5;simp;omega
  ·have:=of_decide_eq_false e3;have:=of_decide_eq_false e4;have:=of_decide_eq_false e5;show decide (s.since>1099511627776)=_
   rw [Bool.eq_iff_iff];simp;omega
 rintro _ rfl;refine Ab (fun e=>by rw [show po mx.c s=false by simpa using e]at h;exact h) fun e=> ?_
 rw [show po mx.c s=true by simpa using e,Bool.true_and]at h;refine⟨fun fa i n=>At s.procs.length (fun k=>fa=(Fm (s.procs.take k) 6:Nat)/\(s.procs.take k).all (pB mx.c s)=true) i n,⟨_,At.start ⟨rfl,rfl⟩⟩,?_⟩;rintro _ _ _ ⟨k,rfl,hk,rfl,rfl,ha⟩;refine At.cond hk (fun hk=> ?_) fun hk=> ?_
 ·refine⟨fun fa=>fa=(Fm (s.procs.take (k+1)) 6:Nat)/\(s.procs.take (k+1)).all (pB mx.c s)=true,Av hk ?_,fun _ he=>At.next (by omega) hk he⟩;refine US _ (by have:=(F.sm.each _ (getElem_mem hk)).2;omega) _ ⟨fun b=>b= !pB mx.c s s.procs[k],?_,?_⟩
  ·refine Au8 (F.pc (getElem_mem hk)) _ ?_;unfold pB;cases Pe mx.c s.procs[k]
   ·exact rfl
   refine Eb rfl (Ab (fun e1=> ?_) fun e1=> ?_)
   ·rw [decide_eq_false (p:=s.procs[k].since<=s.since) (by have:=of_decide_eq_true e1;omega)];rfl
   rw [decide_eq_true (p:=s.procs[k].since<=s.since) (by have:=of_decide_eq_false e1;omega)];show cond (Zd _).2 _ _
   unfold W4;cases (Zd s.procs[k]).2
   ·exact rfl
   ·show _= !(true&&(true&& !(true&&_)))
    simp
  rintro _ rfl;refine Ab (fun e1=> ?_) fun e1=> ?_
  ·rw [VD hk (by simpa using e1),Bool.false_and]at h;exact h
  have hl:((s.procs.take (k+1)).all (pB mx.c s))=true:=by rw [VC _ hk,ha];simpa using e1
  have:=VB (s.procs.take k) 6;rw [length_take]at this;rw [VA 6 hk,A0 (by omega) (by omega)];refine Ab (fun e=>by rw [e];exact⟨rfl,hl⟩) fun e=>by rw [e];exact⟨rfl,hl⟩
 ·rw [hk,take_length]at ha⊢;rw [ha,Bool.true_and]at h;refine⟨fun b=>b=((s.fault==0)&&(s.who==0)),?_,?_⟩
  ·cases (s.fault==0)<;>exact rfl
  rintro _ rfl;have wz:(fB s=cond (((Fm s.procs 6:Nat):Int)==1) (pn s.procs s.who&&(decide (1<=s.fault)&&decide (s.fault<=7))) ((s.fault==0)&&(s.who==0))/\decide (((Fm s.procs 6:Nat):Int)>1)=false)\/(fB s=false/\decide (((Fm s.procs 6:Nat):Int)>1)=true):=by
   unfold fB;rcases Nat.lt_trichotomy (Fm s.procs 6) 1 with hc|hc|hc
   ·rw [show Fm s.procs 6=0 by omega];exact .inl ⟨rfl,rfl⟩
   ·rw [hc];exact .inl ⟨rfl,rfl⟩
   ·refine .inr ⟨?_,decide_eq_true (by omega)⟩;rw [show(Fm s.procs 6==0)=false by simp;omega,show(Fm s.procs 6==1)=false by simp;omega];rfl
  refine⟨fun b=>b=cond (((Fm s.procs 6:Nat):Int)==1) (pn s.procs s.who&&(decide (1<=s.fault)&&decide (s.fault<=7))) ((s.fault==0)&&(s.who==0)),?_,?_⟩
  ·refine Ab (fun e1=>UW s F.pl _ ?_) fun e1=>by rw [e1];rfl
   rw [e1,cond_true,Avg (by have:=of_decide_eq_true (p:=((Fm s.procs 6:Nat):Int)=1) (by simpa using e1);omega)];refine Ab (fun e2=> ?_) fun e2=>by rw [e2];rfl
   rw [e2,Bool.true_and];refine Ab (fun e3=> ?_) fun e3=> ?_
   ·rw [decide_eq_true (p:=1<=s.fault) (of_decide_eq_true e3)];rfl
   ·rw [decide_eq_false (p:=1<=s.fault) (of_decide_eq_false e3)];rfl
  rintro _ rfl;refine⟨fun b=>b= !(fB s&&(s.halt==Sc s)),?_,?_⟩
  ·rcases wz with⟨wz,hc⟩|⟨wz,hc⟩
   ·rw [←wz,hc];cases fB s
    ·exact rfl
    ·exact Axm s F.pl _ rfl
   ·rw [wz,hc];exact Ab (fun _=>rfl) fun _=>rfl
  rintro _ rfl;cases hb:(fB s&&(s.halt==Sc s))
  ·rw [hb]at h;exact h
  ·rw [hb]at h;exact h
theorem VF (n:Int) (K:Bool->Prop) (h:K (dm n 1099511627776)):On n K:=by
 unfold dm at h;refine Ad5 _ _ ?_;unfold Uu;exact h
theorem Axo (F:SF c s) (K:Bool->Prop) (h:K (H4 c s)):OJ c s K:=by
 have hn:=F.sm.procs;unfold H4 at h;refine Als _ _ _ ⟨fun b=>b= !po c s,?_,?_⟩
 ·unfold po;refine Ab (fun e=> ?_) fun e=>Ab (fun e1=> ?_) fun e1=> ?_
  ·rw [decide_eq_false (by have:=of_decide_eq_true e;omega)];rfl
  ·rw [decide_eq_false (p:=s.procs.length<=16) (by have:=of_decide_eq_true e1;omega)];simp
  have e:=of_decide_eq_false e;have e1:=of_decide_eq_false e1;rw [decide_eq_true (p:=1<=s.procs.length) (by omega),decide_eq_true (p:=s.procs.length<=16) (by omega)];refine⟨⟨by omega,by omega⟩,fun x1 hx=> ?_⟩;rw [hx];refine Ab (fun e2=> ?_) fun e2=> ?_
  ·rw [show pk c.main (some x1)=false by unfold pk;simpa using e2];rfl
  rw [show pk c.main (some x1)=true by unfold pk;simpa using e2];refine VF _ _ (Ab (fun e3=> ?_) fun e3=>VF _ _ ?_)
  ·rw [show dm s.now 1099511627776=false by simpa using e3];rfl
  ·rw [show dm s.now 1099511627776=true by simpa using e3];rfl
 rintro _ rfl;refine Ab (fun e=>by rw [show po c s=false by simpa using e]at h;exact h) fun e=> ?_
 rw [show po c s=true by simpa using e,Bool.true_and]at h;refine⟨fun i n=>At s.procs.length (fun k=>(s.procs.take k).all (pB c s)=true) i n,⟨_,At.start rfl⟩,?_⟩;rintro _ _ ⟨k,rfl,hk,rfl,ha⟩;refine At.cond hk (fun hk=>Av hk ?_) fun hk=> ?_
 ·refine UU _ (by have:=(F.sm.each _ (getElem_mem hk)).2;omega) _ ⟨fun b=>b= !pB c s s.procs[k],Av hk (Bax (F.pc (getElem_mem hk)) _ ?_),?_⟩
  ·unfold pB;cases Pe c s.procs[k]
   ·exact rfl
   refine Av hk (Ab (fun e1=> ?_) fun e1=> ?_)
   ·rw [decide_eq_false (p:=s.procs[k].since<=s.since) (by have:=of_decide_eq_true e1;omega)];rfl
   rw [decide_eq_true (p:=s.procs[k].since<=s.since) (by have:=of_decide_eq_false e1;omega)];show cond (Zd _).2 _ _
   unfold W4;cases (Zd s.procs[k]).2
   ·exact rfl
   ·show _= !(true&&(true&& !(true&&_)))
    simp
  rintro _ rfl;refine Ab (fun e1=> ?_) fun e1=>At.next (by omega) hk ?_
  ·rw [VD hk (by simpa using e1),Bool.false_and]at h;exact h
  rw [VC _ hk,ha];simpa using e1
 ·rw [hk,take_length]at ha;rw [ha,Bool.true_and]at h;refine⟨fB s=true,GI s F.pl 6 _ ?_,fun hf=>Axn s F.pl _ (by rw [hf]at h;exact h)⟩;unfold fB at h⊢;rcases Nat.lt_trichotomy (Fm s.procs 6) 1 with hc|hc|hc
  ·rw [show Fm s.procs 6=0 by omega]at h⊢;have h:K (((s.fault==0)&&(s.who==0))&&(s.halt==Sc s)):=h;refine Ei rfl ⟨fun b=>b= !((s.fault==0)&&(s.who==0)),?_,?_⟩
   ·refine Ab (fun e1=> ?_) fun e1=> ?_
    ·rw [show(s.fault==0)=false by simpa using e1];rfl
    ·rw [show(s.fault==0)=true by simpa using e1];rfl
   rintro _ rfl;cases hb:((s.fault==0)&&(s.who==0))
   ·rw [hb]at h;exact h
   ·exact(rfl:true=true)
  ·rw [hc]at h⊢;have h:K ((pn s.procs s.who&&(decide (1<=s.fault)&&decide (s.fault<=7)))&&(s.halt==Sc s)):=h;refine Eb rfl (Ei rfl ⟨fun b=>b= !(pn s.procs s.who&&(decide (1<=s.fault)&&decide (s.fault<=7))),?_,?_⟩)
   ·unfold pn;refine Ab (fun e1=> ?_) fun e1=>Ab (fun e2=> ?_) fun e2=> ?_
    ·rw [decide_eq_false (p:=0<=s.who) (by have:=of_decide_eq_true e1;omega)];rfl
    ·rw [List.getElem?_eq_none (by have:=of_decide_eq_true e2;omega)];simp [tK]
    have e1:=of_decide_eq_false e1;have e2:=of_decide_eq_false e2;rw [decide_eq_true (p:=0<=s.who) (by omega)];refine⟨⟨by omega,by omega⟩,fun x hx=> ?_⟩;rw [hx];refine Ab (fun e3=> ?_) fun e3=> ?_
    ·rw [show tK (some x)=false by unfold tK;simpa using e3];rfl
    rw [show tK (some x)=true by unfold tK;simpa using e3];refine Ab (fun e4=> ?_) fun e4=> ?_
    ·rw [decide_eq_false (p:=1<=s.fault) (by have:=of_decide_eq_true e4;omega)];rfl
    ·rw [decide_eq_true (p:=1<=s.fault) (by have:=of_decide_eq_false e4;omega)];show decide (s.fault>7)=_
     rw [Bool.eq_iff_iff];simp
   rintro _ rfl;cases hb:(pn s.procs s.who&&(decide (1<=s.fault)&&decide (s.fault<=7)))
   ·rw [hb]at h;exact h
   ·exact(rfl:true=true)
  ·rw [show(Fm s.procs 6==0)=false by simp;omega,show(Fm s.procs 6==1)=false by simp;omega]at h;rw [show(((Fm s.procs 6:Nat):Int)==0)=false by simp;omega,show(((Fm s.procs 6:Nat):Int)==1)=false by simp;omega];exact h
theorem Avh (mx:Be) (F:SF mx.c s) (K:List Int->Prop) (h:K (cond (H4 mx.c s&&(s.halt==0)) (H3 s) [])):He mx s K:=by
 refine K9 _ _ _ ⟨fun b=>b= !(H4 mx.c s&&(s.halt==0)),VE mx F _ ?_,?_⟩
 ·cases H4 mx.c s
  ·exact rfl
  ·show(s.halt !=0)= !(true&&(s.halt==0))
   rw [Bool.true_and];rfl
 rintro _ rfl;cases hb:(H4 mx.c s&&(s.halt==0))
 ·rw [hb]at h;exact h
 ·rw [hb]at h;exact UZ s F.pl _ h
end
theorem Axp (c:Ah) (s:Ay) (K:Bool->Prop) (h1:∀b,(b=false->(c.ins.length<=150/\c.defs.length<=40/\c.af.length<=80)/\zl s)->K b):Xj c s K:=by
 have ht:=h1 true nofun;refine Abk _ _ _ ⟨fun b=>b=false->(c.ins.length<=150/\c.defs.length<=40/\c.af.length<=80)/\s.procs.length<=20/\s.out.length<=100,?_,?_⟩
 ·refine Ab (fun _=>nofun) fun e1=>Ab (fun _=>nofun) fun e2=>Ab (fun _=>nofun) fun e3=>Ab (fun _=>nofun) fun e4=>fun e5=> ?_
  have:=of_decide_eq_false e1;have:=of_decide_eq_false e2;have:=of_decide_eq_false e3;have:=of_decide_eq_false e4;have:=of_decide_eq_false e5;omega
 intro b hb;refine Ab (fun _=>ht) fun e=> ?_
 obtain⟨hc,hp,ho⟩:=hb e;refine⟨fun i n=>At s.procs.length (fun k=>∀p∈s.procs.take k,p.vars.length<=40/\p.alts.length<=40) i n,⟨_,At.start (fun _ h=>by simp at h)⟩,?_⟩;rintro _ _ ⟨k,rfl,hk,rfl,he⟩;refine At.cond hk (fun hk=>⟨fun b=>b=false->s.procs[k].vars.length<=40/\s.procs[k].alts.length<=40,Av hk ?_,?_⟩) fun hk=> ?_
 ·refine Ab (fun _=>nofun) fun e1=>Av hk fun e2=> ?_
  have:=of_decide_eq_false e1;have:=of_decide_eq_false e2;omega
 ·intro b hb;refine Ab (fun _=>ht) fun e=>At.next (by omega) hk ?_
  intro p hp;rw [E8 hk,List.mem_append]at hp;rcases hp with hp|hp
  ·exact he p hp
  ·rw [List.mem_singleton]at hp;subst hp;exact hb e
 ·rw [hk,take_length]at he;exact h1 false fun _=>⟨hc,hp,ho,he⟩
theorem Bay (c:Ah) (mC:c.ins.length<=100000) (hd:c.defs.length<=100000) (fY:c.af.length<=100000) (K:Ah->Prop) (h:K c):R6 c K:=by
 refine Wi _ _ ⟨fun a b d e f=>(⟨a,b,d,e,f⟩:Ah)=c,?_,fun _ _ _ _ _ e=>by rw [e];exact h⟩;refine Gs _ _ fun z hz=> ?_
 have g1:∀x:List Ax,x=c.ins->Ci c.defs (fun x1=>Bj c.af (fun x2=>(⟨x,x1,x2,c.main,c.stmts⟩:Ah)=c)):=by
  rintro _ rfl;refine Gt _ _ fun z hz=> ?_
  have g2:∀x:List Db,x=c.defs->Bj c.af (fun x2=>(⟨c.ins,x,x2,c.main,c.stmts⟩:Ah)=c):=by
   rintro _ rfl;refine F8 _ _ fun z hz=> ?_
   refine Ab (fun e=>by rw [←hz e]) fun e=>⟨by omega,rfl⟩
  exact Ab (fun e=>g2 _ (hz e).symm) fun e=>⟨by omega,g2 _ rfl⟩
 exact Ab (fun e=>g1 _ (hz e).symm) fun e=>⟨by omega,g1 _ rfl⟩
theorem Baz {c:Ah} {fuel:Int} (mC:c.ins.length<=100000) (hd:c.defs.length<=100000) (fY:c.af.length<=100000) {m:List Nat} {w:World} (hm:bA m w) (mf:List Value) (hc:Bu.rep m w c mf) (K:Value->World->Prop) (h1:gH c≠0->∀w',Ai [] w w'->K (.tuple #[.pointer none,.int .i64 (gH c)]) w') (h2:gH c=0->(fuel<0\/1048576<fuel)->∀w',Ai [] w w'->K (.tuple #[.pointer none,.int .i64 1]) w') (h3:gH c=0->0<=fuel->fuel<=1048576->∀(w3 w4:World) (b:Nat) (a0:Option Addr) (c0:Nat) (a1:Option Addr) (c1:Nat) (a2:Option Addr) (c2:Nat),Ai [] w w3->(c.ins.length<=c0/\br Da m w3 a0 c.ins)->(c.defs.length<=c1/\br Gb m w3 a1 c.defs)->(c.af.length<=c2/\br Dr m w3 a2 c.af)->b=w3.heap.size->w4=w3.alloc (.cells #[.slice a0 c.ins.length c0,.slice a1 c.defs.length c1,.slice a2 c.af.length c2,.int .i64 c.main,.int .i64 c.stmts,.int .i64 fuel] 64)->K (.tuple #[.pointer (some ⟨b,0,none⟩),.int .i64 0]) w4): Calls Tryz.prog 8 #[.agg ⟨mf⟩,.int .i64 fuel] w (aN K):=by
 obtain⟨a0,c0,a1,c1,a2,c2,rfl,⟨le,f⟩,⟨bo,f1⟩,⟨bw,f2⟩⟩:=A7 hc;have o:=Mem.start hm.lt;refine Acu _ _ _ _ _ _ _ _ _ _ _ _ _ _ ?_;intro b w1 hb aX;obtain⟨s1,o⟩:=o.dB hb aX;refine⟨_,_,_,_,_,_,_,_,_,_,_,(o.at 0 rfl).whole,Ac (Axd c mC hd fY (fun _ e=>e=gH c) (fun _=>rfl) _ w1 (o.mn hm) _ (Aw c ⟨le,f.st s1⟩ ⟨bo,f1.st s1⟩ ⟨bw,f2.st s1⟩)) ?_⟩;rintro _ w2 ⟨_,_,rfl,rfl,hk⟩;obtain⟨s2,o⟩:=o.dE hk;have st:=s1.trans s2;refine⟨_,_,rfl,Ab (fun e=>h1 (by simpa using e) _ o.done) fun e=> ?_⟩;have e:gH c=0:=by simpa using e
 intro _;refine Ab (fun e1=>h2 e (by simpa using e1) _ o.done) fun e1=> ?_
 simp at e1;refine⟨_,_,_,_,_,_,_,_,_,_,_,(o.at 0 rfl).whole,Ac (Bay c mC hd fY (fun r=>r=c) rfl _ w2 (o.mn hm) _ (Aw c ⟨le,f.st st⟩ ⟨bo,f1.st st⟩ ⟨bw,f2.st st⟩)) ?_⟩;rintro _ w3 ⟨r,qx,⟨fk,rfl,hr⟩,g_⟩;rw [qx]at hr;obtain⟨s3,o⟩:=o.dE g_;obtain⟨a3,c3,a4,c4,a5,c5,rfl,⟨cY,f3⟩,⟨dM,f4⟩,⟨iE,f5⟩⟩:=A7 hr;refine⟨_,_,_,_,_,_,_,_,_,_,_,rfl,fun b1 w4 cg dg=> ?_⟩;exact h3 e e1.1 e1.2 w3 w4 b1 _ _ _ _ _ _ o.done ⟨cY,f3.st Mem.fp⟩ ⟨dM,f4.st Mem.fp⟩ ⟨iE,f5.st Mem.fp⟩ cg dg
end Go.Proofs.YthkbhlmijkegiaaGreat
namespace Go.Proofs.YthkbhlmijkegiaaGreat.VG
open Go.Am
theorem mixed:Tryz.prog.follows .mixedOrders=true:=by kernel_rfl
theorem Ba0:tv Tryz.prog (fun c:A9 AV=>c) 12 60 7 [] Tr.nil 0 (fun av _ _=>some av)=some (.lit (.bool true)):=by kernel_rfl
theorem Bbm:Nat.ble (Nat.succ (7:FuncId)) YB=true:=by kernel_rfl
set_option maxRecDepth 100000 in
theorem Azl:FC Tryz.prog 7 (.bool true):=@Arw Tryz.prog mixed (fun c=>c) (R_ Tryz.prog) 12 60 7 (.bool true) Bbm Ba0
theorem Bbn:Go.Vc.Cc Tryz.prog 7=true:=by kernel_rfl
open Go.Vc in
set_option maxRecDepth 100000 in
theorem Axq (w:World):Calls Tryz.prog 7 #[] w (aN fun u w'=>u= .bool true/\Go.RowKit.Below w.heap.size w w'):=Ai8 Bbn Azl w
end Go.Proofs.YthkbhlmijkegiaaGreat.VG
namespace Go.Proofs.YthkbhlmijkegiaaGreat
open Go.Vc
def Q5 (x0:Option Addr) (x1:Nat) (x2:Nat) (x3:Option Addr) (x4:Nat) (x5:Nat) (x6:Option Addr) (x7:Nat) (x8:Nat) (x9:Int) (ae:Int) (aa:Int) (ad:Int) (ai:Int) (ah:Int) (ag:Int) (aj:Option Addr) (aw:Nat) (ak:Nat) (ay:Option Addr) (aA:Nat) (aB:Nat) (K:Value->World->Prop) (w:World):Prop:=∀(aE:Nat) (w1:World),aE=w.heap.size->w1=w.alloc (.cells #[.slice x0 x1 x2,.slice x3 x4 x5,.slice x6 x7 x8,.int .i64 x9,.int .i64 ae] 26)->∀(ax:Nat) (w2:World),ax=w1.heap.size->w2=w1.alloc (.cells #[.int .i64 aa,.int .i64 ad,.int .i64 ai,.int .i64 ah,.int .i64 ag,.slice aj aw ak,.slice ay aA aB] 30)->∃(J:Bool->World->Prop),(∃aD aM aH ar bf a_ aG aR bh bc bk,Ad w2 (Zb aE) [.slice aD aM aH,.slice ar bf a_,.slice aG aR bh,.int .i64 bc,.int .i64 bk]/\∃bJ aQ bK bQ bE bj bN bS bD bW bn,Ad w2 (Zb ax) [.int .i64 bJ,.int .i64 aQ,.int .i64 bK,.int .i64 bQ,.int .i64 bE,.slice bj bN bS,.slice bD bW bn]/\Jr 5 #[.agg #[.slice aD aM aH,.slice ar bf a_,.slice aG aR bh,.int .i64 bc,.int .i64 bk],.agg #[.int .i64 bJ,.int .i64 aQ,.int .i64 bK,.int .i64 bQ,.int .i64 bE,.slice bj bN bS,.slice bD bW bn]] w2 (fun bO w3=>∃bM,bO= .bool bM/\cond (bM) (J true w3) (∃bR b_ ca b9 cr cA ct cv cB c_ cN,Ad w3 (Zb aE) [.slice bR b_ ca,.slice b9 cr cA,.slice ct cv cB,.int .i64 c_,.int .i64 cN]/\Jr 6 #[.agg #[.slice bR b_ ca,.slice b9 cr cA,.slice ct cv cB,.int .i64 c_,.int .i64 cN]] w3 (fun cJ w4=>∃cU,cJ= .bool cU/\J (!cU) w4))))/\∀(_x61:Nat->Value) cX w5,J cX w5->cond (cX) (Jr 7 #[] w5 (fun dr w6=>∃dG,dr= .bool dG/\K (.bool dG) w6)) (∃cK dP cI dy dL dV ev dW eB eg dY,Ad w5 (Zb aE) [.slice cK dP cI,.slice dy dL dV,.slice ev dW eB,.int .i64 eg,.int .i64 dY]/\Jr 8 #[.agg #[.slice cK dP cI,.slice dy dL dV,.slice ev dW eB,.int .i64 eg,.int .i64 dY],.int .i64 9] w5 (fun eP w7=>∃fQ eX,eP= .tuple #[.pointer fQ,.int .i64 eX]/\∃eH ei dJ eC fe eQ ew eY eZ eI eD,Ad w7 (Zb ax) [.int .i64 eH,.int .i64 ei,.int .i64 dJ,.int .i64 eC,.int .i64 fe,.slice eQ ew eY,.slice eZ eI eD]/\Jr 9 #[.pointer fQ,.agg #[.int .i64 eH,.int .i64 ei,.int .i64 dJ,.int .i64 eC,.int .i64 fe,.slice eQ ew eY,.slice eZ eI eD]] w7 (fun dZ w8=>∃dK,dZ= .int .i64 dK/\∃eJ e8 fj f_ fm fM gw fD h_ gb dQ,Ad w8 (Zb ax) [.int .i64 eJ,.int .i64 e8,.int .i64 fj,.int .i64 f_,.int .i64 fm,.slice fM gw fD,.slice h_ gb dQ]/\Jr 10 #[.pointer fQ,.agg #[.int .i64 eJ,.int .i64 e8,.int .i64 fj,.int .i64 f_,.int .i64 fm,.slice fM gw fD,.slice h_ gb dQ]] w8 (fun fP w9=>∃ia fc gz,fP= .slice ia fc gz/\∃gK gL i5 gA gY gS ic ib ie ig iz,Ad w9 (Zb aE) [.slice gK gL i5,.slice gA gY gS,.slice ic ib ie,.int .i64 ig,.int .i64 iz]/\∃iP ij iA gZ jr jN i6 kg i7 js iQ,Ad w9 (Zb ax) [.int .i64 iP,.int .i64 ij,.int .i64 iA,.int .i64 gZ,.int .i64 jr,.slice jN i6 kg,.slice i7 js iQ]/\Jr 11 #[.agg #[.slice gK gL i5,.slice gA gY gS,.slice ic ib ie,.int .i64 ig,.int .i64 iz],.agg #[.int .i64 iP,.int .i64 ij,.int .i64 iA,.int .i64 gZ,.int .i64 jr,.slice jN i6 kg,.slice i7 js iQ]] w9 (fun kY aK=>∃i9,kY= .bool i9/\cond (!i9) (cond (dK==9) (cond ((fc:Int)==0) (Jr 7 #[] aK (fun kh aF=>∃i_,kh= .bool i_/\K (.bool i_) aF)) (K (.bool false) aK)) (K (.bool false) aK)) (∃jt j0 iR iB ju iC jb kj iT ko ml,Ad aK (Zb ax) [.int .i64 jt,.int .i64 j0,.int .i64 iR,.int .i64 iB,.int .i64 ju,.slice iC jb kj,.slice iT ko ml]/\Jr 12 #[.agg #[.int .i64 jt,.int .i64 j0,.int .i64 iR,.int .i64 iB,.int .i64 ju,.slice iC jb kj,.slice iT ko ml]] aK (fun kC aZ=>∃kZ k_ lg,kC= .slice kZ k_ lg/\∃(J1:Option Addr->Nat->Nat->World->Prop),(∃lP,aZ.cell? ⟨ax,2,none⟩=some (.int .i64 lP)/\cond (lP !=0) (J1 none 0 0 aZ) (J1 kZ k_ lg aZ))/\∀(_x149:Nat->Value) kD jO kq bB,J1 kD jO kq bB->∀(_x153:Nat->Value),cond (((dK !=0)||((fc:Int) !=(jO:Int)))) (K (.bool false) bB) (∃(I:Int->World->Prop) (lQ:Int->World->Nat),I 0 bB/\∀(_x155:Nat->Value) (fE:Int) (aU:World),I fE aU->cond (decide (fE<(fc:Int))) (∀bV:World,bV=aU.drew->((0:Int)<=fE/\fE<(fc:Int))/\Aj ia (fun lj=>∃kE,bV.cell? (lj.add (fE.toNat*1))=some (.int .i64 kE)/\((0:Int)<=fE/\fE<(jO:Int))/\Aj kD (fun pR=>∃kr,bV.cell? (pR.add (fE.toNat*1))=some (.int .i64 kr)/\cond (kE !=kr) (K (.bool false) bV) (I (IntKind.i64.wrap (fE+1)) bV/\lQ (IntKind.i64.wrap (fE+1)) bV<lQ fE aU)))) (Jr 7 #[] aU (fun lR ck=>∃kF,lR= .bool kF/\K (.bool kF) ck))))))))))
theorem Q6 (x0:Option Addr) (x1:Nat) (x2:Nat) (x3:Option Addr) (x4:Nat) (x5:Nat) (x6:Option Addr) (x7:Nat) (x8:Nat) (x9:Int) (ae:Int) (aa:Int) (ad:Int) (ai:Int) (ah:Int) (ag:Int) (aj:Option Addr) (aw:Nat) (ak:Nat) (ay:Option Addr) (aA:Nat) (aB:Nat) (K:Value->World->Prop) (w:World) (h:Q5 x0 x1 x2 x3 x4 x5 x6 x7 x8 x9 ae aa ad ai ah ag aj aw ak ay aA aB K w):Calls Tryz.prog 3 #[.agg #[.slice x0 x1 x2,.slice x3 x4 x5,.slice x6 x7 x8,.int .i64 x9,.int .i64 ae],.agg #[.int .i64 aa,.int .i64 ad,.int .i64 ai,.int .i64 ah,.int .i64 ag,.slice aj aw ak,.slice ay aA aB]] w (aN K):=
 Af { loops:=[(8186,[(10,.int .i64)])],dx:=[(6,[(18,.bool)]),(255,[(9,.slice)])],jl:=[(2044,[58])] } Tryz.func3 (by kernel_rfl) h
open Go.Lv Go.Ty
open Go.RowKit (Below)
theorem VH (w:World):Calls Tryz.prog 7 #[] w (aN fun u w'=>u= .bool true/\Ai [] w w'):=
 Ac (VG.Axq w) fun _ _ h=>⟨h.1,Ai.yo h.2⟩
structure Bbo (c:Ah):Prop where
 ins:c.ins.length<=150
 defs:c.defs.length<=40
 af:c.af.length<=80
structure GJ (c:Ah):Prop where
 dn:∀d∈c.defs,d.name.length<2^63
 cn:∀d∈c.af,d.name.length<2^63
set_option maxHeartbeats 1000000 in
theorem Aou (c:Ah) (s:Ay) (N:GJ c) {m:List Nat} {w:World} (hm:bA m w) (mf tL:List Value) (hc:Bu.rep m w c mf) (hs:Ep.rep m w s tL): Calls Tryz.prog 3 #[.agg ⟨mf⟩,.agg ⟨tL⟩] w (aN fun v w'=>v= .bool true/\Ai [] w w'):=by
 obtain⟨a0,c0,a1,c1,a2,c2,rfl,⟨le,f⟩,⟨bo,f1⟩,⟨bw,f2⟩⟩:=A7 hc;obtain⟨a3,c3,a4,c4,rfl,⟨cY,f3⟩,⟨dM,f4⟩⟩:=Dt hs;have o:=Mem.start hm.lt;refine Q6 _ _ _ _ _ _ _ _ _ _ _ _ _ _ _ _ _ _ _ _ _ _ _ _ ?_;intro b w1 hb aX;obtain⟨s1,o⟩:=o.dB hb aX;intro b1 w2 cg cM;obtain⟨s2,o⟩:=o.dB cg cM;have st:=s1.trans s2;obtain⟨PP,lF⟩:∃PP:List Pc,PP=[.box b1 [.int .i64 s.now,.int .i64 s.since,.int .i64 s.halt,.int .i64 s.fault,.int .i64 s.who,.slice a3 s.procs.length c3,.slice a4 s.out.length c4],.box b [.slice a0 c.ins.length c0,.slice a1 c.defs.length c1,.slice a2 c.af.length c2,.int .i64 c.main,.int .i64 c.stmts]]:=⟨_,rfl⟩
 have o:Mem w.heap.size [] m [([],w.heap.size,w)] [] w2 PP:=lF▸o;have st:Step m w (ms PP m) w2:=lF▸st;refine⟨fun bad u=>(bad=false->Bbo c/\zl s/\gH c=0)/\Mem w.heap.size [] m [([],w.heap.size,w)] [] u PP/\Step m w (ms PP m) u,?_,?_⟩
 ·subst lF;refine⟨_,_,_,_,_,_,_,_,_,_,_,(o.at 1 rfl).whole,_,_,_,_,_,_,_,_,_,_,_,(o.at 0 rfl).whole,?_⟩;refine Ac (Axp c s (fun b=>b=false->(c.ins.length<=150/\c.defs.length<=40/\c.af.length<=80)/\zl s) (fun _ h=>h) _ w2 (o.mn hm) _ (Aw c ⟨le,f.st st⟩ ⟨bo,f1.st st⟩ ⟨bw,f2.st st⟩) _ (B8 s ⟨cY,f3.st st⟩ ⟨dM,f4.st st⟩)) ?_;rintro _ w3 ⟨x,hx,rfl,hk⟩;obtain⟨s3,o⟩:=o.dE hk;have st:=st.trans s3;refine⟨_,rfl,Ab (fun e=>⟨nofun,o,st⟩) fun e=> ?_⟩;obtain⟨⟨l1,l2,l3⟩,sm⟩:=hx e;refine⟨_,_,_,_,_,_,_,_,_,_,_,(o.at 1 rfl).whole,Ac (Ajj c (by omega) (by omega) N.dn N.cn (fun r=>r=decide (gH c=0)) rfl _ w3 (o.mn hm) _ (Aw c ⟨le,f.st st⟩ ⟨bo,f1.st st⟩ ⟨bw,f2.st st⟩)) ?_⟩;rintro _ w4 ⟨_,rfl,rfl,hk⟩;obtain⟨s4,o⟩:=o.dE hk;exact⟨_,rfl,fun e=>⟨⟨l1,l2,l3⟩,sm,by simpa using e⟩,o,st.trans s4⟩
 rintro _ bad w5 ⟨tG,o,st⟩;refine Ab (fun _=> ?_) fun e=> ?_
 ·refine Ac (VH w5) ?_;rintro _ w6 ⟨rfl,hk⟩;exact⟨_,rfl,rfl,(o.ext hk).done⟩
 obtain⟨cs,sm,he⟩:=tG e;have F:SF c s:=⟨FM (Au2 he).1,by have:=cs.af;omega,sm⟩
 have hi:=cs.ins;have hd:=cs.defs;have hh:=cs.af;subst lF;refine⟨_,_,_,_,_,_,_,_,_,_,_,(o.at 1 rfl).whole,?_⟩;refine Baz (c:=c) (fuel:=9) (by omega) (by omega) (by omega) (o.mn hm) _ (Aw c ⟨le,f.st st⟩ ⟨bo,f1.st st⟩ ⟨bw,f2.st st⟩) _ (fun h=>absurd he h) (fun _ h=>by omega) ?_;intro _ _ _ w6 w7 bm q0 k0 q1 k1 q2 k2 hk g0 g1 g2 y9 jy;obtain⟨s3,o⟩:=o.dE hk;obtain⟨s4,o⟩:=o.dB y9 jy;have s5:=s3.trans s4;have st:=st.trans s5;have VI:∀ {m':List Nat} {u:World},Step _ w6 m' u->Eg.rep m' u ⟨c,9⟩ [.slice q0 c.ins.length k0,.slice q1 c.defs.length k1,.slice q2 c.af.length k2,.int .i64 c.main,.int .i64 c.stmts,.int .i64 9]:=fun t=>J0 ⟨c,9⟩ ⟨g0.1,g0.2.st t⟩ ⟨g1.1,g1.2.st t⟩ ⟨g2.1,g2.2.st t⟩
 refine⟨_,_,rfl,_,_,_,_,_,_,_,_,_,_,_,(o.at 1 rfl).whole,?_⟩;refine Ac (VE ⟨c,9⟩ F (fun r=>r=cond (H4 c s) 0 9) rfl _ w7 (o.mn hm) bm _ (Mem.mN 0 rfl) (o.at 0 rfl) (VI s4) _ (B8 s ⟨cY,f3.st st⟩ ⟨dM,f4.st st⟩)) ?_;rintro _ w8 ⟨_,rfl,rfl,hbx,g_⟩;obtain⟨s6,o⟩:=o.dC 0 g_ hbx rfl;have st:=st.trans s6;have s46:=s4.trans s6;refine⟨_,rfl,_,_,_,_,_,_,_,_,_,_,_,(o.at 1 rfl).whole,?_⟩;refine Ac (Avh ⟨c,9⟩ F (fun r=>r=cond (H4 c s&&(s.halt==0)) (H3 s) []) rfl _ w8 (o.mn hm) bm _ (Mem.mN 0 rfl) (o.at 0 rfl) (VI s46) _ (B8 s ⟨cY,f3.st st⟩ ⟨dM,f4.st st⟩)) ?_;rintro _ w9 ⟨L,hL,⟨aL,cL,rfl,leL,fL⟩,Brr,tJ⟩;obtain⟨s7,o⟩:=o.dC 0 tJ Brr rfl;have st:=st.trans s7;refine⟨_,_,_,rfl,_,_,_,_,_,_,_,_,_,_,_,(o.at 2 rfl).whole,_,_,_,_,_,_,_,_,_,_,_,(o.at 1 rfl).whole,?_⟩;refine Ac (Axo F (fun r=>r=H4 c s) rfl _ w9 (o.mn hm) _ (Aw c ⟨le,f.st st⟩ ⟨bo,f1.st st⟩ ⟨bw,f2.st st⟩) _ (B8 s ⟨cY,f3.st st⟩ ⟨dM,f4.st st⟩)) ?_;rintro _ aK ⟨_,rfl,rfl,GH⟩;obtain⟨s8,o⟩:=o.dE GH;have st:=st.trans s8;have live:∀ {u:World},Ai [] w u->Calls Tryz.prog 7 #[] u (aN fun v w'=>∃x:Bool,v= .bool x/\(Value.bool x= .bool true/\Ai [] w w')):=fun k=>Ac (VH _) fun _ _ h=>⟨true,h.1,rfl,k.trans h.2⟩
 refine⟨_,rfl,Ab (fun e=> ?_) fun e=> ?_⟩
 ·have e:H4 c s=false:=by simpa using e
  rw [e]at hL;rw [e];have hL:L=[]:=hL;rw [hL];exact Ei rfl (Ei rfl (live o.done))
 have e:H4 c s=true:=by simpa using e
 rw [e,Bool.true_and]at hL;rw [e];refine⟨_,_,_,_,_,_,_,_,_,_,_,(o.at 1 rfl).whole,Ac (U_ s F.pl (fun r=>r=H3 s) rfl _ aK (o.mn hm) _ (B8 s ⟨cY,f3.st st⟩ ⟨dM,f4.st st⟩)) ?_⟩;rintro _ aZ ⟨W,hW,⟨aW,cW,rfl,leW,fW⟩,hk5⟩;obtain⟨s9,o⟩:=o.dE hk5;have sL:=s8.trans s9;obtain⟨M,fW⟩:∃M,br (Bh .i64) M aZ aW W:=⟨_,fW⟩
 have fL:=fL.st sL;refine⟨_,_,_,rfl,fun a n k u=>∃V:List Int,n=V.length/\V=L/\br (Bh .i64) M aZ a V/\u=aZ,⟨_,(o.at 1 rfl).cell rfl,Ab (fun e1=> ?_) fun e1=> ?_⟩,?_⟩
 ·have:(s.halt==0)=false:=by simpa using e1
  rw [this]at hL;exact⟨[],rfl,hL.symm,.inl rfl,rfl⟩
 ·have:(s.halt==0)=true:=by simpa using e1
  rw [this]at hL;exact⟨W,rfl,hW.trans hL.symm,fW,rfl⟩
 rintro _ aV _ cV bB ⟨V,rfl,rfl,fV,lu⟩;subst lu;intro _;refine Eb (by simp) ?_;have hl:V.length<=1000:=by
  rw [hL];have h1:=Zr s.procs 0;have h2:=sm.procs;unfold H3;cases (s.halt==0)
  ·exact zero_le _
  ·rw [cond_true,length_append];cases (decide (s.now<1099511627776)&&s.procs.any W4)<;>simp<;>omega
 refine⟨fun i u=>∃k:Nat,i=k/\k<=V.length/\Ai [] bB u,fun i _=>((V.length:Int)-i).toNat,⟨0,rfl,zero_le _,Ai.refl _ _⟩,?_⟩;rintro _ _ aU ⟨k,rfl,hk,VJ⟩;refine At.cond hk (fun aO=> ?_) fun heq=> ?_
 ·intro bV mw;have zm:=VJ.trans (NQ mw);obtain⟨_,o⟩:=o.dE zm;obtain⟨p,x,xs,hp,od,hcx,hr⟩:=fL.elem (i:=(k:Int)) ⟨by omega,by omega⟩;obtain⟨p',x',gM,jH,VK,Brs,mi⟩:=fV.elem (i:=(k:Int)) ⟨by omega,by omega⟩;obtain rfl:=hr;obtain rfl:=mi;rw [od]at VK;cases VK
  refine⟨⟨by omega,by omega⟩,Ae hp ⟨_,Ad.head (G0.held hcx zm (by simp)),⟨by omega,by omega⟩,Ae jH ⟨_,Ad.head (G0.held Brs zm (by simp)),?_⟩⟩⟩;refine Eb (by simp) ⟨⟨k+1,by rw [A0 (by omega) (by omega)];omega,by omega,zm⟩,?_⟩;rw [A0 (by omega) (by omega)];show((V.length:Int)-(↑k+1)).toNat<((V.length:Int)-↑k).toNat
  omega
 ·exact live (o.ext VJ).done
theorem Tq (c:Ah) (s:Ay) (N:GJ c) (mf tL:Array Value) (W:World) (hc:Bu.rep [] W c mf.toList) (hs:Ep.rep [] W s tL.toList): Calls Tryz.prog 3 #[.agg mf,.agg tL] W (aN fun v w'=>v= .bool true/\Below W.heap.size W w'):=
 Ac (Aou c s N (bA.nil trivial) mf.toList tL.toList hc hs) fun _ _ ⟨hv,k⟩=>⟨hv,k.ext⟩
def VL (x:Ax):Prop:=(IntKind.i64.min<=x.op/\x.op<=IntKind.i64.max)/\(IntKind.i64.min<=x.a/\x.a<=IntKind.i64.max)/\(IntKind.i64.min<=x.b/\x.b<=IntKind.i64.max)
theorem Ar3 {w:World} :mb Tryz.prog w 95 Da VL:=by
 intro m cs h;obtain⟨m',rfl,hl,hx⟩:=h.struct Tryz.underlying95;have oa:cs.length=3:=hl.trans (by kernel_rfl);have k0:Tryz.prog.cellsOf 3=1:=by kernel_rfl
 have g0:de Tryz.prog w m' 3 ((cs.drop 0).take (Tryz.prog.cellsOf 3)):=hx 0 _ rfl;rw [k0]at g0;obtain⟨x0,r0,q0⟩:=(Bk Tryz.underlying3) m' _ g0;have k1:Tryz.prog.cellsOf 3=1:=by kernel_rfl
 have g1:de Tryz.prog w m' 3 ((cs.drop 1).take (Tryz.prog.cellsOf 3)):=hx 1 _ rfl;rw [k1]at g1;obtain⟨x1,r1,q1⟩:=(Bk Tryz.underlying3) m' _ g1;have k2:Tryz.prog.cellsOf 3=1:=by kernel_rfl
 have g2:de Tryz.prog w m' 3 ((cs.drop 2).take (Tryz.prog.cellsOf 3)):=hx 2 _ rfl;rw [k2]at g2;obtain⟨x2,r2,q2⟩:=(Bk Tryz.underlying3) m' _ g2;exact⟨⟨x0,x1,x2⟩,A4 r0 (A4 r1 (H2 (by omega) r2)),q0,q1,q2⟩
def VM (x:Db):Prop:=(x.name).length<=wx/\(IntKind.i64.min<=x.entry/\x.entry<=IntKind.i64.max)/\(IntKind.i64.min<=x.params/\x.params<=IntKind.i64.max)/\(IntKind.i64.min<=x.vars/\x.vars<=IntKind.i64.max)
theorem Ar4 {w:World} :mb Tryz.prog w 97 Gb VM:=by
 intro m cs h;obtain⟨m',rfl,hl,hx⟩:=h.struct Tryz.underlying97;have oa:cs.length=4:=hl.trans (by kernel_rfl);have k0:Tryz.prog.cellsOf 9=1:=by kernel_rfl
 have g0:de Tryz.prog w m' 9 ((cs.drop 0).take (Tryz.prog.cellsOf 9)):=hx 0 _ rfl;rw [k0]at g0;obtain⟨x0,r0,q0⟩:=(UJ Tryz.underlying9) m' _ g0;have k1:Tryz.prog.cellsOf 3=1:=by kernel_rfl
 have g1:de Tryz.prog w m' 3 ((cs.drop 1).take (Tryz.prog.cellsOf 3)):=hx 1 _ rfl;rw [k1]at g1;obtain⟨x1,r1,q1⟩:=(Bk Tryz.underlying3) m' _ g1;have k2:Tryz.prog.cellsOf 3=1:=by kernel_rfl
 have g2:de Tryz.prog w m' 3 ((cs.drop 2).take (Tryz.prog.cellsOf 3)):=hx 2 _ rfl;rw [k2]at g2;obtain⟨x2,r2,q2⟩:=(Bk Tryz.underlying3) m' _ g2;have k3:Tryz.prog.cellsOf 3=1:=by kernel_rfl
 have g3:de Tryz.prog w m' 3 ((cs.drop 3).take (Tryz.prog.cellsOf 3)):=hx 3 _ rfl;rw [k3]at g3;obtain⟨x3,r3,q3⟩:=(Bk Tryz.underlying3) m' _ g3;exact⟨⟨x0,x1,x2,x3⟩,A4 r0 (A4 r1 (A4 r2 (H2 (by omega) r3))),q0,q1,q2,q3⟩
def VN (x:Br):Prop:=(x.name).length<=wx/\(IntKind.i64.min<=x.base/\x.base<=IntKind.i64.max)/\(IntKind.i64.min<=x.size/\x.size<=IntKind.i64.max)
theorem Aov {w:World} :mb Tryz.prog w 99 Dr VN:=by
 intro m cs h;obtain⟨m',rfl,hl,hx⟩:=h.struct Tryz.underlying99;have oa:cs.length=3:=hl.trans (by kernel_rfl);have k0:Tryz.prog.cellsOf 9=1:=by kernel_rfl
 have g0:de Tryz.prog w m' 9 ((cs.drop 0).take (Tryz.prog.cellsOf 9)):=hx 0 _ rfl;rw [k0]at g0;obtain⟨x0,r0,q0⟩:=(UJ Tryz.underlying9) m' _ g0;have k1:Tryz.prog.cellsOf 3=1:=by kernel_rfl
 have g1:de Tryz.prog w m' 3 ((cs.drop 1).take (Tryz.prog.cellsOf 3)):=hx 1 _ rfl;rw [k1]at g1;obtain⟨x1,r1,q1⟩:=(Bk Tryz.underlying3) m' _ g1;have k2:Tryz.prog.cellsOf 3=1:=by kernel_rfl
 have g2:de Tryz.prog w m' 3 ((cs.drop 2).take (Tryz.prog.cellsOf 3)):=hx 2 _ rfl;rw [k2]at g2;obtain⟨x2,r2,q2⟩:=(Bk Tryz.underlying3) m' _ g2;exact⟨⟨x0,x1,x2⟩,A4 r0 (A4 r1 (H2 (by omega) r2)),q0,q1,q2⟩
def VO (x:Ah):Prop:=((x.ins).length<=maxLen/\∀y∈x.ins,VL y)/\((x.defs).length<=maxLen/\∀y∈x.defs,VM y)/\((x.af).length<=maxLen/\∀y∈x.af,VN y)/\(IntKind.i64.min<=x.main/\x.main<=IntKind.i64.max)/\(IntKind.i64.min<=x.stmts/\x.stmts<=IntKind.i64.max)
theorem Aow {w:World} :mb Tryz.prog w 26 Bu VO:=by
 intro m cs h;obtain⟨m',rfl,hl,hx⟩:=h.struct Tryz.underlying26;have oa:cs.length=5:=hl.trans (by kernel_rfl);have k0:Tryz.prog.cellsOf 22=1:=by kernel_rfl
 have g0:de Tryz.prog w m' 22 ((cs.drop 0).take (Tryz.prog.cellsOf 22)):=hx 0 _ rfl;rw [k0]at g0;obtain⟨x0,r0,q0⟩:=(H0 Ar3 Tryz.underlying22 (by kernel_rfl)) m' _ g0;have k1:Tryz.prog.cellsOf 23=1:=by kernel_rfl
 have g1:de Tryz.prog w m' 23 ((cs.drop 1).take (Tryz.prog.cellsOf 23)):=hx 1 _ rfl;rw [k1]at g1;obtain⟨x1,r1,q1⟩:=(H0 Ar4 Tryz.underlying23 (by kernel_rfl)) m' _ g1;have k2:Tryz.prog.cellsOf 24=1:=by kernel_rfl
 have g2:de Tryz.prog w m' 24 ((cs.drop 2).take (Tryz.prog.cellsOf 24)):=hx 2 _ rfl;rw [k2]at g2;obtain⟨x2,r2,q2⟩:=(H0 Aov Tryz.underlying24 (by kernel_rfl)) m' _ g2;have k3:Tryz.prog.cellsOf 3=1:=by kernel_rfl
 have g3:de Tryz.prog w m' 3 ((cs.drop 3).take (Tryz.prog.cellsOf 3)):=hx 3 _ rfl;rw [k3]at g3;obtain⟨x3,r3,q3⟩:=(Bk Tryz.underlying3) m' _ g3;have k4:Tryz.prog.cellsOf 3=1:=by kernel_rfl
 have g4:de Tryz.prog w m' 3 ((cs.drop 4).take (Tryz.prog.cellsOf 3)):=hx 4 _ rfl;rw [k4]at g4;obtain⟨x4,r4,q4⟩:=(Bk Tryz.underlying3) m' _ g4;exact⟨⟨x0,x1,x2,x3,x4⟩,A4 r0 (A4 r1 (A4 r2 (A4 r3 (H2 (by omega) r4)))),q0,q1,q2,q3,q4⟩
def VP (x:F6):Prop:=(IntKind.i64.min<=x.kind/\x.kind<=IntKind.i64.max)/\(IntKind.i64.min<=x.chan/\x.chan<=IntKind.i64.max)/\(IntKind.i64.min<=x.val/\x.val<=IntKind.i64.max)/\(IntKind.i64.min<=x.slot/\x.slot<=IntKind.i64.max)/\(IntKind.i64.min<=x.goto/\x.goto<=IntKind.i64.max)
theorem Ar5 {w:World} :mb Tryz.prog w 129 Nj VP:=by
 intro m cs h;obtain⟨m',rfl,hl,hx⟩:=h.struct Tryz.underlying129;have oa:cs.length=5:=hl.trans (by kernel_rfl);have k0:Tryz.prog.cellsOf 3=1:=by kernel_rfl
 have g0:de Tryz.prog w m' 3 ((cs.drop 0).take (Tryz.prog.cellsOf 3)):=hx 0 _ rfl;rw [k0]at g0;obtain⟨x0,r0,q0⟩:=(Bk Tryz.underlying3) m' _ g0;have k1:Tryz.prog.cellsOf 3=1:=by kernel_rfl
 have g1:de Tryz.prog w m' 3 ((cs.drop 1).take (Tryz.prog.cellsOf 3)):=hx 1 _ rfl;rw [k1]at g1;obtain⟨x1,r1,q1⟩:=(Bk Tryz.underlying3) m' _ g1;have k2:Tryz.prog.cellsOf 3=1:=by kernel_rfl
 have g2:de Tryz.prog w m' 3 ((cs.drop 2).take (Tryz.prog.cellsOf 3)):=hx 2 _ rfl;rw [k2]at g2;obtain⟨x2,r2,q2⟩:=(Bk Tryz.underlying3) m' _ g2;have k3:Tryz.prog.cellsOf 3=1:=by kernel_rfl
 have g3:de Tryz.prog w m' 3 ((cs.drop 3).take (Tryz.prog.cellsOf 3)):=hx 3 _ rfl;rw [k3]at g3;obtain⟨x3,r3,q3⟩:=(Bk Tryz.underlying3) m' _ g3;have k4:Tryz.prog.cellsOf 3=1:=by kernel_rfl
 have g4:de Tryz.prog w m' 3 ((cs.drop 4).take (Tryz.prog.cellsOf 3)):=hx 4 _ rfl;rw [k4]at g4;obtain⟨x4,r4,q4⟩:=(Bk Tryz.underlying3) m' _ g4;exact⟨⟨x0,x1,x2,x3,x4⟩,A4 r0 (A4 r1 (A4 r2 (A4 r3 (H2 (by omega) r4)))),q0,q1,q2,q3,q4⟩
def VQ (x:Ap):Prop:=(IntKind.i64.min<=x.bz/\x.bz<=IntKind.i64.max)/\(IntKind.i64.min<=x.at_/\x.at_<=IntKind.i64.max)/\((x.vars).length<=maxLen/\∀y∈x.vars,(IntKind.i64.min<=y/\y<=IntKind.i64.max))/\(IntKind.i64.min<=x.fuel/\x.fuel<=IntKind.i64.max)/\(IntKind.i64.min<=x.mode/\x.mode<=IntKind.i64.max)/\(IntKind.i64.min<=x.chan/\x.chan<=IntKind.i64.max)/\(IntKind.i64.min<=x.val/\x.val<=IntKind.i64.max)/\(IntKind.i64.min<=x.slot/\x.slot<=IntKind.i64.max)/\(IntKind.i64.min<=x.bT/\x.bT<=IntKind.i64.max)/\(IntKind.i64.min<=x.since/\x.since<=IntKind.i64.max)/\((x.alts).length<=maxLen/\∀y∈x.alts,VP y)
theorem Aox {w:World} :mb Tryz.prog w 56 Ce VQ:=by
 intro m cs h;obtain⟨m',rfl,hl,hx⟩:=h.struct Tryz.underlying56;have oa:cs.length=11:=hl.trans (by kernel_rfl);have k0:Tryz.prog.cellsOf 3=1:=by kernel_rfl
 have g0:de Tryz.prog w m' 3 ((cs.drop 0).take (Tryz.prog.cellsOf 3)):=hx 0 _ rfl;rw [k0]at g0;obtain⟨x0,r0,q0⟩:=(Bk Tryz.underlying3) m' _ g0;have k1:Tryz.prog.cellsOf 3=1:=by kernel_rfl
 have g1:de Tryz.prog w m' 3 ((cs.drop 1).take (Tryz.prog.cellsOf 3)):=hx 1 _ rfl;rw [k1]at g1;obtain⟨x1,r1,q1⟩:=(Bk Tryz.underlying3) m' _ g1;have k2:Tryz.prog.cellsOf 28=1:=by kernel_rfl
 have g2:de Tryz.prog w m' 28 ((cs.drop 2).take (Tryz.prog.cellsOf 28)):=hx 2 _ rfl;rw [k2]at g2;obtain⟨x2,r2,q2⟩:=(H0 (Bk Tryz.underlying3) Tryz.underlying28 (by kernel_rfl)) m' _ g2;have k3:Tryz.prog.cellsOf 3=1:=by kernel_rfl
 have g3:de Tryz.prog w m' 3 ((cs.drop 3).take (Tryz.prog.cellsOf 3)):=hx 3 _ rfl;rw [k3]at g3;obtain⟨x3,r3,q3⟩:=(Bk Tryz.underlying3) m' _ g3;have k4:Tryz.prog.cellsOf 3=1:=by kernel_rfl
 have g4:de Tryz.prog w m' 3 ((cs.drop 4).take (Tryz.prog.cellsOf 3)):=hx 4 _ rfl;rw [k4]at g4;obtain⟨x4,r4,q4⟩:=(Bk Tryz.underlying3) m' _ g4;have k5:Tryz.prog.cellsOf 3=1:=by kernel_rfl
 have g5:de Tryz.prog w m' 3 ((cs.drop 5).take (Tryz.prog.cellsOf 3)):=hx 5 _ rfl;rw [k5]at g5;obtain⟨x5,r5,q5⟩:=(Bk Tryz.underlying3) m' _ g5;have k6:Tryz.prog.cellsOf 3=1:=by kernel_rfl
 have g6:de Tryz.prog w m' 3 ((cs.drop 6).take (Tryz.prog.cellsOf 3)):=hx 6 _ rfl;rw [k6]at g6;obtain⟨x6,r6,q6⟩:=(Bk Tryz.underlying3) m' _ g6;have k7:Tryz.prog.cellsOf 3=1:=by kernel_rfl
 have g7:de Tryz.prog w m' 3 ((cs.drop 7).take (Tryz.prog.cellsOf 3)):=hx 7 _ rfl;rw [k7]at g7;obtain⟨x7,r7,q7⟩:=(Bk Tryz.underlying3) m' _ g7;have k8:Tryz.prog.cellsOf 3=1:=by kernel_rfl
 have g8:de Tryz.prog w m' 3 ((cs.drop 8).take (Tryz.prog.cellsOf 3)):=hx 8 _ rfl;rw [k8]at g8;obtain⟨x8,r8,q8⟩:=(Bk Tryz.underlying3) m' _ g8;have k9:Tryz.prog.cellsOf 3=1:=by kernel_rfl
 have g9:de Tryz.prog w m' 3 ((cs.drop 9).take (Tryz.prog.cellsOf 3)):=hx 9 _ rfl;rw [k9]at g9;obtain⟨x9,r9,q9⟩:=(Bk Tryz.underlying3) m' _ g9;have k10:Tryz.prog.cellsOf 54=1:=by kernel_rfl
 have jK:de Tryz.prog w m' 54 ((cs.drop 10).take (Tryz.prog.cellsOf 54)):=hx 10 _ rfl;rw [k10]at jK;obtain⟨ae,r10,q10⟩:=(H0 Ar5 Tryz.underlying54 (by kernel_rfl)) m' _ jK;exact⟨⟨x0,x1,x2,x3,x4,x5,x6,x7,x8,x9,ae⟩,A4 r0 (A4 r1 (A4 r2 (A4 r3 (A4 r4 (A4 r5 (A4 r6 (A4 r7 (A4 r8 (A4 r9 (H2 (by omega) r10)))))))))),q0,q1,q2,q3,q4,q5,q6,q7,q8,q9,q10⟩
def Avl (x:Ay):Prop:=(IntKind.i64.min<=x.now/\x.now<=IntKind.i64.max)/\(IntKind.i64.min<=x.since/\x.since<=IntKind.i64.max)/\(IntKind.i64.min<=x.halt/\x.halt<=IntKind.i64.max)/\(IntKind.i64.min<=x.fault/\x.fault<=IntKind.i64.max)/\(IntKind.i64.min<=x.who/\x.who<=IntKind.i64.max)/\((x.procs).length<=maxLen/\∀y∈x.procs,VQ y)/\((x.out).length<=maxLen/\∀y∈x.out,(IntKind.i64.min<=y/\y<=IntKind.i64.max))
theorem Am2 {w:World} :mb Tryz.prog w 30 Ep Avl:=by
 intro m cs h;obtain⟨m',rfl,hl,hx⟩:=h.struct Tryz.underlying30;have oa:cs.length=7:=hl.trans (by kernel_rfl);have k0:Tryz.prog.cellsOf 3=1:=by kernel_rfl
 have g0:de Tryz.prog w m' 3 ((cs.drop 0).take (Tryz.prog.cellsOf 3)):=hx 0 _ rfl;rw [k0]at g0;obtain⟨x0,r0,q0⟩:=(Bk Tryz.underlying3) m' _ g0;have k1:Tryz.prog.cellsOf 3=1:=by kernel_rfl
 have g1:de Tryz.prog w m' 3 ((cs.drop 1).take (Tryz.prog.cellsOf 3)):=hx 1 _ rfl;rw [k1]at g1;obtain⟨x1,r1,q1⟩:=(Bk Tryz.underlying3) m' _ g1;have k2:Tryz.prog.cellsOf 3=1:=by kernel_rfl
 have g2:de Tryz.prog w m' 3 ((cs.drop 2).take (Tryz.prog.cellsOf 3)):=hx 2 _ rfl;rw [k2]at g2;obtain⟨x2,r2,q2⟩:=(Bk Tryz.underlying3) m' _ g2;have k3:Tryz.prog.cellsOf 3=1:=by kernel_rfl
 have g3:de Tryz.prog w m' 3 ((cs.drop 3).take (Tryz.prog.cellsOf 3)):=hx 3 _ rfl;rw [k3]at g3;obtain⟨x3,r3,q3⟩:=(Bk Tryz.underlying3) m' _ g3;have k4:Tryz.prog.cellsOf 3=1:=by kernel_rfl
 have g4:de Tryz.prog w m' 3 ((cs.drop 4).take (Tryz.prog.cellsOf 3)):=hx 4 _ rfl;rw [k4]at g4;obtain⟨x4,r4,q4⟩:=(Bk Tryz.underlying3) m' _ g4;have k5:Tryz.prog.cellsOf 27=1:=by kernel_rfl
 have g5:de Tryz.prog w m' 27 ((cs.drop 5).take (Tryz.prog.cellsOf 27)):=hx 5 _ rfl;rw [k5]at g5;obtain⟨x5,r5,q5⟩:=(H0 Aox Tryz.underlying27 (by kernel_rfl)) m' _ g5;have k6:Tryz.prog.cellsOf 28=1:=by kernel_rfl
 have g6:de Tryz.prog w m' 28 ((cs.drop 6).take (Tryz.prog.cellsOf 28)):=hx 6 _ rfl;rw [k6]at g6;obtain⟨x6,r6,q6⟩:=(H0 (Bk Tryz.underlying3) Tryz.underlying28 (by kernel_rfl)) m' _ g6;exact⟨⟨x0,x1,x2,x3,x4,x5,x6⟩,A4 r0 (A4 r1 (A4 r2 (A4 r3 (A4 r4 (A4 r5 (H2 (by omega) r6)))))),q0,q1,q2,q3,q4,q5,q6⟩
end Go.Proofs.YthkbhlmijkegiaaGreat
