/- A part of the proof: conditions of the code, contracts, the plain law. -/
import Derived.Test.YtpdccfgpbkagcaaGreatM6
import Derived.Test.YtpdccfgpbkagcaaGreatM4
import Derived.Test.YtpdccfgpbkagcaaGreatM2
import Derived.Test.YtpdccfgpbkagcaaGreatRows
import Derived.Test.YtpdccfgpbkagcaaGreatVcI
import Derived.Test.YtpdccfgpbkagcaaGreatVcF
open List (replicate getElem?_eq_getElem mem_singleton length_append getElem?_map map_set length_set mem_append)
open Int (toNat_natCast)
open Nat (le_refl zero_add mul_one zero_le)
namespace Go.Proofs.YtpdccfgpbkagcaaGreat
open Go.Vc
abbrev Fm (f:FuncId) (a:Array Value) (w:World) (K:Value->World->Prop):Prop:=Calls Tryz.prog f a w (aD K)
def Agr (x0:Option Addr) (x1:Nat) (x2:Nat) (x3:Int) (K:Value->World->Prop) (w:World):Prop:=∀(x4:Nat) (w1:World),x4=w.heap.size->w1=w.alloc (.cells #[.slice x0 x1 x2] 22)->∃x5 x6 x7,w1.cell? (Zb x4)=some (.slice x5 x6 x7)/\∀(x8:Nat) (w2:World),x8=w1.heap.size->w2=w1.alloc (.map #[] 0)->∀(x9:Nat) (w3:World),x9=w2.heap.size->w3=w2.alloc (.map #[] 0)->∀(ad:Nat) (w4:World),ad=w3.heap.size->w4=w3.alloc (.cells #[.slice x5 x6 x7,.slice none 0 0,.slice none 0 0,.int .i64 0,.slice none 0 0,.map (some x8),.map (some x9),.int .i64 0,.int .i64 0,.int .i64 0,.int .i64 x3,.slice none 0 0] 108)->∀(aa:Nat) (w5:World),aa=w4.heap.size->w5=w4.alloc (.cells #[.pointer none] 104)->Af w5 (Zb aa) 1/\∀w6:World,w6=w5.setCell (Zb aa) (.pointer (some (Zb ad)))->∃af ae ag,w6.cell? (Zb x4)=some (.slice af ae ag)/\Fm 84 #[.slice af ae ag] w6 (fun ah w7=>∃aj ax,ah= .tuple #[.int .i64 aj,.int .i64 ax]/\cond (ax !=0) (∃aH,w7.cell? (Zb aa)=some (.pointer aH)/\Fm 85 #[.pointer aH,.int .i64 aj,.int .i64 ax] w7 (fun _x19 w8=>∃ar,w8.cell? (Zb aa)=some (.pointer ar)/\Bi [] w8/\K (.pointer ar) (shut [] w8))) (∃(J:World->Prop),(∀w9:World,w9=w7.drew->∃(S:World->Prop),S w9/\∃aK,(∀u:World,S u->u.cell? (Zb aa)=some (.pointer aK))/\∃aG aV aZ,(∀u:World,S u->u.cell? (Zb x4)=some (.slice aG aV aZ))/\∀(bf:Nat) (ak:World),bf=w9.heap.size->ak=w9.alloc (.cells #[.int .i64 (-1)] 3)->S ak/\Fm 86 #[.slice (some (Zb bf)) 1 1,.int .i64 (aV:Int)] ak (fun aR aw=>∃br bn bt,aR= .slice br bn bt/\S aw/\Ak aK (fun bz=>Af aw ((bz.add 1).add 3) 1/\∀aJ:World,aJ=aw.setCell ((bz.add 1).add 3) (.slice br bn bt)->J aJ)))/\∀(_x31:Nat->Value) aQ,J aQ->∃bo bK bC,aQ.cell? (Zb x4)=some (.slice bo bK bC)/\Fm 23 #[.slice bo bK bC,.int .i64 0] aQ (fun bL aX=>∃bX bG,bL= .func (.func 43) #[] #[.pointer (some (Zb bX)),.pointer (some (Zb bG))]/\∃(bN:List Nat) (bM:List (Int)),Kr Tryz.prog 43 #[.pointer (some (Zb bX)),.pointer (some (Zb bG))] [.int .i64] bN bM aX/\∃(I:List Nat->List (Int)->World->Prop) (ct:List (Int)->World->Prop) (_x44:Nat->List (Int)->World->Prop),I bN [] aX/\(∀(bP:List Nat) (cf:List (Int)) (cg:Int) (a_ aN:World),I bP cf a_->Grown aX.heap.size a_ aN->(cf++[cg])<+:bM->∃cJ,aN.cell? (Zb aa)=some (.pointer cJ)/\Ak cJ (fun cu=>∃cG,aN.cell? (cu.add 9)=some (.int .i64 cG)/\cond (cG==0) (∃cj,aN.cell? (Zb aa)=some (.pointer cj)/\Fm 87 #[.pointer cj,.int .i64 cg] aN (fun _x51 bE=>∃bp,G8 bP bp aN bE/\I bp (cf++[cg]) bE)) (∃bp,G8 bP bp aN aN/\I bp (cf++[cg]) aN)))/\(∀(bS:List (Int)) (bB bT:World) (di:Nat),bS<+:bM->ct bS bB->Grown aX.heap.size bB bT->aX.heap.size<=di->bT.heap[di]? =some (.deferred (some []))->Bi (di::[]) bT/\K (.pointer none) (shut (di::[]) bT))/\∀(b_:List Nat) (dc cS:World) (cp:Nat),I b_ bM dc->Grown aX.heap.size dc cS->aX.heap.size<=cp->cS.heap[cp]? =some (.deferred (some []))->∃(J1:World->Prop),(∃dp,cS.cell? (Zb aa)=some (.pointer dp)/\Ak dp (fun dj=>∃cv,cS.cell? (dj.add 5)=some (.map cv)/\Bh Tryz.prog (Instr.lookup 106 (.map cv) (.string (aI [109,97,105,110])) true) (fun d9 dq=>∃dk dG,d9= .tuple #[.int .i64 dk,.bool dG]/\cond (!dG) (∃dH,dq.cell? (Zb aa)=some (.pointer dH)/\∃dI dM cO,dq.cell? (Zb x4)=some (.slice dI dM cO)/\Fm 85 #[.pointer dH,.int .i64 (dM:Int),.int .i64 7] dq (fun _x65 eF=>J1 eF)) (J1 dq)) cS))/\∀(_x66:Nat->Value) dJ,J1 dJ->∃ey d7 dZ,dJ.cell? (Zb x4)=some (.slice ey d7 dZ)/\Fm 23 #[.slice ey d7 dZ,.int .i64 0] dJ (fun fE cL=>∃eg eC,fE= .func (.func 43) #[] #[.pointer (some (Zb eg)),.pointer (some (Zb eC))]/\∃(eh:List Nat) (ej:List (Int)),Kr Tryz.prog 43 #[.pointer (some (Zb eg)),.pointer (some (Zb eC))] [.int .i64] eh ej cL/\∃(I1:List Nat->List (Int)->World->Prop) (fF:List (Int)->World->Prop) (fx:Nat->List (Int)->World->Prop),I1 eh [] cL/\(∀(eD:List Nat) (fc:List (Int)) (ep:Int) (eb cY:World),I1 eD fc eb->Grown cL.heap.size eb cY->(fc++[ep])<+:ej->∃eP,cY.cell? (Zb aa)=some (.pointer eP)/\Ak eP (fun fi=>∃gd,cY.cell? (fi.add 9)=some (.int .i64 gd)/\cond (gd !=0) (Ao eD cY cY/\fx 2 (fc++[ep]) cY) (∃eQ fj e7,cY.cell? (Zb x4)=some (.slice eQ fj e7)/\((0:Int)<=ep/\ep<(fj:Int))/\Ak eQ (fun fJ=>∃fK,cY.cell? (fJ.add (ep.toNat*5))=some (.int .i64 fK)/\cond (fK !=38) (∃(J2:World->Prop),(∀dx:World,dx=cY.drew->∃gH,dx.cell? (Zb aa)=some (.pointer gH)/\∃fG,dx.cell? (Zb aa)=some (.pointer fG)/\Ak fG (fun gN=>∃fH hH gI,dx.cell? ((gN.add 1).add 3)=some (.slice fH hH gI)/\((0:Int)<=ep/\ep<(hH:Int))/\Ak fH (fun gh=>∃fM,dx.cell? (gh.add (ep.toNat*1))=some (.int .i64 fM)/\Ak gH (fun gz=>Af dx (gz.add 7) 1/\∀dd:World,dd=dx.setCell (gz.add 7) (.int .i64 fM)->J2 dd))))/\∀(_x99:Nat->Value) dQ,J2 dQ->∃gJ,dQ.cell? (Zb aa)=some (.pointer gJ)/\∀(gK:Nat) (ei:World),gK=dQ.heap.size->ei=dQ.alloc (.map #[] 0)->Ak gJ (fun gP=>Af ei (gP.add 6) 1/\∀dm:World,dm=ei.setCell (gP.add 6) (.map (some gK))->∃iD,dm.cell? (Zb aa)=some (.pointer iD)/\Fm 88 #[.pointer iD,.int .i64 ep] dm (fun _x104 eI=>∃eE,G8 eD eE cY eI/\I1 eE (fc++[ep]) eI))) (∃eE,G8 eD eE cY cY/\I1 eE (fc++[ep]) cY)))))/\(∀(jt:List (Int)) (eR eM:World) (jM:Nat),jt<+:ej->fF jt eR->Grown cL.heap.size eR eM->cL.heap.size<=jM->eM.heap[jM]? =some (.deferred (some []))->Bi (jM::(cp::[])) eM/\K (.pointer none) (shut (jM::(cp::[])) eM))/\(∀(kf:List (Int)) (gA fP:World) (i7:Nat),kf<+:ej->fx 2 kf gA->Grown cL.heap.size gA fP->cL.heap.size<=i7->fP.heap[i7]? =some (.deferred (some []))->∃ju,fP.cell? (Zb aa)=some (.pointer ju)/\Bi (i7::(cp::[])) fP/\K (.pointer ju) (shut (i7::(cp::[])) fP))/\∀(gb:List Nat) (g_ iW:World) (jv:Nat),I1 gb ej g_->Grown cL.heap.size g_ iW->cL.heap.size<=jv->iW.heap[jv]? =some (.deferred (some []))->∃m9,iW.cell? (Zb aa)=some (.pointer m9)/\Bi (jv::(cp::[])) iW/\K (.pointer m9) (shut (jv::(cp::[])) iW)))))
theorem Ags (x0:Option Addr) (x1:Nat) (x2:Nat) (x3:Int) (K:Value->World->Prop) (w:World) (h:Agr x0 x1 x2 x3 K w):Calls Tryz.prog 54 #[.slice x0 x1 x2,.int .i64 x3] w (aD K):=
 Fi { dN:=[(15,[]),(63,[]),(32598,[])],ranges:=[(250,[.int .i64]),(1018,[.int .i64])],qw:=[(23,43,2)] } Tryz.func54 (by kernel_rfl) h
def O1 (x0:Addr) (x1:Int) (K:Value->World->Prop) (w:World):Prop:=∀(x2:Nat) (w1:World),x2=w.heap.size->w1=w.alloc (.cells #[.pointer (some x0)] 104)->∃x3,w1.cell? (Zb x2)=some (.pointer x3)/\Ak x3 (fun x4=>∃x5 x6 x7,w1.cell? x4=some (.slice x5 x6 x7)/\((0:Int)<=x1/\x1<(x6:Int))/\Ak x5 (fun x8=>∃x9 ad aa af ae,Ac w1 (x8.add (x1.toNat*5)) [.int .i64 x9,.string (aI ad),.int .i64 aa,.int .i64 af,.int .i64 ae]/\∀(ag:Nat) (w2:World),ag=w1.heap.size->w2=w1.alloc (.cells #[.int .i64 0,.string (aI []),.int .i64 0,.int .i64 0,.int .i64 0] 26)->Af w2 (Zb ag) 5/\∀w3:World,w3=setCells w2 (Zb ag) [.int .i64 x9,.string (aI ad),.int .i64 aa,.int .i64 af,.int .i64 ae]->∃(J:World->Prop),(∃ah,w3.cell? (Zb x2)=some (.pointer ah)/\Ak ah (fun aj=>∃ax,w3.cell? (aj.add 10)=some (.int .i64 ax)/\cond (x1==ax) (∀w4:World,w4=w3.drew->∃(S:World->Prop),S w4/\∃aH,(∀u:World,S u->u.cell? (Zb x2)=some (.pointer aH))/\∃ao,(∀u:World,S u->u.cell? (Zb x2)=some (.pointer ao))/\Fm 123 #[.pointer ao] w4 (fun ar w5=>∃aK aG aV,ar= .slice aK aG aV/\S w5/\Ak aH (fun aZ=>Af w5 (aZ.add 11) 1/\∀w6:World,w6=w5.setCell (aZ.add 11) (.slice aK aG aV)->J w6))) (J w3)))/\∀(_x25:Nat->Value) w7,J w7->∃(J1:World->Prop),(∃aR,w7.cell? (Zb ag)=some (.int .i64 aR)/\∃(J2:Bool->World->Prop),(cond (aR==39) (J2 (aR==39) w7) (J2 (aR==18) w7))/\∀(_x27:Nat->Value) bn w8,J2 bn w8->cond (bn) (∃bt,w8.cell? (Zb x2)=some (.pointer bt)/\Fm 124 #[.pointer bt,.int .i64 x1] w8 (fun _x30 w9=>J1 w9)) (∃(J3:Bool->World->Prop),(cond (aR==2) (J3 (aR==2) w8) (cond (aR==19) (J3 (aR==19) w8) (cond (aR==20) (J3 (aR==20) w8) (cond (aR==22) (J3 (aR==22) w8) (J3 (aR==34) w8)))))/\∀(_x31:Nat->Value) bo ak,J3 bo ak->cond (bo) (∃bK,ak.cell? (Zb x2)=some (.pointer bK)/\Fm 125 #[.pointer bK,.int .i64 x1] ak (fun _x34 aw=>J1 aw)) (cond (aR==33) (∃bL,ak.cell? (Zb x2)=some (.pointer bL)/\Fm 126 #[.pointer bL,.int .i64 x1,.bool true] ak (fun _x36 aJ=>J1 aJ)) (cond (aR==26) (∃bG,ak.cell? (Zb x2)=some (.pointer bG)/\Fm 126 #[.pointer bG,.int .i64 x1,.bool false] ak (fun _x38 aQ=>J1 aQ)) (J1 ak)))))/\∀(_x39:Nat->Value) aX,J1 aX->∀(bP:Nat) (a_:World),bP=aX.heap.size->a_=aX.alloc (.cells #[.slice none 0 0] 76)->∃bp,a_.cell? (Zb x2)=some (.pointer bp)/\Ak bp (fun b_=>∃ct cy cf,a_.cell? b_=some (.slice ct cy cf)/\Fm 23 #[.slice ct cy cf,.int .i64 x1] a_ (fun cg aN=>∃cJ cu,cg= .func (.func 43) #[] #[.pointer (some (Zb cJ)),.pointer (some (Zb cu))]/\∃(cG:List Nat) (cj:List (Int)),Kr Tryz.prog 43 #[.pointer (some (Zb cJ)),.pointer (some (Zb cu))] [.int .i64] cG cj aN/\∃(I:List Nat->List (Int)->World->Prop) (cp:List (Int)->World->Prop) (_x55:Nat->List (Int)->World->Prop),I cG [] aN/\(∀(cK:List Nat) (dj:List (Int)) (cv:Int) (bE bB:World),I cK dj bE->Grown aN.heap.size bE bB->(dj++[cv])<+:cj->∃d9,bB.cell? (Zb x2)=some (.pointer d9)/\Ak d9 (fun dk=>∃dG,bB.cell? (dk.add 9)=some (.int .i64 dG)/\cond (dG !=0) (Ao cK bB bB/\cp (dj++[cv]) bB) (∃dH,bB.cell? (Zb x2)=some (.pointer dH)/\Fm 115 #[.pointer dH,.int .i64 cv] bB (fun _x62 bT=>∃(J4:Bool->World->Prop),(∃dM,bT.cell? (Zb x2)=some (.pointer dM)/\Ak dM (fun cO=>∃eo d_ ey,bT.cell? cO=some (.slice eo d_ ey)/\((0:Int)<=cv/\cv<(d_:Int))/\Ak eo (fun d7=>∃dZ,bT.cell? (d7.add (cv.toNat*5))=some (.int .i64 dZ)/\cond (dZ==18) (J4 true bT) (∃fE,bT.cell? (Zb x2)=some (.pointer fE)/\Ak fE (fun eg=>∃eC eh ej,bT.cell? eg=some (.slice eC eh ej)/\((0:Int)<=cv/\cv<(eh:Int))/\Ak eC (fun eD=>∃eE,bT.cell? (eD.add (cv.toNat*5))=some (.int .i64 eE)/\J4 (eE==39) bT))))))/\∀(_x77:Nat->Value) fF dc,J4 fF dc->cond (fF) (∃(J5:World->Prop),(∀cS:World,cS=dc.drew->∃(S1:World->Prop),S1 cS/\∃fx fc ep,(∀u:World,S1 u->u.cell? (Zb bP)=some (.slice fx fc ep))/\∃eP,(∀u:World,S1 u->u.cell? (Zb x2)=some (.pointer eP))/\Ak eP (fun fi=>∃gd eQ fj,(∀u:World,S1 u->u.cell? fi=some (.slice gd eQ fj))/\((0:Int)<=cv/\cv<(eQ:Int))/\Ak gd (fun e7=>∃fJ,(∀u:World,S1 u->u.cell? ((e7.add (cv.toNat*5)).add 1)=some (.string (aI fJ)))/\∀(fK:Nat) (dq:World),fK=cS.heap.size->dq=cS.alloc (.cells #[.string (aI fJ)] 9)->S1 dq/\Bh Tryz.prog (Builtin.append_ #[76,76] 76 #[.slice fx fc ep,.slice (some (Zb fK)) 1 1]) (fun gH eF=>∃fG gN fH,gH= .slice fG gN fH/\Af eF (Zb bP) 1/\∀dJ:World,dJ=eF.setCell (Zb bP) (.slice fG gN fH)->J5 dJ) dq)))/\∀(_x94:Nat->Value) cL,J5 cL->∀eb:World,eb=cL.drew->∃(S2:World->Prop),S2 eb/\∃gI,(∀u:World,S2 u->u.cell? (Zb x2)=some (.pointer gI))/\Ak gI (fun gh=>∃fM,(∀u:World,S2 u->u.cell? (gh.add 6)=some (.map fM))/\∃gz,(∀u:World,S2 u->u.cell? (Zb x2)=some (.pointer gz))/\Ak gz (fun gO=>∃gJ gK gP,(∀u:World,S2 u->u.cell? gO=some (.slice gJ gK gP))/\((0:Int)<=cv/\cv<(gK:Int))/\Ak gJ (fun iD=>∃kb,(∀u:World,S2 u->u.cell? ((iD.add (cv.toNat*5)).add 1)=some (.string (aI kb)))/\∃jt,(∀u:World,S2 u->u.cell? (Zb x2)=some (.pointer jt))/\Ak jt (fun jM=>∃kf i7 ju,(∀u:World,S2 u->u.cell? ((jM.add 1).add 3)=some (.slice kf i7 ju))/\((0:Int)<=cv/\cv<(i7:Int))/\Ak kf (fun jv=>∃m9,(∀u:World,S2 u->u.cell? (jv.add (cv.toNat*1))=some (.int .i64 m9))/\Bh Tryz.prog (Instr.mapUpdate 106 (.map fM) (.string (aI kb)) (.int .i64 m9)) (fun _ cY=>∃bS,G8 cK bS bB cY/\I bS (dj++[cv]) cY) eb)))))) (∃bS,G8 cK bS bB dc/\I bS (dj++[cv]) dc)))))/\(∀(mJ:List (Int)) (dx dd:World) (l8:Nat),mJ<+:cj->cp mJ dx->Grown aN.heap.size dx dd->aN.heap.size<=l8->dd.heap[l8]? =some (.deferred (some []))->Bi (l8::[]) dd/\K (.tuple #[]) (shut (l8::[]) dd))/\∀(di:List Nat) (dQ ei:World) (kg:Nat),I di cj dQ->Grown aN.heap.size dQ ei->aN.heap.size<=kg->ei.heap[kg]? =some (.deferred (some []))->∃mK m_ nf,ei.cell? (Zb bP)=some (.slice mK m_ nf)/\∃(I1:Int->World->Prop) (ng:Int->World->Nat),I1 0 ei/\∀(_x120:Nat->Value) (i9:Int) (dm:World),I1 i9 dm->cond (decide (i9<(m_:Int))) (((0:Int)<=i9/\i9<(m_:Int))/\Ak mK (fun ow=>∃mL,dm.cell? (ow.add (i9.toNat*1))=some (.string (aI mL))/\∃nh,dm.cell? (Zb x2)=some (.pointer nh)/\Ak nh (fun nj=>∃pE,dm.cell? (nj.add 6)=some (.map pE)/\Bh Tryz.prog (Builtin.delete_ #[106,9] 0 #[.map pE,.string (aI mL)]) (fun _x127 eI=>I1 (IntKind.i64.wrap (i9+1)) eI/\ng (IntKind.i64.wrap (i9+1)) eI<ng i9 dm) dm))) (Bi (kg::[]) dm/\K (.tuple #[]) (shut (kg::[]) dm))))))
theorem O2 (x0:Addr) (x1:Int) (K:Value->World->Prop) (w:World) (h:O1 x0 x1 K w):Calls Tryz.prog 115 #[.pointer (some x0),.int .i64 x1] w (aD K):=
 Fi { loops:=[(510,[(122,.int .i64)])],dN:=[(7,[]),(15,[]),(122,[(29,.bool)]),(491,[(35,.bool)]),(8107,[(88,.bool)]),(32430,[])],ranges:=[(506,[.int .i64])],qw:=[(23,43,2)] } Tryz.func115 (by kernel_rfl) h
def L4 (x0:Addr) (x1:Int) (K:Value->World->Prop) (w:World):Prop:=
 ∃x2 x3 x4,w.cell? x0=some (.slice x2 x3 x4)/\
 ((0:Int)<=x1/\x1<(x3:Int))/\
 Ak x2 (fun x5=>
  ∃x6 x7 x8 x9 ad,Ac w (x5.add (x1.toNat*5)) [.int .i64 x6,.string (aI x7),.int .i64 x8,.int .i64 x9,.int .i64 ad]/\
  ∀(aa:Nat) (w1:World),aa=w.heap.size->w1=w.alloc (.cells #[.int .i64 0,.string (aI []),.int .i64 0,.int .i64 0,.int .i64 0] 26)->
  Af w1 (Zb aa) 5/\∀w2:World,w2=setCells w1 (Zb aa) [.int .i64 x6,.string (aI x7),.int .i64 x8,.int .i64 x9,.int .i64 ad]->
  ∃af,w2.cell? ⟨aa,1,none⟩=some (.string (aI af))/\
  ∃(J:List UInt8->World->Prop),
  (∃ae,w2.cell? (Zb aa)=some (.int .i64 ae)/\
   cond (ae==41)
    (J [109,97,105,110] w2)
    (J af w2))/\
  ∀(_x14:Nat->Value) ah w3,J ah w3->
  ∃aj,w3.cell? (x0.add 5)=some (.map aj)/\
  Bh Tryz.prog (Instr.lookup 106 (.map aj) (.string (aI ah)) true) (fun ax w4=>
   ∃aH ao,ax= .tuple #[.int .i64 aH,.bool ao]/\
   cond (ao)
    (Fm 85 #[.pointer (some x0),.int .i64 x1,.int .i64 8] w4 (fun _x20 w5=>
     K (.tuple #[]) w5))
    (∃aK,w4.cell? (x0.add 5)=some (.map aK)/\
    Bh Tryz.prog (Instr.mapUpdate 106 (.map aK) (.string (aI ah)) (.int .i64 x1)) (fun _ w6=>
     ∃aV,w6.cell? (Zb aa)=some (.int .i64 aV)/\
     cond (aV !=38)
      (∃(J1:World->Prop),
      (∃aZ bf aR,w6.cell? ((x0.add 1).add 1)=some (.slice aZ bf aR)/\
       cond ((bf:Int)==32)
        (Fm 85 #[.pointer (some x0),.int .i64 x1,.int .i64 13] w6 (fun _x27 w7=>
         J1 w7))
        (J1 w6))/\
      ∀(_x28:Nat->Value) w8,J1 w8->
      ∃(J2:World->Prop),
      (∃bt,w8.cell? (Zb aa)=some (.int .i64 bt)/\
       cond (bt==41)
        (∃bz bD bo,w8.cell? ((x0.add 1).add 1)=some (.slice bz bD bo)/\
        Af w8 ((x0.add 1).add 2) 1/\∀w9:World,w9=w8.setCell ((x0.add 1).add 2) (.int .i64 (bD:Int))->
        J2 w9)
        (J2 w8))/\
      ∀(_x33:Nat->Value) ak,J2 ak->
      ∃(J3:World->Prop),
      (∀aw:World,aw=ak.drew->
       ∃bC bL bX,aw.cell? ((x0.add 1).add 3)=some (.slice bC bL bX)/\
       ∃bG bN bM,aw.cell? ((x0.add 1).add 1)=some (.slice bG bN bM)/\
       ((0:Int)<=x1/\x1<(bL:Int))/\
       Ak bC (fun bP=>
        Af aw (bP.add (x1.toNat*1)) 1/\∀aJ:World,aJ=aw.setCell (bP.add (x1.toNat*1)) (.int .i64 (bN:Int))->
        J3 aJ))/\
      ∀(_x41:Nat->Value) aQ,J3 aQ->
      ∀aX:World,aX=aQ.drew->
      ∃(S:World->Prop),S aX/\
      ∃b_ ct cy,(∀u:World,S u->u.cell? ((x0.add 1).add 1)=some (.slice b_ ct cy))/\
      ∃cf,(∀u:World,S u->u.cell? ⟨aa,3,none⟩=some (.int .i64 cf))/\
      ∀(cg:Nat) (a_:World),cg=aX.heap.size->a_=aX.alloc (.cells #[.string (aI ah),.int .i64 x1,.int .i64 (if 0>(IntKind.i64.wrap (cf-1))then 0 else IntKind.i64.wrap (cf-1)),.slice none 0 0] 78)->
      S a_/\
      Bh Tryz.prog (Builtin.append_ #[29,29] 29 #[.slice b_ ct cy,.slice (some (Zb cg)) 1 1]) (fun cJ aN=>
       ∃cu cG cj,cJ= .slice cu cG cj/\
       Af aN ((x0.add 1).add 1) 1/\∀bE:World,bE=aN.setCell ((x0.add 1).add 1) (.slice cu cG cj)->
       K (.tuple #[]) bE) a_)
      (∃cK,w6.cell? ⟨aa,2,none⟩=some (.int .i64 cK)/\
      ∀(bS:Nat) (bB:World),bS=w6.heap.size->bB=w6.alloc (.cells #[.string (aI []),.int .i64 0,.int .i64 0] 75)->
      Af bB (Zb bS) 3/\∀bT:World,bT=setCells bB (Zb bS) [.string (aI ah),.int .i64 0,.int .i64 cK]->
      ∃(J4:World->Prop),
      (∃di cp dp,bT.cell? (x0.add 1)=some (.slice di cp dp)/\
       cond (decide ((cp:Int)>0))
        (∀dc:World,dc=bT.drew->
        ∃(S1:World->Prop),S1 dc/\
        ∃dj cv d9,(∀u:World,S1 u->u.cell? (x0.add 1)=some (.slice dj cv d9))/\
        ((0:Int)<=(IntKind.i64.wrap ((cp:Int)-1))/\(IntKind.i64.wrap ((cp:Int)-1))<(cv:Int))/\
        Ak dj (fun dk=>
         ∃dG,(∀u:World,S1 u->u.cell? ((dk.add ((IntKind.i64.wrap ((cp:Int)-1)).toNat*3)).add 1)=some (.int .i64 dG))/\
         ∃dH dI dM,(∀u:World,S1 u->u.cell? (x0.add 1)=some (.slice dH dI dM))/\
         ((0:Int)<=(IntKind.i64.wrap ((cp:Int)-1))/\(IntKind.i64.wrap ((cp:Int)-1))<(dI:Int))/\
         Ak dH (fun cO=>
          ∃eo d_ ey,(∀u:World,S1 u->Ac u (cO.add ((IntKind.i64.wrap ((cp:Int)-1)).toNat*3)) [.string (aI eo),.int .i64 d_,.int .i64 ey])/\
          Fm 112 #[.agg #[.string (aI eo),.int .i64 d_,.int .i64 ey]] dc (fun d7 cS=>
           ∃dZ,d7= .int .i64 dZ/\
           S1 cS/\
           Af cS ⟨bS,1,none⟩ 1/\∀dq:World,dq=cS.setCell ⟨bS,1,none⟩ (.int .i64 (IntKind.i64.wrap (dG+dZ)))->
           J4 dq))))
        (J4 bT))/\
      ∀(_x70:Nat->Value) eF,J4 eF->
      ∃(J5:World->Prop),
      (∃(J6:Bool->World->Prop),
       (∀dJ:World,dJ=eF.drew->
        ∃(S2:World->Prop),S2 dJ/\
        ∃eg,(∀u:World,S2 u->u.cell? ⟨bS,1,none⟩=some (.int .i64 eg))/\
        ∃eC eh ej,(∀u:World,S2 u->Ac u (Zb bS) [.string (aI eC),.int .i64 eh,.int .i64 ej])/\
        Fm 112 #[.agg #[.string (aI eC),.int .i64 eh,.int .i64 ej]] dJ (fun eD cL=>
         ∃eE,eD= .int .i64 eE/\
         S2 cL/\
         J6 (decide ((IntKind.i64.wrap (eg+eE))>64)) cL))/\
       ∀(_x77:Nat->Value) fF eb,J6 fF eb->
       cond (fF)
        (Fm 85 #[.pointer (some x0),.int .i64 x1,.int .i64 13] eb (fun _x79 cY=>
         J5 cY))
        (J5 eb))/\
      ∀(_x80:Nat->Value) dx,J5 dx->
      ∃(J7:World->Prop),
      (∀dd:World,dd=dx.drew->
       ∃ep eP fi,dd.cell? ((x0.add 1).add 3)=some (.slice ep eP fi)/\
       ∃gd eQ fj,dd.cell? (x0.add 1)=some (.slice gd eQ fj)/\
       ((0:Int)<=x1/\x1<(eP:Int))/\
       Ak ep (fun e7=>
        Af dd (e7.add (x1.toNat*1)) 1/\∀dQ:World,dQ=dd.setCell (e7.add (x1.toNat*1)) (.int .i64 (eQ:Int))->
        J7 dQ))/\
      ∀(_x88:Nat->Value) ei,J7 ei->
      ∀dm:World,dm=ei.drew->
      ∃(S3:World->Prop),S3 dm/\
      ∃fK gH fG,(∀u:World,S3 u->u.cell? (x0.add 1)=some (.slice fK gH fG))/\
      ∃gN fH hH,(∀u:World,S3 u->Ac u (Zb bS) [.string (aI gN),.int .i64 fH,.int .i64 hH])/\
      ∀(gI:Nat) (eI:World),gI=dm.heap.size->eI=dm.alloc (.cells #[.string (aI gN),.int .i64 fH,.int .i64 hH] 75)->
      S3 eI/\
      Bh Tryz.prog (Builtin.append_ #[28,28] 28 #[.slice fK gH fG,.slice (some (Zb gI)) 1 1]) (fun gh eR=>
       ∃fM gz gO,gh= .slice fM gz gO/\
       Af eR (x0.add 1) 1/\∀eM:World,eM=eR.setCell (x0.add 1) (.slice fM gz gO)->
       K (.tuple #[]) eM) eI)) w4)) w3)
theorem L5 (x0:Addr) (x1:Int) (K:Value->World->Prop) (w:World) (h:L4 x0 x1 K w):Calls Tryz.prog 87 #[.pointer (some x0),.int .i64 x1] w (aD K):=
 Aj { dN:=[(7,[(5,.string)]),(255,[]),(506,[]),(511,[]),(1013,[]),(1022,[(137,.bool)]),(1023,[]),(2027,[])] } Tryz.func87 (by kernel_rfl) h
def Nx (x0:Addr) (x1:Int) (K:Value->World->Prop) (w:World):Prop:=∀w1:World,w1=w.drew->∃x2 x3 x4,w1.cell? ((x0.add 1).add 1)=some (.slice x2 x3 x4)/\∃x5,w1.cell? (x0.add 7)=some (.int .i64 x5)/\((0:Int)<=x5/\x5<(x3:Int))/\Ak x2 (fun x6=>∃(J:Bool->World->Prop),(∀w2:World,w2=w1.drew->∃(S:World->Prop),S w2/\∃x7,(∀u:World,S u->u.cell? (x0.add 6)=some (.map x7))/\∃x8 x9 ad,(∀u:World,S u->u.cell? x0=some (.slice x8 x9 ad))/\((0:Int)<=x1/\x1<(x9:Int))/\Ak x8 (fun aa=>∃af,(∀u:World,S u->u.cell? ((aa.add (x1.toNat*5)).add 1)=some (.string (aI af)))/\Bh Tryz.prog (Instr.lookup 106 (.map x7) (.string (aI af)) true) (fun ae w3=>∃ag ah,ae= .tuple #[.int .i64 ag,.bool ah]/\J ah w3) w2))/\∀(_x16:Nat->Value) ax w4,J ax w4->∃(J1:World->Prop),(cond (ax) (Fm 85 #[.pointer (some x0),.int .i64 x1,.int .i64 8] w4 (fun _x18 w5=>J1 w5)) (∃ao ar aK,w4.cell? ((x6.add (x5.toNat*4)).add 3)=some (.slice ao ar aK)/\cond ((ar:Int)==16) (Fm 85 #[.pointer (some x0),.int .i64 x1,.int .i64 13] w4 (fun _x22 w6=>J1 w6)) (J1 w4)))/\∀(_x23:Nat->Value) w7,J1 w7->∃(J2:World->Prop),(∀w8:World,w8=w7.drew->∃aZ bf aR,w8.cell? ((x0.add 1).add 3)=some (.slice aZ bf aR)/\∃br bn bt,w8.cell? ((x6.add (x5.toNat*4)).add 3)=some (.slice br bn bt)/\((0:Int)<=x1/\x1<(bf:Int))/\Ak aZ (fun bz=>Af w8 (bz.add (x1.toNat*1)) 1/\∀w9:World,w9=w8.setCell (bz.add (x1.toNat*1)) (.int .i64 (bn:Int))->J2 w9))/\∀(_x31:Nat->Value) ak,J2 ak->∀aw:World,aw=ak.drew->∃(S1:World->Prop),S1 aw/\∃bo bK bC,(∀u:World,S1 u->u.cell? ((x6.add (x5.toNat*4)).add 3)=some (.slice bo bK bC))/\∃bL bX bG,(∀u:World,S1 u->u.cell? x0=some (.slice bL bX bG))/\((0:Int)<=x1/\x1<(bX:Int))/\Ak bL (fun bN=>∃bM,(∀u:World,S1 u->u.cell? ((bN.add (x1.toNat*5)).add 1)=some (.string (aI bM)))/\∀(bP:Nat) (aJ:World),bP=aw.heap.size->aJ=aw.alloc (.cells #[.string (aI bM)] 9)->S1 aJ/\Bh Tryz.prog (Builtin.append_ #[76,76] 76 #[.slice bo bK bC,.slice (some (Zb bP)) 1 1]) (fun bp aQ=>∃b_ ct cy,bp= .slice b_ ct cy/\Af aQ ((x6.add (x5.toNat*4)).add 3) 1/\∀aX:World,aX=aQ.setCell ((x6.add (x5.toNat*4)).add 3) (.slice b_ ct cy)->K (.tuple #[]) aX) aJ))
theorem Ny (x0:Addr) (x1:Int) (K:Value->World->Prop) (w:World) (h:Nx x0 x1 K w):Calls Tryz.prog 124 #[.pointer (some x0),.int .i64 x1] w (aD K):=
 Aj { dN:=[(3,[(6,.bool)]),(7,[]),(15,[])] } Tryz.func124 (by kernel_rfl) h
def Qe (x0:Addr) (x1:Int) (K:Value->World->Prop) (w:World):Prop:=∃(J:Int->Bool->World->Prop),(∀w1:World,w1=w.drew->∃(S:World->Prop),S w1/\∃x2,(∀u:World,S u->u.cell? (x0.add 6)=some (.map x2))/\∃x3 x4 x5,(∀u:World,S u->u.cell? x0=some (.slice x3 x4 x5))/\((0:Int)<=x1/\x1<(x4:Int))/\Ak x3 (fun x6=>∃x7,(∀u:World,S u->u.cell? ((x6.add (x1.toNat*5)).add 1)=some (.string (aI x7)))/\Bh Tryz.prog (Instr.lookup 106 (.map x2) (.string (aI x7)) true) (fun x8 w2=>∃x9 ad,x8= .tuple #[.int .i64 x9,.bool ad]/\J x9 ad w2) w1))/\∀(_x11:Nat->Value) af ae w3,J af ae w3->∃(J1:World->Prop),(cond (!ae) (Fm 85 #[.pointer (some x0),.int .i64 x1,.int .i64 7] w3 (fun _x14 w4=>J1 w4)) (J1 w3))/\∀(_x15:Nat->Value) w5,J1 w5->∃aj ax aH,w5.cell? ((x0.add 1).add 3)=some (.slice aj ax aH)/\((0:Int)<=x1/\x1<(ax:Int))/\Ak aj (fun ao=>Af w5 (ao.add (x1.toNat*1)) 1/\∀w6:World,w6=w5.setCell (ao.add (x1.toNat*1)) (.int .i64 af)->K (.tuple #[]) w6)
theorem Qf (x0:Addr) (x1:Int) (K:Value->World->Prop) (w:World) (h:Qe x0 x1 K w):Calls Tryz.prog 125 #[.pointer (some x0),.int .i64 x1] w (aD K):=
 Aj { dN:=[(1,[(4,.int .i64),(5,.bool)]),(3,[])] } Tryz.func125 (by kernel_rfl) h
def M8 (x0:Addr) (x1:Int) (x2:Bool) (K:Value->World->Prop) (w:World):Prop:=∃(J:Int->Bool->World->Prop),(∀w1:World,w1=w.drew->∃(S:World->Prop),S w1/\∃x3,(∀u:World,S u->u.cell? (x0.add 5)=some (.map x3))/\∃x4 x5 x6,(∀u:World,S u->u.cell? x0=some (.slice x4 x5 x6))/\((0:Int)<=x1/\x1<(x5:Int))/\Ak x4 (fun x7=>∃x8,(∀u:World,S u->u.cell? ((x7.add (x1.toNat*5)).add 1)=some (.string (aI x8)))/\Bh Tryz.prog (Instr.lookup 106 (.map x3) (.string (aI x8)) true) (fun x9 w2=>∃ad aa,x9= .tuple #[.int .i64 ad,.bool aa]/\J ad aa w2) w1))/\∀(_x12:Nat->Value) ae ag w3,J ae ag w3->cond (!ag) (Fm 85 #[.pointer (some x0),.int .i64 x1,.int .i64 7] w3 (fun _x15 w4=>K (.tuple #[]) w4)) (∃aj ax aH,w3.cell? x0=some (.slice aj ax aH)/\((0:Int)<=ae/\ae<(ax:Int))/\Ak aj (fun ao=>∃ar,w3.cell? (ao.add (ae.toNat*5))=some (.int .i64 ar)/\cond (!((ar==38)==x2)) (Fm 85 #[.pointer (some x0),.int .i64 x1,.int .i64 12] w3 (fun _x21 w5=>K (.tuple #[]) w5)) (∀w6:World,w6=w3.drew->∃aG aV aZ,w6.cell? ((x0.add 1).add 3)=some (.slice aG aV aZ)/\∃bf aR br,w6.cell? ((x0.add 1).add 3)=some (.slice bf aR br)/\((0:Int)<=ae/\ae<(aR:Int))/\Ak bf (fun bn=>∃bt,w6.cell? (bn.add (ae.toNat*1))=some (.int .i64 bt)/\((0:Int)<=x1/\x1<(aV:Int))/\Ak aG (fun bz=>Af w6 (bz.add (x1.toNat*1)) 1/\∀w7:World,w7=w6.setCell (bz.add (x1.toNat*1)) (.int .i64 bt)->K (.tuple #[]) w7)))))
theorem M9 (x0:Addr) (x1:Int) (x2:Bool) (K:Value->World->Prop) (w:World) (h:M8 x0 x1 x2 K w):Calls Tryz.prog 126 #[.pointer (some x0),.int .i64 x1,.bool x2] w (aD K):=
 Aj { dN:=[(1,[(6,.int .i64),(7,.bool)])] } Tryz.func126 (by kernel_rfl) h
def O3 (x0:Addr) (x1:Int) (K:Value->World->Prop) (w:World):Prop:=∀(x2:Nat) (w1:World),x2=w.heap.size->w1=w.alloc (.cells #[.pointer (some x0)] 104)->∃(J:World->Prop),(∃x3,w1.cell? (Zb x2)=some (.pointer x3)/\Ak x3 (fun x4=>∃x5,w1.cell? (x4.add 10)=some (.int .i64 x5)/\cond (x1==x5) (∃x6,w1.cell? (Zb x2)=some (.pointer x6)/\Ak x6 (fun x7=>Af w1 (x7.add 10) 1/\∀w2:World,w2=w1.setCell (x7.add 10) (.int .i64 (-1))->False)) (J w1)))/\∀(_x9:Nat->Value) w4,J w4->∀(ad:Nat) (w5:World),ad=w4.heap.size->w5=w4.alloc (.cells #[.bool false] 4)->Af w5 (Zb ad) 1/\∀w6:World,w6=w5.setCell (Zb ad) (.bool false)->∃aa,w6.cell? (Zb x2)=some (.pointer aa)/\Ak aa (fun af=>∃ae ag ah,w6.cell? af=some (.slice ae ag ah)/\Fm 23 #[.slice ae ag ah,.int .i64 x1] w6 (fun aj w7=>∃ax aH,aj= .func (.func 43) #[] #[.pointer (some (Zb ax)),.pointer (some (Zb aH))]/\∃(ao:List Nat) (ar:List (Int)),Kr Tryz.prog 43 #[.pointer (some (Zb ax)),.pointer (some (Zb aH))] [.int .i64] ao ar w7/\∃(I:List Nat->List (Int)->World->Prop) (aZ:List (Int)->World->Prop) (_x25:Nat->List (Int)->World->Prop),I ao [] w7/\(∀(aK:List Nat) (aR:List (Int)) (br:Int) (w8 w9:World),I aK aR w8->Grown w7.heap.size w8 w9->(aR++[br])<+:ar->∃bn,w9.cell? (Zb ad)=some (.bool bn)/\cond (bn) (Af w9 (Zb ad) 1/\∀ak:World,ak=w9.setCell (Zb ad) (.bool true)->∃aG,G8 aK aG w9 ak/\I aG (aR++[br]) ak) (∃bt,w9.cell? (Zb x2)=some (.pointer bt)/\Ak bt (fun bz=>∃bD bo bK,w9.cell? bz=some (.slice bD bo bK)/\((0:Int)<=br/\br<(bo:Int))/\Ak bD (fun bC=>∃bL,w9.cell? (bC.add (br.toNat*5))=some (.int .i64 bL)/\cond (bL==39) (∃bX,w9.cell? (Zb x2)=some (.pointer bX)/\Ak bX (fun bG=>∃bN,w9.cell? (bG.add 10)=some (.int .i64 bN)/\Af w9 (Zb ad) 1/\∀aw:World,aw=w9.setCell (Zb ad) (.bool (br==bN))->∃aG,G8 aK aG w9 aw/\I aG (aR++[br]) aw)) (Af w9 (Zb ad) 1/\∀aJ:World,aJ=w9.setCell (Zb ad) (.bool false)->∃aG,G8 aK aG w9 aJ/\I aG (aR++[br]) aJ)))))/\(∀(bM:List (Int)) (aQ aX:World) (bP:Nat),bM<+:ar->aZ bM aQ->Grown w7.heap.size aQ aX->w7.heap.size<=bP->aX.heap[bP]? =some (.deferred (some []))->Bi (bP::[]) aX/\K (.tuple #[]) (shut (bP::[]) aX))/\∀(aV:List Nat) (a_ aN:World) (bp:Nat),I aV ar a_->Grown w7.heap.size a_ aN->w7.heap.size<=bp->aN.heap[bp]? =some (.deferred (some []))->∃(J1:World->Prop),(∃b_,aN.cell? (Zb ad)=some (.bool b_)/\cond (b_) (∃ct,aN.cell? (Zb x2)=some (.pointer ct)/\Ak ct (fun cy=>Af aN (cy.add 10) 1/\∀bE:World,bE=aN.setCell (cy.add 10) (.int .i64 (-1))->False)) (J1 aN))/\∀(_x46:Nat->Value) bT,J1 bT->∃cJ,bT.cell? (Zb x2)=some (.pointer cJ)/\Fm 115 #[.pointer cJ,.int .i64 x1] bT (fun _x48 dc=>Bi (bp::[]) dc/\K (.tuple #[]) (shut (bp::[]) dc))))
theorem O4 (x0:Addr) (x1:Int) (K:Value->World->Prop) (w:World) (h:O3 x0 x1 K w):Calls Tryz.prog 88 #[.pointer (some x0),.int .i64 x1] w (aD K):=
 Fi { dN:=[(3,[]),(31,[])],ranges:=[(122,[.int .i64])],qw:=[(23,43,2)] } Tryz.func88 (by kernel_rfl) h
def Aj2 (x0:Option Addr) (x1:Nat) (x2:Nat) (K:Value->World->Prop) (w:World):Prop:=∀(x3:Nat) (w1:World),x3=w.heap.size->w1=w.alloc (.cells #[.slice none 0 0,.slice none 0 0,.int .i64 0,.slice none 0 0] 31)->Fm 54 #[.slice x0 x1 x2,.int .i64 (-1)] w1 (fun x4 w2=>∃x5,x4= .pointer x5/\Ak x5 (fun x6=>∃x7,w2.cell? (x6.add 9)=some (.int .i64 x7)/\cond (x7 !=0) (∀w3:World,w3=w2.drew->∃(S:World->Prop),S w3/\Ak x5 (fun x8=>Ak x5 (fun x9=>∃ad,(∀u:World,S u->u.cell? (x8.add 8)=some (.int .i64 ad))/\∃aa,(∀u:World,S u->u.cell? (x9.add 9)=some (.int .i64 aa))/\Af w3 (Zb x3) 4/\∀w4:World,w4=setCells w3 (Zb x3) [.slice none 0 0,.slice none 0 0,.int .i64 0,.slice none 0 0]->S w4/\∃af ae ag ah aj ax aH ao ar aK,Ac w4 (Zb x3) [.slice af ae ag,.slice ah aj ax,.int .i64 aH,.slice ao ar aK]/\K (.tuple #[.agg #[.slice af ae ag,.slice ah aj ax,.int .i64 aH,.slice ao ar aK],.int .i64 ad,.int .i64 aa]) w4))) (Ak x5 (fun aG=>∃aV aZ bf aR br bn bt bz bD bo,Ac w2 (aG.add 1) [.slice aV aZ bf,.slice aR br bn,.int .i64 bt,.slice bz bD bo]/\Af w2 (Zb x3) 4/\∀w5:World,w5=setCells w2 (Zb x3) [.slice aV aZ bf,.slice aR br bn,.int .i64 bt,.slice bz bD bo]->∃bK bC bL bX bG bN bM bP bp b_,Ac w5 (Zb x3) [.slice bK bC bL,.slice bX bG bN,.int .i64 bM,.slice bP bp b_]/\K (.tuple #[.agg #[.slice bK bC bL,.slice bX bG bN,.int .i64 bM,.slice bP bp b_],.int .i64 0,.int .i64 0]) w5))))
theorem Aj3 (x0:Option Addr) (x1:Nat) (x2:Nat) (K:Value->World->Prop) (w:World) (h:Aj2 x0 x1 x2 K w):Calls Tryz.prog 31 #[.slice x0 x1 x2] w (aD K):=
 Aj {} Tryz.func31 (by kernel_rfl) h
def Vm (x0:List UInt8) (x1:Int) (x2:Int) (K:Value->World->Prop) (w:World):Prop:=
 ∀(x3:Nat) (w1:World),x3=w.heap.size->w1=w.alloc (.cells #[.string (aI x0),.int .i64 x1,.int .i64 x2] 75)->
 ∃x4,w1.cell? ⟨x3,2,none⟩=some (.int .i64 x4)/\
 K (.int .i64 (if 1>x4 then 1 else x4)) w1
theorem Vn (x0:List UInt8) (x1:Int) (x2:Int) (K:Value->World->Prop) (w:World) (h:Vm x0 x1 x2 K w):Calls Tryz.prog 112 #[.agg #[.string (aI x0),.int .i64 x1,.int .i64 x2]] w (aD K):=
 Aj {} Tryz.func112 (by kernel_rfl) h
open Go.Lv Go.Ty Go.Tr Go.Tk
abbrev Jb:Int->Value:=Value.int .i64
def K8 (ob:Obj) (g:List UInt8->Option Int):Prop:=∃bF,qd zC ob bF/\o_ bF/\∀s,Hb bF s=(g s).map Jb
theorem K8.nil:K8 (.map #[] 0) fun _=>none:=⟨[],qd.nil _,List.nodup_nil,fun _=>rfl⟩
section
variable {n0:Nat} {rs m0:List Nat} {fr:List (List Nat×Nat×World)} {ds:List Nat} {w w':World} {ps:List Pc}
theorem O5 (o:Mem n0 rs m0 fr ds w ps) (k:Nat) {b:Nat} {ob:Obj} {g:List UInt8->Option Int} (hk:ps[k]? =some (.raw b ob)) (hg:K8 ob g) (s:List UInt8) {K:Value->World->Prop} (hK:K (.tuple #[.int .i64 ((g s).getD 0),.bool (g s).isSome]) w):Bh Tryz.prog (Instr.lookup 106 (.map (some b)) (.string (aI s)) true) K w:=by
 obtain⟨bF,h1,h2,h3⟩:=hg;refine Xu.Brn (E:=zC) (h1.map (o.raw k hk)) Tryz.underlying106 Tryz.underlying9 (z:= .int .i64 0) (by kernel_rfl) s ?_;rw [h3 s];cases TI:g s with
 |none=>rw [TI]at hK;exact hK
 |some v=>rw [TI]at hK;exact hK
theorem TJ (o:Mem n0 rs m0 fr ds w ps) (k:Nat) {b:Nat} {ob:Obj} {g:List UInt8->Option Int} (hk:ps[k]? =some (.raw b ob)) (hg:K8 ob g) (s:List UInt8) (v:Int) (hs:g s=none) {K:_root_.Unit->World->Prop} (hK:∀w' gE,K8 gE (sc g s v)->Mem n0 rs m0 fr ds w' (ps.set k (.raw b gE))->Step (ms ps m0) w (ms (ps.set k (.raw b gE)) m0) w'->K () w'):Bh Tryz.prog (Instr.mapUpdate 106 (.map (some b)) (.string (aI s)) (.int .i64 v)) K w:=by
 obtain⟨bF,h1,h2,h3⟩:=hg;have hn:Hb bF s=none:=by rw [h3,hs];rfl
 refine o.Bm7 (E:=zC) k hk h1 Tryz.underlying106 Tryz.underlying9 hn fun w' gE h4 h5 h6=>hK w' gE ⟨_,h4,h2.snoc hn,fun t=> ?_⟩ h5 h6
 rw [Apy _ _ _ _ hn,h3];unfold sc;split<;>rfl
theorem Au8 (o:Mem n0 rs m0 fr ds w ps) (k:Nat) {b:Nat} {ob:Obj} {g:List UInt8->Option Int} (hk:ps[k]? =some (.raw b ob)) (hg:K8 ob g) (s:List UInt8) {ty:TypeId} {K:Value->World->Prop} (hK:∀w' gE,K8 gE (xT g s)->Mem n0 rs m0 fr ds w' (ps.set k (.raw b gE))->Step (ms ps m0) w (ms (ps.set k (.raw b gE)) m0) w'->K (.tuple #[]) w'):Bh Tryz.prog (Builtin.delete_ #[106,9] ty #[.map (some b),.string (aI s)]) K w:=by
 obtain⟨bF,h1,h2,h3⟩:=hg;refine o.Bm8 (E:=zC) k hk h1 Tryz.underlying106 Tryz.underlying9 fun w' gE h4 h5 h6=>hK w' gE ⟨_,h4,Ase h2 s,fun t=> ?_⟩ h5 h6
 rw [Asf h2,h3];unfold xT;split<;>rfl
end
structure mZ where
 name:List UInt8
 node:Int
 params:Int
 vA:Option Addr
 vC:Nat
 vs:List (List UInt8)
structure Wk where
 b:Nat
 lA:Option Addr
 lC:Nat
 cs:List Co
 cA:Option Addr
 cC:Nat
 rs:List mZ
 rA:Option Addr
 rC:Nat
 mn:Int
 nu:List Int
 nB:Nat
 nb:Nat
 no:Obj
 vb:Nat
 vo:Obj
 now:Int
def rp (c:Co):List Value:=[.string (aI c.name),.int .i64 c.base,.int .i64 c.size]
def od (r:mZ):List Value:=[.string (aI r.name),.int .i64 r.node,.int .i64 r.params,.slice r.vA r.vs.length r.vC]
def strs (l:List (List UInt8)):List Value:=l.map fun s=> .string (aI s)
def si (r:mZ):Pc:= .row 9 1 r.vA r.vs.length r.vC (strs r.vs)
def wc (n:Nat) (W:Wk):List Value:=[.slice W.lA n W.lC,.slice W.cA W.cs.length W.cC,.slice W.rA W.rs.length W.rC,.int .i64 W.mn,.slice (some ⟨W.nB,0,none⟩) W.nu.length W.nu.length,.map (some W.nb),.map (some W.vb),.int .i64 W.now,.int .i64 0,.int .i64 0,.int .i64 (-1),.slice none 0 0]
def PS (n:Nat) (W:Wk):List Pc:= .box W.b (wc n W)::.row 75 3 W.cA W.cs.length W.cC (flat rp W.cs)::.row 78 4 W.rA W.rs.length W.rC (flat od W.rs)::.box W.nB (W.nu.map Jb)::.raw W.nb W.no::.raw W.vb W.vo::W.rs.map si
theorem oc {w:World} {b i:Nat} {l:List Value} {v:Value} (h:cB w b l) (hv:l[i]? =some v):w.cell? ((⟨b,0,none⟩:Addr).add i)=some v:=by rw [Bo,zero_add];exact h.cell hv
theorem nE {w:World} {b i j:Nat} {l:List Value} {v:Value} (h:cB w b l) (hv:l[i+j]? =some v):w.cell? (((⟨b,0,none⟩:Addr).add i).add j)=some v:=by rw [Bo,Bo,zero_add];exact h.cell hv
def Wh (l:List Ag) (f:Nat) (av:List Value) (W:Wk) (R:Wk->Prop):Prop:=∀(m:List Nat) (w:World),bm m w->l.length<=W.lC->aF A8 m w W.lA l->sf w (PS l.length W)->(∀b∈cD (PS l.length W),b∈m)->Calls Tryz.prog f ⟨.pointer (some ⟨W.b,0,none⟩)::av⟩ w (aD fun _ w'=>∃W',R W'/\(W'.b=W.b/\W'.lA=W.lA/\W'.lC=W.lC)/\sg w (PS l.length W) w' (PS l.length W'))
section
variable {l:List Ag}
theorem G4 {m:List Nat} {w:World} {a:Option Addr} (h:aF A8 m w a l) {i:Nat} {x:Ag} (hx:l[i]? =some x): ∃p,a=some p/\Ac w (p.add ((i:Int).toNat*5)) [.int .i64 x.op,.string (aI x.name),.int .i64 x.n,.int .i64 x.kids,.int .i64 x.at_]:=by
 obtain⟨p,y,cs,h1,h2,h3,h4⟩:=h.elem (i:=(i:Int)) ⟨by omega,by have:=(List.getElem?_eq_some_iff.1 hx).1;omega⟩;rw [toNat_natCast,hx]at h2;cases h2
 have:=As h4;subst this;exact⟨p,h1,h3.2⟩
theorem Ac.nth {w:World} {p:Addr} {cs:List Value} (h:Ac w p cs) (j:Nat) {v:Value} (hj:cs[j]? =some v):w.cell? (p.add j)=some v:=by
 obtain⟨h1,h2⟩:=List.getElem?_eq_some_iff.1 hj;rw [←h2];exact h j h1
def Vo (l:List Ag) (r:Nat) (S:Nat->Prop) (vo:Obj):Prop:=∃g,K8 vo g/\Env (Di l) (fun v=>((er (bU l) r v:Nat):Int)) S g
def Lg (l:List Ag) (k:Nat) (no:Obj):Prop:=∃g,K8 no g/\∀s,(∀j d:Nat,j<k->bh (ks l) 0 j d->Cm l d=s->g s=some (d:Int))/\((∀j d,j<k->bh (ks l) 0 j d->Cm l d≠s)->g s=none)
theorem yh (n:Nat) (W:Wk) (i:Nat) (v:Int):(PS n W).set 3 (.box W.nB ((W.nu.map Jb).set i (.int .i64 v)))=PS n { W with nu:=W.nu.set i v } :=by
 have e:(W.nu.map Jb).set i (.int .i64 v)=(W.nu.set i v).map Jb:=by rw [map_set]
 rw [e];unfold PS wc;simp only [length_set,List.set_cons_succ,List.set_cons_zero]
theorem TK {α:Type} {f:α->List Value} {k:Nat} (hf:∀x,(f x).length=k) (t:Nat) (v:Value) (ht:t<k):∀(l:List α) (j:Nat) (x y:α),l[j]? =some x->f y=(f x).set t v->(flat f l).set (j*k+t) v=flat f (l.set j y)
 |[],j,x,y,h,_=>by simp at h
 |a::l,0,x,y,h,hy=>by
  simp at h;subst h;simp only [Vc.flat,List.flatMap_cons,List.set_cons_zero,Nat.zero_mul,zero_add];rw [List.set_append_left _ _ (by rw [hf];exact ht),hy]
 |a::l,j+1,x,y,h,hy=>by
  simp at h;have:=TK hf t v ht l j x y h hy;simp only [Vc.flat,List.flatMap_cons,List.set_cons_succ]at this⊢;rw [List.set_append_right _ _ (by rw [hf,Nat.succ_mul];omega),hf,←this];congr 2;rw [Nat.succ_mul];omega
theorem Au9 (n:Nat) (W:Wk) (j:Nat) (R:mZ) (a':Option Addr) (c':Nat) (ve:List (List UInt8)) (hR:W.rs[j]? =some R): ((PS n W).set (6+j) (.row 9 1 a' ve.length c' (strs ve))).set 2 (.row 78 4 W.rA W.rs.length W.rC ((Vc.flat od W.rs).set (j*4+3) (.slice a' ve.length c')))=PS n { W with rs:=W.rs.set j { R with vA:=a',vC:=c',vs:=ve } } :=by
 rw [TK (f:=od) (k:=4) (fun _=>rfl) 3 _ (by decide) W.rs j R { R with vA:=a',vC:=c',vs:=ve } hR rfl];unfold PS wc;rw [show 6+j=j+1+1+1+1+1+1 by omega];simp only [length_set,List.set_cons_succ,List.set_cons_zero,map_set,si]
theorem Azh (n:Nat) (W:Wk) (j:Nat) (R:mZ) (hR:W.rs[j]? =some R):(PS n W)[6+j]? =some (si R):=by
 unfold PS;rw [show 6+j=j+1+1+1+1+1+1 by omega];simp only [List.getElem?_cons_succ,getElem?_map,hR,Option.map_some]
theorem _root_.Go.Vc.Rw.addr {w:World} {e size n c:Nat} {a:Option Addr} {xs:List Value} (h:Rw w 0 e size a n c xs) (hn:0<n):∃g,a=some ⟨g,0,none⟩:=by
 rcases h.2 with⟨_,h0⟩|⟨g,cap,cur,hv,_⟩
 ·omega
 ·cases hv;exact⟨g,rfl⟩
theorem HS {w:World} {e n c gr jn:Nat} {a:Option Addr} {rs:List mZ} {Rn:mZ} (h:Rw w 0 e 4 a n c (Vc.flat od rs)) (qe:a=some ⟨gr,0,none⟩) (pb:rs[jn]? =some Rn):Ac w ((⟨gr,0,none⟩:Addr).add (jn*4)) (od Rn):=by
 have h:=h.sl;rw [qe]at h;obtain⟨hj,AH⟩:=List.getElem?_eq_some_iff.1 pb;obtain⟨p,hp,hc⟩:=Ss.elem (f:=od) (k:=4) (fun _=>rfl) (by decide) h hj;cases hp
 rw [AH]at hc;exact hc
theorem Azi (S:G2 l) {r i:Nat} (hr:Rt l r) (hs:Tr.Sub (ks l) r i) (hu:Ed (Az l i)) (W:Wk) (hn:W.nu.length=l.length) (hE:Vo l r (F4 l r i) W.vo) (R:Wk->Prop) (hR:∀n,Gi l i n->R { W with nu:=W.nu.set i n }): Wh l 125 [.int .i64 i] W R:=by
 intro m w hm fR hl hp dK;have U:=S.unit;have hi:i<l.length:=by have h1:=hs.2;have h2:=Cd (ks l) r;rw [A9]at h2;omega
 have hx:=getElem?_eq_getElem hi;obtain⟨g,hg,yi⟩:=hE;obtain⟨v,hv,yj⟩:=(S.wr r i hr hs).use hu;have s8:g (Di l i)=some ((er (bU l) r v:Nat):Int):=(yi _).1 v hv yj;have kE:Gi l i ((er (bU l) r v:Nat):Int):=by
  refine⟨fun j hk=> ?_,fun h=> ?_,fun h=> ?_,fun _ r2 du kD v2 iR tC=> ?_⟩
  ·have:=O0 U hk;unfold Ed at hu;omega
  ·unfold Ed at hu;omega
  ·unfold Ed at hu;unfold bU at h;omega
  ·obtain rfl:=Tq hr du hs kD;rw [S.names hr hs hv iR (by rw [yj,tC])]
 have o:=Mem.o9 hm.lt hp;have st:=Mem.tN (w:=w) dK;refine Qf ⟨W.b,0,none⟩ i _ _ ⟨fun n ok w3=>n=((er (bU l) r v:Nat):Int)/\ok=true/\w3=w.drew,?_,?_⟩
 ·intro w1 aP;have st:=st.trans (o.xE (Aq aP));have o:=o.ext (Aq aP);obtain⟨p,hA,hc⟩:=G4 (hl.st st) hx;refine⟨fun u=>u=w1,rfl,some W.vb,Cg (P:=fun u=>u.cell? _=_) (oc (o.at 0 rfl) rfl),_,_,_,Cg (P:=fun u=>u.cell? _=_) (oc (i:=0) (o.at 0 rfl) rfl),⟨by omega,by omega⟩,Ae hA ⟨_,Cg (P:=fun u=>u.cell? _=_) (Ac.nth hc 1 rfl),?_⟩⟩;refine O5 o 5 rfl hg _ ⟨_,_,rfl,?_⟩;rw [←G1 hx,s8];exact⟨rfl,rfl,aP⟩
 ·rintro _ _ _ w3 ⟨rfl,rfl,cV⟩;have st:=st.trans (o.xE (Aq cV));have o:=o.ext (Aq cV);refine⟨fun w5=>w5=w3,Ba rfl rfl,?_⟩;rintro _ _ rfl;refine⟨_,_,_,nE (o.at 0 rfl) rfl,⟨by omega,by omega⟩,Ae rfl ?_⟩;rw [Bo,zero_add,mul_one,toNat_natCast];refine⟨o.wr 3 rfl (Nat.ble_eq_true_of_le (by simp;omega)),fun w6 eK=> ?_⟩;have o:=o.set 3 eK rfl;refine⟨{ W with nu:=W.nu.set i ((er (bU l) r v:Nat):Int) },hR _ kE,⟨rfl,rfl,rfl⟩,Mem.back (L:=[]) (ds:=[]) (m0:=m) ?_⟩;rw [List.nil_append,←yh];exact o
theorem Wi (S:G2 l) {r i:Nat} (hr:Rt l r) (hs:Tr.Sub (ks l) r i) (hu:Az l i=33\/Az l i=26) (W:Wk) (hn:W.nu.length=l.length) (hN:Lg l (Ar l 0).length W.no) (hT:∀j d,bh (ks l) 0 j d->W.nu[d]? =some ((Ce l (decide (Az l d=38)) j:Nat):Int)) (R:Wk->Prop) (hR:∀n,Gi l i n->R { W with nu:=W.nu.set i n }): Wh l 126 [.int .i64 i,.bool (decide (Az l i=33))] W R:=by
 intro m w hm fR hl hp dK;have U:=S.unit;have hi:i<l.length:=by have h1:=hs.2;have h2:=Cd (ks l) r;rw [A9]at h2;omega
 have hx:=getElem?_eq_getElem hi;obtain⟨g,hg,vf⟩:=hN;obtain⟨j,d,cm,f_,cF⟩:=(S.wr r i hr hs).o7 hu;obtain⟨hj,_⟩:=Ec U cm;have hj:j<(Ar l 0).length:=hj;have sj:g (Di l i)=some (d:Int):=(vf _).1 j d hj cm f_;have cz:d<l.length:=by have:=cm.2.2.2;rw [A9]at this;exact this
 have sd:=getElem?_eq_getElem cz;have kE:Gi l i ((Ce l (decide (Az l d=38)) j:Nat):Int):=by
  refine⟨fun j hk=> ?_,fun _ j' d' bZ jD=> ?_,fun h=> ?_,fun h=> ?_⟩
  ·have:=O0 U hk;omega
  ·obtain⟨rfl,rfl⟩:=S.decl.uniq cm bZ (by rw [f_,jD]);rfl
  ·unfold bU at h;omega
  ·unfold Ed at h;omega
 have o:=Mem.o9 hm.lt hp;have st:=Mem.tN (w:=w) dK;refine M9 ⟨W.b,0,none⟩ i _ _ _ ⟨fun n ok w3=>n=(d:Int)/\ok=true/\w3=w.drew,?_,?_⟩
 ·intro w1 aP;have st:=st.trans (o.xE (Aq aP));have o:=o.ext (Aq aP);obtain⟨p,hA,hc⟩:=G4 (hl.st st) hx;refine⟨fun u=>u=w1,rfl,some W.nb,Cg (P:=fun u=>u.cell? _=_) (oc (o.at 0 rfl) rfl),_,_,_,Cg (P:=fun u=>u.cell? _=_) (oc (i:=0) (o.at 0 rfl) rfl),⟨by omega,by omega⟩,Ae hA ⟨_,Cg (P:=fun u=>u.cell? _=_) (Ac.nth hc 1 rfl),?_⟩⟩;refine O5 o 4 rfl hg _ ⟨_,_,rfl,?_⟩;rw [←G1 hx,sj];exact⟨rfl,rfl,aP⟩
 ·rintro _ _ _ w3 ⟨rfl,rfl,cV⟩;have st:=st.trans (o.xE (Aq cV));have o:=o.ext (Aq cV);obtain⟨p,hA,hc⟩:=G4 (hl.st st) sd;refine Ba rfl ⟨_,_,_,oc (i:=0) (o.at 0 rfl) rfl,⟨by omega,by omega⟩,Ae hA ⟨_,Ac.nth hc 0 rfl,Ba ?_ ?_⟩⟩
  ·rw [←Bb sd];have:(Az l d==38)=decide (Az l i=33):=by rw [Bool.eq_iff_iff,beq_iff_eq,decide_eq_true_eq];exact cF
   rw [this];simp
  intro w6 eK;have st:=st.trans (o.xE (Aq eK));have o:=o.ext (Aq eK);refine⟨_,_,_,nE (o.at 0 rfl) rfl,_,_,_,nE (o.at 0 rfl) rfl,⟨by omega,by omega⟩,Ae rfl ?_⟩;rw [Bo,zero_add,mul_one,toNat_natCast];refine⟨((Ce l (decide (Az l d=38)) j:Nat):Int),(o.at 3 rfl).cell (by rw [getElem?_map,hT j d cm];rfl),⟨by omega,by omega⟩,Ae rfl ?_⟩;rw [Bo,zero_add,mul_one,toNat_natCast];refine⟨o.wr 3 rfl (Nat.ble_eq_true_of_le (by simp;omega)),fun w7 gu=> ?_⟩;have o:=o.set 3 gu rfl;refine⟨{ W with nu:=W.nu.set i ((Ce l (decide (Az l d=38)) j:Nat):Int) },hR _ kE,⟨rfl,rfl,rfl⟩,Mem.back (L:=[]) (ds:=[]) (m0:=m) ?_⟩;rw [List.nil_append,←yh];exact o
theorem Ava (S:G2 l) {r i:Nat} (hr:Rt l r) (hs:Tr.Sub (ks l) r i) (hu:bU l i) (W:Wk) (hn:W.nu.length=l.length) (hE:Vo l r (F4 l r i) W.vo) (jn:Nat) (Rn:mZ) (Bro:W.now=(jn:Int)) (pb:W.rs[jn]? =some Rn) (kF:Rn.vs.length=er (bU l) r i) (R:Wk->Prop) (hR:∀n a c,Gi l i n->R { W with nu:=W.nu.set i n,rs:=W.rs.set jn { Rn with vA:=a,vC:=c,vs:=Rn.vs++[Di l i] } }): Wh l 124 [.int .i64 i] W R:=by
 intro m w hm fR hl hp dK;have U:=S.unit;have hi:i<l.length:=by have h1:=hs.2;have h2:=Cd (ks l) r;rw [A9]at h2;omega
 have hx:=getElem?_eq_getElem hi;obtain⟨g,hg,yi⟩:=hE;obtain⟨bV,aE⟩:=(S.wr r i hr hs).de hu;have AJ:g (Di l i)=none:=(yi _).2 bV;have kE:Gi l i ((er (bU l) r i:Nat):Int):=by
  refine⟨fun j hk=> ?_,fun h=> ?_,fun _ r2 du kD=> ?_,fun h=> ?_⟩
  ·have:=O0 U hk;unfold bU at hu;omega
  ·unfold bU at hu;omega
  ·rw [Tq hr du hs kD]
  ·unfold Ed at h;unfold bU at hu;omega
 have HT:=(List.getElem?_eq_some_iff.1 pb).1;have AH:=(List.getElem?_eq_some_iff.1 pb).2;have o:=Mem.o9 hm.lt hp;have st:=Mem.tN (w:=w) dK;refine Ny ⟨W.b,0,none⟩ i _ _ ?_;intro w1 aP;have st:=st.trans (o.xE (Aq aP));have o:=o.ext (Aq aP);obtain⟨gr,qe⟩:=(o.rowAt 2 rfl).addr (by omega);refine⟨_,_,_,nE (o.at 0 rfl) rfl,(jn:Int),by rw [←Bro];exact oc (o.at 0 rfl) rfl,⟨by omega,by omega⟩,Ae qe ?_⟩;rw [toNat_natCast];refine⟨fun had w4=>had=false/\w4=w1.drew,?_,?_⟩
 ·intro w2 bR;have st:=st.trans (o.xE (Aq bR));have o:=o.ext (Aq bR);obtain⟨p,hA,hc⟩:=G4 (hl.st st) hx;refine⟨fun u=>u=w2,rfl,some W.vb,Cg (P:=fun u=>u.cell? _=_) (oc (o.at 0 rfl) rfl),_,_,_,Cg (P:=fun u=>u.cell? _=_) (oc (i:=0) (o.at 0 rfl) rfl),⟨by omega,by omega⟩,Ae hA ⟨_,Cg (P:=fun u=>u.cell? _=_) (Ac.nth hc 1 rfl),?_⟩⟩;refine O5 o 5 rfl hg _ ⟨_,_,rfl,?_⟩;rw [←G1 hx,AJ];exact⟨rfl,bR⟩
 rintro _ _ w4 ⟨rfl,dt⟩;have st:=st.trans (o.xE (Aq dt));have o:=o.ext (Aq dt);refine⟨fun w5=>w5=w4,Ba rfl ⟨_,_,_,Ac.nth (HS (o.rowAt 2 rfl) qe pb) 3 rfl,Ba (by simp;omega) rfl⟩,?_⟩;rintro _ _ rfl;refine⟨fun ak=>Mem w.heap.size (cD (PS l.length W)) m [(cD (PS l.length W),w.heap.size,w)] [] ak (PS l.length { W with nu:=W.nu.set i ((er (bU l) r i:Nat):Int) })/\Step m w (ms (PS l.length { W with nu:=W.nu.set i ((er (bU l) r i:Nat):Int) }) m) ak,?_,?_⟩
 ·intro w8 fg;have st:=st.trans (o.xE (Aq fg));have o:=o.ext (Aq fg);refine⟨_,_,_,nE (o.at 0 rfl) rfl,_,_,_,Ac.nth (HS (o.rowAt 2 rfl) qe pb) 3 rfl,⟨by omega,by omega⟩,Ae rfl ?_⟩;simp only [Bo,zero_add,mul_one,toNat_natCast,kF];refine⟨o.wr 3 rfl (Nat.ble_eq_true_of_le (by simp;omega)),fun w9 ff=> ?_⟩;have st:=st.trans (o.xS 3 ff rfl);have o:=o.set 3 ff rfl;rw [yh]at o st;exact⟨o,st⟩
 rintro _ ak ⟨o,st⟩ aw il;have st:=st.trans (o.xE (Aq il));have o:=o.ext (Aq il);obtain⟨p,hA,hc⟩:=G4 (hl.st st) hx;refine⟨fun u=>Ext aw u,Ext.refl _,_,_,_,fun u hu=>hu.cell (Ac.nth (HS (o.rowAt 2 rfl) qe pb) 3 rfl),_,_,_,fun u hu=>hu.cell (oc (i:=0) (o.at 0 rfl) rfl),⟨by omega,by omega⟩,Ae hA ⟨_,fun u hu=>hu.cell (Ac.nth hc 1 rfl),?_⟩⟩;intro b aJ hb kq;refine⟨Ext.alloc kq,?_⟩;have o:=o.box hb kq;have yb:(Pc.box b [.string (aI l[i].name)]::PS l.length { W with nu:=W.nu.set i ((er (bU l) r i:Nat):Int) })[7+jn]? =some (si Rn):=by
  rw [show 7+jn=6+jn+1 by omega,List.getElem?_cons_succ];exact Azh _ _ _ _ pb
 refine Er (P:=Tryz.prog) EG (o.rowAt (7+jn) yb) (src:=⟨b,0,none⟩) (m:=1) (news:=[.string (aI l[i].name)]) (o.at 0 rfl).whole rfl (by simp [Value.oneCell']) (by omega) (by decide) (zero_le _) ?_;intro a' c' aQ Brp Brq dR;have o:=o.app (7+jn) yb Brp Brq dR;obtain⟨qI,m5⟩:=o.TG (k:=3) (p:=⟨gr,0,none⟩) (e:=78) (size:=4) (n:=W.rs.length) (c:=W.rC) (xs:=Vc.flat od W.rs) (by
  rw [show 7+jn=jn+4+1+1+1 by omega];show(some (Pc.row 78 4 W.rA W.rs.length W.rC (Vc.flat od W.rs)))=_
  rw [qe]) (j:=jn*4+3) (.slice a' (Rn.vs.length+1) c') (by rw [Vc.Hr (f:=od) (k:=4) (fun _=>rfl)];omega)
 have ea:((⟨gr,0,none⟩:Addr).add ((jn:Int).toNat*4)).add 3=(⟨gr,0,none⟩:Addr).add (jn*4+3):=by rw [Bo,Bo,Bo,toNat_natCast];simp
 rw [ea];refine⟨_,_,_,rfl,qI,fun aX lQ=> ?_⟩;obtain⟨o,_⟩:=m5 aX lQ;refine⟨_,hR _ a' c' kE,⟨rfl,rfl,rfl⟩,Mem.back (L:=[.box b [.string (aI l[i].name)]]) (ds:=[]) (m0:=m) ?_⟩;have ov:=Au9 l.length { W with nu:=W.nu.set i ((er (bU l) r i:Nat):Int) } jn Rn a' c' (Rn.vs++[Di l i]) pb;rw [List.singleton_append,←ov,G1 hx];rw [show 7+jn=6+jn+1 by omega,←qe]at o;rw [length_append,List.length_singleton];have es:strs (Rn.vs++[l[i].name])=strs Rn.vs++[.string (aI l[i].name)]:=by simp [strs]
 rw [es];exact o
end
section
variable {l:List Ag}
theorem Kj {α:Type} {xs pre:List α} {x:α} (h:pre++[x]<+:xs):∃ht:pre.length<xs.length,xs[pre.length]=x:=by
 obtain⟨t,rfl⟩:=h;refine⟨by simp,?_⟩;simp [List.getElem_append]
structure Jg (W0 W:Wk):Prop where
 cs:W.cs=W0.cs
 ps:W.rs.map mZ.params=W0.rs.map mZ.params
 now:W.now=W0.now
 no:W.no=W0.no
 ot:∀k:Nat,W0.now≠(k:Int)->W.rs[k]? =W0.rs[k]?
theorem Jg.refl (W:Wk):Jg W W:=⟨rfl,rfl,rfl,rfl,fun _ _=>rfl⟩
theorem Jg.trans {W0 W1 W2:Wk} (h:Jg W0 W1) (k:Jg W1 W2):Jg W0 W2:=⟨k.cs.trans h.cs,k.ps.trans h.ps,k.now.trans h.now,k.no.trans h.no,fun j hj=>(k.ot j (by rw [h.now];exact hj)).trans (h.ot j hj)⟩
theorem Jg.vo {W0 W:Wk} (h:Jg W0 W) (ob:Obj):Jg W0 { W with vo:=ob } :=⟨h.cs,h.ps,h.now,h.no,h.ot⟩
structure NI (l:List Ag) (r i:Nat) (W:Wk):Prop where
 nl:W.nu.length=l.length
 na:Lg l (Ar l 0).length W.no
 top:∀j d,bh (ks l) 0 j d->∃n,W.nu[d]? =some n/\Gi l d n
 nu:∀v,v<i->∃n,W.nu[v]? =some n/\Gi l v n
 ro:∃(jn:Nat) (Rn:mZ),W.now=(jn:Int)/\W.rs[jn]? =some Rn/\Rn.vs.length=er (bU l) r i
theorem NI.TL {r i:Nat} {W:Wk} (h:NI l r i W):∀j d,bh (ks l) 0 j d->W.nu[d]? =some ((Ce l (decide (Az l d=38)) j:Nat):Int):=fun j d hk=>by
 obtain⟨n,h1,h2⟩:=h.top j d hk;rw [h1,h2.top j hk]
theorem AK {nu:List Int} {i v:Nat} {n:Int} (hl:i<nu.length) (hi:Gi l i n) {P:Prop} (h:v≠i->∃m,nu[v]? =some m/\Gi l v m):∃m,(nu.set i n)[v]? =some m/\Gi l v m:=by
 by_cases e:v=i
 ·subst e;exact⟨n,by rw [List.getElem?_set_self hl],hi⟩
 ·obtain⟨m,h1,h2⟩:=h e;exact⟨m,by rw [List.getElem?_set_ne (Ne.symm e)];exact h1,h2⟩
theorem NI.num {r i:Nat} {W:Wk} (h:NI l r i W) (hi:i<l.length) (hd:¬bU l i) {n:Int} (hn:Gi l i n):NI l r (i+1) { W with nu:=W.nu.set i n } :=by
 have hl:i<W.nu.length:=by rw [h.nl];exact hi
 refine⟨by simp [h.nl],h.na,fun j d hk=>AK (P:=True) hl hn fun _=>h.top j d hk,fun v hv=>AK (P:=True) hl hn fun e=>h.nu v (by omega),?_⟩;obtain⟨jn,Rn,h1,h2,h3⟩:=h.ro;exact⟨jn,Rn,h1,h2,by rw [h3,er,if_neg (fun h=>hd h.2)];rfl⟩
theorem NI.skip {r i:Nat} {W:Wk} (h:NI l r i W) (hi:i<l.length) (hd:¬bU l i) (hu:¬Ed (Az l i)) (hg:¬(Az l i=33\/Az l i=26)):NI l r (i+1) W:=by
 refine⟨h.nl,h.na,h.top,fun v hv=> ?_,?_⟩
 ·by_cases e:v=i
  ·subst e;by_cases ht:∃j,bh (ks l) 0 j v
   ·obtain⟨j,hk⟩:=ht;exact h.top j v hk
   ·exact⟨_,getElem?_eq_getElem (by rw [h.nl];exact hi),fun j hk=>absurd ⟨j,hk⟩ ht,fun g=>absurd g hg,fun g=>absurd g hd,fun g=>absurd g hu⟩
  ·exact h.nu v (by omega)
 ·obtain⟨jn,Rn,h1,h2,h3⟩:=h.ro;exact⟨jn,Rn,h1,h2,by rw [h3,er,if_neg (fun h=>hd h.2)];rfl⟩
def pd (l:List Ag) (i t:Nat):Nat:=if t=0 then i+1 else Cf (ks l) ((Ar l i).getD (t-1) 0).toNat
theorem Ts (U:Unit l) {i t k:Nat} (hk:bh (ks l) i t k):pd l i t=k:=by
 unfold pd;by_cases e:t=0
 ·subst e;rw [if_pos rfl];exact hk.first.symm
 ·rw [if_neg e];have hi:=hk.1;rw [A9]at hi;obtain⟨ht,_⟩:=Ec U hk;have ht:t<(Ar l i).length:=ht;obtain⟨k',x,he,bZ,_⟩:=Gc U hi (j:=t-1) (by omega);have he:(Ar l i)[t-1]=((k':Nat):Int):=he;rw [List.getD_eq_getElem?_getD,getElem?_eq_getElem (by omega),he];simp only [Option.getD_some,toNat_natCast];exact(bZ.next (by rw [show t-1+1=t by omega];exact hk)).symm
theorem L6 (U:Unit l) {i t k:Nat} (hk:bh (ks l) i t k):pd l i (t+1)=Cf (ks l) k:=by
 unfold pd;rw [if_neg (by omega),Nat.add_sub_cancel];obtain⟨ht,he⟩:=Ec U hk;have ht:t<(Ar l i).length:=ht;have he:(Ar l i)[t]=((k:Nat):Int):=he;rw [List.getD_eq_getElem?_getD,getElem?_eq_getElem ht,he];rfl
theorem TM (U:Unit l) {i:Nat} (hi:i<l.length):pd l i (Ar l i).length=Cf (ks l) i:=by
 obtain⟨x,ds,hn⟩:=U.node i hi;obtain⟨h1,_⟩:=xW U hn;have hg:((ks l).getD i 0).toNat=(Ar l i).length:=by rw [H8 hn.at_,hn.kids,toNat_natCast,h1]
 rcases Nat.eq_zero_or_pos (Ar l i).length with e|e
 ·unfold pd;rw [if_pos e];exact(Z9 (by rw [A9];exact hi) (by rw [hg,e])).symm
 ·obtain⟨k',x',he,bZ,_⟩:=Gc U hi (j:=(Ar l i).length-1) (by omega);have h2:=L6 U bZ;rw [show(Ar l i).length-1+1=(Ar l i).length by omega]at h2;rw [h2];exact bZ.last (by rw [hg];omega)
structure KL (l:List Ag) (r i t:Nat) (W0 W:Wk) (M:List Nat):Prop where
 ni:NI l r (pd l i t) W
 env:Vo l r (fun v=>F4 l r i v\/v∈M) W.vo
 same:Jg W0 W
 vg:∀k,bh (ks l) i t k->∀v,F4 l r k v↔F4 l r i v\/v∈M
 ne:∀v∈M,∀u,F4 l r i u->Di l u≠Di l v
 ml:M.length<=t
theorem Vo.congr {r:Nat} {S S':Nat->Prop} {vo:Obj} (h:Vo l r S vo) (e:∀v,S' v↔S v):Vo l r S' vo:=by
 obtain⟨g,h1,h2⟩:=h;exact⟨g,h1,h2.congr e⟩
theorem KL.start (S:G2 l) {r i:Nat} {W0 W:Wk} (ni:NI l r (i+1) W) (env:Vo l r (F4 l r i) W.vo) (same:Jg W0 W):KL l r i 0 W0 W []:=
 ⟨ni,env.congr fun v=>by simp,same,fun k hk v=>by rw [show F4 l r k v↔F4 l r i v from Apv (Th S.unit) hk];simp,by simp,le_refl _⟩
theorem Azj (U:Unit l) {r:Nat} (hr:Rt l r):Az l r=40\/Az l r=41:=by
 obtain⟨j,hk,ho⟩:=hr;have:=O0 U hk;omega
theorem TN (U:Unit l) {r i t k:Nat} (hr:Rt l r) (hs:Tr.Sub (ks l) r i) (hk:bh (ks l) i t k):∀y,Tr.Sub (ks l) k y->y≠k->¬iC l y:=by
 intro y hy bA hp;have h1:=S_ U (Azj U hr) k (hs.lz hk) (by have:=hk.ahead;have:=hs.1;omega);have h2:=SG U h1 y hy bA;unfold iC at hp;omega
theorem KL.next (S:G2 l) {r i t k:Nat} {W0 W W':Wk} {M:List Nat} (hr:Rt l r) (hs:Tr.Sub (ks l) r i) (hk:bh (ks l) i t k) (h:KL l r i t W0 W M) (ni:NI l r (Cf (ks l) k) W') (env:Vo l r (F4 l r k) W'.vo) (same:Jg W W') (hd:¬bU l k):KL l r i (t+1) W0 W' M:=by
 refine⟨by rw [L6 S.unit hk];exact ni,env.congr fun v=>(h.vg k hk v).symm,h.same.trans same,fun k' bZ v=> ?_,h.ne,by have:=h.ml;omega⟩;rw [show F4 l r k' v↔F4 l r k v\/(v=k/\bU l k) from R_ (Th S.unit) hk bZ hs.1 (TN S.unit hr hs hk),h.vg k hk v];simp [hd]
theorem KL.put (S:G2 l) {r i t k:Nat} {W0 W W':Wk} {M:List Nat} {g:List UInt8->Option Int} {ob:Obj} (hr:Rt l r) (hs:Tr.Sub (ks l) r i) (hk:bh (ks l) i t k) (h:KL l r i t W0 W M) (ni:NI l r (Cf (ks l) k) W') (env:Env (Di l) (fun v=>((er (bU l) r v:Nat):Int)) (F4 l r k) g) (same:Jg W W') (hd:bU l k) (rq:K8 ob (sc g (Di l k) ((er (bU l) r k:Nat):Int))):KL l r i (t+1) W0 { W' with vo:=ob } (M++[k]):=by
 have sm:=hs.lz hk;have bV:=((S.wr r k hr sm).de hd).1;refine⟨by rw [L6 S.unit hk];exact⟨ni.nl,ni.na,ni.top,ni.nu,ni.ro⟩,⟨_,rq,?_⟩,(h.same.trans same).vo ob,fun k' bZ v=> ?_,fun v hv u hu=> ?_,by have:=h.ml;simp;omega⟩
 ·exact Env.put (num:=fun v=>((er (bU l) r v:Nat):Int)) env bV fun v=>by rw [h.vg k hk v,mem_append,mem_singleton,or_assoc]
 ·rw [show F4 l r k' v↔F4 l r k v\/(v=k/\bU l k) from R_ (Th S.unit) hk bZ hs.1 (TN S.unit hr hs hk),h.vg k hk v,mem_append,mem_singleton,or_assoc];simp [hd]
 ·rcases mem_append.1 hv with hv|hv
  ·exact h.ne v hv u hu
  ·rw [mem_singleton.1 hv];exact bV u ((h.vg k hk u).2 (.inl hu))
end
end Go.Proofs.YtpdccfgpbkagcaaGreat
namespace Go.Lv
open Go.Vc
theorem Mem.sn {n0:Nat} {rs m0 M:List Nat} {fr:List (List Nat×Nat×World)} {ds:List Nat} {w W:World} {ps:List Pc} (o:Mem n0 rs m0 ((M,W.heap.size,W)::fr) ds w ps) (hM:∀k∈m0,k∈M):G8 M (ms ps m0) W w/\Mem n0 rs m0 fr ds w ps:=by
 have h:=o.uC;refine⟨⟨h.1.kp.all,fun k hk=> ?_⟩,h.2⟩;rcases Bj.1 hk with⟨p,hp,hb⟩|hk
 ·exact(o.eN _ (.head _)).2 p hp k hb
 ·exact .inl (hM k hk)
end Go.Lv
namespace Go.Proofs.YtpdccfgpbkagcaaGreat
open Go.Vc Go.Lv Go.Ty Go.Tr Go.Tk
section
variable {l:List Ag}
theorem Wj {w0 w:World} {f:Nat} {av:List Value} {W:Wk} {R:Wk->Prop} {rs m:List Nat} {fr:List (List Nat×Nat×World)} {ds:List Nat} {L:List Pc} (bw:Nat) (hbw:W.b=bw) (h:Wh l f av W R) (hm:bm m w0) (o:Mem w0.heap.size rs m fr ds w (L++PS l.length W)) (hr:∀b∈rs,b∈m) (hf:(rs,w0.heap.size,w0)∈fr) (fR:l.length<=W.lC) (hl:aF A8 m w0 W.lA l) (st:Step m w0 (ms (L++PS l.length W) m) w) {K:Value->World->Prop} (hK:∀v w' W',R W'->W'.b=bw->W'.lA=W.lA->W'.lC=W.lC->Mem w0.heap.size rs m fr ds w' (L++PS l.length W')->Step m w0 (ms (L++PS l.length W') m) w'->K v w'):Calls Tryz.prog f ⟨.pointer (some ⟨bw,0,none⟩)::av⟩ w (aD K):=by
 subst hbw;refine Ad (h _ w (o.mo hm hr hf) fR (hl.st st) o.iy Mem.HO) ?_;rintro v w' ⟨W',hR,⟨h1,h2,h3⟩,hB⟩;exact hK v w' W' hR h1 h2 h3 (o.swap hB) (st.trans (Mem.HN hB))
def kX (l:List Ag) (b b1 b2 bw:Nat) (nc:List Value) (M:List Nat) (mA:Option Addr) (mC:Nat) (W:Wk):List Pc:=[.row 9 1 mA M.length mC (strs (M.map (Di l))),.box b2 [.slice mA M.length mC],.box b1 nc,.box b [.pointer (some (Zb bw))]]++PS l.length W
theorem TP {m:List Nat} {w:World} {a:Option Addr} (h:aF A8 m w a l) {i:Nat} (hi:i<l.length):∃p,a=some p/\w.cell? ((p.add ((i:Int).toNat*5)).add 1)=some (.string (aI (Di l i))):=by
 obtain⟨p,hA,hc⟩:=G4 h (getElem?_eq_getElem hi);exact⟨p,hA,by rw [G1 (getElem?_eq_getElem hi)];exact Ac.nth hc 1 rfl⟩
theorem vh {m:List Nat} {w:World} {a:Option Addr} (h:aF A8 m w a l) {i:Nat} (hi:i<l.length):∃p,a=some p/\w.cell? (p.add ((i:Int).toNat*5))=some (.int .i64 (Az l i)):=by
 obtain⟨p,hA,hc⟩:=G4 h (getElem?_eq_getElem hi);exact⟨p,hA,by rw [Bb (getElem?_eq_getElem hi)];have:=Ac.nth hc 0 rfl;simpa [Addr.add] using this⟩
abbrev tP (l:List Ag) (r i e:Nat) (W W':Wk):Prop:=NI l r e W'/\Vo l r (F4 l r i) W'.vo/\Jg W W'
theorem Amu (S:G2 l) {r i:Nat} (hr:Rt l r) (hs:Tr.Sub (ks l) r i) (hu:bU l i) (W:Wk) (ni:NI l r i W) (hE:Vo l r (F4 l r i) W.vo):Wh l 124 [.int .i64 i] W (tP l r i (i+1) W):=by
 obtain⟨jn,Rn,h1,h2,h3⟩:=ni.ro;have hi:i<l.length:=SI hu;have hl:i<W.nu.length:=by rw [ni.nl];exact hi
 have HT:=(List.getElem?_eq_some_iff.1 h2).1;refine Ava S hr hs hu W ni.nl hE jn Rn h1 h2 h3 _ fun n a c hn=>⟨⟨by simp [ni.nl],ni.na,fun j d hk=>AK (P:=True) hl hn fun _=>ni.top j d hk,fun v hv=>AK (P:=True) hl hn fun e=>ni.nu v (by omega),jn,_,h1,by rw [List.getElem?_set_self HT],?_⟩,hE,rfl,?_,rfl,rfl,fun k hk=>by rw [List.getElem?_set_ne (fun e=>hk (by rw [h1,e]))]⟩
 ·rw [length_append,h3,er,if_pos ⟨hs.1,hu⟩];rfl
 ·rw [map_set];apply List.ext_getElem?;intro k;rw [List.getElem?_set];split
  ·rename_i e;subst e;rw [getElem?_map,h2];simp [HT]
  ·rfl
theorem TQ (S:G2 l) {r:Nat} (hr:Rt l r):∀(n i:Nat) (W:Wk),l.length-i<=n->Tr.Sub (ks l) r i->NI l r i W->Vo l r (F4 l r i) W.vo->Wh l 115 [.int .i64 i] W (tP l r i (Cf (ks l) i) W)
 |0,i,W,hn,hs,_,_=>by
  exfalso;have h1:=hs.2;have h2:=Cd (ks l) r;rw [A9]at h2;omega
 |n+1,i,W,hn,hs,ni,hE=>by
  intro m w hm fR hl hp dK;have U:=S.unit;have my:=U.len;have hi:i<l.length:=by have h1:=hs.2;have h2:=Cd (ks l) r;rw [A9]at h2;omega
  have hx:=getElem?_eq_getElem hi;have ho:=Bb hx;have o:=Mem.o9 hm.lt hp;have st:=Mem.tN (w:=w) dK;have hf:(cD (PS l.length W),w.heap.size,w)∈[(cD (PS l.length W),w.heap.size,w)]:= .head _;refine O2 ⟨W.b,0,none⟩ i _ _ ?_;intro b w1 hb aP;have st:=st.trans (o.xB hb aP);have o:=o.box hb aP;obtain⟨p,hA,hc⟩:=G4 (hl.st st) hx;refine⟨_,(o.at 0 rfl).cell rfl,Ae rfl ⟨_,_,_,(o.at 1 rfl).cell rfl,⟨by omega,by omega⟩,Ae hA ⟨_,_,_,_,_,hc,?_⟩⟩⟩;intro b1 w2 bI bR;have st:=st.trans (o.xB bI bR);have o:=o.box bI bR;refine⟨o.wr 0 rfl rfl,fun w3 cV=> ?_⟩;have st:=st.trans (o.pO 0 cV rfl);have o:=o.l9 0 cV rfl;refine⟨fun w'=>w'=w3,⟨_,(o.at 1 rfl).cell rfl,Ae rfl ⟨-1,oc (o.at 2 rfl) rfl,Ba (by simp) rfl⟩⟩,?_⟩;rintro _ w4 rfl;have o:Mem w.heap.size (cD (PS l.length W)) m [(cD (PS l.length W),w.heap.size,w)] [] _ ([.box b1 [.int .i64 l[i].op,.string (aI l[i].name),.int .i64 l[i].n,.int .i64 l[i].kids,.int .i64 l[i].at_],.box b [.pointer (some ⟨W.b,0,none⟩)]]++PS l.length W):=o;have st:Step m w (ms ([.box b1 [.int .i64 l[i].op,.string (aI l[i].name),.int .i64 l[i].n,.int .i64 l[i].kids,.int .i64 l[i].at_],.box b [.pointer (some ⟨W.b,0,none⟩)]]++PS l.length W) m) _:=st;refine⟨fun w'=>∃W1,tP l r i (i+1) W W1/\W1.b=W.b/\W1.lA=W.lA/\W1.lC=W.lC/\Mem w.heap.size (cD (PS l.length W)) m [(cD (PS l.length W),w.heap.size,w)] [] w' ([.box b1 [.int .i64 l[i].op,.string (aI l[i].name),.int .i64 l[i].n,.int .i64 l[i].kids,.int .i64 l[i].at_],.box b [.pointer (some ⟨W.b,0,none⟩)]]++PS l.length W1)/\Step m w (ms ([.box b1 [.int .i64 l[i].op,.string (aI l[i].name),.int .i64 l[i].n,.int .i64 l[i].kids,.int .i64 l[i].at_],.box b [.pointer (some ⟨W.b,0,none⟩)]]++PS l.length W1) m) w',?_,?_⟩
  ·refine⟨_,(o.at 0 rfl).cell rfl,fun b w'=>(b=true↔bU l i)/\w'=w4,?_,?_⟩
   ·unfold bU;rw [ho];refine Aa (fun hc=>⟨?_,rfl⟩) fun hc=>⟨?_,rfl⟩
    all_goals simp at*
    all_goals simp [*]
   rintro _ bb w4 ⟨nI,rfl⟩;refine Aa (fun hc=> ?_) fun hc=> ?_
   ·have hd:=nI.1 hc;refine⟨_,(o.at 1 rfl).cell rfl,?_⟩;refine Wj W.b rfl (Amu S hr hs hd W ni hE) hm o dK hf fR hl st fun v w' W' hR h1 h2 h3 o st=> ?_
    exact⟨W',hR,h1,h2,h3,o,st⟩
   have hd:¬bU l i:=fun h=>by rw [nI.2 h]at hc;cases hc
   refine⟨fun b w'=>(b=true↔Ed (Az l i))/\w'=w4,?_,?_⟩
   ·rw [ho];unfold Ed;refine Aa (fun hc=>⟨?_,rfl⟩) fun h2=>Aa (fun hc=>⟨?_,rfl⟩) fun nz=>Aa (fun hc=>⟨?_,rfl⟩) fun HB=>Aa (fun hc=>⟨?_,rfl⟩) fun SW=>⟨?_,rfl⟩
    all_goals simp at*
    all_goals simp [*]
   rintro _ bu w4 ⟨TR,rfl⟩;refine Aa (fun hc=> ?_) fun hc=> ?_
   ·have hu:=TR.1 hc;refine⟨_,(o.at 1 rfl).cell rfl,?_⟩;refine Wj W.b rfl (Azi S hr hs hu W ni.nl hE (tP l r i (i+1) W) fun n hn=>⟨ni.num hi hd hn,hE,rfl,rfl,rfl,rfl,fun _ _=>rfl⟩) hm o dK hf fR hl st fun v w' W' hR h1 h2 h3 o st=> ?_
    exact⟨W',hR,h1,h2,h3,o,st⟩
   have hu:¬Ed (Az l i):=fun h=>by rw [TR.2 h]at hc;cases hc
   refine Aa (fun hc=> ?_) fun hc=> ?_
   ·have iq:Az l i=33:=by rw [ho];simpa using hc
    have hg:=Wi S hr hs (.inl iq) W ni.nl ni.na ni.TL (tP l r i (i+1) W) fun n hn=>⟨ni.num hi hd hn,hE,rfl,rfl,rfl,rfl,fun _ _=>rfl⟩
    rw [decide_eq_true iq]at hg;refine⟨_,(o.at 1 rfl).cell rfl,?_⟩;refine Wj W.b rfl hg hm o dK hf fR hl st fun v w' W' hR h1 h2 h3 o st=> ?_
    exact⟨W',hR,h1,h2,h3,o,st⟩
   have iq:¬Az l i=33:=by rw [ho];simpa using hc
   refine Aa (fun hc=> ?_) fun hc=> ?_
   ·have lB:Az l i=26:=by rw [ho];simpa using hc
    have hg:=Wi S hr hs (.inr lB) W ni.nl ni.na ni.TL (tP l r i (i+1) W) fun n hn=>⟨ni.num hi hd hn,hE,rfl,rfl,rfl,rfl,fun _ _=>rfl⟩
    rw [decide_eq_false iq]at hg;refine⟨_,(o.at 1 rfl).cell rfl,?_⟩;refine Wj W.b rfl hg hm o dK hf fR hl st fun v w' W' hR h1 h2 h3 o st=> ?_
    exact⟨W',hR,h1,h2,h3,o,st⟩
   have lB:¬Az l i=26:=by rw [ho];simpa using hc
   exact⟨W,⟨ni.skip hi hd hu (by omega),hE,Jg.refl W⟩,rfl,rfl,rfl,o,st⟩
  rintro _ aX ⟨W1,⟨ni1,TA,Bm9⟩,TS,nF,AL,o,st⟩;intro b2 a_ dY gR;have st:=st.trans (o.xB dY gR);have o:=o.box dY gR;have fU:aF A8 m w W1.lA l:=by rw [nF];exact hl
  refine⟨_,(o.at 2 rfl).cell rfl,Ae rfl ⟨_,_,_,by rw [←TS];exact(o.at 3 rfl).cell rfl,?_⟩⟩;refine Ad (M7 l i (fun a b=>(i:Int)=a/\l=b) ⟨rfl,rfl⟩ _ a_ (o.mo hm dK hf) _ _ (by rw [AL];exact fR) (fU.st st)) ?_;rintro _ aN ⟨_,_,⟨rfl,rfl⟩,⟨b3,cs,b4,fl,rfl,⟨el,f⟩,⟨c_,f1⟩⟩,aW⟩;have st:=st.trans (o.xE aW);have o:=o.ext aW;obtain rfl:=f;obtain⟨a,c,rfl,le,f2⟩:=f1;have jQ:=Js l i U.len _ _ (o.mo hm dK hf) _ _ el rfl _ _ c_ ⟨_,_,rfl,le,f2⟩;refine⟨_,_,rfl,?_⟩;have hle:=o.le;have cz:=o.qH;have o:=o.mM 9 1;obtain⟨nc,k_⟩:∃nc:List Value,nc=[.int .i64 l[i].op,.string (aI l[i].name),.int .i64 l[i].n,.int .i64 l[i].kids,.int .i64 l[i].at_]:=⟨_,rfl⟩
  rw [←k_]at o st jQ;have o:Mem w.heap.size (cD (PS l.length W)) m [(cD (PS l.length W),w.heap.size,w)] [] aN (kX l b b1 b2 W.b nc [] none 0 W1):=o;have st:Step m w (ms (kX l b b1 b2 W.b nc [] none 0 W1) m) aN:=st;refine⟨ms (kX l b b1 b2 W.b nc [] none 0 W1) m,Ar l i,Kr.of (o.mo hm dK hf).lt jQ,fun F pre w'=>∃(W2:Wk) (M:List Nat) (mA:Option Addr) (mC:Nat),F=ms (kX l b b1 b2 W.b nc M mA mC W2) m/\KL l r i pre.length W W2 M/\W2.b=W.b/\W2.lA=W.lA/\W2.lC=W.lC/\Mem w.heap.size (cD (PS l.length W)) m [(cD (PS l.length W),w.heap.size,w)] [] w' (kX l b b1 b2 W.b nc M mA mC W2)/\Step m w (ms (kX l b b1 b2 W.b nc M mA mC W2) m) w',
   fun _ _=>False,fun _ _ _=>False,⟨W1,[],none,0,rfl,KL.start S ni1 TA Bm9,TS,nF,AL,o,st⟩,?_,fun _ _ _ _ _ h=>h.elim,?_⟩
  ·rintro _ pre ae bE bB ⟨W2,M,mA,mC,rfl,oe,yk,j6,og,o,st⟩ hG db;obtain⟨ht,mr⟩:=Kj db;obtain⟨k,x,he,cm,sq⟩:=Gc U hi ht;obtain rfl:ae=(k:Int):=mr.symm.trans he;have gw:=(List.getElem?_eq_some_iff.1 sq).1;have sm:=hs.lz cm;have u7:=cm.ahead;have i3:aF A8 m w W2.lA l:=by rw [j6];exact hl
   have Brr:l.length<=W2.lC:=by rw [og];exact fR
   have st:=st.trans (Step.grow _ hG);have o:=o.grow hG (fun f hf=>by rw [mem_singleton.1 hf];exact hle) cz;have o:=o.round (M:=ms (kX l b b1 b2 W.b nc M mA mC W2) m) (B:=bB.heap.size) (le_refl _) (fun k hk=> .inl hk);refine⟨_,(o.at 3 rfl).cell rfl,Ae rfl ⟨0,by rw [←yk];exact oc (o.at 4 rfl) rfl,Ba rfl ⟨_,(o.at 3 rfl).cell rfl,?_⟩⟩⟩;refine Wj W.b yk (TQ S hr n k W2 (by omega) sm (Ts U cm▸oe.ni) (oe.env.congr (oe.vg k cm))) hm o dK (.tail _ hf) Brr i3 st fun v bT W3 hR h1 h2 h3 o st=> ?_
   obtain⟨AM,TT,TU⟩:=hR;have js:aF A8 m w W3.lA l:=by rw [h2];exact i3
   have o:Mem w.heap.size (cD (PS l.length W)) m [(ms (kX l b b1 b2 W.b nc M mA mC W2) m,bB.heap.size,bB),(cD (PS l.length W),w.heap.size,w)] [] bT (kX l b b1 b2 W.b nc M mA mC W3):=o;have st:Step m w (ms (kX l b b1 b2 W.b nc M mA mC W3) m) bT:=st;obtain⟨p3,vi,TV⟩:=vh (js.st st) gw;have TW:bT.cell? ⟨W.b,0,none⟩=some (.slice W3.lA l.length W3.lC):=by rw [←h1];exact(o.at 4 rfl).cell rfl
   refine⟨fun b w'=>(b=true↔bU l k)/\w'=bT,⟨_,(o.at 3 rfl).cell rfl,Ae rfl ⟨_,_,_,TW,⟨by omega,by omega⟩,Ae vi ⟨_,TV,Aa (fun hc=>⟨?_,rfl⟩) fun hc=>⟨_,(o.at 3 rfl).cell rfl,Ae rfl ⟨_,_,_,TW,⟨by omega,by omega⟩,Ae vi ⟨_,TV,?_,rfl⟩⟩⟩⟩⟩⟩,?_⟩
   ·unfold bU;simp at hc;simp [hc]
   ·unfold bU;simp at hc;simp [hc]
   rintro _ bd dc ⟨TX,rfl⟩;refine Aa (fun hc=> ?_) fun hc=> ?_
   ·have hd:=TX.1 hc;refine⟨fun w'=>∃yl ym,Mem w.heap.size (cD (PS l.length W)) m [(ms (kX l b b1 b2 W.b nc M mA mC W2) m,bB.heap.size,bB),(cD (PS l.length W),w.heap.size,w)] [] w' (kX l b b1 b2 W.b nc (M++[k]) yl ym W3)/\Step m w (ms (kX l b b1 b2 W.b nc (M++[k]) yl ym W3) m) w',?_,?_⟩
    ·intro cS uH;have st:=st.trans (o.xE (Aq uH));have o:=o.ext (Aq uH);obtain⟨p4,HU,HV⟩:=TP (js.st st) gw;refine⟨fun u=>Ext cS u,Ext.refl _,_,_,_,fun u hu=>hu.cell ((o.at 1 rfl).cell rfl),_,fun u hu=>hu.cell ((o.at 3 rfl).cell rfl),Ae rfl ⟨_,_,_,fun u hu=>hu.cell (by rw [←h1];exact(o.at 4 rfl).cell rfl),⟨by omega,by omega⟩,Ae HU ⟨_,fun u hu=>hu.cell HV,?_⟩⟩⟩;intro b5 dq jA nV;refine⟨Ext.alloc nV,?_⟩;have st:=st.trans (o.xB jA nV);have o:=o.box jA nV;have tF:=oe.ml;have AO:=Eb l i;refine Er (P:=Tryz.prog) EG (o.rowAt 1 rfl) (src:=⟨b5,0,none⟩) (m:=1) (news:=[.string (aI (Di l k))]) (o.at 0 rfl).whole rfl (by simp [Value.oneCell']) (by omega) (by decide) (zero_le _) ?_;intro a' c' eF TY TZ dR;have st:=st.trans (o.xA 1 rfl TY TZ dR);have o:=o.app 1 rfl TY TZ dR;refine⟨_,_,_,rfl,o.wr 2 rfl rfl,fun dJ kN=> ?_⟩;have st:=st.trans (o.xS 2 kN rfl);have o:=o.set 2 kN rfl;have st:=st.trans (o.xX 0);have o:=o.erase 0;have e1:(M++[k]).length=M.length+1:=by simp
     have e2:strs ((M++[k]).map (Di l))=strs (M.map (Di l))++[.string (aI (Di l k))]:=by simp [strs]
     refine⟨a',c',?_⟩;unfold kX;rw [e1,e2];exact⟨o,st⟩
    rintro _ cL ⟨yl,ym,o,st⟩ eb nW;have st:=st.trans (o.xE (Aq nW));have o:=o.ext (Aq nW);obtain⟨p4,HU,HV⟩:=TP (js.st st) gw;obtain⟨g3,zP,T_⟩:=TT;have hkn:W3.nu[k]? =some ((er (bU l) r k:Nat):Int):=by
     obtain⟨nn,q1,q2⟩:=AM.nu k (Fl _ _ (by rw [A9];exact gw));rw [q1,q2.de hd r hr sm]
    refine⟨fun u=>u=eb,rfl,_,Cg (P:=fun u=>u.cell? _=_) ((o.at 3 rfl).cell rfl),Ae rfl ⟨some W3.vb,Cg (P:=fun u=>u.cell? _=_) (by rw [←h1];exact oc (o.at 4 rfl) rfl),_,Cg (P:=fun u=>u.cell? _=_) ((o.at 3 rfl).cell rfl),Ae rfl ⟨_,_,_,Cg (P:=fun u=>u.cell? _=_) (by rw [←h1];exact(o.at 4 rfl).cell rfl),⟨by omega,by omega⟩,Ae HU ⟨_,Cg (P:=fun u=>u.cell? _=_) HV,_,Cg (P:=fun u=>u.cell? _=_) ((o.at 3 rfl).cell rfl),Ae rfl ⟨_,_,_,Cg (P:=fun u=>u.cell? _=_) (by rw [←h1];exact nE (o.at 4 rfl) rfl),⟨by omega,by rw [AM.nl];omega⟩,Ae rfl ⟨((er (bU l) r k:Nat):Int),Cg (P:=fun u=>u.cell? _=_) ?_,?_⟩⟩⟩⟩⟩⟩
    ·rw [Bo,zero_add,mul_one,toNat_natCast];exact(o.at 7 rfl).cell (by rw [getElem?_map,hkn];rfl)
    refine TJ o 9 rfl zP _ _ ((T_ _).2 ((S.wr r k hr sm).de hd).1) fun cY gE rq o iQ=> ?_
    have st:=st.trans iQ;have o:Mem w.heap.size (cD (PS l.length W)) m [(ms (kX l b b1 b2 W.b nc M mA mC W2) m,bB.heap.size,bB),(cD (PS l.length W),w.heap.size,w)] [] cY (kX l b b1 b2 W.b nc (M++[k]) yl ym { W3 with vo:=gE }):=o;have st:Step m w (ms (kX l b b1 b2 W.b nc (M++[k]) yl ym { W3 with vo:=gE }) m) cY:=st;obtain⟨mB,o⟩:=o.sn fun q hq=>Bj.2 (.inr hq)
    exact⟨_,mB,_,_,_,_,rfl,by rw [length_append];exact oe.put S hr hs cm AM T_ TU hd rq,h1,h2.trans j6,h3.trans og,o,st⟩
   ·have hd:¬bU l k:=fun h=>by rw [TX.2 h]at hc;cases hc
    obtain⟨mB,o⟩:=o.sn fun q hq=>Bj.2 (.inr hq)
    exact⟨_,mB,_,_,_,_,rfl,by rw [length_append];exact oe.next S hr hs cm AM TT TU hd,h1,h2.trans j6,h3.trans og,o,st⟩
  ·rintro _ dQ ei D1 ⟨W2,M,mA,mC,rfl,oe,yk,j6,og,o,st⟩ hG hD iG;have o:=o.grow hG (fun f hf=>by rw [mem_singleton.1 hf];exact hle) cz;have o:=o.mark iG hD hle cz;obtain⟨g,hg,yi⟩:=oe.env;have tF:=oe.ml;have AO:=Eb l i;refine⟨_,_,_,(o.at 1 rfl).cell rfl,fun x w'=>∃(t:Nat) (vo:Obj),x=t/\t<=M.length/\K8 vo (Rq g ((M.map (Di l)).take t))/\Mem w.heap.size (cD (PS l.length W)) m [(cD (PS l.length W),w.heap.size,w)] [D1] w' (kX l b b1 b2 W.b nc M mA mC { W2 with vo:=vo }),fun x _=>M.length-x.toNat,⟨0,W2.vo,rfl,zero_le _,by rw [List.take_zero];exact hg,o⟩,?_⟩;rintro _ _ dm ⟨t,vo,rfl,htM,HW,o⟩;refine Aa (fun hc=> ?_) fun hc=> ?_
   ·have jF:t<M.length:=by simpa using hc
    have gQ:=(o.rowAt 0 rfl).sl;have dh:(strs (M.map (Di l)))[t]? =some (.string (aI (Di l M[t]))):=by simp [strs,jF]
    obtain⟨pM,hpM,hcM⟩:=gQ.wS (fun e=>by rw [e]at dh;simp at dh);refine⟨⟨by omega,by omega⟩,Ae hpM ⟨Di l M[t],?_,_,(o.at 3 rfl).cell rfl,Ae rfl ⟨some W2.vb,by rw [←yk];exact oc (o.at 4 rfl) rfl,?_⟩⟩⟩
    ·rw [mul_one,toNat_natCast];exact Ac.nth hcM t dh
    refine Au8 o 9 rfl HW _ fun eI gE rq o _=>⟨⟨t+1,gE,by rw [Au (by omega) (by omega)];omega,by omega,?_,o⟩,?_⟩
    ·have Brs:t<(M.map (Di l)).length:=by simpa using jF
     rw [L3 Brs,Rq,List.foldl_append];simpa [Rq] using rq
    ·show M.length-(IntKind.i64.wrap ((t:Int)+1)).toNat<M.length-(t:Int).toNat
     rw [Au (by omega) (by omega)];omega
   ·have:t=M.length:=by simp at hc;omega
    subst this;rw [List.take_of_length_le (by simp)]at HW;refine⟨o.marks.1,{ W2 with vo:=vo },⟨?_,⟨_,HW,Env.del (M:=M) yi (fun v=>Iff.rfl) fun u hu v hv=>oe.ne v hv u hu⟩,oe.same.vo vo⟩,⟨yk,j6,og⟩,Mem.HM (L:=[_,_,_,_]) (m0:=m) o⟩;have h5:=oe.ni;rw [TM U hi]at h5;exact⟨h5.nl,h5.na,h5.top,h5.nu,h5.ro⟩
end
def Kk (x0:Option Addr) (x1:Nat) (x2:Nat) (x3:Int) (K:Value->World->Prop) (w:World):Prop:=∃(J:World->Prop),(cond (decide (x3<0)) (False) (J w))/\∀(_x5:Nat->Value) w2,J w2->Fm 111 #[.int .u64 (IntKind.u64.wrap (x1:Int)),.int .u64 (IntKind.u64.wrap x3)] w2 (fun x6 w3=>∃x7 x8,x6= .tuple #[.int .u64 x7,.int .u64 x8]/\∃(J1:World->Prop),(∀(_x9:Nat->Value),cond (((decide (x7>0))||(decide (x8>9223372036854775807)))) (False) (J1 w3))/\∀(_x11:Nat->Value) w5,J1 w5->Bh Tryz.prog (Instr.makeSlice 23 (.int .i64 (IntKind.i64.wrap x8)) (.int .i64 (IntKind.i64.wrap x8))) (fun af w6=>∃ae ag ah,af= .slice ae ag ah/\Bh Tryz.prog (Builtin.copy_ #[23,23] 3 #[.slice ae ag ah,.slice x0 x1 x2]) (fun aj w7=>∃ax,aj= .int .i64 ax/\∃(I:Int->World->Prop) (aH:Int->World->Nat),I ax w7/\∀(_x19:Nat->Value) (ar:Int) (w8:World),I ar w8->cond (decide (ar<(ag:Int))) (∀w9:World,w9=w8.drew->((0:Int)<=ar/\ar<=(ag:Int))/\((0:Int)<=ar/\ar<=(ah:Int))/\Bh Tryz.prog (Builtin.copy_ #[23,23] 3 #[.slice (Cn ae ar.toNat ah 1) (ag-ar.toNat) (ah-ar.toNat),.slice (Cn ae 0 ah 1) ar.toNat ah]) (fun aK ak=>∃aG,aK= .int .i64 aG/\I (IntKind.i64.wrap (ar+aG)) ak/\aH (IntKind.i64.wrap (ar+aG)) ak<aH ar w8) w9) (K (.slice ae ag ah) w8)) w6) w5)
theorem Kl (x0:Option Addr) (x1:Nat) (x2:Nat) (x3:Int) (K:Value->World->Prop) (w:World) (h:Kk x0 x1 x2 x3 K w):Calls Tryz.prog 86 #[.slice x0 x1 x2,.int .i64 x3] w (aD K):=
 Aj { loops:=[(508,[(8,.int .i64)])],dN:=[(3,[]),(15,[])],j_:=[(60,[26])] } Tryz.func86 (by kernel_rfl) h
theorem UA {w0 w:World} {g:Nat} {xs:Array Value} (h:Ao [] w0 w) (hg:w0.heap.size<=g):Ao [] w0 (w.setRow g xs):=
 ⟨h.os,h.tape,h.output,by simpa [World.setRow] using h.size,fun j hj hm=>by
  rw [←h.block j hj hm];simp only [World.setRow,Array.getElem?_modify];rw [if_neg (by omega)]⟩
theorem Apz (a:Int) (N:Nat) (tC:(N:Int)<4294967296) {w:World} {p:Addr} {xC:Nat} (hx:Ac w p [.int .i64 a]):Calls Tryz.prog 86 #[.slice (some p) 1 xC,.int .i64 N] w (aD fun v w'=>v= .slice (some ⟨w.heap.size,0,none⟩) N N/\Ao [] w w'/\w'.heap[w.heap.size]? =some (.cells ⟨replicate N (.int .i64 a)⟩ 3 (0,0))):=by
 have hn:(0:Int)<=(N:Int):=by omega
 refine Kl _ _ _ _ _ _ ⟨fun w'=>w=w',Ba (by simp) rfl,?_⟩;rintro _ _ rfl;have wn:IntKind.u64.wrap (N:Int)=N:=wrap_u64 (by omega) (by omega);rw [wn,show IntKind.u64.wrap ((1:Nat):Int)=1 from wrap_u64 (n:=1) (by omega) (by omega)];refine Ad (Tf N hn tC _) ?_;rintro _ _ ⟨rfl,rfl⟩;refine⟨_,_,rfl,fun w'=>w=w',fun _=>Ba (by simp;omega) rfl,?_⟩;rintro _ _ rfl;have hT:=Xc;obtain⟨i,z,ht,hi,hz,dL,hb,qB,jN⟩:=hT;have o1:z= .int .i64 0:=by
  have:Tryz.prog.info? 3=some Tryz.t3:=by kernel_rfl
  rw [this]at hi;cases hi
  have h2:Tryz.t3.zero=some (.int .i64 0):=by kernel_rfl
  rw [h2]at hz;exact(Option.some.inj hz).symm
 subst o1;rw [Au (n:=(N:Int)) (by omega) (by omega)];refine⟨_,_,run_make w (P:=Tryz.prog) 23 3 i (.int .i64 0) ht hi hz .i64 .i64 N N (by omega) (by omega) (by rw [hb];omega) (by omega),?_⟩;refine⟨_,_,_,rfl,?_⟩;rw [toNat_natCast];have u0:(madeCells (Value.int .i64 0).cells (N*i.size))=⟨replicate N (.int .i64 0)⟩:=by
  rw [dL,mul_one];apply Array.ext';apply List.ext_getElem
  ·simp [madeCells]
  ·intro j h1 h2;simp [madeCells,Value.cells,Nat.mod_one]
 rw [u0];have o3:(Tryz.prog.info? 3).map (·.size)=some 1:=by rw [hi];simp [dL]
 generalize aP:w.alloc (.cells ⟨replicate N (.int .i64 0)⟩ 3)=w1;have gS:w1.heap[w.heap.size]? =some (.cells ⟨replicate N (.int .i64 0)⟩ 3 (0,0)):=by rw [←aP];show(w.heap.push _)[w.heap.size]? =_;simp
 have kh:Ao [] w w1:=Bd aP.symm;have ka:∀(w8:World),Ao [] w w8->w8.heap[w.heap.size]? =some (.cells ⟨replicate N (.int .i64 a)⟩ 3 (0,0))->
  (Value.slice (some ⟨w.heap.size,0,none⟩) N N= .slice (some ⟨w.heap.size,0,none⟩) N N/\Ao [] w w8/\w8.heap[w.heap.size]? =some (.cells ⟨replicate N (.int .i64 a)⟩ 3 (0,0))):=fun w8 hk hg=>⟨rfl,hk,hg⟩
 by_cases hN:N=0
 ·subst hN;refine⟨_,_,run_copy_none (P:=Tryz.prog) w1 _ _ _ _ _ _ _ _ _ _ ht o3 (by simp),⟨_,rfl,fun n1 w8=>n1=0/\w1=w8,fun _ _=>0,⟨rfl,rfl⟩,?_⟩⟩;rintro _ _ _ ⟨rfl,rfl⟩;exact Ba (by simp) (ka _ kh gS)
 ·have kR:Ac w1 (p.add 0) [.int .i64 a]:=by
   have:=Oe hx kh;simpa [Addr.add] using this
  refine⟨_,_,run_copy_row Tryz.prog w1 _ _ _ _ w.heap.size 0 N N p 1 xC ⟨replicate N (.int .i64 0)⟩ 3 [.int .i64 a] ht o3 gS (by show 1=min 1 N;omega) (fun j v hj=> ?_) (by simp;omega) (by simp [Value.oneCell']),?_⟩
  ·cases j with
   |zero=>
    simp at hj;subst hj;have:=kR 0 (by simp);simpa [Addr.add] using this
   |succ j=>simp at hj
  ·refine⟨_,rfl,fun n1 w8=>∃q:Nat,n1=q/\1<=q/\q<=N/\Ao [] w w8/\w8.heap[w.heap.size]? =some (.cells ⟨replicate q (.int .i64 a)++replicate (N-q) (.int .i64 0)⟩ 3 (0,0)),fun n1 _=>N-n1.toNat,⟨1,rfl,by omega,by omega,UA kh (le_refl _),?_⟩,?_⟩
   ·rw [setRow_heap _ _ _ _ _ _ gS];simp
   ·rintro _ _ w8 ⟨q,rfl,uE,hqN,hk,hg⟩;refine Aa (fun hc=> ?_) fun hc=> ?_
    ·have Brk:q<N:=by simp at hc;omega
     intro w9 ff;refine⟨by omega,by omega,?_⟩;have GD:Ao [] w w9:=hk.trans (Aq ff);have tD:w9.heap[w.heap.size]? =some (.cells ⟨replicate q (.int .i64 a)++replicate (N-q) (.int .i64 0)⟩ 3 (0,0)):=by rw [ff];exact hg
     rw [toNat_natCast,Gq];have m7:Cn (some ⟨w.heap.size,0,none⟩) q N 1=some ⟨w.heap.size,q,none⟩:=by
      unfold Cn;rw [if_neg (by omega)];simp [Bo]
     rw [m7];obtain⟨c,cE,cr,fX,jV⟩:∃c:Nat,min q (N-q)=c/\1<=c/\c<=q/\c<=N-q:=⟨_,rfl,by omega,by omega,by omega⟩
     refine⟨_,_,run_copy_row Tryz.prog w9 _ _ _ _ w.heap.size q (N-q) (N-q) ⟨w.heap.size,0,none⟩ (q-0) (N-0) _ 3 (replicate c (.int .i64 a)) ht o3 tD (by rw [List.length_replicate];show c=min q (N-q);omega) (fun j v hj=> ?_) (by simp;omega) (fun v hv=>by rw [List.eq_of_mem_replicate hv];rfl),?_⟩
     ·have iX:=(List.getElem?_eq_some_iff.1 hj).1;have hv:=(List.getElem?_eq_some_iff.1 hj).2;simp at iX hv;rw [Bo,zero_add];have GF:j<q:=by omega
      simp only [World.cell?,tD,Option.isSome_none,Bool.false_eq_true,if_false];rw [List.getElem?_toArray];show(replicate q (Value.int .i64 a)++replicate (N-q) (Value.int .i64 0))[j]? =some v
      rw [List.getElem?_append_left (by simp;omega),←hv];simp [GF]
     ·refine⟨_,rfl,?_⟩;rw [List.length_replicate];rw [Au (by omega) (by omega)];refine⟨⟨q+c,by omega,by omega,by omega,UA GD (le_refl _),?_⟩,by show N-((q:Int)+(c:Int)).toNat<N-(q:Int).toNat;omega⟩;have hl:(replicate q (Value.int .i64 a)++replicate (N-q) (Value.int .i64 0)).take q++replicate c (Value.int .i64 a)++(replicate q (Value.int .i64 a)++replicate (N-q) (Value.int .i64 0)).drop (q+c)=replicate (q+c) (Value.int .i64 a)++replicate (N-(q+c)) (Value.int .i64 0):=by
       rw [List.take_append_of_le_length (by simp),List.take_of_length_le (by simp),List.drop_append,List.drop_of_length_le (by simp),List.nil_append,List.drop_replicate,List.length_replicate,List.replicate_append_replicate,show N-q-(q+c-q)=N-(q+c) by omega]
      refine(setRow_heap _ _ _ _ _ _ tD).trans ?_;rw [←hl]
    ·have hq:q=N:=by simp at hc;omega
     subst hq;rw [Nat.sub_self,List.replicate_zero,List.append_nil]at hg;exact ka _ hk hg
end Go.Proofs.YtpdccfgpbkagcaaGreat
namespace Go.Lv
open Go.Vc
theorem Mem.Bnb {n0:Nat} {rs m0:List Nat} {fr:List (List Nat×Nat×World)} {ds:List Nat} {w:World} {ps:List Pc} (o:Mem n0 rs m0 fr ds w ps) (e size:Nat):Mem n0 rs m0 fr ds w (ps++[.row e size none 0 0 []]):=by
 have HY:∀ {p:Pc},p∈ps++[.row e size none 0 0 []]->p∈ps\/p= .row e size none 0 0 []:=fun h=>by simpa using h
 refine⟨o.le,o.lt,o.aW,fun f hf=>⟨(o.eN f hf).1,fun p hp b hb=> ?_⟩,fun p hp=> ?_,fun p hp b hb=> ?_,?_,o.marks⟩
 ·rcases HY hp with h|rfl
  ·exact(o.eN f hf).2 p h b hb
  ·cases hb
 ·rcases HY hp with h|rfl
  ·exact o.holds p h
  ·exact Rw.nil w 0 e size
 ·rcases HY hp with h|rfl
  ·exact o.iw p h b hb
  ·cases hb
 ·refine List.pairwise_append.2 ⟨o.ew,List.pairwise_singleton _ _,fun p _ q hq b _ qD=> ?_⟩;simp at hq;subst hq;cases qD
end Go.Lv
namespace Go.Proofs.YtpdccfgpbkagcaaGreat
open Go.Vc Go.Lv Go.Ty Go.Tr Go.Tk
section
variable {l:List Ag}
theorem Asi {de:Nat->Prop} [DecidablePred de] {r a:Nat} :∀b,a<=b->(∀y,a<=y->y<b->¬de y)->er de r b=er de r a:=by
 intro b
 induction b with
 |zero=>intro h _;rw [show a=0 by omega]
 |succ b ih=>
  intro h hn;by_cases e:a=b+1
  ·rw [e]
  ·rw [er,if_neg (fun h2=>hn b (by omega) (by omega) h2.2),ih (by omega) fun y h1 h2=>hn y h1 (by omega)];rfl
theorem Azk {op:Int} (h:Ki op=66):op=32:=by
 by_cases h6:op=32
 ·exact h6
 exfalso
 revert h
 unfold Ki;rw [if_neg h6]
 repeat' split
 all_goals decide
theorem Axw (U:Unit l) {d:Nat} {x:Ag} (hx:l[d]? =some x) (ho:x.op=40\/x.op=41):x.kids=((Vk l d:Nat):Int)+1:=by
 have hd:=(List.getElem?_eq_some_iff.1 hx).1;obtain⟨y,ds,hn⟩:=U.node d hd;obtain rfl:x=y:=Option.some.inj (hx.symm.trans hn.at_);obtain⟨k,rfl⟩:=SZ hn.ok ho;have hoa:=Bb hx;have key:∀j,j<=k->pd l d j=d+1+j/\er (iC l) d (d+1+j)=j:=by
  intro j
  induction j with
  |zero=>
   intro _;refine⟨rfl,?_⟩;rw [Nat.add_zero,er,z8 _ (le_refl _),if_neg (fun h=>by have:=h.2;unfold iC at this;omega)]
  |succ j ih=>
   intro hj;obtain⟨h1,h2⟩:=ih (by omega);obtain⟨i',z,hk,hz,hc⟩:=hn.lz j 80 (by rw [List.getElem?_append_left (by simp;omega),List.getElem?_replicate,if_pos (by omega)]);have hp:=Ts U hk;have cF:Az l i'=39:=by rw [Bb hz];exact SY hc
   have he:=GQ U cF;refine⟨by rw [L6 U hk,he];omega,?_⟩;rw [show d+1+(j+1)=(d+1+j)+1 by omega,er,h2,if_pos ⟨by omega,by rw [←h1,hp];exact cF⟩]
 obtain⟨h1,h2⟩:=key k (le_refl _);obtain⟨i',z,hk,hz,hc⟩:=hn.lz k 66 (by rw [List.getElem?_append_right (by simp)];simp);have hp:=Ts U hk;have cF:Az l i'=32:=by rw [Bb hz];exact Azk hc
 have UB:Cf (ks l) i'=Cf (ks l) d:=hk.last (by rw [H8 hn.at_,hn.kids,toNat_natCast];simp);have Brt:Vk l d=k:=by
  unfold Vk;rw [←h2];refine Asi _ (by have:=hk.within;omega) fun y hy1 hy2 xR=> ?_
  unfold iC at xR;by_cases e:y=i'
  ·subst e;omega
  ·have:=SG U (.inl (by omega)) y (v:=i') ⟨by omega,by omega⟩ e;omega
 rw [Brt,hn.kids];simp
def pe (r:mZ):Bm:=⟨r.name,r.node,r.params,r.vs⟩
structure DI (l:List Ag) (t:Nat) (W:Wk):Prop where
 nl:W.nu.length=l.length
 na:Lg l t W.no
 nu:∀j d,j<t->bh (ks l) 0 j d->W.nu[d]? =some ((Ce l (decide (Az l d=38)) j:Nat):Int)
 de:G3 l t W.cs (W.rs.map pe)
 em:W.cs=[]->Dw l t=0
 ba:∀c,W.cs[W.cs.length-1]? =some c->c.base+(if 1>c.size then 1 else c.size)=Dw l t
 vs:∀r∈W.rs,r.vs=[]
theorem Tt (c:Co) (w:World):Calls Tryz.prog 112 #[.agg #[.string (aI c.name),.int .i64 c.base,.int .i64 c.size]] w (aD fun v w'=>v= .int .i64 (if 1>c.size then 1 else c.size)/\Ao [] w w'):=by
 refine Vn _ _ _ _ _ ?_;intro b w1 hb aP;exact⟨_,(cB.new hb aP).cell rfl,rfl,Bd aP⟩
theorem Lg.put (D:x_ l) {t d:Nat} (hk:bh (ks l) 0 t d) {ob:Obj} {g:List UInt8->Option Int} (hg:∀s,(∀j d:Nat,j<t->bh (ks l) 0 j d->Cm l d=s->g s=some (d:Int))/\((∀j d,j<t->bh (ks l) 0 j d->Cm l d≠s)->g s=none)) (rq:K8 ob (sc g (Cm l d) (d:Int))):Lg l (t+1) ob:=by
 refine⟨_,rq,fun s=>⟨fun j d' hj bZ hn=> ?_,fun bV=> ?_⟩⟩
 ·unfold sc;by_cases e:j=t
  ·subst e;obtain rfl:=Tp hk bZ;rw [if_pos hn.symm]
  ·rw [if_neg (fun e2=>e (D.uniq bZ hk (by rw [hn,e2])).1)];exact(hg s).1 j d' (by omega) bZ hn
 ·unfold sc;rw [if_neg (fun e2=>bV t d (by omega) hk e2.symm)];exact(hg s).2 fun j d' hj bZ=>bV j d' (by omega) bZ
theorem DI.A7 {t d:Nat} {W:Wk} (h:DI l t W) (hk:bh (ks l) 0 t d) (cz:d<l.length):∀j d',j<t+1->bh (ks l) 0 j d'->(W.nu.set d ((Ce l (decide (Az l d=38)) t:Nat):Int))[d']? =some ((Ce l (decide (Az l d'=38)) j:Nat):Int):=by
 intro j d' hj bZ;by_cases e:d'=d
 ·subst e;obtain rfl:=HD hk bZ;rw [List.getElem?_set_self (by rw [h.nl];exact cz)]
 ·rw [List.getElem?_set_ne (Ne.symm e)];exact h.nu j d' (by
   rcases Nat.lt_or_ge j t with g|g
   ·exact g
   ·obtain rfl:j=t:=by omega
    exact absurd (Tp bZ hk) e) bZ
def yn (W:Wk) (d:Nat) (no:Obj) (mn:Int) (nm:List UInt8) (pa:Int) (a:Option Addr) (c:Nat):Wk:={ W with no:=no,mn:=mn,nu:=W.nu.set d (W.rs.length:Int),rs:=W.rs++[⟨nm,d,pa,none,0,[]⟩],rA:=a,rC:=c }
def tQ (W:Wk) (d:Nat) (no:Obj) (ch:Co) (a:Option Addr) (c:Nat):Wk:={ W with no:=no,nu:=W.nu.set d (W.cs.length:Int),cs:=W.cs++[ch],cA:=a,cC:=c }
theorem DI.rt (S:G2 l) {t d:Nat} {W:Wk} (h:DI l t W) (ht:t<(Ar l 0).length) (hk:bh (ks l) 0 t d) (ho:Az l d≠38) {no:Obj} (bV:Lg l (t+1) no) (mn:Int) (nm:List UInt8) (a:Option Addr) (c:Nat):DI l (t+1) (yn W d no mn nm ((Vk l d:Nat):Int) a c):=by
 have cz:d<l.length:=by have:=hk.2.2.2;rw [A9]at this;exact this
 obtain⟨_,he⟩:=Ec S.unit hk;have he:(Ar l 0)[t]=((d:Nat):Int):=he;have hx:=getElem?_eq_getElem cz;have tJ:(Ar l 0)[t]? =some (d:Int):=by rw [getElem?_eq_getElem ht,he]
 have tR:Dw l (t+1)=Dw l t:=by
  rw [P1 tJ hx];unfold K7;rw [if_pos (by rw [←Bb hx];exact ho)];omega
 have sr:W.rs.length=Ce l false t:=by have:=h.de.rl;simpa using this
 refine⟨by simp [yn,h.nl],bV,?_,?_,fun e=>by rw [tR];exact h.em e,fun c' lH=>by rw [tR];exact h.ba c' lH,fun r hr=> ?_⟩
 ·have:=h.A7 hk cz;rw [decide_eq_false ho,←sr]at this;exact this
 ·have:=h.de.AE ht he hk ho (pe ⟨nm,d,((Vk l d:Nat):Int),none,0,[]⟩) rfl;show G3 l (t+1) W.cs ((W.rs++[_]).map pe)
  rw [List.map_append];exact this
 ·rcases mem_append.1 hr with hr|hr
  ·exact h.vs r hr
  ·rw [mem_singleton.1 hr]
theorem DI.ch (S:G2 l) {t d:Nat} {W:Wk} (h:DI l t W) (ht:t<(Ar l 0).length) (hk:bh (ks l) 0 t d) (ho:Az l d=38) {no:Obj} (bV:Lg l (t+1) no) (nm:List UInt8) (a:Option Addr) (c:Nat):DI l (t+1) (tQ W d no ⟨nm,Dw l t,mz l d⟩ a c):=by
 have cz:d<l.length:=by have:=hk.2.2.2;rw [A9]at this;exact this
 obtain⟨_,he⟩:=Ec S.unit hk;have he:(Ar l 0)[t]=((d:Nat):Int):=he;have hx:=getElem?_eq_getElem cz;have tJ:(Ar l 0)[t]? =some (d:Int):=by rw [getElem?_eq_getElem ht,he]
 have tR:Dw l (t+1)=Dw l t+(if 1>mz l d then 1 else mz l d):=by
  rw [P1 tJ hx,Rs hx];unfold K7;rw [if_neg (by rw [←Bb hx];simp [ho])]
 refine⟨by simp [tQ,h.nl],bV,?_,h.de.chan ht he hk ho _ rfl,fun e=>by simp [tQ]at e,fun c' lH=> ?_,h.vs⟩
 ·have:=h.A7 hk cz;rw [decide_eq_true ho,←h.de.cl]at this;exact this
 ·simp only [tQ,length_append,List.length_singleton,Nat.add_sub_cancel,List.getElem?_append_right (le_refl _),Nat.sub_self,List.getElem?_cons_zero,Option.some.injEq]at lH;subst lH;rw [tR]
end
section
variable {l:List Ag}
theorem Axx (n:Nat) (W:Wk) (d:Nat) (no:Obj) (mn:Int) (nm:List UInt8) (pa:Int) (a:Option Addr) (c:Nat):PS n (yn W d no mn nm pa a c)= .box W.b [.slice W.lA n W.lC,.slice W.cA W.cs.length W.cC,.slice a (W.rs.length+1) c,.int .i64 mn,.slice (some ⟨W.nB,0,none⟩) W.nu.length W.nu.length,.map (some W.nb),.map (some W.vb),.int .i64 W.now,.int .i64 0,.int .i64 0,.int .i64 (-1),.slice none 0 0]:: .row 75 3 W.cA W.cs.length W.cC (Vc.flat rp W.cs)::.row 78 4 a (W.rs.length+1) c (Vc.flat od W.rs++[.string (aI nm),.int .i64 d,.int .i64 pa,.slice none 0 0])::.box W.nB ((W.nu.map Jb).set d (.int .i64 (W.rs.length:Int)))::.raw W.nb no::.raw W.vb W.vo::(W.rs.map si++[.row 9 1 none 0 0 []]):=by
 have e:(W.nu.map Jb).set d (.int .i64 (W.rs.length:Int))=(W.nu.set d (W.rs.length:Int)).map Jb:=by rw [map_set]
 rw [e];simp only [PS,wc,yn,length_append,List.length_singleton,length_set,List.map_append,Vc.Pu];rfl
theorem Axy (n:Nat) (W:Wk) (d:Nat) (no:Obj) (ch:Co) (a:Option Addr) (c:Nat):PS n (tQ W d no ch a c)= .box W.b [.slice W.lA n W.lC,.slice a (W.cs.length+1) c,.slice W.rA W.rs.length W.rC,.int .i64 W.mn,.slice (some ⟨W.nB,0,none⟩) W.nu.length W.nu.length,.map (some W.nb),.map (some W.vb),.int .i64 W.now,.int .i64 0,.int .i64 0,.int .i64 (-1),.slice none 0 0]:: .row 75 3 a (W.cs.length+1) c (Vc.flat rp W.cs++rp ch)::.row 78 4 W.rA W.rs.length W.rC (Vc.flat od W.rs)::.box W.nB ((W.nu.map Jb).set d (.int .i64 (W.cs.length:Int)))::.raw W.nb no::.raw W.vb W.vo::W.rs.map si:=by
 have e:(W.nu.map Jb).set d (.int .i64 (W.cs.length:Int))=(W.nu.set d (W.cs.length:Int)).map Jb:=by rw [map_set]
 rw [e];simp only [PS,wc,tQ,length_append,List.length_singleton,length_set,Vc.Pu]
theorem Asj {w:World} {e n c gr jn:Nat} {a:Option Addr} {cs:List Co} {ch:Co} (h:Rw w 0 e 3 a n c (Vc.flat rp cs)) (qe:a=some ⟨gr,0,none⟩) (pb:cs[jn]? =some ch):Ac w ((⟨gr,0,none⟩:Addr).add (jn*3)) (rp ch):=by
 have h:=h.sl;rw [qe]at h;obtain⟨hj,AH⟩:=List.getElem?_eq_some_iff.1 pb;obtain⟨p,hp,hc⟩:=Ss.elem (f:=rp) (k:=3) (fun _=>rfl) (by decide) h hj;cases hp
 rw [AH]at hc;exact hc
theorem Ap0 (S:G2 l) {t d:Nat} (hk:bh (ks l) 0 t d) (W:Wk) (h:DI l t W):Wh l 87 [.int .i64 d] W (fun W'=>DI l (t+1) W'/\W'.vo=W.vo/\W'.now=W.now):=by
 intro m w hm fR hl hp dK;have U:=S.unit;have my:=U.len;have AO:=Eb l 0;obtain⟨ht,he⟩:=Ec U hk;have ht:t<(Ar l 0).length:=ht;have he:(Ar l 0)[t]=((d:Nat):Int):=he;have cz:d<l.length:=by have:=hk.2.2.2;rw [A9]at this;exact this
 have hx:=getElem?_eq_getElem cz;have ho:=Bb hx;have sb:=h.nl;have tJ:(Ar l 0)[t]? =some (d:Int):=by rw [getElem?_eq_getElem ht,he]
 have hmb:=G_ U hx;have sr:W.rs.length=Ce l false t:=by have:=h.de.rl;simpa using this
 have n_:=h.de.cl;have SO:=P0 (l:=l) true t;have Bsw:=P0 (l:=l) false t;obtain⟨g,hg,vf⟩:=h.na;have AJ:g (Cm l d)=none:=(vf _).2 fun j d' hj bZ=>S.decl.dn j d' t d bZ hk hj
 have o:=Mem.o9 hm.lt hp;have st:=Mem.tN (w:=w) dK;obtain⟨p,hA,hc⟩:=G4 (hl.st st) hx;refine L5 ⟨W.b,0,none⟩ d _ _ ?_;refine⟨_,_,_,(o.at 0 rfl).cell rfl,⟨by omega,by omega⟩,Ae hA ⟨_,_,_,_,_,hc,?_⟩⟩;intro b w1 hb aP;have o:=o.box hb aP;refine⟨o.wr 0 rfl rfl,fun w2 bR=> ?_⟩;have o:=o.l9 0 bR rfl;obtain⟨nc,k_⟩:∃nc:List Value,nc=[.int .i64 l[d].op,.string (aI l[d].name),.int .i64 l[d].n,.int .i64 l[d].kids,.int .i64 l[d].at_]:=⟨_,rfl⟩
 have nw:nc[0]? =some (.int .i64 l[d].op):=by rw [k_];rfl
 have cE:nc[1]? =some (.string (aI l[d].name)):=by rw [k_];rfl
 have cr:nc[2]? =some (.int .i64 l[d].n):=by rw [k_];rfl
 have fX:nc[3]? =some (.int .i64 l[d].kids):=by rw [k_];rfl
 have o:Mem w.heap.size (cD (PS l.length W)) m [(cD (PS l.length W),w.heap.size,w)] [] w2 ([.box b nc]++PS l.length W):=by rw [k_];exact o
 refine⟨_,(o.at 0 rfl).cell cE,fun nm w'=>nm=Cm l d/\w'=w2,⟨_,(o.at 0 rfl).cell nw,Aa (fun hc=>⟨?_,rfl⟩) fun hc=>⟨?_,rfl⟩⟩,?_⟩
 ·unfold Cm;rw [if_pos (by rw [ho];simpa using hc)]
 ·unfold Cm;rw [if_neg (by rw [ho];simpa using hc),G1 hx]
 rintro _ _ w3 ⟨rfl,rfl⟩;refine⟨some W.nb,oc (o.at 1 rfl) rfl,?_⟩;refine O5 o 5 rfl hg _ ⟨_,_,rfl,?_⟩;rw [AJ];refine Ba rfl ⟨some W.nb,oc (o.at 1 rfl) rfl,?_⟩;refine TJ o 5 rfl hg _ _ AJ fun w6 ob rq o _=> ?_
 have bV:Lg l (t+1) ob:=Lg.put S.decl hk vf rq;have o:Mem w.heap.size (cD (PS l.length W)) m [(cD (PS l.length W),w.heap.size,w)] [] w6 ([.box b nc]++PS l.length { W with no:=ob }):=o;refine⟨_,(o.at 0 rfl).cell nw,Aa (fun HZ=> ?_) fun HZ=> ?_⟩
 ·have j5:Az l d≠38:=by rw [ho];simpa using HZ
  have Bsx:W.rs.length<32:=by
   have h1:=S.decl.rts (t+1) (by omega);rw [Gg false ht he,if_pos (by simp [j5])]at h1;omega
  have xR:(if 0>IntKind.i64.wrap (l[d].kids-1)then 0 else IntKind.i64.wrap (l[d].kids-1))=((Vk l d:Nat):Int):=by
   have h1:=Axw U hx (by have:=O0 U hk;rw [ho]at this j5;omega);have h2:Vk l d<=l.length:=Nat.le_trans (GL _) (by have:=Cd (ks l) d;rw [A9]at this;exact this);rw [h1,Au (by omega) (by omega)];rw [if_neg (by omega)];omega
  refine⟨fun w'=>w'=w6,⟨_,_,_,nE (o.at 1 rfl) rfl,Ba (by simp;omega) rfl⟩,?_⟩;rintro _ w8 rfl;refine⟨fun w'=>∃mn,Mem w.heap.size (cD (PS l.length W)) m [(cD (PS l.length W),w.heap.size,w)] [] w' ([.box b nc]++PS l.length { W with no:=ob,mn:=mn }),⟨_,(o.at 0 rfl).cell nw,Aa (fun _=>⟨_,_,_,nE (o.at 1 rfl) rfl,?_⟩) fun _=>⟨W.mn,o⟩⟩,?_⟩
  ·simp only [Bo];exact⟨o.wr 1 rfl rfl,fun w9 ff=>⟨(W.rs.length:Int),o.set 1 ff rfl⟩⟩
  rintro _ ak ⟨mn,o⟩;refine⟨fun w'=>Mem w.heap.size (cD (PS l.length W)) m [(cD (PS l.length W),w.heap.size,w)] [] w' ([.box b nc]++PS l.length { W with no:=ob,mn:=mn,nu:=W.nu.set d (W.rs.length:Int) }),?_,?_⟩
  ·intro aw il;have o:=o.ext (Aq il);refine⟨_,_,_,nE (o.at 1 rfl) rfl,_,_,_,nE (o.at 1 rfl) rfl,⟨by omega,by show(d:Int)<(W.nu.length:Int);omega⟩,Ae rfl ?_⟩;simp only [Bo,zero_add,mul_one,toNat_natCast];refine⟨o.wr 4 rfl (Nat.ble_eq_true_of_le (by simp;omega)),fun aJ kq=> ?_⟩;have o:=o.set 4 kq rfl;have e:=yh l.length { W with no:=ob,mn:=mn } d (W.rs.length:Int);rw [←e];exact o
  rintro _ aQ o aX lQ;have o:=o.ext (Aq lQ);refine⟨fun u=>Ext aX u,Ext.refl _,_,_,_,fun u hu=>hu.cell (nE (o.at 1 rfl) rfl),_,fun u hu=>hu.cell ((o.at 0 rfl).cell fX),?_⟩;rw [xR];intro b1 a_ bI gR;refine⟨Ext.alloc gR,?_⟩;have o:=o.box bI gR;refine Er (P:=Tryz.prog) PH (o.rowAt 4 rfl) (src:=⟨b1,0,none⟩) (m:=1) (news:=[.string (aI (Cm l d)),.int .i64 d,.int .i64 ((Vk l d:Nat):Int),.slice none 0 0]) (o.at 0 rfl).whole rfl (by simp [Value.oneCell']) (by show W.rs.length+1<_;omega) (by decide) (zero_le _) ?_;intro a' c' aN Bru Brv dR;have o:=o.app 4 rfl Bru Brv dR;simp only [Bo];refine⟨_,_,_,rfl,o.wr 2 rfl rfl,fun bE iA=> ?_⟩;have o:=o.set 2 iA rfl;have o:=o.Bnb 9 1;refine⟨yn W d ob mn (Cm l d) ((Vk l d:Nat):Int) a' c',⟨h.rt S ht hk j5 bV mn _ a' c',rfl,rfl⟩,⟨rfl,rfl,rfl⟩,Mem.back (L:=[.box b1 [.string (aI (Cm l d)),.int .i64 d,.int .i64 ((Vk l d:Nat):Int),.slice none 0 0],.box b nc]) (ds:=[]) (m0:=m) ?_⟩;rw [Axx];have ln:(W.nu.set d (W.rs.length:Int)).length=W.nu.length:=by simp
  have em:(W.nu.set d (W.rs.length:Int)).map Jb=(W.nu.map Jb).set d (.int .i64 (W.rs.length:Int)):=by rw [map_set]
  rw [←ln,←em];exact o
 ·have j5:Az l d=38:=by rw [ho];simpa using HZ
  have tR:Dw l (t+1)=Dw l t+(if 1>l[d].n then 1 else l[d].n):=by
   rw [P1 tJ hx];unfold K7;rw [if_neg (by rw [←ho];simp [j5])]
  have SR:=S.decl.SQ (t+1) (by omega);have su:K7 l[d]=if 1>l[d].n then 1 else l[d].n:=by unfold K7;rw [if_neg (by rw [←ho];simp [j5])]
  have tI:0<=Dw l t/\Dw l t<=64:=by
   refine⟨?_,S.decl.SQ t (by omega)⟩;clear tR SR su;have:∀k,0<=Dw l k:=by
    intro k
    induction k with
    |zero=>exact Int.le_refl _
    |succ k ih=>
     rw [Dw];split
     ·rename_i e' eY;split
      ·rename_i x' mO;have:=(G_ U mO).1;omega
      ·omega
     ·omega
   exact this t
  refine⟨_,(o.at 0 rfl).cell cr,?_⟩;intro b2 bB dY jU;have o:=o.box dY jU;refine⟨o.wr 0 rfl rfl,fun bT nN=> ?_⟩;have o:=o.l9 0 nN rfl;refine⟨fun w'=>Mem w.heap.size (cD (PS l.length W)) m [(cD (PS l.length W),w.heap.size,w)] [] w' ([.box b2 [.string (aI (Cm l d)),.int .i64 (Dw l t),.int .i64 l[d].n],.box b nc]++PS l.length { W with no:=ob }),⟨_,_,_,oc (o.at 2 rfl) rfl,Aa (fun jN=> ?_) fun hz=> ?_⟩,?_⟩
  ·have jN:0<W.cs.length:=by simpa using jN
   intro dc oO;have o:=o.ext (Aq oO);have Bs6:=n_;have qI:IntKind.i64.wrap ((W.cs.length:Int)-1)=((W.cs.length-1:Nat):Int):=by rw [Au (by omega) (by omega)];omega
   rw [qI];obtain⟨gc,sw⟩:=(o.rowAt 3 rfl).addr jN;have ny:=getElem?_eq_getElem (l:=W.cs) (i:=W.cs.length-1) (by omega);have dV:=Asj (o.rowAt 3 rfl) sw ny;have hba:=h.ba _ ny;refine⟨fun u=>Ext dc u,Ext.refl _,_,_,_,fun u hu=>hu.cell (oc (o.at 2 rfl) rfl),⟨by omega,by show _<(W.cs.length:Int);omega⟩,Ae sw ⟨_,fun u hu=>hu.cell (Ac.nth dV 1 rfl),_,_,_,fun u hu=>hu.cell (oc (o.at 2 rfl) rfl),⟨by omega,by show _<(W.cs.length:Int);omega⟩,Ae sw ⟨_,_,_,fun u hu=>hu.cells dV,?_⟩⟩⟩;refine Ad (Tt _ _) ?_;rintro _ cS ⟨rfl,UC⟩;have o:=o.ext UC;refine⟨_,rfl,UC.ext,o.wr 0 rfl rfl,fun dq nV=> ?_⟩;rw [hba,Au (n:=Dw l t) (by omega) (by omega)]at nV;exact o.set 0 nV rfl
  ·have hz:W.cs=[]:=by
    have:¬0<W.cs.length:=by simpa using hz
    exact List.length_eq_zero_iff.1 (by omega)
   rw [h.em hz];exact o
  rintro _ eF o;refine⟨fun w'=>Mem w.heap.size (cD (PS l.length W)) m [(cD (PS l.length W),w.heap.size,w)] [] w' ([.box b2 [.string (aI (Cm l d)),.int .i64 (Dw l t),.int .i64 l[d].n],.box b nc]++PS l.length { W with no:=ob }),⟨fun bb w'=>bb=false/\Mem w.heap.size (cD (PS l.length W)) m [(cD (PS l.length W),w.heap.size,w)] [] w' ([.box b2 [.string (aI (Cm l d)),.int .i64 (Dw l t),.int .i64 l[d].n],.box b nc]++PS l.length { W with no:=ob }),?_,?_⟩,?_⟩
  ·intro dJ kN;have o:=o.ext (Aq kN);refine⟨fun u=>Ext dJ u,Ext.refl _,_,fun u hu=>hu.cell ((o.at 0 rfl).cell rfl),Cm l d,Dw l t,l[d].n,fun u hu=>hu.cells (o.at 0 rfl).whole,?_⟩;refine Ad (Tt ⟨Cm l d,Dw l t,l[d].n⟩ _) ?_;rintro _ cL ⟨rfl,UD⟩;refine⟨_,rfl,UD.ext,decide_eq_false ?_,o.ext UD⟩;rw [←tR,Au (by omega) (by omega)];omega
  ·rintro _ _ eb ⟨rfl,o⟩;exact Ba rfl o
  rintro _ dx o;refine⟨fun w'=>Mem w.heap.size (cD (PS l.length W)) m [(cD (PS l.length W),w.heap.size,w)] [] w' ([.box b2 [.string (aI (Cm l d)),.int .i64 (Dw l t),.int .i64 l[d].n],.box b nc]++PS l.length { W with no:=ob,nu:=W.nu.set d (W.cs.length:Int) }),?_,?_⟩
  ·intro dd AP;have o:=o.ext (Aq AP);refine⟨_,_,_,nE (o.at 2 rfl) rfl,_,_,_,oc (o.at 2 rfl) rfl,⟨by omega,by show(d:Int)<(W.nu.length:Int);omega⟩,Ae rfl ?_⟩;simp only [Bo,zero_add,mul_one,toNat_natCast];refine⟨o.wr 5 rfl (Nat.ble_eq_true_of_le (by simp;omega)),fun dQ FK=> ?_⟩;have o:=o.set 5 FK rfl;have e:=yh l.length { W with no:=ob } d (W.cs.length:Int);rw [←e];exact o
  rintro _ ei o dm rY;have o:=o.ext (Aq rY);refine⟨fun u=>Ext dm u,Ext.refl _,_,_,_,fun u hu=>hu.cell (oc (o.at 2 rfl) rfl),Cm l d,Dw l t,l[d].n,fun u hu=>hu.cells (o.at 0 rfl).whole,?_⟩;intro b3 eI fp uP;refine⟨Ext.alloc uP,?_⟩;have o:=o.box fp uP;refine Er (P:=Tryz.prog) PG (o.rowAt 4 rfl) (src:=⟨b3,0,none⟩) (m:=1) (news:=[.string (aI (Cm l d)),.int .i64 (Dw l t),.int .i64 l[d].n]) (o.at 0 rfl).whole rfl (by simp [Value.oneCell']) (by show W.cs.length+1<_;omega) (by decide) (zero_le _) ?_;intro a' c' eR Brw Brx dR;have o:=o.app 4 rfl Brw Brx dR;simp only [Bo];refine⟨_,_,_,rfl,o.wr 3 rfl rfl,fun eM FH=> ?_⟩;have o:=o.set 3 FH rfl;refine⟨tQ W d ob ⟨Cm l d,Dw l t,mz l d⟩ a' c',⟨h.ch S ht hk j5 bV _ a' c',rfl,rfl⟩,⟨rfl,rfl,rfl⟩,Mem.back (L:=[.box b3 [.string (aI (Cm l d)),.int .i64 (Dw l t),.int .i64 l[d].n],.box b2 [.string (aI (Cm l d)),.int .i64 (Dw l t),.int .i64 l[d].n],.box b nc]) (ds:=[]) (m0:=m) ?_⟩;rw [Axy,Rs hx];have ln:(W.nu.set d (W.cs.length:Int)).length=W.nu.length:=by simp
  have em:(W.nu.set d (W.cs.length:Int)).map Jb=(W.nu.map Jb).set d (.int .i64 (W.cs.length:Int)):=by rw [map_set]
  rw [←ln,←em];exact o
end
end Go.Proofs.YtpdccfgpbkagcaaGreat
namespace Go.Lv
open Go.Vc
section
variable {n0:Nat} {rs m0:List Nat} {fr:List (List Nat×Nat×World)} {ds:List Nat} {w:World} {ps:List Pc} {p:Pc}
theorem UE {k:Nat} (hk:k<ps.length) {i:Nat} {q:Pc} (h:(ps.set k p)[i]? =some q):(i=k/\q=p)\/(i≠k/\ps[i]? =some q):=by
 rw [List.getElem?_set]at h;split at h
 ·rename_i e;subst e;simp [hk]at h;exact .inl ⟨rfl,h.symm⟩
 ·rename_i e;exact .inr ⟨fun h=>e h.symm,h⟩
theorem Mem.Bnd (o:Mem n0 rs m0 fr ds w (p::ps)) (k:Nat) (hk:k<ps.length):Mem n0 rs m0 fr ds w (ps.set k p):=by
 have gG:∀ {q},q∈ps.set k p->q∈p::ps:=fun h=>by
  rcases List.mem_or_eq_of_mem_set h with h|h
  ·exact .tail _ h
  ·rw [h];exact .head _
 refine⟨o.le,o.lt,o.aW,fun f hf=>⟨(o.eN f hf).1,fun q hq b hb=>(o.eN f hf).2 q (gG hq) b hb⟩,fun q hq=>o.holds q (gG hq),fun q hq b hb=>o.iw q (gG hq) b hb,?_,o.marks⟩;have hd:=List.pairwise_cons.1 o.ew;rw [List.pairwise_iff_getElem];intro i j hi hj mN b mI pK;rcases UE hk (getElem?_eq_getElem hi)with⟨e1,e2⟩|⟨h1,h2⟩<;>rcases UE hk (getElem?_eq_getElem hj)with⟨e3,e4⟩|⟨h3,h4⟩
 ·omega
 ·rw [e2]at mI;exact hd.1 _ (List.mem_of_getElem? h4) b mI pK
 ·rw [e4]at pK;exact hd.1 _ (List.mem_of_getElem? h2) b pK mI
 ·exact Ka hd.2 h2 h4 (by omega) mI pK
theorem Mem.Blo (k:Nat):Step (ms (p::ps) m0) w (ms (ps.set k p) m0) w:=Step.drop w fun j hj=>by
 rcases Bj.1 hj with⟨q,hq,hb⟩|h
 ·rcases List.mem_or_eq_of_mem_set hq with h|h
  ·exact Bj.2 (.inl ⟨q,.tail _ h,hb⟩)
  ·subst h;exact Bj.2 (.inl ⟨q,.head _,hb⟩)
 ·exact Bj.2 (.inr h)
end
end Go.Lv
namespace Go.Proofs.YtpdccfgpbkagcaaGreat
open Go.Vc Go.Lv Go.Ty Go.Tr Go.Tk
section
variable {l:List Ag}
def pf (l:List Ag) (b b1 bw:Nat) (W:Wk):List Pc:=[.box b1 [.bool false],.box b [.pointer (some (Zb bw))]]++PS l.length W
theorem Axz (S:G2 l) {r:Nat} (hr:Rt l r) (W:Wk) (ni:NI l r r W) (hE:Vo l r (F4 l r r) W.vo):Wh l 88 [.int .i64 r] W (tP l r r (Cf (ks l) r) W):=by
 intro m w hm fR hl hp dK;have U:=S.unit;have sr:r<l.length:=by obtain⟨j,hk,_⟩:=hr;have:=hk.2.2.2;rw [A9]at this;exact this
 have hs:Tr.Sub (ks l) r r:=⟨le_refl _,Fl _ _ (by rw [A9];exact sr)⟩
 have o:=Mem.o9 hm.lt hp;have st:=Mem.tN (w:=w) dK;have hf:(cD (PS l.length W),w.heap.size,w)∈[(cD (PS l.length W),w.heap.size,w)]:= .head _;refine O4 ⟨W.b,0,none⟩ r _ _ ?_;intro b w1 hb aP;have st:=st.trans (o.xB hb aP);have o:=o.box hb aP;refine⟨fun w'=>w'=w1,⟨_,(o.at 0 rfl).cell rfl,Ae rfl ⟨-1,oc (o.at 1 rfl) rfl,Ba (by simp) rfl⟩⟩,?_⟩;rintro _ w4 rfl;intro b1 w5 bI fe;have st:=st.trans (o.xB bI fe);have o:=o.box bI fe;refine⟨o.wr 0 rfl rfl,fun w6 eK=> ?_⟩;have st:=st.trans (o.xS 0 eK rfl);have o:=o.set 0 eK rfl;refine⟨_,(o.at 1 rfl).cell rfl,Ae rfl ⟨_,_,_,(o.at 2 rfl).cell rfl,?_⟩⟩;refine Ad (M7 l r (fun a b=>(r:Int)=a/\l=b) ⟨rfl,rfl⟩ _ w6 (o.mo hm dK hf) _ _ fR (hl.st st)) ?_;rintro _ w7 ⟨_,_,⟨rfl,rfl⟩,⟨b3,cs,b4,fl,rfl,⟨el,f⟩,⟨c_,f1⟩⟩,aW⟩;have st:=st.trans (o.xE aW);have o:=o.ext aW;obtain rfl:=f;obtain⟨a,c,rfl,le,f2⟩:=f1;have jQ:=Js l r U.len _ _ (o.mo hm dK hf) _ _ el rfl _ _ c_ ⟨_,_,rfl,le,f2⟩;refine⟨_,_,rfl,?_⟩;have hle:=o.le;have cz:=o.qH;have o:Mem w.heap.size (cD (PS l.length W)) m [(cD (PS l.length W),w.heap.size,w)] [] w7 (pf l b b1 W.b W):=o;have st:Step m w (ms (pf l b b1 W.b W) m) w7:=st;refine⟨ms (pf l b b1 W.b W) m,Ar l r,Kr.of (o.mo hm dK hf).lt jQ,fun F pre w'=>F=ms (pf l b b1 W.b W) m/\Mem w.heap.size (cD (PS l.length W)) m [(cD (PS l.length W),w.heap.size,w)] [] w' (pf l b b1 W.b W)/\Step m w (ms (pf l b b1 W.b W) m) w',fun _ _=>False,fun _ _ _=>False,⟨rfl,o,st⟩,?_,fun _ _ _ _ _ h=>h.elim,?_⟩
 ·rintro _ pre ae w8 w9 ⟨rfl,o,st⟩ hG db;obtain⟨ht,mr⟩:=Kj db;obtain⟨k,x,he,cm,sq⟩:=Gc U sr ht;obtain rfl:ae=(k:Int):=mr.symm.trans he;have gw:=(List.getElem?_eq_some_iff.1 sq).1;have st:=st.trans (Step.grow _ hG);have o:=o.grow hG (fun f hf=>by rw [mem_singleton.1 hf];exact hle) cz;have o:=o.round (M:=ms (pf l b b1 W.b W) m) (B:=w9.heap.size) (le_refl _) (fun k hk=> .inl hk);obtain⟨p,hA,cF⟩:=vh (hl.st st) gw;have ka:∀ak:World,ak=w9.setCell ⟨b1,0,none⟩ (.bool false)->∃F1,G8 (ms (pf l b b1 W.b W) m) F1 w9 ak/\(F1=ms (pf l b b1 W.b W) m/\Mem w.heap.size (cD (PS l.length W)) m [(cD (PS l.length W),w.heap.size,w)] [] ak (pf l b b1 W.b W)/\Step m w (ms (pf l b b1 W.b W) m) ak):=fun ak mb=>by
   have st:=st.trans (o.xS 0 mb rfl);have o:=o.set 0 mb rfl;obtain⟨mB,o⟩:=o.sn fun q hq=>Bj.2 (.inr hq)
   exact⟨_,mB,rfl,o,st⟩
  refine⟨_,(o.at 0 rfl).cell rfl,Ba rfl ⟨_,(o.at 1 rfl).cell rfl,Ae rfl ⟨_,_,_,(o.at 2 rfl).cell rfl,⟨by omega,by omega⟩,Ae hA ⟨_,cF,Aa (fun _=>⟨_,(o.at 1 rfl).cell rfl,Ae rfl ⟨-1,oc (o.at 2 rfl) rfl,o.wr 0 rfl rfl,fun aw il=> ?_⟩⟩) fun _=>⟨o.wr 0 rfl rfl,ka⟩⟩⟩⟩⟩;rw [show((k:Int)== -1)=false by simp]at il;exact ka aw il
 ·rintro _ a_ aN D1 ⟨rfl,o,st⟩ hG hD iG;have st:=st.trans (Step.grow _ hG);have o:=o.grow hG (fun f hf=>by rw [mem_singleton.1 hf];exact hle) cz;have o:=o.mark iG hD hle cz;refine⟨fun w'=>w'=aN,⟨_,(o.at 0 rfl).cell rfl,Ba rfl rfl⟩,?_⟩;rintro _ bT rfl;refine⟨_,(o.at 1 rfl).cell rfl,?_⟩;refine Wj W.b rfl (TQ S hr _ r W (le_refl _) hs ni hE) hm o dK hf fR hl st fun v dc W3 hR h1 h2 h3 o st=> ?_
  exact⟨o.marks.1,W3,hR,⟨h1,h2,h3⟩,Mem.HM (L:=[.box b1 [.bool false],.box b [.pointer (some ⟨W.b,0,none⟩)]]) (m0:=m) o⟩
end
section
variable {l:List Ag}
theorem Avb (U:Unit l) {j d:Nat} (hk:bh (ks l) 0 j d):Gi l d ((Ce l (decide (Az l d=38)) j:Nat):Int):=by
 have:=O0 U hk;exact⟨fun j' bZ=>by rw [HD hk bZ],fun h=>by omega,fun h=>by unfold bU at h;omega,fun h=>by unfold Ed at h;omega⟩
theorem Asl (U:Unit l) (n:Int):Gi l 0 n:=by
 have:=Tn U;exact⟨fun j hk=>absurd hk.ahead (by omega),fun h=>by omega,fun h=>by unfold bU at h;omega,fun h=>by unfold Ed at h;omega⟩
theorem Ap1 (c:Bool) {k:Nat} :∀k',k<=k'->Ce l c k<=Ce l c k':=by
 intro k'
 induction k' with
 |zero=>intro h;rw [show k=0 by omega];exact le_refl _
 |succ k' ih=>
  intro h;by_cases e:k=k'+1
  ·rw [e];exact le_refl _
  ·refine Nat.le_trans (ih (by omega)) ?_;unfold Ce;rw [List.take_add_one,List.countP_append];omega
theorem Avc (U:Unit l) {j j' d:Nat} (hk:bh (ks l) 0 j d) (ho:Az l d≠38) (aE:j<j'):Ce l false j<Ce l false j':=by
 obtain⟨hj,he⟩:=Ec U hk;have hj:j<(Ar l 0).length:=hj;have he:(Ar l 0)[j]=((d:Nat):Int):=he;have h1:=Gg false hj he;rw [if_pos (by simp [ho])]at h1;have:=Ap1 (l:=l) false (k:=j+1) j' (by omega);omega
structure RI (l:List Ag) (t:Nat) (W1 W:Wk):Prop where
 nl:W.nu.length=l.length
 na:Lg l (Ar l 0).length W.no
 top:∀j d,bh (ks l) 0 j d->∃n,W.nu[d]? =some n/\Gi l d n
 nu:∀v,v<pd l 0 t->∃n,W.nu[v]? =some n/\Gi l v n
 cs:W.cs=W1.cs
 ps:W.rs.map mZ.params=W1.rs.map mZ.params
 fr:∀j d,t<=j->bh (ks l) 0 j d->Az l d≠38->∃Rn,W.rs[Ce l false j]? =some Rn/\Rn.vs=[]
theorem RI.start (U:Unit l) {W:Wk} (h:DI l (Ar l 0).length W):RI l 0 W W:=by
 refine⟨h.nl,h.na,fun j d hk=>⟨_,h.nu j d (by obtain⟨hj,_⟩:=Ec U hk;exact hj) hk,Avb U hk⟩,fun v hv=> ?_,rfl,rfl,fun j d _ hk ho=> ?_⟩
 ·have:v=0:=by have:pd l 0 0=1:=rfl;omega
  subst this;exact⟨_,getElem?_eq_getElem (by rw [h.nl];exact U.pos),Asl U _⟩
 ·obtain⟨hj,_⟩:=Ec U hk;obtain⟨G,h1,_⟩:=h.de.rt j d hj hk ho;rw [getElem?_map,Option.map_eq_some_iff]at h1;obtain⟨Rn,h2,_⟩:=h1;exact⟨Rn,h2,h.vs _ (List.mem_of_getElem? h2)⟩
theorem RI.ni (U:Unit l) {t d:Nat} {W1 W:Wk} (h:RI l t W1 W) (hk:bh (ks l) 0 t d) (ho:Az l d≠38) (vb:Nat) (vo:Obj):NI l d d { W with now:=((Ce l false t:Nat):Int),vb:=vb,vo:=vo } :=by
 obtain⟨Rn,h1,h2⟩:=h.fr t d (le_refl _) hk ho;exact⟨h.nl,h.na,h.top,fun v hv=>h.nu v (by rw [Ts U hk];exact hv),_,Rn,rfl,h1,by rw [h2,z8 _ (le_refl _)];rfl⟩
theorem RI.AE (U:Unit l) {t d:Nat} {W1 W W':Wk} {vb:Nat} {vo:Obj} (h:RI l t W1 W) (hk:bh (ks l) 0 t d) (ho:Az l d≠38) (ni:NI l d (Cf (ks l) d) W') (same:Jg { W with now:=((Ce l false t:Nat):Int),vb:=vb,vo:=vo } W'):RI l (t+1) W1 W':=by
 refine⟨ni.nl,ni.na,ni.top,fun v hv=>ni.nu v (by rw [←L6 U hk];exact hv),same.cs.trans h.cs,same.ps.trans h.ps,fun j d' hj bZ nD=> ?_⟩;obtain⟨Rn,h1,h2⟩:=h.fr j d' (by omega) bZ nD;have:=Avc U hk ho (j':=j) (by omega);exact⟨Rn,(same.ot _ (by show((Ce l false t:Nat):Int)≠_;omega)).trans h1,h2⟩
theorem RI.chan (U:Unit l) {t d:Nat} {W1 W:Wk} (h:RI l t W1 W) (hk:bh (ks l) 0 t d) (ho:Az l d=38):RI l (t+1) W1 W:=by
 have cz:d<l.length:=by have:=hk.2.2.2;rw [A9]at this;exact this
 refine⟨h.nl,h.na,h.top,fun v hv=> ?_,h.cs,h.ps,fun j d' hj=>h.fr j d' (by omega)⟩;rw [L6 U hk,HC U ho cz]at hv;by_cases e:v=d
 ·subst e;exact h.top t v hk
 ·exact h.nu v (by rw [Ts U hk];omega)
theorem Asm (U:Unit l):Cf (ks l) 0=l.length:=by
 have h1:=C8 (ks l) 0;rw [List.drop_zero,Vf _ _ U.ex]at h1;have h2:=congrArg List.length h1;have h3:=Cd (ks l) 0;rw [List.length_drop,A9]at h2;rw [A9]at h3;simp at h2;omega
theorem RI.Bry (U:Unit l) {W1 W:Wk} (h1:DI l (Ar l 0).length W1) (h:RI l (Ar l 0).length W1 W):Fg l ⟨W.cs,W.rs.map pe,W.mn,W.nu⟩:=by
 have hp:pd l 0 (Ar l 0).length=l.length:=(TM U U.pos).trans (Asm U);refine⟨h.nl,fun i hi=>h.nu i (by rw [hp];exact hi),?_⟩;have hl:W.rs.length=W1.rs.length:=by have:=congrArg List.length h.ps;simpa using this
 have hd:=h1.de;refine⟨by rw [h.cs];exact hd.cl,by have:=hd.rl;simp at this⊢;omega,fun j d hj hk ho=>by rw [h.cs];exact hd.ch j d hj hk ho,fun j d hj hk ho=> ?_⟩;obtain⟨G,q1,q2⟩:=hd.rt j d hj hk ho;rw [getElem?_map,Option.map_eq_some_iff]at q1;obtain⟨R1,q3,rfl⟩:=q1;have q4:=congrArg (·[Ce l false j]?) h.ps;simp only [getElem?_map,q3,Option.map_some]at q4;rw [Option.map_eq_some_iff]at q4;obtain⟨R2,q5,q6⟩:=q4;exact⟨pe R2,by rw [getElem?_map,q5];rfl,by rw [←q2];exact q6⟩
def j7 (l:List Ag) (b b4:Nat) (lA:Option Addr) (lC:Nat) (W:Wk):List Pc:=[.box b4 [.pointer (some ⟨W.b,0,none⟩)],.box b [.slice lA l.length lC]]++PS l.length W
def pg (b3:Nat) (lA:Option Addr) (lC n g b1 b2:Nat):Wk:= { b:=b3,lA:=lA,lC:=lC,cs:=[],cA:=none,cC:=0,rs:=[],rA:=none,rC:=0,mn:=0,nu:=replicate n (-1),nB:=g,nb:=b1,no:= .map #[] 0,vb:=b2,vo:= .map #[] 0,now:=0 }
theorem Bat (b3:Nat) (lA:Option Addr) (lC n g b1 b2:Nat):PS n (pg b3 lA lC n g b1 b2)=[.box b3 [.slice lA n lC,.slice none 0 0,.slice none 0 0,.int .i64 0,.slice (some ⟨g,0,none⟩) n n,.map (some b1),.map (some b2),.int .i64 0,.int .i64 0,.int .i64 0,.int .i64 (-1),.slice none 0 0],.row 75 3 none 0 0 [],.row 78 4 none 0 0 [],.box g (replicate n (.int .i64 (-1))),.raw b1 (.map #[] 0),.raw b2 (.map #[] 0)]:=by
 simp [PS,wc,pg,Vc.flat]
theorem DI.zero (b3:Nat) (lA:Option Addr) (lC g b1 b2:Nat):DI l 0 (pg b3 lA lC l.length g b1 b2):=
 ⟨by simp [pg],⟨_,K8.nil,fun s=>⟨fun j d hj=>absurd hj (Nat.not_lt_zero _),fun _=>rfl⟩⟩,fun j d hj=>absurd hj (Nat.not_lt_zero _),⟨by simp [pg,Ce],by simp [pg,Ce],fun j d hj=>absurd hj (Nat.not_lt_zero _),fun j d hj=>absurd hj (Nat.not_lt_zero _)⟩,fun _=>rfl,fun c hc=>by simp [pg]at hc,fun r hr=>by simp [pg]at hr⟩
theorem Avd {r:Nat} :Vo l r (F4 l r r) (.map #[] 0):=⟨_,K8.nil,fun s=>⟨fun v hv=>by have:=hv.lo;have:=hv.lt;omega,fun _=>rfl⟩⟩
end
section
variable {l:List Ag}
theorem Azl (S:G2 l) {m:List Nat} {w:World} (hm:bm m w) {lA:Option Addr} {lC:Nat} (fR:l.length<=lC) (hl:aF A8 m w lA l) {K:Value->World->Prop} (hK:∀(W:Wk) (w':World),Fg l ⟨W.cs,W.rs.map pe,W.mn,W.nu⟩->sg w [] w' (PS l.length W)->K (.pointer (some ⟨W.b,0,none⟩)) w'): Calls Tryz.prog 54 #[.slice lA l.length lC,.int .i64 (-1)] w (aD K):=by
 have U:=S.unit;have my:=U.len;have o:=Mem.start hm.lt;have hf:(([]:List Nat),w.heap.size,w)∈[(([]:List Nat),w.heap.size,w)]:= .head _;refine Ags lA l.length lC (-1) _ _ ?_;intro b w1 hb aP;have st:=o.xB hb aP;have o:=o.box hb aP;refine⟨_,_,_,(o.at 0 rfl).cell rfl,?_⟩;intro b1 w2 bI bR;have st:=st.trans (Mem.HQ bI bR);have o:=o.HP bI bR;intro b2 w3 dY cV;have st:=st.trans (Mem.HQ dY cV);have o:=o.HP dY cV;intro b3 w4 fp dt;have st:=st.trans (o.xB fp dt);have o:=o.box fp dt;intro b4 w5 jB fe;have st:=st.trans (o.xB jB fe);have o:=o.box jB fe;refine⟨o.wr 0 rfl rfl,fun w6 eK=> ?_⟩;have st:=st.trans (o.xS 0 eK rfl);have o:=o.set 0 eK rfl;refine⟨_,_,_,(o.at 4 rfl).cell rfl,?_⟩;have hT:Mq l (fun a e=>a=0/\e=0):=by
  obtain⟨f,hf,hw⟩:=S.fo;rw [←hf]at my⊢;exact Arv hw my _ ⟨rfl,rfl⟩
 refine Ad (hT _ w6 (o.mo hm (by simp) hf) _ _ fR (hl.st st)) ?_;rintro _ w7 ⟨_,_,⟨rfl,rfl⟩,rfl,aW⟩;have st:=st.trans (o.xE aW);have o:=o.ext aW;refine⟨_,_,rfl,Ba rfl ?_⟩;refine⟨fun w'=>∃g,Mem w.heap.size [] m [([],w.heap.size,w)] [] w' (j7 l b b4 lA lC (pg b3 lA lC l.length g b1 b2))/\Step m w (ms (j7 l b b4 lA lC (pg b3 lA lC l.length g b1 b2)) m) w',?_,?_⟩
 ·intro w9 ff;have st:=st.trans (o.xE (Aq ff));have o:=o.ext (Aq ff);refine⟨fun u=>Ext w9 u,Ext.refl _,_,fun u hu=>hu.cell ((o.at 0 rfl).cell rfl),_,_,_,fun u hu=>hu.cell ((o.at 4 rfl).cell rfl),?_⟩;intro b5 ak jA mb;refine⟨Ext.alloc mb,?_⟩;have st:=st.trans (o.xB jA mb);have o:=o.box jA mb;refine Ad (Apz (-1) l.length (by omega) (o.at 0 rfl).whole) ?_;rintro _ aw ⟨rfl,aW,hg⟩;refine⟨_,_,_,rfl,(Ext.alloc mb).trans aW.ext,Ae rfl ?_⟩;have st:=st.trans (Mem.DZ aW (.box ak.heap.size (replicate l.length (.int .i64 (-1)))) rfl);have o:=o.add aW (.box ak.heap.size (replicate l.length (.int .i64 (-1)))) rfl ⟨_,hg,trivial⟩;simp only [Bo];refine⟨o.wr 3 rfl rfl,fun aJ kq=> ?_⟩;have st:=st.trans (o.xS 3 kq rfl);have o:=o.set 3 kq rfl;have st:=st.trans (o.xX 1);have o:=o.erase 1;have st:=st.trans (o.xF 3 rfl);have o:=o.front 3 rfl;have st:=st.trans (o.xF 4 rfl);have o:=o.front 4 rfl;have st:=st.trans (o.xF 2 rfl);have o:=o.front 2 rfl;have st:=st.trans (o.xN 78 4);have o:=o.mM 78 4;have st:=st.trans (o.xN 75 3);have o:=o.mM 75 3;have st:=st.trans (o.xF 6 rfl);have o:=o.front 6 rfl;have st:=st.trans (o.xF 7 rfl);have o:=o.front 7 rfl;have st:=st.trans (o.xF 7 rfl);have o:=o.front 7 rfl;refine⟨ak.heap.size,?_⟩;unfold j7;rw [Bat];exact⟨o,st⟩
 rintro _ aQ ⟨g0,o,st⟩;generalize UF:pg b3 lA lC l.length g0 b1 b2=W0 at o st;have tS:DI l 0 W0:=UF▸DI.zero _ _ _ _ _ _;have kY:W0.lA=lA/\W0.lC=lC:=by subst UF;exact⟨rfl,rfl⟩
 refine⟨_,_,_,(o.at 1 rfl).cell rfl,?_⟩;refine Ad (M7 l 0 (fun a b=>(0:Int)=a/\l=b) ⟨rfl,rfl⟩ _ aQ (o.mo hm (by simp) hf) _ _ fR (hl.st st)) ?_;rintro _ aX ⟨_,_,⟨rfl,rfl⟩,⟨b6,cs,b7,fl,rfl,⟨el,f⟩,⟨c_,f1⟩⟩,aW⟩;have st:=st.trans (o.xE aW);have o:=o.ext aW;obtain rfl:=f;obtain⟨a,c,rfl,le,f2⟩:=f1;have jQ:=Js l 0 U.len _ _ (o.mo hm (by simp) hf) _ _ el rfl _ _ c_ ⟨_,_,rfl,le,f2⟩;refine⟨_,_,rfl,?_⟩;have hle:=o.le;have cz:=o.qH;refine⟨ms (j7 l b b4 lA lC W0) m,Ar l 0,Kr.of (o.mo hm (by simp) hf).lt jQ,fun F pre w'=>∃W2:Wk,F=ms (j7 l b b4 lA lC W2) m/\DI l pre.length W2/\(W2.lA=lA/\W2.lC=lC)/\Mem w.heap.size [] m [([],w.heap.size,w)] [] w' (j7 l b b4 lA lC W2)/\Step m w (ms (j7 l b b4 lA lC W2) m) w',fun _ _=>False,fun _ _ _=>False,⟨W0,rfl,tS,kY,o,st⟩,?_,fun _ _ _ _ _ h=>h.elim,?_⟩
 ·rintro _ pre ae a_ aN ⟨W2,rfl,hD,⟨j6,og⟩,o,st⟩ hG db;obtain⟨ht,mr⟩:=Kj db;obtain⟨k,x,he,cm,sq⟩:=Gc U U.pos ht;have he:(Ar l 0)[pre.length]=((k:Nat):Int):=he;obtain rfl:ae=(k:Int):=mr.symm.trans he;have st:=st.trans (Step.grow _ hG);have o:=o.grow hG (fun f hf=>by rw [mem_singleton.1 hf];exact hle) cz;have o:=o.round (M:=ms (j7 l b b4 lA lC W2) m) (B:=aN.heap.size) (le_refl _) (fun k hk=> .inl hk);refine⟨_,(o.at 0 rfl).cell rfl,Ae rfl ⟨0,oc (o.at 2 rfl) rfl,B3 rfl ⟨_,(o.at 0 rfl).cell rfl,?_⟩⟩⟩;refine Wj W2.b rfl (Ap0 S cm W2 hD) hm (L:=[.box b4 [.pointer (some ⟨W2.b,0,none⟩)],.box b [.slice lA l.length lC]]) o (by simp) (.tail _ hf) (by rw [og];exact fR) (by rw [j6];exact hl) st fun v bE W3 hR h1 h2 h3 o st=> ?_
  rw [←h1]at o st;obtain⟨mB,o⟩:=o.sn fun q hq=>Bj.2 (.inr hq)
  exact⟨_,mB,W3,rfl,by rw [length_append];exact hR.1,⟨h2.trans j6,h3.trans og⟩,o,st⟩
 rintro _ dc cS D1 ⟨W1,rfl,hD,⟨nF,AL⟩,o,st⟩ hG DS iG;have st:=st.trans (Step.grow _ hG);have o:=o.grow hG (fun f hf=>by rw [mem_singleton.1 hf];exact hle) cz;have o:=o.mark iG DS hle cz;clear hle cz;refine⟨fun w'=>w'=cS,⟨_,(o.at 0 rfl).cell rfl,Ae rfl ⟨some W1.nb,oc (o.at 2 rfl) rfl,?_⟩⟩,?_⟩
 ·obtain⟨g,hg,vf⟩:=hD.na;obtain⟨j,d,hk,ho⟩:=S.decl.main;obtain⟨hj,_⟩:=Ec U hk;have sj:g [109,97,105,110]=some (d:Int):=(vf _).1 j d hj hk (by unfold Cm;rw [if_pos ho]);refine O5 o 6 rfl hg _ ⟨_,_,rfl,?_⟩;rw [sj];exact Ba rfl rfl
 rintro _ dJ rfl;refine⟨_,_,_,(o.at 1 rfl).cell rfl,?_⟩;refine Ad (M7 l 0 (fun a b=>(0:Int)=a/\l=b) ⟨rfl,rfl⟩ _ dJ (o.mo hm (by simp) hf) _ _ fR (hl.st st)) ?_;rintro _ cL ⟨_,_,⟨rfl,rfl⟩,⟨b8,cs,b9,fl,rfl,⟨el,f⟩,⟨c_,f1⟩⟩,aW⟩;have st:=st.trans (o.xE aW);have o:=o.ext aW;obtain rfl:=f;obtain⟨a,c,rfl,le,f2⟩:=f1;have jQ:=Js l 0 U.len _ _ (o.mo hm (by simp) hf) _ _ el rfl _ _ c_ ⟨_,_,rfl,le,f2⟩;refine⟨_,_,rfl,?_⟩;have hle:=o.le;have cz:=o.qH;refine⟨ms (j7 l b b4 lA lC W1) m,Ar l 0,Kr.of (o.mo hm (by simp) hf).lt jQ,fun F pre w'=>∃W2:Wk,F=ms (j7 l b b4 lA lC W2) m/\RI l pre.length W1 W2/\(W2.lA=lA/\W2.lC=lC)/\Mem w.heap.size [] m [([],w.heap.size,w)] [D1] w' (j7 l b b4 lA lC W2)/\Step m w (ms (j7 l b b4 lA lC W2) m) w',fun _ _=>False,fun _ _ _=>False,⟨W1,rfl,RI.start U hD,⟨nF,AL⟩,o,st⟩,?_,fun _ _ _ _ _ h=>h.elim,fun _ _ _ _ _ h=>h.elim,?_⟩
 ·rintro _ pre af eb cY ⟨W2,rfl,hR,⟨j6,og⟩,o,st⟩ hG db;obtain⟨ht,mr⟩:=Kj db;obtain⟨k,x,he,cm,sq⟩:=Gc U U.pos ht;have he:(Ar l 0)[pre.length]=((k:Nat):Int):=he;obtain rfl:af=(k:Int):=mr.symm.trans he;have gw:=(List.getElem?_eq_some_iff.1 sq).1;have st:=st.trans (Step.grow _ hG);have o:=o.grow hG (fun f hf=>by rw [mem_singleton.1 hf];exact hle) cz;have o:=o.round (M:=ms (j7 l b b4 lA lC W2) m) (B:=cY.heap.size) (le_refl _) (fun k hk=> .inl hk);obtain⟨p,hA,cF⟩:=vh (hl.st st) gw;refine⟨_,(o.at 0 rfl).cell rfl,Ae rfl ⟨0,oc (o.at 2 rfl) rfl,Ba rfl ⟨_,_,_,(o.at 1 rfl).cell rfl,⟨by omega,by omega⟩,Ae hA ⟨_,cF,Aa (fun hc=> ?_) fun hc=> ?_⟩⟩⟩⟩
  ·have ho:Az l k≠38:=by simpa using hc
   have hnk:W2.nu[k]? =some ((Ce l false pre.length:Nat):Int):=by
    obtain⟨n,q1,q2⟩:=hR.top _ k cm;rw [q1,q2.top _ cm,decide_eq_false ho]
   have sb:=hR.nl;refine⟨fun w'=>Mem w.heap.size [] m [(ms (j7 l b b4 lA lC W2) m,cY.heap.size,cY),([],w.heap.size,w)] [D1] w' (j7 l b b4 lA lC { W2 with now:=((Ce l false pre.length:Nat):Int) })/\Step m w (ms (j7 l b b4 lA lC { W2 with now:=((Ce l false pre.length:Nat):Int) }) m) w',?_,?_⟩
   ·intro dx rX;have st:=st.trans (o.xE (Aq rX));have o:=o.ext (Aq rX);refine⟨_,(o.at 0 rfl).cell rfl,_,(o.at 0 rfl).cell rfl,Ae rfl ⟨_,_,_,nE (o.at 2 rfl) rfl,⟨by omega,by omega⟩,Ae rfl ⟨((Ce l false pre.length:Nat):Int),?_,Ae rfl ?_⟩⟩⟩
    ·rw [Bo,zero_add,mul_one,toNat_natCast];exact(o.at 5 rfl).cell (by rw [getElem?_map,hnk];rfl)
    simp only [Bo];refine⟨o.wr 2 rfl rfl,fun dd AP=> ?_⟩;have st:=st.trans (o.xS 2 AP rfl);have o:=o.set 2 AP rfl;exact⟨o,st⟩
   rintro _ dQ ⟨o,st⟩;refine⟨_,(o.at 0 rfl).cell rfl,?_⟩;intro tT ei AQ uF;have st:=st.trans (Mem.HQ AQ uF);have o:=o.HP AQ uF;refine Ae rfl ?_;simp only [Bo];refine⟨o.wr 3 rfl rfl,fun dm rY=> ?_⟩;have st:=st.trans (o.xS 3 rY rfl);have o:=o.set 3 rY rfl;have hlen:7<(j7 l b b4 lA lC { W2 with now:=((Ce l false pre.length:Nat):Int) }).length:=by simp [j7,PS]
   have st:=st.trans (Mem.Blo (p:= .raw tT (.map #[] 0)) (ps:=(j7 l b b4 lA lC { W2 with now:=((Ce l false pre.length:Nat):Int) }).set 2 (.box W2.b ((wc l.length { W2 with now:=((Ce l false pre.length:Nat):Int) }).set 6 (.map (some tT))))) 7);have o:=Mem.Bnd (p:= .raw tT (.map #[] 0)) (ps:=(j7 l b b4 lA lC { W2 with now:=((Ce l false pre.length:Nat):Int) }).set 2 (.box W2.b ((wc l.length { W2 with now:=((Ce l false pre.length:Nat):Int) }).set 6 (.map (some tT))))) o 7 (by rw [length_set];exact hlen);refine⟨_,(o.at 0 rfl).cell rfl,?_⟩;refine Wj (W:= { W2 with now:=((Ce l false pre.length:Nat):Int),vb:=tT,vo:= .map #[] 0 }) W2.b rfl (Axz S ⟨_,cm,ho⟩ { W2 with now:=((Ce l false pre.length:Nat):Int),vb:=tT,vo:= .map #[] 0 } (hR.ni U cm ho _ _) Avd) hm (L:=[.box b4 [.pointer (some ⟨W2.b,0,none⟩)],.box b [.slice lA l.length lC]]) o (by simp) (.tail _ hf) (by show l.length<=W2.lC;rw [og];exact fR) (by show aF A8 m w W2.lA l;rw [j6];exact hl) st fun v eI W3 UG h1 h2 h3 o st=> ?_
   rw [←h1]at o st;obtain⟨mB,o⟩:=o.sn fun q hq=>Bj.2 (.inr hq)
   exact⟨_,mB,W3,rfl,by rw [length_append];exact hR.AE U cm ho UG.1 UG.2.2,⟨h2.trans j6,h3.trans og⟩,o,st⟩
  ·have ho:Az l k=38:=by simpa using hc
   obtain⟨mB,o⟩:=o.sn fun q hq=>Bj.2 (.inr hq)
   exact⟨_,mB,W2,rfl,by rw [length_append];exact hR.chan U cm ho,⟨j6,og⟩,o,st⟩
 ·rintro _ g_ iW D4 ⟨W2,rfl,hR,_,o,st⟩ hG hD4 Brz;have o:=o.grow hG (fun f hf=>by rw [mem_singleton.1 hf];exact hle) cz;have o:=o.mark Brz hD4 hle cz;refine⟨_,(o.at 0 rfl).cell rfl,o.marks.1,?_⟩;exact hK W2 _ (hR.Bry U hD) (Mem.HM (ps:=[]) (L:=[.box b4 [.pointer (some ⟨W2.b,0,none⟩)],.box b [.slice lA l.length lC]]) (m0:=m) o)
end
end Go.Proofs.YtpdccfgpbkagcaaGreat
namespace Go.Lv
open Go.Vc
theorem AR {α β:Type} {c:dz α} {M:List Nat} {w:World} {g:β->α} {f:β->List Value} :∀(l:List β),(∀x∈l,c.rep M w (g x) (f x))->El c M w (l.map g) (Vc.flat f l)
 |[],_=>El.nil c M w
 |x::l,h=>by
  rw [List.map_cons];exact El.cons (h x (by simp)) (AR l fun y hy=>h y (by simp [hy]))
theorem H_ {α:Type} {c:dz α} {M:List Nat} {w:World} {f:α->Value} :∀(l:List α),(∀x,c.rep M w x [f x])->El c M w l (l.map f)
 |[],_=>El.nil c M w
 |x::l,h=>El.cons (xs:=l.map f) (h x) (H_ l h)
theorem AU {α:Type} {c:dz α} {M:List Nat} {w:World} {e n cap:Nat} {a:Option Addr} {xs:List Value} {l:List α} (hp:Rw w 0 e c.size a n cap xs) (he:El c M w l xs) (hn:n=l.length) (hb:∀k,Vc.aY a=some k->k∉M):l.length<=cap/\aF c M w a l:=by
 subst hn;have hs:=hp.sl;have hlen:=he.len;refine⟨?_,?_⟩
 ·rcases hp.2 with⟨_,h0⟩|⟨g,Br0,cur,hv,_,_,k_,_⟩
  ·omega
  ·cases hv;exact k_
 ·cases a with
  |none=>
   have hx:xs=[]:=hs;left;rw [hx]at hlen;cases l with
   |nil=>rfl
   |cons x l=>
    exfalso;have h2:=Nat.mul_pos (Nat.succ_pos l.length) c.pos;rw [List.length_cons,List.length_nil]at hlen;rw [←hlen]at h2;exact Nat.lt_irrefl _ h2
  |some p=>exact .inr ⟨p,xs,rfl,hb _ rfl,hs,he⟩
end Go.Lv
namespace Go.Proofs.YtpdccfgpbkagcaaGreat
open Go.Vc Go.Lv Go.Ty Go.Tr Go.Tk
section
variable {l:List Ag}
theorem Asn {W:Wk} {n:Nat} {w:World} {M:List Nat} (hp:sf w (PS n W)) (hM:∀k∈cD (PS n W),k∉M):(W.cs.length<=W.cC/\aF D2 M w W.cA W.cs)/\((W.rs.map pe).length<=W.rC/\aF B4 M w W.rA (W.rs.map pe))/\(W.nu.length<=W.nu.length/\aF (Bz .i64) M w (some ⟨W.nB,0,none⟩) W.nu):=by
 have dK:∀ {p:Pc} {k:Nat},p∈PS n W->p.aY=some k->k∉M:=fun hp hk=>hM _ (E0.2 ⟨_,hp,hk⟩)
 have m1:Pc.row 75 3 W.cA W.cs.length W.cC (Vc.flat rp W.cs)∈PS n W:=by simp [PS]
 have m2:Pc.row 78 4 W.rA W.rs.length W.rC (Vc.flat od W.rs)∈PS n W:=by simp [PS]
 have m3:Pc.box W.nB (W.nu.map Jb)∈PS n W:=by simp [PS]
 have m4:∀r∈W.rs,si r∈PS n W:=fun r hr=>by
  have:=List.mem_map_of_mem (f:=si) hr;simp only [PS,List.mem_cons];exact .inr (.inr (.inr (.inr (.inr (.inr this)))))
 refine⟨?_,?_,le_refl _,?_⟩
 ·have h:=hp.1 _ m1;have he:El D2 M w (W.cs.map id) (Vc.flat rp W.cs):=AR W.cs fun x _=>PF x
  rw [List.map_id]at he;exact AU (c:=D2) h he rfl fun k hk=>dK m1 hk
 ·have h:=hp.1 _ m2;refine AU (c:=B4) h (AR W.rs fun r hr=> ?_) (by simp) fun k hk=>dK m2 hk
  have h4:=hp.1 _ (m4 r hr);exact Wd (pe r) (AU (c:=Oc) h4 (H_ r.vs fun x=>rfl) rfl fun k hk=>dK (m4 r hr) hk)
 ·have h:cB w W.nB (W.nu.map Jb):=hp.1 _ m3;exact .inr ⟨_,_,rfl,dK m3 rfl,h.whole,H_ W.nu fun x=>rfl⟩
theorem Ap2 (S:G2 l) (K:Bn->Int->Int->Prop) (h:∀p,Fg l p->K p 0 0):Ama l K:=by
 intro m w hm lA lC fR hl;have o:=Mem.start hm.lt;refine Aj3 _ _ _ _ _ ?_;intro b w1 hb aP;have st:=o.xB hb aP;have o:=o.box hb aP;refine Azl S (o.mo hm (by simp) (.head _)) fR (hl.st st) fun W w2 hP hB=> ?_
 have hk:=hB.aW;have o:=o.ext hk;have qf:cB w2 W.b (wc l.length W):=hB.iy.1 _ (.head _);have dT:=Asn (M:=ms [Pc.box b [.slice none 0 0,.slice none 0 0,.int .i64 0,.slice none 0 0]] m) hB.iy fun k hk iU=>by
  rcases hB.old k hk with h1|h1
  ·cases h1
  ·rcases Bj.1 iU with⟨p,hp,qg⟩|h2
   ·simp at hp;subst hp;have e:b=k:=by cases qg;rfl
    have dL:w1.heap.size=w.heap.size+1:=by rw [aP];show(w.heap.push _).size=_;simp
    omega
   ·have:=hm.lt k h2;have dL:w1.heap.size=w.heap.size+1:=by rw [aP];show(w.heap.push _).size=_;simp
    omega
 refine⟨_,rfl,Ae rfl ⟨0,oc qf rfl,Ba rfl (Ae rfl ⟨W.cA,W.cs.length,W.cC,W.rA,W.rs.length,W.rC,W.mn,some ⟨W.nB,0,none⟩,W.nu.length,W.nu.length,?_,?_⟩)⟩⟩
 ·rw [Bo];exact qf.cells 1 (m:=[.slice W.cA W.cs.length W.cC,.slice W.rA W.rs.length W.rC,.int .i64 W.mn,.slice (some ⟨W.nB,0,none⟩) W.nu.length W.nu.length]) fun j hj=>by
   match j,hj with
   |0,_=>rfl
   |1,_=>rfl
   |2,_=>rfl
   |3,_=>rfl
 refine⟨o.wr 0 rfl rfl,fun w5 fe=> ?_⟩;have bg:=(o.pO 0 fe rfl).trans Mem.d4;have o:=o.l9 0 fe rfl;refine⟨_,_,_,_,_,_,_,_,_,_,(o.at 0 rfl).whole,⟨W.cs,W.rs.map pe,W.mn,W.nu⟩,0,0,h _ hP,⟨_,rfl,?_⟩,o.done⟩;have:=Hs (m:=m) (w:=w5) ⟨W.cs,W.rs.map pe,W.mn,W.nu⟩ ⟨dT.1.1,dT.1.2.st bg⟩ ⟨dT.2.1.1,dT.2.1.2.st bg⟩ ⟨dT.2.2.1,dT.2.2.2.st bg⟩;rw [List.length_map]at this;exact this
end
def Aj6 (x0:Option Addr) (x1:Nat) (x2:Nat) (K:Value->World->Prop) (w:World):Prop:=∀(x3:Nat) (w1:World),x3=w.heap.size->w1=w.alloc (.cells #[.slice none 0 0,.slice none 0 0,.int .i64 0,.slice none 0 0] 31)->Fm 31 #[.slice x0 x1 x2] w1 (fun x4 w2=>∃x5 x6 x7 x8 x9 ad aa af ae ag ah aj,x4= .tuple #[.agg #[.slice x5 x6 x7,.slice x8 x9 ad,.int .i64 aa,.slice af ae ag],.int .i64 ah,.int .i64 aj]/\∀(ax:Nat) (w3:World),ax=w2.heap.size->w3=w2.alloc (.cells #[.slice none 0 0,.slice none 0 0,.int .i64 0,.slice none 0 0] 31)->Af w3 (Zb ax) 4/\∀w4:World,w4=setCells w3 (Zb ax) [.slice x5 x6 x7,.slice x8 x9 ad,.int .i64 aa,.slice af ae ag]->cond (aj !=0) (Af w4 (Zb x3) 4/\∀w5:World,w5=setCells w4 (Zb x3) [.slice none 0 0,.slice none 0 0,.int .i64 0,.slice none 0 0]->∃aH ao ar aK aG aV aZ bf aR br,Ac w5 (Zb x3) [.slice aH ao ar,.slice aK aG aV,.int .i64 aZ,.slice bf aR br]/\K (.tuple #[.agg #[.slice aH ao ar,.slice aK aG aV,.int .i64 aZ,.slice bf aR br],.int .i64 ah,.int .i64 aj]) w5) (Fm 32 #[] w4 (fun bn w6=>∃bt bz bD,bn= .slice bt bz bD/\∃(I:Int->World->Prop) (bo:Int->World->Nat),I 0 w6/\∀(_x33:Nat->Value) (bC:Int) (w7:World),I bC w7->cond (decide (bC<(x1:Int))) (∃(J:World->Prop),(((0:Int)<=bC/\bC<(x1:Int))/\Ak x0 (fun bL=>∃bX bG bN bM bP,Ac w7 (bL.add (bC.toNat*5)) [.int .i64 bX,.string (aI bG),.int .i64 bN,.int .i64 bM,.int .i64 bP]/\∀(bp:Nat) (w8:World),bp=w7.heap.size->w8=w7.alloc (.cells #[.int .i64 0,.string (aI []),.int .i64 0,.int .i64 0,.int .i64 0] 26)->Af w8 (Zb bp) 5/\∀w9:World,w9=setCells w8 (Zb bp) [.int .i64 bX,.string (aI bG),.int .i64 bN,.int .i64 bM,.int .i64 bP]->Fm 33 #[.slice bt bz bD,.func (.func 34) #[] #[.pointer (some (Zb bp))]] w9 (fun b_ ak=>∃ct,b_= .int .i64 ct/\cond (decide (ct<0)) (J ak) (∃(J1:Int->World->Prop),(∀aw:World,aw=ak.drew->∃(S:World->Prop),S aw/\((0:Int)<=ct/\ct<(bz:Int))/\Ak bt (fun cy=>∃cf,(∀u:World,S u->u.cell? ((cy.add (ct.toNat*2)).add 1)=some (cf))/\∃cg cJ cu cG cj cK bS di cp dp,(∀u:World,S u->Ac u (Zb ax) [.slice cg cJ cu,.slice cG cj cK,.int .i64 bS,.slice di cp dp])/\Qj Tryz.prog cf #[.slice x0 x1 x2,.agg #[.slice cg cJ cu,.slice cG cj cK,.int .i64 bS,.slice di cp dp],.int .i64 bC] (fun dj aJ=>∃cv,dj= .int .i64 cv/\J1 cv aJ) aw))/\∀(_x58:Nat->Value) dk aQ,J1 dk aQ->cond (dk !=0) (Af aQ (Zb x3) 4/\∀aX:World,aX=setCells aQ (Zb x3) [.slice none 0 0,.slice none 0 0,.int .i64 0,.slice none 0 0]->∃dG dH dI dM cO eo d_ ey d7 dZ,Ac aX (Zb x3) [.slice dG dH dI,.slice dM cO eo,.int .i64 d_,.slice ey d7 dZ]/\K (.tuple #[.agg #[.slice dG dH dI,.slice dM cO eo,.int .i64 d_,.slice ey d7 dZ],.int .i64 bC,.int .i64 dk]) aX) (J aQ)))))/\∀(_x70:Nat->Value) a_,J a_->I (IntKind.i64.wrap (bC+1)) a_/\bo (IntKind.i64.wrap (bC+1)) a_<bo bC w7) (∃eg eC eh ej eD eE gb fF fx fc,Ac w7 (Zb ax) [.slice eg eC eh,.slice ej eD eE,.int .i64 gb,.slice fF fx fc]/\Af w7 (Zb x3) 4/\∀aN:World,aN=setCells w7 (Zb x3) [.slice eg eC eh,.slice ej eD eE,.int .i64 gb,.slice fF fx fc]->∃ep eP fi gd eQ fj e7 fJ fK gH,Ac aN (Zb x3) [.slice ep eP fi,.slice gd eQ fj,.int .i64 e7,.slice fJ fK gH]/\K (.tuple #[.agg #[.slice ep eP fi,.slice gd eQ fj,.int .i64 e7,.slice fJ fK gH],.int .i64 0,.int .i64 0]) aN))))
theorem Aj7 (x0:Option Addr) (x1:Nat) (x2:Nat) (K:Value->World->Prop) (w:World) (h:Aj6 x0 x1 x2 K w):Calls Tryz.prog 15 #[.slice x0 x1 x2] w (aD K):=
 Aj { loops:=[(250,[(27,.int .i64)])],dN:=[(2003,[]),(64103,[(12,.int .i64)])] } Tryz.func15 (by kernel_rfl) h
def Aal (K:Value->World->Prop) (w:World):Prop:=∀(x0:Nat) (w1:World),x0=w.heap.size->w1=w.alloc (.cells #[.int .i64 33,.func (.func 55) #[] #[],.int .i64 26,.func (.func 56) #[] #[],.int .i64 37,.func (.func 57) #[] #[]] 85)->K (.slice (some (Zb x0)) 3 3) w1
theorem Aam (K:Value->World->Prop) (w:World) (h:Aal K w):Calls Tryz.prog 32 #[] w (aD K):=
 Aj {} Tryz.func32 (by kernel_rfl) h
def Acr (x0:Int) (x1:Value) (x2:Addr) (K:Value->World->Prop) (w:World):Prop:=∀(x3:Nat) (w1:World),x3=w.heap.size->w1=w.alloc (.cells #[.int .i64 x0,x1] 85)->∃x4,w1.cell? (Zb x3)=some (.int .i64 x4)/\∃x5,w1.cell? x2=some (.int .i64 x5)/\K (.bool (x4==x5)) w1
theorem Acs (x0:Int) (x1:Value) (x2:Addr) (K:Value->World->Prop) (w:World) (h:Acr x0 x1 x2 K w):Calls Tryz.prog 34 #[.agg #[.int .i64 x0,x1],.pointer (some x2)] w (aD K):=
 Aj {} Tryz.func34 (by kernel_rfl) h
def Acu (x0:Option Addr) (x1:Nat) (x2:Nat) (x3:Option Addr) (x4:Nat) (x5:Nat) (x6:Option Addr) (x7:Nat) (x8:Nat) (x9:Int) (ad:Option Addr) (aa:Nat) (af:Nat) (ae:Int) (K:Value->World->Prop) (w:World):Prop:=∀(ag:Nat) (w1:World),ag=w.heap.size->w1=w.alloc (.cells #[.slice x0 x1 x2] 22)->∀(ah:Nat) (w2:World),ah=w1.heap.size->w2=w1.alloc (.cells #[.slice x3 x4 x5,.slice x6 x7 x8,.int .i64 x9,.slice ad aa af] 31)->∀(aj:Nat) (w3:World),aj=w2.heap.size->w3=w2.alloc (.cells #[.int .i64 ae] 3)->∀(ax:Nat) (w4:World),ax=w3.heap.size->w4=w3.alloc (.cells #[.int .i64 0] 36)->∀w5:World,w5=w4.drew->∃(S:World->Prop),S w5/\∃aH ao ar,(∀u:World,S u->u.cell? (Zb ag)=some (.slice aH ao ar))/\∃aK aG aV,(∀u:World,S u->u.cell? (Zb ag)=some (.slice aK aG aV))/\∃aZ,(∀u:World,S u->u.cell? (Zb aj)=some (.int .i64 aZ))/\Fm 89 #[.slice aK aG aV,.int .i64 aZ] w5 (fun bf w6=>∃aR,bf= .int .i64 aR/\S w6/\Fm 23 #[.slice aH ao ar,.int .i64 aR] w6 (fun br w7=>∃bn bt,br= .func (.func 43) #[] #[.pointer (some (Zb bn)),.pointer (some (Zb bt))]/\∃(bz:List Nat) (bD:List (Int)),Kr Tryz.prog 43 #[.pointer (some (Zb bn)),.pointer (some (Zb bt))] [.int .i64] bz bD w7/\∃(I:List Nat->List (Int)->World->Prop) (bL:List (Int)->World->Prop) (_x36:Nat->List (Int)->World->Prop),I bz [] w7/\(∀(bo:List Nat) (bG:List (Int)) (bN:Int) (w8 w9:World),I bo bG w8->Grown w7.heap.size w8 w9->(bG++[bN])<+:bD->∃(J:Bool->World->Prop),(∃bM,w9.cell? (Zb aj)=some (.int .i64 bM)/\cond (decide (bN<bM)) (∃bP bp b_,w9.cell? (Zb ag)=some (.slice bP bp b_)/\((0:Int)<=bN/\bN<(bp:Int))/\Ak bP (fun ct=>∃cy,w9.cell? (ct.add (bN.toNat*5))=some (.int .i64 cy)/\J (cy==37) w9)) (J false w9))/\∀(_x45:Nat->Value) cg ak,J cg ak->cond (cg) (Af ak (Zb ax) 1/\∀aw:World,aw=ak.setCell (Zb ax) (.int .i64 8)->Ao bo w9 aw/\bL (bG++[bN]) aw) (∃bK,G8 bo bK w9 ak/\I bK (bG++[bN]) ak))/\(∀(cJ:List (Int)) (aJ aQ:World) (cu:Nat),cJ<+:bD->bL cJ aJ->Grown w7.heap.size aJ aQ->w7.heap.size<=cu->aQ.heap[cu]? =some (.deferred (some []))->Bi (cu::[]) aQ/\∃cG,(shut (cu::[]) aQ).cell? (Zb ax)=some (.int .i64 cG)/\K (.int .i64 cG) (shut (cu::[]) aQ))/\∀(bC:List Nat) (aX a_:World) (cj:Nat),I bC bD aX->Grown w7.heap.size aX a_->w7.heap.size<=cj->a_.heap[cj]? =some (.deferred (some []))->Af a_ (Zb ax) 1/\∀aN:World,aN=a_.setCell (Zb ax) (.int .i64 0)->Bi (cj::[]) aN/\∃cK,(shut (cj::[]) aN).cell? (Zb ax)=some (.int .i64 cK)/\K (.int .i64 cK) (shut (cj::[]) aN)))
theorem Acv (x0:Option Addr) (x1:Nat) (x2:Nat) (x3:Option Addr) (x4:Nat) (x5:Nat) (x6:Option Addr) (x7:Nat) (x8:Nat) (x9:Int) (ad:Option Addr) (aa:Nat) (af:Nat) (ae:Int) (K:Value->World->Prop) (w:World) (h:Acu x0 x1 x2 x3 x4 x5 x6 x7 x8 x9 ad aa af ae K w):Calls Tryz.prog 57 #[.slice x0 x1 x2,.agg #[.slice x3 x4 x5,.slice x6 x7 x8,.int .i64 x9,.slice ad aa af],.int .i64 ae] w (aD K):=
 Fi { dN:=[(106,[(24,.bool)])],ranges:=[(26,[.int .i64])],NA:=[(12,12,43,2)] } Tryz.func57 (by kernel_rfl) h
def Eg (x0:Option Addr) (x1:Nat) (_x2:Nat) (x3:Value) (K:Value->World->Prop) (w:World):Prop:=∃(I:Int->World->Prop) (x4:Int->World->Nat),I 0 w/\∀(_x5:Nat->Value) (x6:Int) (w1:World),I x6 w1->cond (decide (x6<(x1:Int))) (((0:Int)<=x6/\x6<(x1:Int))/\Ak x0 (fun x7=>∃x8 x9,Ac w1 (x7.add (x6.toNat*2)) [.int .i64 x8,x9]/\Qj Tryz.prog x3 #[.agg #[.int .i64 x8,x9]] (fun ad w2=>∃aa,ad= .bool aa/\cond (aa) (K (.int .i64 x6) w2) (I (IntKind.i64.wrap (x6+1)) w2/\x4 (IntKind.i64.wrap (x6+1)) w2<x4 x6 w1)) w1)) (K (.int .i64 (-1)) w1)
theorem Eh (x0:Option Addr) (x1:Nat) (x2:Nat) (x3:Value) (K:Value->World->Prop) (w:World) (h:Eg x0 x1 x2 x3 K w):Calls Tryz.prog 33 #[.slice x0 x1 x2,x3] w (aD K):=
 Aj { loops:=[(26,[(8,.int .i64)])] } Tryz.func33 (by kernel_rfl) h
end Go.Proofs.YtpdccfgpbkagcaaGreat
