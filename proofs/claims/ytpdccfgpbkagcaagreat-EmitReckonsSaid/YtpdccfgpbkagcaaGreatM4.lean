/- A part of the proof: conditions of the code, contracts, the plain law. -/
import Derived.Test.YtpdccfgpbkagcaaGreatM1
import Derived.Test.YtpdccfgpbkagcaaGreatM2
import Derived.Test.YtpdccfgpbkagcaaGreatM3
import Derived.Test.YtpdccfgpbkagcaaGreatM5
import Derived.Test.YtpdccfgpbkagcaaGreatMapL
import Derived.Test.YtpdccfgpbkagcaaGreatLv
import Derived.Test.YtpdccfgpbkagcaaGreatRows
import Derived.Test.YtpdccfgpbkagcaaGreatVcF
import Derived.Laws.CopyRow
import Derived.Laws.IdiomCopy
open Int (toNat_natCast)
open List (replicate length_append getD_eq_getElem?_getD mem_singleton length_singleton length_replicate mem_of_getElem? getElem?_eq_none drop_of_length_le append_nil length_take not_mem_nil length_cons length_drop mem_append mem_cons)
open Nat (zero_le le_refl le_of_ble_eq_true zero_add)
namespace Go.Proofs.YtpdccfgpbkagcaaGreat
open Go.Vc Go.Lv Go.Ty
set_option maxRecDepth 10000
def Agc (l:List Ay) (vars:List Int) (most:Int) (K:(List Int)->Int->Prop):Prop:=∃(I:Int->(List Int)->Int->Nat->Prop),(∃n,I most [] 0 n)/\∀(mo:Int) (ai:List Int) (aM:Int) (n:Nat),I mo ai aM n->cond (((decide (aM>=0))&&((decide (aM<(l.length:Int)))&&(decide (mo>0))))) (∃(J:(List Int)->Int->Prop),(((0:Int)<=aM/\aM<(l.length:Int))/\∀x,l[aM.toNat]? =some x->∃(J1:Bool->Prop),(cond (x.op==2) (J1 (x.op==2)) (J1 (x.op==3)))/\∀(x1:Bool),J1 x1->cond (x1) (∃(J2:Int->Prop),(cond (x.op==3) (∃(J3:Bool->Prop),(cond (decide (x.a>=0)) (J3 (decide (x.a<(vars.length:Int)))) (J3 false))/\∀(x2:Bool),J3 x2->cond (x2) (((0:Int)<=x.a/\x.a<(vars.length:Int))/\∀x3,vars[x.a.toNat]? =some x3->J2 x3) (J2 0)) (J2 x.a))/\∀(v:Int),J2 v->cond (decide ((ai.length:Int)>=12)) (K ai 2) (ai.length+[v].length<2^32/\J (ai++[v]) (IntKind.i64.wrap (aM+1)))) (cond (x.op==5) (Rd x.a (fun wi=>cond (((decide ((ai.length:Int)<wi))||(wi==0))) (K ai (-1)) (((0:Int)<=(IntKind.i64.wrap ((ai.length:Int)-wi))/\(IntKind.i64.wrap ((ai.length:Int)-wi))<(ai.length:Int))/\∀x4,ai[(IntKind.i64.wrap ((ai.length:Int)-wi)).toNat]? =some x4->((0:Int)<=(IntKind.i64.wrap ((ai.length:Int)-1))/\(IntKind.i64.wrap ((ai.length:Int)-1))<(ai.length:Int))/\∀x5,ai[(IntKind.i64.wrap ((ai.length:Int)-1)).toNat]? =some x5->Hw x.a x4 x5 (fun x6=>cond (x6.fault !=0) (K ai x6.fault) (((0:Int)<=(IntKind.i64.wrap ((ai.length:Int)-wi))/\(IntKind.i64.wrap ((ai.length:Int)-wi))<=(ai.length:Int))/\0+(ai.take ((IntKind.i64.wrap ((ai.length:Int)-wi)).toNat)).length<2^32/\(ai.take ((IntKind.i64.wrap ((ai.length:Int)-wi)).toNat)).length+[x6.n].length<2^32/\J ((ai.take ((IntKind.i64.wrap ((ai.length:Int)-wi)).toNat))++[x6.n]) (IntKind.i64.wrap (aM+1))))))) (∃(J4:Bool->Prop),(cond (x.op==7) (J4 (x.op==7)) (J4 (x.op==8)))/\∀(x7:Bool),J4 x7->cond (x7) (cond (decide ((ai.length:Int)<1)) (K ai (-1)) (∃(J5:Int->Prop),(((0:Int)<=(IntKind.i64.wrap ((ai.length:Int)-1))/\(IntKind.i64.wrap ((ai.length:Int)-1))<(ai.length:Int))/\∀x8,ai[(IntKind.i64.wrap ((ai.length:Int)-1)).toNat]? =some x8->cond ((x8==0)==(x.op==7)) (J5 x.a) (J5 (IntKind.i64.wrap (aM+1))))/\∀(uR:Int),J5 uR->((0:Int)<=(IntKind.i64.wrap ((ai.length:Int)-1))/\(IntKind.i64.wrap ((ai.length:Int)-1))<=(ai.length:Int))/\0+(ai.take ((IntKind.i64.wrap ((ai.length:Int)-1)).toNat)).length<2^32/\J (ai.take ((IntKind.i64.wrap ((ai.length:Int)-1)).toNat)) uR)) (cond (x.op==6) (J ai x.a) (K ai (-1))))))/\∀(cR:List Int) (mf:Int),J cR mf->∃n1,n1<n/\I (IntKind.i64.wrap (mo-1)) cR mf n1) (K ai 0)
set_option maxHeartbeats 4000000 in
theorem Acp (l:List Ay) (vars:List Int) (most:Int) (K:(List Int)->Int->Prop) (h:Agc l vars most K):Zf l vars most K:=by
 intro m w hm lA lC bk aO qL qM xD tv;have o:=Mem.start hm.lt;refine Aiv lA l.length lC qL vars.length qM most _ _ ?_;have st:=o.xN 3 1;have o:=o.mM 3 1;obtain⟨I,⟨n2,h⟩,h2⟩:=h;obtain⟨Z,hZ⟩:∃Z:Int->(Option Addr)->Nat->Nat->Int->World->Nat->Prop,Z=fun mo au ay aL aM w1 n=>∃(ai:List Int) (xs:List Value),I mo ai aM n/\El (Bz .i64) (ms [.row 3 1 au ai.length aL xs] m) w1 ai xs/\ay=ai.length/\MS w m w [.row 3 1 none 0 0 []] w1 [.row 3 1 au ai.length aL xs]:=⟨_,rfl⟩
 refine⟨fun mo au ay aL aM w1=>∃n,Z mo au ay aL aM w1 n,fun mo au ay aL aM w1=>cP (Z mo au ay aL aM w1),⟨n2,?_⟩,?_⟩;rw [hZ];exact⟨[],[],h,(El.nil _ _ _),rfl,o,Step.refl _ _⟩;intro _ mo au ay aL aM w1 aU;obtain⟨n,bO⟩:∃n,n=cP (Z mo au ay aL aM w1):=⟨_,rfl⟩
 have aU:=Bl aU;rw [←bO,hZ]at aU;obtain⟨ai,xs,h,el,rfl,o,bg⟩:=aU;have h:=h2 mo ai aM n h;intro _;refine Ab (fun h=> ?_) (fun h=> ?_) h;obtain⟨J,h,h2⟩:=h;refine⟨fun bQ cw cM mf w2=>∃(cR:List Int) (eS:List Value),J cR mf/\El (Bz .i64) (ms [.row 3 1 bQ cR.length cM eS] m) w2 cR eS/\cw=cR.length/\MS w m w1 [.row 3 1 au ai.length aL xs] w2 [.row 3 1 bQ cR.length cM eS],?_,?_⟩;obtain⟨hi,h⟩:=h;obtain⟨p,x,cs,hp,he,hc,hr⟩:=(aO.st (st.trans bg)).elem hi;obtain rfl:=Ht hr;have h:=h x he;refine⟨hi,Ae hp ?_⟩;refine⟨_,_,_,hc.2,?_⟩;intro b w3 hb cV;obtain⟨d8,o⟩:=o.dB hb cV;refine⟨o.wr 0 rfl rfl,fun w4 dt=> ?_⟩;obtain⟨dW,o⟩:=o.bj 0 dt rfl;refine⟨_,(o.at 0 rfl).cell rfl,?_⟩;obtain⟨J1,h,h2⟩:=h;refine⟨fun x1 w5=>J1 x1/\MT w m w4 w5 [.box b [.q x.op,.q x.a,.q x.b],.row 3 1 au ai.length aL xs],?_,?_⟩;refine Ab (fun h=> ?_) (fun h=> ?_) h;exact⟨h,o,Step.refl _ _⟩;exact⟨h,o,Step.refl _ _⟩;rintro _ x1 w5 ⟨hJ,o,eT⟩;have h:=h2 x1 hJ;refine Ab (fun h=> ?_) (fun h=> ?_) h;refine⟨_,(o.at 0 rfl).cell rfl,?_⟩;obtain⟨J2,h,h2⟩:=h;refine⟨fun v w6=>J2 v/\MT w m w5 w6 [.box b [.q x.op,.q x.a,.q x.b],.row 3 1 au ai.length aL xs],?_,?_⟩;refine⟨_,(o.at 0 rfl).cell rfl,?_⟩;refine Ab (fun h=> ?_) (fun h=> ?_) h;obtain⟨J3,h,h2⟩:=h;refine⟨fun x2 w7=>J3 x2/\MT w m w5 w7 [.box b [.q x.op,.q x.a,.q x.b],.row 3 1 au ai.length aL xs],?_,?_⟩;refine⟨_,(o.at 0 rfl).cell rfl,?_⟩;refine Ab (fun h=> ?_) (fun h=> ?_) h;refine⟨_,(o.at 0 rfl).cell rfl,?_⟩;exact⟨h,o,Step.refl _ _⟩;exact⟨h,o,Step.refl _ _⟩;rintro _ x2 w7 ⟨hJ,o,fy⟩;have h:=h2 x2 hJ;refine Ab (fun h=> ?_) (fun h=> ?_) h;refine⟨_,(o.at 0 rfl).cell rfl,?_⟩;obtain⟨cT,h⟩:=h;have sT:=((((st.trans bg).trans d8).trans dW).trans eT).trans fy;obtain⟨p1,x3,fl,eG,eO,cE,ek⟩:=(tv.st sT).elem cT;obtain rfl:=ek;have h:=h x3 eO;refine⟨cT,Ae eG ?_⟩;refine⟨_,(Ac.head cE.2),?_⟩;exact⟨h,o,fy⟩;exact⟨h,o,fy⟩;exact⟨h,o,Step.refl _ _⟩;rintro _ v w6 ⟨hJ,o,je⟩;have h:=h2 v hJ;refine Ab (fun h=> ?_) (fun h=> ?_) h;have le:=(o.rowAt 1 rfl).cap;have ko:=o.xX 1;have cN:=(((d8.trans dW).trans eT).trans je).trans ko;have f:=o.freeze (c:=(Bz .i64)) (l:=ai) 1 rfl (fun b hb=>by simp at hb) (el.st cN);have o:=o.erase 1;exact⟨ai,2,h,⟨_,_,rfl,⟨le,(f.st Mem.d4)⟩⟩,o.done⟩;intro b1 w8 bI fg;have jx:El (Bz .i64) (ms [.box b [.q x.op,.q x.a,.q x.b],.row 3 1 au ai.length aL xs] m) w6 [v] ([.q v]:List Value):=(El.cons (cs:=[.q v]) rfl (El.nil _ _ _))
 have iY:=o.xL bI fg 1 1;have o:=o.lit bI fg 1 1 (by decide) rfl;obtain⟨lt,h⟩:=h;have e9:=(((d8.trans dW).trans eT).trans je).trans iY;have pQ:=((el.st e9)).app (jx.st iY);refine Cj Xc (o.rowAt 2 rfl) (o.rowAt 0 rfl).sl (jx.st iY).len (jx.st iY).one (by first|(simp;done)|simpa using lt) (by decide) (zero_le _) fun a c w9 du hg dR=> ?_
 have ln:ai.length+1=(ai++[v]).length:=(by first|(simp;done)|(simp;omega))
 rw [ln]at du⊢;refine⟨_,_,_,rfl,?_⟩;have nq:=o.xA 2 rfl du hg dR;have o:=o.app 2 rfl du hg dR;obtain⟨ll,o⟩:=o.dX 0;obtain⟨jS,o⟩:=o.dX 0;have h_:=(nq.trans ll).trans jS;have iz:=((e9.trans nq).trans ll).trans jS;exact⟨(ai++[v]),(xs++([.q v]:List Value)),h,(pQ.st h_),rfl,o,iz⟩;refine Ab (fun h=> ?_) (fun h=> ?_) h;refine⟨_,(o.at 0 rfl).cell rfl,?_⟩;refine Ad (h _ w5 (o.mn hm)) ?_;rintro _ ak ⟨wi,h,rfl,ke⟩;obtain⟨jg,o⟩:=o.dE ke;refine⟨_,rfl,?_⟩;intro _;refine Ab (fun h=> ?_) (fun h=> ?_) h;have gp:=(o.rowAt 1 rfl).cap;have nR:=o.xX 1;have iI:=(((d8.trans dW).trans eT).trans jg).trans nR;have f1:=o.freeze (c:=(Bz .i64)) (l:=ai) 1 rfl (fun b hb=>by simp at hb) (el.st iI);have o:=o.erase 1;exact⟨ai,(-1),h,⟨_,_,rfl,⟨gp,(f1.st Mem.d4)⟩⟩,o.done⟩;intro aw il;obtain⟨lp,o⟩:=o.dD il;obtain⟨ec,h⟩:=h;have lR:=(((d8.trans dW).trans eT).trans jg).trans lp;obtain⟨p2,x4,kj,gq,fW,cr,iE⟩:=Og (o.rowAt 1 rfl) (el.st lR) ec;obtain rfl:=iE;have h:=h x4 fW;refine⟨ec,Ae gq ?_⟩;refine⟨_,(Ac.head cr.2),?_⟩;obtain⟨hU,h⟩:=h;obtain⟨p3,x5,nP,kM,lj,fX,np⟩:=Og (o.rowAt 1 rfl) (el.st lR) hU;obtain rfl:=np;have h:=h x5 lj;refine⟨hU,Ae kM ?_⟩;refine⟨_,(Ac.head fX.2),?_⟩;refine⟨_,(o.at 0 rfl).cell rfl,?_⟩;refine Ad (h _ aw (o.mn hm)) ?_;rintro _ aJ ⟨x6,h,⟨rV,rfl,f2⟩,cU⟩;obtain⟨iZ,o⟩:=o.dE cU;obtain rfl:=Cx f2;refine⟨_,_,rfl,?_⟩;intro b2 aQ dY jR;obtain⟨kO,o⟩:=o.dB dY jR;refine⟨o.wr 0 rfl rfl,fun aX lQ=> ?_⟩;obtain⟨lq,o⟩:=o.bj 0 lQ rfl;refine⟨_,(o.at 0 rfl).cell rfl,?_⟩;refine Ab (fun h=> ?_) (fun h=> ?_) h;intro a_ gR;obtain⟨nr,o⟩:=o.dD gR;refine⟨_,(o.at 0 rfl).cell rfl,?_⟩;have ia:=(o.rowAt 2 rfl).cap;have nS:=o.xX 2;have oP:=((((lR.trans iZ).trans kO).trans lq).trans nr).trans nS;have f3:=o.freeze (c:=(Bz .i64)) (l:=ai) 2 rfl (fun b hb=>by simp at hb) (el.st oP);have o:=o.erase 2;exact⟨ai,x6.fault,h,⟨_,_,rfl,⟨ia,(f3.st Mem.d4)⟩⟩,o.done⟩;intro aN jy;obtain⟨pS,o⟩:=o.dD jy;have ox:=o;refine⟨fun u=>Ao [] aN u,Ao.refl _ _,?_⟩;obtain⟨jV,h⟩:=h;obtain⟨iH,lh⟩:∃z,z=xs.take ((IntKind.i64.wrap ((ai.length:Int)-wi)).toNat*1):=⟨_,rfl⟩
 have nQ:=(o.rowAt 2 rfl).take (k:=(IntKind.i64.wrap ((ai.length:Int)-wi)).toNat) (by have:=jV;first|omega|(simp at*;omega));rw [←lh]at nQ;have lS:=(((lR.trans iZ).trans kO).trans lq).trans pS;have pZ:El (Bz .i64) (ms [.box b2 [.q x6.n,.q x6.fault],.box b [.q x.op,.q x.a,.q x.b],.row 3 1 au ai.length aL xs] m) aN (ai.take ((IntKind.i64.wrap ((ai.length:Int)-wi)).toNat)) iH:=(by rw [lh];exact El.take (el.st lS) ((IntKind.i64.wrap ((ai.length:Int)-wi)).toNat))
 refine⟨⟨jV.1,by have:=jV;have:=(o.rowAt 2 rfl).cap;first|omega|(simp at*;omega)⟩,?_⟩;simp only [Gq,Nat.sub_zero];have mh:=Mem.pL (ps:=[.box b2 [.q x6.n,.q x6.fault],.box b [.q x.op,.q x.a,.q x.b],.row 3 1 au ai.length aL xs]) (m0:=m) (w:=aN) (p':= .row 3 1 au ((IntKind.i64.wrap ((ai.length:Int)-wi)).toNat) aL iH) 2 rfl (Ao.refl _ _) (fun _ hb=> .inl hb);have o:=o.kL (p':= .row 3 1 au ((IntKind.i64.wrap ((ai.length:Int)-wi)).toNat) aL iH) 2 rfl (Ao.refl _ _) nQ (fun _ hb=> .inl hb);have jc:(IntKind.i64.wrap ((ai.length:Int)-wi)).toNat=(ai.take ((IntKind.i64.wrap ((ai.length:Int)-wi)).toNat)).length:=Px (o.rowAt 2 rfl) (pZ.st mh);refine⟨_,fun u hu=>((ox.at 0 rfl).aW hu (by simp)).cell rfl,?_⟩;refine⟨?_,?_⟩;intro b3 bE fp iA;have nM:El (Bz .i64) (ms [.box b2 [.q x6.n,.q x6.fault],.box b [.q x.op,.q x.a,.q x.b],.row 3 1 au ((IntKind.i64.wrap ((ai.length:Int)-wi)).toNat) aL iH] m) aN [] ([]:List Value):=(El.nil _ _ _)
 have gT:=o.xL fp iA 1 0;have o:=o.lit fp iA 1 0 (by decide) rfl;refine⟨((Bd iA).mono (by simp)),?_⟩;refine⟨?_,?_⟩;obtain⟨qW,h⟩:=h;have EP:=((nM.st gT)).app (pZ.st (mh.trans gT));refine Cj Xc (o.rowAt 0 rfl) (o.rowAt 3 rfl).sl (by rw [jc];exact El.len ((pZ.st (mh.trans gT)))) (pZ.st (mh.trans gT)).one (by rw [jc];exact qW) (by decide) (zero_le _) fun a1 c1 bB jW gS kR=> ?_
 have jP:0+(IntKind.i64.wrap ((ai.length:Int)-wi)).toNat=(ai.take ((IntKind.i64.wrap ((ai.length:Int)-wi)).toNat)).length:=(by first|(rw [length_append,←jc])|(rw [←jc];omega))
 rw [jP]at jW⊢;refine⟨_,_,_,rfl,?_⟩;have fY:=o.xA 0 rfl jW gS kR;have o:=o.app 0 rfl jW gS kR;refine⟨(Zc ((Bd iA).mono (by simp)) gS (Uw fp (Ao.refl _ _))),?_⟩;intro b4 bT jB nN;have nv:El (Bz .i64) (ms [.row 3 1 a1 ((ai.take ((IntKind.i64.wrap ((ai.length:Int)-wi)).toNat)).length) c1 (([]:List Value)++iH),.box b2 [.q x6.n,.q x6.fault],.box b [.q x.op,.q x.a,.q x.b],.row 3 1 au ((IntKind.i64.wrap ((ai.length:Int)-wi)).toNat) aL iH] m) bB [x6.n] ([.q x6.n]:List Value):=(El.cons (cs:=[.q x6.n]) rfl (El.nil _ _ _))
 have im:=o.xL jB nN 1 1;have o:=o.lit jB nN 1 1 (by decide) rfl;obtain⟨qY,h⟩:=h;have r7:=((EP.st (fY.trans im))).app (nv.st im);refine Cj Xc (o.rowAt 1 rfl) (o.rowAt 0 rfl).sl (nv.st im).len (nv.st im).one (by first|(simp;done)|simpa using qY) (by decide) (zero_le _) fun a2 c2 dc kQ mi oY=> ?_
 have oL:(ai.take ((IntKind.i64.wrap ((ai.length:Int)-wi)).toNat)).length+1=((ai.take ((IntKind.i64.wrap ((ai.length:Int)-wi)).toNat))++[x6.n]).length:=(by first|(simp;done)|(simp;omega))
 rw [oL]at kQ⊢;refine⟨_,_,_,rfl,?_⟩;have jz:=o.xA 1 rfl kQ mi oY;have o:=o.app 1 rfl kQ mi oY;obtain⟨kP,o⟩:=o.dX 0;obtain⟨iJ,o⟩:=o.dX 1;obtain⟨jh,o⟩:=o.dX 1;obtain⟨jT,o⟩:=o.dX 1;have rZ:=(((jz.trans kP).trans iJ).trans jh).trans jT;have xm:=((((((((lS.trans mh).trans gT).trans fY).trans im).trans jz).trans kP).trans iJ).trans jh).trans jT;exact⟨((ai.take ((IntKind.i64.wrap ((ai.length:Int)-wi)).toNat))++[x6.n]),((([]:List Value)++iH)++([.q x6.n]:List Value)),h,(r7.st rZ),rfl,o,xm⟩;intro b4 bB jB jU;have nU:El (Bz .i64) (ms [.row 3 1 (some ⟨b3,0,none⟩) 0 0 ([]:List Value),.box b2 [.q x6.n,.q x6.fault],.box b [.q x.op,.q x.a,.q x.b],.row 3 1 au ((IntKind.i64.wrap ((ai.length:Int)-wi)).toNat) aL iH] m) bE [x6.n] ([.q x6.n]:List Value):=(El.cons (cs:=[.q x6.n]) rfl (El.nil _ _ _))
 have fY:=o.xL jB jU 1 1;have o:=o.lit jB jU 1 1 (by decide) rfl;obtain⟨qW,h⟩:=h;have qQ:=(mh.trans gT).trans fY;have nv:=((nM.st (gT.trans fY))).app (pZ.st qQ);refine Cj Xc (o.rowAt 1 rfl) (o.rowAt 4 rfl).sl (by rw [jc];exact El.len ((pZ.st qQ))) (pZ.st qQ).one (by rw [jc];exact qW) (by decide) (zero_le _) fun a1 c1 bT jW gS kR=> ?_
 have jP:0+(IntKind.i64.wrap ((ai.length:Int)-wi)).toNat=(ai.take ((IntKind.i64.wrap ((ai.length:Int)-wi)).toNat)).length:=(by first|(rw [length_append,←jc])|(rw [←jc];omega))
 rw [jP]at jW⊢;refine⟨_,_,_,rfl,?_⟩;have im:=o.xA 1 rfl jW gS kR;have o:=o.app 1 rfl jW gS kR;refine⟨(Zc (((Bd iA).mono (by simp)).trans ((Bd jU).mono (by simp))) gS (Uw fp (Ao.refl _ _))),?_⟩;obtain⟨qY,h⟩:=h;have r7:=((nv.st im)).app (nU.st (fY.trans im));refine Cj Xc (o.rowAt 1 rfl) (o.rowAt 0 rfl).sl (nU.st (fY.trans im)).len (nU.st (fY.trans im)).one (by first|(simp;done)|simpa using qY) (by decide) (zero_le _) fun a2 c2 dc kQ mi oY=> ?_
 have oL:(ai.take ((IntKind.i64.wrap ((ai.length:Int)-wi)).toNat)).length+1=((ai.take ((IntKind.i64.wrap ((ai.length:Int)-wi)).toNat))++[x6.n]).length:=(by first|(simp;done)|(simp;omega))
 rw [oL]at kQ⊢;refine⟨_,_,_,rfl,?_⟩;have jz:=o.xA 1 rfl kQ mi oY;have o:=o.app 1 rfl kQ mi oY;obtain⟨kP,o⟩:=o.dX 0;obtain⟨iJ,o⟩:=o.dX 1;obtain⟨jh,o⟩:=o.dX 1;obtain⟨jT,o⟩:=o.dX 1;have uI:=(((jz.trans kP).trans iJ).trans jh).trans jT;have ER:=((((((((lS.trans mh).trans gT).trans fY).trans im).trans jz).trans kP).trans iJ).trans jh).trans jT;exact⟨((ai.take ((IntKind.i64.wrap ((ai.length:Int)-wi)).toNat))++[x6.n]),((([]:List Value)++iH)++([.q x6.n]:List Value)),h,(r7.st uI),rfl,o,ER⟩;intro b3 bE fp iA;have nM:El (Bz .i64) (ms [.box b2 [.q x6.n,.q x6.fault],.box b [.q x.op,.q x.a,.q x.b],.row 3 1 au ((IntKind.i64.wrap ((ai.length:Int)-wi)).toNat) aL iH] m) aN [x6.n] ([.q x6.n]:List Value):=(El.cons (cs:=[.q x6.n]) rfl (El.nil _ _ _))
 have gT:=o.xL fp iA 1 1;have o:=o.lit fp iA 1 1 (by decide) rfl;intro b4 bB jB jU;have nU:El (Bz .i64) (ms [.row 3 1 (some ⟨b3,0,none⟩) 1 1 ([.q x6.n]:List Value),.box b2 [.q x6.n,.q x6.fault],.box b [.q x.op,.q x.a,.q x.b],.row 3 1 au ((IntKind.i64.wrap ((ai.length:Int)-wi)).toNat) aL iH] m) bE [] ([]:List Value):=(El.nil _ _ _)
 have fY:=o.xL jB jU 1 0;have o:=o.lit jB jU 1 0 (by decide) rfl;refine⟨(((Bd iA).mono (by simp)).trans ((Bd jU).mono (by simp))),?_⟩;obtain⟨qW,h⟩:=h;have xw:=(mh.trans gT).trans fY;have nv:=((nU.st fY)).app (pZ.st xw);refine Cj Xc (o.rowAt 0 rfl) (o.rowAt 4 rfl).sl (by rw [jc];exact El.len ((pZ.st xw))) (pZ.st xw).one (by rw [jc];exact qW) (by decide) (zero_le _) fun a1 c1 bT jW gS kR=> ?_
 have jP:0+(IntKind.i64.wrap ((ai.length:Int)-wi)).toNat=(ai.take ((IntKind.i64.wrap ((ai.length:Int)-wi)).toNat)).length:=(by first|(rw [length_append,←jc])|(rw [←jc];omega))
 rw [jP]at jW⊢;refine⟨_,_,_,rfl,?_⟩;have im:=o.xA 0 rfl jW gS kR;have o:=o.app 0 rfl jW gS kR;refine⟨(Zc (((Bd iA).mono (by simp)).trans ((Bd jU).mono (by simp))) gS (Uw jB ((Bd iA).mono (by simp)))),?_⟩;obtain⟨qY,h⟩:=h;have xy:=(gT.trans fY).trans im;have r7:=((nv.st im)).app (nM.st xy);refine Cj Xc (o.rowAt 0 rfl) (o.rowAt 1 rfl).sl (nM.st xy).len (nM.st xy).one (by first|(simp;done)|simpa using qY) (by decide) (zero_le _) fun a2 c2 dc kQ mi oY=> ?_
 have oL:(ai.take ((IntKind.i64.wrap ((ai.length:Int)-wi)).toNat)).length+1=((ai.take ((IntKind.i64.wrap ((ai.length:Int)-wi)).toNat))++[x6.n]).length:=(by first|(simp;done)|(simp;omega))
 rw [oL]at kQ⊢;refine⟨_,_,_,rfl,?_⟩;have jz:=o.xA 0 rfl kQ mi oY;have o:=o.app 0 rfl kQ mi oY;obtain⟨kP,o⟩:=o.dX 1;obtain⟨iJ,o⟩:=o.dX 1;obtain⟨jh,o⟩:=o.dX 1;obtain⟨jT,o⟩:=o.dX 1;have EV:=(((jz.trans kP).trans iJ).trans jh).trans jT;have EW:=((((((((lS.trans mh).trans gT).trans fY).trans im).trans jz).trans kP).trans iJ).trans jh).trans jT;exact⟨((ai.take ((IntKind.i64.wrap ((ai.length:Int)-wi)).toNat))++[x6.n]),((([]:List Value)++iH)++([.q x6.n]:List Value)),h,(r7.st EV),rfl,o,EW⟩;obtain⟨J4,h,h2⟩:=h;refine⟨fun x7 bE=>J4 x7/\MT w m w5 bE [.box b [.q x.op,.q x.a,.q x.b],.row 3 1 au ai.length aL xs],?_,?_⟩;refine Ab (fun h=> ?_) (fun h=> ?_) h;exact⟨h,o,Step.refl _ _⟩;exact⟨h,o,Step.refl _ _⟩;rintro _ x7 bE ⟨hJ,o,gT⟩;have h:=h2 x7 hJ;refine Ab (fun h=> ?_) (fun h=> ?_) h;refine Ab (fun h=> ?_) (fun h=> ?_) h;have kz:=(o.rowAt 1 rfl).cap;have fY:=o.xX 1;have FA:=(((d8.trans dW).trans eT).trans gT).trans fY;have f4:=o.freeze (c:=(Bz .i64)) (l:=ai) 1 rfl (fun b hb=>by simp at hb) (el.st FA);have o:=o.erase 1;exact⟨ai,(-1),h,⟨_,_,rfl,⟨kz,(f4.st Mem.d4)⟩⟩,o.done⟩;obtain⟨J5,h,h2⟩:=h;refine⟨fun uR bB=>J5 uR/\MT w m bE bB [.box b [.q x.op,.q x.a,.q x.b],.row 3 1 au ai.length aL xs],?_,?_⟩;intro bT nN;obtain⟨jz,o⟩:=o.dD nN;obtain⟨lr,h⟩:=h;have zI:=(((d8.trans dW).trans eT).trans gT).trans jz;obtain⟨p4,x8,qO,oS,oT,lu,jW⟩:=Og (o.rowAt 1 rfl) (el.st zI) lr;obtain rfl:=jW;have h:=h x8 oT;refine⟨lr,Ae oS ?_⟩;refine⟨_,(Ac.head lu.2),?_⟩;refine⟨_,(o.at 0 rfl).cell rfl,?_⟩;refine Ab (fun h=> ?_) (fun h=> ?_) h;refine⟨_,(o.at 0 rfl).cell rfl,?_⟩;exact⟨h,o,jz⟩;exact⟨h,o,jz⟩;rintro _ uR bB ⟨hJ,o,im⟩;have h:=h2 uR hJ;intro b3 dc fp oO;have nM:El (Bz .i64) (ms [.box b [.q x.op,.q x.a,.q x.b],.row 3 1 au ai.length aL xs] m) bB [] ([]:List Value):=(El.nil _ _ _)
 have kP:=o.xL fp oO 1 0;have o:=o.lit fp oO 1 0 (by decide) rfl;obtain⟨qV,h⟩:=h;obtain⟨zQ,QT⟩:∃z,z=xs.take ((IntKind.i64.wrap ((ai.length:Int)-1)).toNat*1):=⟨_,rfl⟩
 have kQ:=(o.rowAt 2 rfl).take (k:=(IntKind.i64.wrap ((ai.length:Int)-1)).toNat) (by have:=qV;first|omega|(simp at*;omega));rw [←QT]at kQ;have zK:=((((d8.trans dW).trans eT).trans gT).trans im).trans kP;have nU:El (Bz .i64) (ms [.row 3 1 (some ⟨b3,0,none⟩) 0 0 ([]:List Value),.box b [.q x.op,.q x.a,.q x.b],.row 3 1 au ai.length aL xs] m) dc (ai.take ((IntKind.i64.wrap ((ai.length:Int)-1)).toNat)) zQ:=(by rw [QT];exact El.take (el.st zK) ((IntKind.i64.wrap ((ai.length:Int)-1)).toNat))
 refine⟨⟨qV.1,by have:=qV;have:=(o.rowAt 2 rfl).cap;first|omega|(simp at*;omega)⟩,?_⟩;simp only [Gq,Nat.sub_zero];have iJ:=Mem.pL (ps:=[.row 3 1 (some ⟨b3,0,none⟩) 0 0 ([]:List Value),.box b [.q x.op,.q x.a,.q x.b],.row 3 1 au ai.length aL xs]) (m0:=m) (w:=dc) (p':= .row 3 1 au ((IntKind.i64.wrap ((ai.length:Int)-1)).toNat) aL zQ) 2 rfl (Ao.refl _ _) (fun _ hb=> .inl hb);have o:=o.kL (p':= .row 3 1 au ((IntKind.i64.wrap ((ai.length:Int)-1)).toNat) aL zQ) 2 rfl (Ao.refl _ _) kQ (fun _ hb=> .inl hb);have jP:(IntKind.i64.wrap ((ai.length:Int)-1)).toNat=(ai.take ((IntKind.i64.wrap ((ai.length:Int)-1)).toNat)).length:=Px (o.rowAt 2 rfl) (nU.st iJ);obtain⟨qW,h⟩:=h;have nv:=((nM.st (kP.trans iJ))).app (nU.st iJ);refine Cj Xc (o.rowAt 0 rfl) (o.rowAt 2 rfl).sl (by rw [jP];exact El.len ((nU.st iJ))) (nU.st iJ).one (by rw [jP];exact qW) (by decide) (zero_le _) fun a1 c1 cS qX gS kR=> ?_
 have oL:0+(IntKind.i64.wrap ((ai.length:Int)-1)).toNat=(ai.take ((IntKind.i64.wrap ((ai.length:Int)-1)).toNat)).length:=(by first|(rw [length_append,←jP])|(rw [←jP];omega))
 rw [oL]at qX⊢;refine⟨_,_,_,rfl,?_⟩;have jh:=o.xA 0 rfl qX gS kR;have o:=o.app 0 rfl qX gS kR;obtain⟨jT,o⟩:=o.dX 1;obtain⟨pT,o⟩:=o.dX 1;have FD:=(jh.trans jT).trans pT;have FE:=(((zK.trans iJ).trans jh).trans jT).trans pT;exact⟨(ai.take ((IntKind.i64.wrap ((ai.length:Int)-1)).toNat)),(([]:List Value)++zQ),h,(nv.st FD),rfl,o,FE⟩;refine Ab (fun h=> ?_) (fun h=> ?_) h;refine⟨_,(o.at 0 rfl).cell rfl,?_⟩;obtain⟨zG,o⟩:=o.dX 0;have zM:=(((d8.trans dW).trans eT).trans gT).trans zG;exact⟨ai,xs,h,(el.st zM),rfl,o,zM⟩;have nZ:=(o.rowAt 1 rfl).cap;have tj:=o.xX 1;have zO:=(((d8.trans dW).trans eT).trans gT).trans tj;have f5:=o.freeze (c:=(Bz .i64)) (l:=ai) 1 rfl (fun b hb=>by simp at hb) (el.st zO);have o:=o.erase 1;exact⟨ai,(-1),h,⟨_,_,rfl,⟨nZ,(f5.st Mem.d4)⟩⟩,o.done⟩;rintro _ bQ cw cM mf w2 ⟨cR,eS,hJ,c_,rfl,o,ef⟩;have h:=h2 cR mf hJ;obtain⟨n1,hl,h⟩:=h;exact Be bO (show Z _ _ _ _ _ w2 n1 from(by rw [hZ];exact⟨cR,eS,h,c_,rfl,o,(bg.trans ef)⟩)) hl;have o0:=(o.rowAt 0 rfl).cap;have uG:=o.xX 0;have f6:=o.freeze (c:=(Bz .i64)) (l:=ai) 0 rfl (fun b hb=>by simp at hb) (el.st uG);have o:=o.erase 0;exact⟨ai,0,h,⟨_,_,rfl,⟨o0,(f6.st (Mem.d4 (ps:=[]) (m0:=m)))⟩⟩,o.done⟩
def Rh (u:Ap) (i:Int) (K:(List Ay)->Bool->Ap->Prop):Prop:=Nm u i (fun x=>cond (!x) (K [] false u) (Ck u i (fun x1 r=>K x1 true r)))
theorem Qc (u:Ap) (i:Int) (K:(List Ay)->Bool->Ap->Prop) (h:Rh u i K):Lw u i K:=by
 intro m w hm ub e8 iB jX jY;obtain⟨a,c,a1,c1,a2,c2,a3,c3,rfl,⟨le,f⟩,⟨gp,f1⟩,⟨ia,f2⟩,⟨kz,f3⟩⟩:=Cy jY;have o:=Mem.recv hm.lt iB jX;have st:=Mem.wW (w:=w) iB jX;have nO:∀b∈[ub],b∈m:=fun b hb=>(mem_singleton.1 hb)▸iB
 refine Sp ub i _ _ ?_;refine Ad (h _ w (o.mp hm nO) _ _ (Mem.wV 0 rfl) (o.at 0 rfl) (Dq u ⟨le,(f.st st)⟩ ⟨gp,(f1.st st)⟩ ⟨ia,(f2.st st)⟩ ⟨kz,(f3.st st)⟩)) ?_;rintro _ w1 ⟨x,h,rfl,bx,ke⟩;obtain⟨au,o⟩:=o.dC 0 ke bx rfl;refine⟨_,rfl,?_⟩;refine Ab (fun h=> ?_) (fun h=> ?_) h;exact⟨[],false,u,h,⟨_,_,rfl,⟨(le_refl _),(aF.nil _ _ _ _)⟩⟩,⟨_,o.at 0 rfl,(Dq u ⟨le,(f.st (st.trans (au.trans Mem.d4)))⟩ ⟨gp,(f1.st (st.trans (au.trans Mem.d4)))⟩ ⟨ia,(f2.st (st.trans (au.trans Mem.d4)))⟩ ⟨kz,(f3.st (st.trans (au.trans Mem.d4)))⟩)⟩,o.done⟩;refine Ad (h _ w1 (o.mp hm nO) _ _ (Mem.wV 0 rfl) (o.at 0 rfl) (Dq u ⟨le,(f.st (st.trans au))⟩ ⟨gp,(f1.st (st.trans au))⟩ ⟨ia,(f2.st (st.trans au))⟩ ⟨kz,(f3.st (st.trans au))⟩)) ?_;rintro _ w2 ⟨x1,r,h,⟨a4,c4,rfl,nZ,f5⟩,⟨fl,bx1,f6⟩,cU⟩;obtain⟨ay,o⟩:=o.dC 0 cU bx1 rfl;obtain⟨a5,c5,a6,c6,a7,c7,a8,c8,rfl,⟨o0,f7⟩,⟨xG,f8⟩,⟨xH,f9⟩,⟨xI,xJ⟩⟩:=Cy f6;refine⟨_,_,_,rfl,?_⟩;exact⟨x1,true,r,h,⟨_,_,rfl,⟨nZ,(f5.st Mem.d4)⟩⟩,⟨_,o.at 0 rfl,(Dq r ⟨o0,(f7.st Mem.d4)⟩ ⟨xG,(f8.st Mem.d4)⟩ ⟨xH,(f9.st Mem.d4)⟩ ⟨xI,(xJ.st Mem.d4)⟩)⟩,o.done⟩
def Qd (u:Ap) (i:Int) (K:(List Ay)->Ap->Prop):Prop:=Hu u.l i (fun v v1=>∃xs:List (Int),Fb v v1 xs/\∃(I:List (Int)->(List Ay)->(List Ag)->(List Co)->(List Bm)->Int->(List Int)->Prop),I [] [] u.l u.p.cH u.p.ck u.p.main u.p.A7/\(∀(pre:List (Int)) (x:Int) (v2:List Ay) (l:List Ag) (pC:List Co) (pR:List Bm) (pM:Int) (pN:List Int),(pre++[x])<+:xs->I pre v2 l pC pR pM pN->Ck (⟨l,(⟨pC,pR,pM,pN⟩:Bn)⟩:Ap) x (fun x3 r=>Hm ([v2,x3]:List (List Ay)) (fun x4=>I (pre++[x]) x4 r.l r.p.cH r.p.ck r.p.main r.p.A7)))/\∀(v2:List Ay) (l:List Ag) (pC:List Co) (pR:List Bm) (pM:Int) (pN:List Int),I xs v2 l pC pR pM pN->((0:Int)<=i/\i<(l.length:Int))/\∀x1,l[i.toNat]? =some x1->Hm ([v2,[(⟨5,x1.op,0⟩:Ay)]]:List (List Ay)) (fun x2=>K x2 (⟨l,(⟨pC,pR,pM,pN⟩:Bn)⟩:Ap)))
set_option maxHeartbeats 4000000 in
theorem Ow (u:Ap) (i:Int) (K:(List Ay)->Ap->Prop) (h:Qd u i K):Gw u i K:=by
 intro m w hm ub e8 iB jX jY;obtain⟨a,c,a1,c1,a2,c2,a3,c3,rfl,⟨le,f⟩,⟨gp,f1⟩,⟨ia,f2⟩,⟨kz,f3⟩⟩:=Cy jY;have o:=Mem.recv hm.lt iB jX;have st:=Mem.wW (w:=w) iB jX;have nO:∀b∈[ub],b∈m:=fun b hb=>(mem_singleton.1 hb)▸iB
 refine Q3 ub i _ _ ?_;intro b w1 hb aP;obtain⟨au,o⟩:=o.dB hb aP;intro b1 w2 bI bR;obtain⟨ay,o⟩:=o.dB bI bR;refine⟨_,(o.at 1 rfl).cell rfl,?_⟩;refine⟨_,_,_,(o.at 2 rfl).cell rfl,?_⟩;have sT:=(st.trans au).trans ay;refine Ad (h _ w2 (o.mp hm nO) _ _ le (f.st sT)) ?_;rintro _ w3 ⟨v,v1,h,⟨b2,cs,b3,fl,rfl,⟨el,f4⟩,⟨c_,f5⟩⟩,ke⟩;obtain⟨aL,o⟩:=o.dE ke;obtain rfl:=f4;obtain⟨a4,c4,rfl,nZ,f6⟩:=f5;refine⟨_,_,rfl,?_⟩;obtain⟨xs,jQ,I,h,hb,hd⟩:=h;have hle:=o.le;have cz:=o.qH;have cN:=sT.trans aL;refine⟨(ms [.box b1 [.slice none 0 0],.box b [.pointer (some ⟨ub,0,none⟩)],.box ub [.slice a u.l.length c,.slice a1 u.p.cH.length c1,.slice a2 u.p.ck.length c2,.q u.p.main,.slice a3 u.p.A7.length c3]] m),xs,Kr.of (o.mp hm nO).lt (jQ _ _ (o.mp hm nO) _ _ el rfl _ _ c_ ⟨_,_,rfl,nZ,f6⟩),fun F pre w4=>∃(v2:List Ay) (l:List Ag) (pC:List Co) (pR:List Bm) (pM:Int) (pN:List Int) (a5:Option Addr) (c5:Nat) (a6:Option Addr) (c6:Nat) (a7:Option Addr) (c7:Nat) (a8:Option Addr) (c8:Nat) (a9:Option Addr) (c9:Nat),F=(ms [.box b1 [.slice a5 v2.length c5],.box b [.pointer (some ⟨ub,0,none⟩)],.box ub [.slice a6 l.length c6,.slice a7 pC.length c7,.slice a8 pR.length c8,.q pM,.slice a9 pN.length c9]] m)/\I pre v2 l pC pR pM pN/\(v2.length<=c5/\aF Cc (ms [.box b1 [.slice a5 v2.length c5],.box b [.pointer (some ⟨ub,0,none⟩)],.box ub [.slice a6 l.length c6,.slice a7 pC.length c7,.slice a8 pR.length c8,.q pM,.slice a9 pN.length c9]] m) w4 a5 v2)/\(l.length<=c6/\aF A8 (ms [.box b1 [.slice a5 v2.length c5],.box b [.pointer (some ⟨ub,0,none⟩)],.box ub [.slice a6 l.length c6,.slice a7 pC.length c7,.slice a8 pR.length c8,.q pM,.slice a9 pN.length c9]] m) w4 a6 l)/\(pC.length<=c7/\aF D2 (ms [.box b1 [.slice a5 v2.length c5],.box b [.pointer (some ⟨ub,0,none⟩)],.box ub [.slice a6 l.length c6,.slice a7 pC.length c7,.slice a8 pR.length c8,.q pM,.slice a9 pN.length c9]] m) w4 a7 pC)/\(pR.length<=c8/\aF B4 (ms [.box b1 [.slice a5 v2.length c5],.box b [.pointer (some ⟨ub,0,none⟩)],.box ub [.slice a6 l.length c6,.slice a7 pC.length c7,.slice a8 pR.length c8,.q pM,.slice a9 pN.length c9]] m) w4 a8 pR)/\(pN.length<=c9/\aF (Bz .i64) (ms [.box b1 [.slice a5 v2.length c5],.box b [.pointer (some ⟨ub,0,none⟩)],.box ub [.slice a6 l.length c6,.slice a7 pC.length c7,.slice a8 pR.length c8,.q pM,.slice a9 pN.length c9]] m) w4 a9 pN)/\Mem w.heap.size [ub] m [([ub],w.heap.size,w)] [] w4 [.box b1 [.slice a5 v2.length c5],.box b [.pointer (some ⟨ub,0,none⟩)],.box ub [.slice a6 l.length c6,.slice a7 pC.length c7,.slice a8 pR.length c8,.q pM,.slice a9 pN.length c9]]/\Step (ms [.box b1 [.slice none 0 0],.box b [.pointer (some ⟨ub,0,none⟩)],.box ub [.slice a u.l.length c,.slice a1 u.p.cH.length c1,.slice a2 u.p.ck.length c2,.q u.p.main,.slice a3 u.p.A7.length c3]] m) w3 (ms [.box b1 [.slice a5 v2.length c5],.box b [.pointer (some ⟨ub,0,none⟩)],.box ub [.slice a6 l.length c6,.slice a7 pC.length c7,.slice a8 pR.length c8,.q pM,.slice a9 pN.length c9]] m) w4,fun _ _=>False,fun _ _ _=>False,⟨[],u.l,u.p.cH,u.p.ck,u.p.main,u.p.A7,none,0,a,c,a1,c1,a2,c2,a3,c3,rfl,h,⟨(le_refl _),(aF.nil _ _ _ _)⟩,⟨le,(f.st cN)⟩,⟨gp,(f1.st cN)⟩,⟨ia,(f2.st cN)⟩,⟨kz,(f3.st cN)⟩,o,Step.refl _ _⟩,?_,?_,?_⟩;rintro _ pre x w4 w5 ⟨v2,l,pC,pR,pM,pN,a5,c5,a6,c6,a7,c7,a8,c8,a9,c9,rfl,h,⟨o0,f7⟩,⟨xG,f8⟩,⟨xH,f9⟩,⟨xI,xJ⟩,⟨FO,FP⟩,o,ai⟩ hG db;have h:=hb pre x v2 l pC pR pM pN db h;have o:=o.grow hG (fun f hf=>by rw [mem_singleton.1 hf];exact hle) cz;have bg:=Step.grow (ms [.box b1 [.slice a5 v2.length c5],.box b [.pointer (some ⟨ub,0,none⟩)],.box ub [.slice a6 l.length c6,.slice a7 pC.length c7,.slice a8 pR.length c8,.q pM,.slice a9 pN.length c9]] m) hG;have o:=o.round (M:=(ms [.box b1 [.slice a5 v2.length c5],.box b [.pointer (some ⟨ub,0,none⟩)],.box ub [.slice a6 l.length c6,.slice a7 pC.length c7,.slice a8 pR.length c8,.q pM,.slice a9 pN.length c9]] m)) (B:=w5.heap.size) (le_refl _) (fun k hk=> .inl hk);intro aw il;obtain⟨dW,o⟩:=o.dD il;have uM:=o;refine⟨fun u=>Ao [ub] aw u,Ao.refl _ _,?_⟩;refine⟨_,_,_,fun u hu=>((uM.at 0 rfl).aW hu (fun h=>by (simp only [mem_cons,not_mem_nil,or_false]at h;rcases h with h;exact uM.neq 0 2 rfl rfl (by decide) h))).cell rfl,?_⟩
 refine⟨_,fun u hu=>((uM.at 1 rfl).aW hu (fun h=>by (simp only [mem_cons,not_mem_nil,or_false]at h;rcases h with h;exact uM.neq 1 2 rfl rfl (by decide) h))).cell rfl,?_⟩;refine Ad (h _ aw (o.mo hm nO (.tail _ (.head _))) _ _ (Mem.wV 2 rfl) (o.at 2 rfl) (Dq (⟨l,(⟨pC,pR,pM,pN⟩:Bn)⟩:Ap) ⟨xG,(f8.st (bg.trans dW))⟩ ⟨xH,(f9.st (bg.trans dW))⟩ ⟨xI,(xJ.st (bg.trans dW))⟩ ⟨FO,(FP.st (bg.trans dW))⟩)) ?_;rintro _ aJ ⟨x3,r,h,⟨zH,uN,rfl,Bq8,f15⟩,⟨nP,bx,f16⟩,df⟩;obtain⟨eT,o⟩:=o.dC 2 df bx rfl;obtain⟨zJ,uO,lx,kx,ly,ky,lX,kS,rfl,⟨Bq9,f17⟩,⟨Bra,f18⟩,⟨Brb,f19⟩,⟨Brc,f20⟩⟩:=Cy f16;refine⟨_,_,_,rfl,?_⟩;refine⟨(Ao.mono df (by simp)),?_⟩;intro b6 aQ lP jR;have e9:=(bg.trans dW).trans eT;have pQ:El (nL Cc) (ms [.box b1 [.slice a5 v2.length c5],.box b [.pointer (some ⟨ub,0,none⟩)],.box ub [.slice zJ r.l.length uO,.slice lx r.p.cH.length kx,.slice ly r.p.ck.length ky,.q r.p.main,.slice lX r.p.A7.length kS]] m) aJ ([v2,x3]:List (List Ay)) ([.slice a5 v2.length c5,.slice zH x3.length uN]:List Value):=(El.cons (cs:=[.slice a5 v2.length c5]) ⟨_,_,rfl,o0,(f7.st e9)⟩ (El.cons (cs:=[.slice zH x3.length uN]) ⟨_,_,rfl,Bq8,f15⟩ (El.nil _ _ _)))
 have je:=o.xL lP jR 1 2;have o:=o.lit lP jR 1 2 (by decide) rfl;have Brd:=(o.rowAt 0 rfl).cap;have fy:=o.xX 0;have f21:=o.freeze (c:=(nL Cc)) (l:=([v2,x3]:List (List Ay))) 0 rfl (o.wX 0 rfl 3 rfl (by decide)) (pQ.st (je.trans fy));have o:=o.erase 0;refine Ad (h _ aQ (o.mo hm nO (.tail _ (.head _))) _ _ Brd f21) ?_;rintro _ aX ⟨x4,h,⟨nX,mX,rfl,Bre,f22⟩,fm⟩;obtain⟨ko,o⟩:=o.dE fm;refine⟨_,_,_,rfl,?_⟩;refine⟨o.wr 0 rfl rfl,fun a_ gR=> ?_⟩;obtain⟨iY,o⟩:=o.dS 0 gR rfl;obtain⟨hk,o⟩:=o.uC;have h_:=((((dW.trans eT).trans je).trans fy).trans ko).trans iY;have iz:=((je.trans fy).trans ko).trans iY;have iI:=((((((ai.trans bg).trans dW).trans eT).trans je).trans fy).trans ko).trans iY;exact⟨_,⟨hk.kp.all,fun k hk=>h_.sub k hk⟩,x4,r.l,r.p.cH,r.p.ck,r.p.main,r.p.A7,nX,mX,zJ,uO,lx,kx,ly,ky,lX,kS,rfl,h,⟨Bre,(f22.st iY)⟩,⟨Bq9,(f17.st iz)⟩,⟨Bra,(f18.st iz)⟩,⟨Brb,(f19.st iz)⟩,⟨Brc,(f20.st iz)⟩,o,iI⟩;intro _ _ _ _ _ hx;exact hx.elim;rintro _ aN w6 D ⟨v2,l,pC,pR,pM,pN,a5,c5,a6,c6,a7,c7,a8,c8,a9,c9,rfl,h,⟨o0,f7⟩,⟨xG,f8⟩,⟨xH,f9⟩,⟨xI,xJ⟩,⟨FO,FP⟩,o,ai⟩ hG hD iG;have h:=hd v2 l pC pR pM pN h;have o:=o.grow hG (fun f hf=>by rw [mem_singleton.1 hf];exact hle) cz;have bg:=Step.grow (ms [.box b1 [.slice a5 v2.length c5],.box b [.pointer (some ⟨ub,0,none⟩)],.box ub [.slice a6 l.length c6,.slice a7 pC.length c7,.slice a8 pR.length c8,.q pM,.slice a9 pN.length c9]] m) hG;have o:=o.mark iG hD hle cz;intro w7 gu;obtain⟨bQ,o⟩:=o.dD gu;have ox:=o;refine⟨fun u=>Ao [] w7 u,Ao.refl _ _,?_⟩;refine⟨_,_,_,fun u hu=>((ox.at 0 rfl).aW hu (by simp)).cell rfl,?_⟩;refine⟨_,fun u hu=>((ox.at 1 rfl).aW hu (by simp)).cell rfl,?_⟩;refine⟨_,_,_,fun u hu=>((ox.at 2 rfl).aW hu (by simp)).cell rfl,?_⟩;obtain⟨hi,h⟩:=h;obtain⟨p,x1,kj,hp,he,hc,hr⟩:=(f8.st (bg.trans bQ)).elem hi;obtain rfl:=As hr;have h:=h x1 he;refine⟨hi,Ae hp ?_⟩;refine⟨_,fun u hu=>Ac.head (Qa.held hc hu (by simp)),?_⟩;intro b4 w8 jB fg;have jx:El Cc (ms [.box b1 [.slice a5 v2.length c5],.box b [.pointer (some ⟨ub,0,none⟩)],.box ub [.slice a6 l.length c6,.slice a7 pC.length c7,.slice a8 pR.length c8,.q pM,.slice a9 pN.length c9]] m) w7 [(⟨5,x1.op,0⟩:Ay)] ([.q 5,.q x1.op,.q 0]:List Value):=(El.cons (cs:=[.q 5,.q x1.op,.q 0]) (F7 (⟨5,x1.op,0⟩:Ay)) (El.nil _ _ _))
 have cw:=o.xL jB fg 3 1;have o:=o.lit jB fg 3 1 (by decide) rfl;refine⟨((Bd fg).mono (by simp)),?_⟩;have Brf:=(o.rowAt 0 rfl).cap;have cM:=o.xX 0;have f12:=o.freeze (c:=Cc) (l:=[(⟨5,x1.op,0⟩:Ay)]) 0 rfl (o.wX 0 rfl 3 rfl (by decide)) (jx.st (cw.trans cM));have o:=o.erase 0;intro b5 w9 jA ff;have lR:=((bg.trans bQ).trans cw).trans cM;have l_:El (nL Cc) (ms [.box b1 [.slice a5 v2.length c5],.box b [.pointer (some ⟨ub,0,none⟩)],.box ub [.slice a6 l.length c6,.slice a7 pC.length c7,.slice a8 pR.length c8,.q pM,.slice a9 pN.length c9]] m) w8 ([v2,[(⟨5,x1.op,0⟩:Ay)]]:List (List Ay)) ([.slice a5 v2.length c5,.slice (some ⟨b4,0,none⟩) 1 1]:List Value):=(El.cons (cs:=[.slice a5 v2.length c5]) ⟨_,_,rfl,o0,(f7.st lR)⟩ (El.cons (cs:=[.slice (some ⟨b4,0,none⟩) 1 1]) ⟨_,_,rfl,Brf,f12⟩ (El.nil _ _ _)))
 have cR:=o.xL jA ff 1 2;have o:=o.lit jA ff 1 2 (by decide) rfl;have Brg:=(o.rowAt 0 rfl).cap;have ef:=o.xX 0;have f13:=o.freeze (c:=(nL Cc)) (l:=([v2,[(⟨5,x1.op,0⟩:Ay)]]:List (List Ay))) 0 rfl (o.wX 0 rfl 3 rfl (by decide)) (l_.st (cR.trans ef));have o:=o.erase 0;refine Ad (h _ w9 (o.mp hm nO) _ _ Brg f13) ?_;rintro _ ak ⟨x2,h,⟨r6,pV,rfl,Brh,f14⟩,cU⟩;obtain⟨d8,o⟩:=o.dE cU;refine⟨_,_,_,rfl,?_⟩;refine⟨o.marks.1,?_⟩;exact⟨x2,(⟨l,(⟨pC,pR,pM,pN⟩:Bn)⟩:Ap),h,⟨_,_,rfl,Brh,(f14.st (o.uD.trans Mem.d4))⟩,⟨_,o.qG 2 rfl,(Dq (⟨l,(⟨pC,pR,pM,pN⟩:Bn)⟩:Ap) ⟨xG,(f8.st (bg.trans (bQ.trans (cw.trans (cM.trans (cR.trans (ef.trans (d8.trans (o.uD.trans Mem.d4)))))))))⟩ ⟨xH,(f9.st (bg.trans (bQ.trans (cw.trans (cM.trans (cR.trans (ef.trans (d8.trans (o.uD.trans Mem.d4)))))))))⟩ ⟨xI,(xJ.st (bg.trans (bQ.trans (cw.trans (cM.trans (cR.trans (ef.trans (d8.trans (o.uD.trans Mem.d4)))))))))⟩ ⟨FO,(FP.st (bg.trans (bQ.trans (cw.trans (cM.trans (cR.trans (ef.trans (d8.trans (o.uD.trans Mem.d4)))))))))⟩)⟩,o.qF⟩
def Ri (u:Ap) (i:Int) (K:(List Ay)->Prop):Prop:=((0:Int)<=i/\i<(u.l.length:Int))/\∀x,u.l[i.toNat]? =some x->cond (x.op==1) (((0:Int)<=i/\i<(u.l.length:Int))/\∀x1,u.l[i.toNat]? =some x1->K [(⟨2,x1.n,0⟩:Ay)]) (((0:Int)<=i/\i<(u.p.A7.length:Int))/\∀x2,u.p.A7[i.toNat]? =some x2->K [(⟨3,x2,0⟩:Ay)])
theorem Jf (u:Ap) (i:Int) (K:(List Ay)->Prop) (h:Ri u i K):Lx u i K:=by
 intro m w hm ub e8 iB jX jY;obtain⟨a,c,a1,c1,a2,c2,a3,c3,rfl,⟨le,f⟩,⟨gp,f1⟩,⟨ia,f2⟩,⟨kz,f3⟩⟩:=Cy jY;have o:=Mem.recv hm.lt iB jX;have st:=Mem.wW (w:=w) iB jX;have nO:∀b∈[ub],b∈m:=fun b hb=>(mem_singleton.1 hb)▸iB
 refine Sr ub i _ _ ?_;refine⟨_,_,_,(o.at 0 rfl).cell rfl,?_⟩;obtain⟨hi,h⟩:=h;obtain⟨p,x,cs,hp,he,hc,hr⟩:=(f.st st).elem hi;obtain rfl:=As hr;have h:=h x he;refine⟨hi,Ae hp ?_⟩;refine⟨_,(Ac.head hc.2),?_⟩;refine Ab (fun h=> ?_) (fun h=> ?_) h;refine⟨_,_,_,(o.at 0 rfl).cell rfl,?_⟩;obtain⟨cT,h⟩:=h;obtain⟨p1,x1,fl,eG,eO,cE,ek⟩:=(f.st st).elem cT;obtain rfl:=As ek;have h:=h x1 eO;refine⟨cT,Ae eG ?_⟩;refine⟨_,cE.2 2 (le_of_ble_eq_true rfl),?_⟩;intro b w1 hb aP;have el:El Cc (ms [.box ub [.slice a u.l.length c,.slice a1 u.p.cH.length c1,.slice a2 u.p.ck.length c2,.q u.p.main,.slice a3 u.p.A7.length c3]] m) w [(⟨2,x1.n,0⟩:Ay)] ([.q 2,.q x1.n,.q 0]:List Value):=(El.cons (cs:=[.q 2,.q x1.n,.q 0]) (F7 (⟨2,x1.n,0⟩:Ay)) (El.nil _ _ _))
 have au:=o.xL hb aP 3 1;have o:=o.lit hb aP 3 1 (by decide) rfl;have nZ:=(o.rowAt 0 rfl).cap;have ay:=o.xX 0;have f4:=o.freeze (c:=Cc) (l:=[(⟨2,x1.n,0⟩:Ay)]) 0 rfl (o.wX 0 rfl 1 rfl (by decide)) (el.st (au.trans ay));have o:=o.erase 0;exact⟨[(⟨2,x1.n,0⟩:Ay)],h,⟨_,_,rfl,nZ,(f4.st Mem.d4)⟩,o.at 0 rfl,o.done⟩;refine⟨_,_,_,(o.at 0 rfl).cell rfl,?_⟩;obtain⟨ec,h⟩:=h;obtain⟨p2,x2,kj,gq,fW,cr,du⟩:=(f3.st st).elem ec;obtain rfl:=du;have h:=h x2 fW;refine⟨ec,Ae gq ?_⟩;refine⟨_,(Ac.head cr.2),?_⟩;intro b1 w2 bI bR;have c_:El Cc (ms [.box ub [.slice a u.l.length c,.slice a1 u.p.cH.length c1,.slice a2 u.p.ck.length c2,.q u.p.main,.slice a3 u.p.A7.length c3]] m) w [(⟨3,x2,0⟩:Ay)] ([.q 3,.q x2,.q 0]:List Value):=(El.cons (cs:=[.q 3,.q x2,.q 0]) (F7 (⟨3,x2,0⟩:Ay)) (El.nil _ _ _))
 have aL:=o.xL bI bR 3 1;have o:=o.lit bI bR 3 1 (by decide) rfl;have o0:=(o.rowAt 0 rfl).cap;have ai:=o.xX 0;have f5:=o.freeze (c:=Cc) (l:=[(⟨3,x2,0⟩:Ay)]) 0 rfl (o.wX 0 rfl 1 rfl (by decide)) (c_.st (aL.trans ai));have o:=o.erase 0;exact⟨[(⟨3,x2,0⟩:Ay)],h,⟨_,_,rfl,o0,(f5.st Mem.d4)⟩,o.at 0 rfl,o.done⟩
def Xp (l:List Ag) (p:Bn) (i:Int) (K:Int->Prop):Prop:=((0:Int)<=i/\i<(p.A7.length:Int))/\∀x,p.A7[i.toNat]? =some x->((0:Int)<=x/\x<(p.cH.length:Int))/\∀x1,p.cH[x.toNat]? =some x1->((0:Int)<=i/\i<(l.length:Int))/\∀x2,l[i.toNat]? =some x2->cond (!((x2.kids==1)==(decide (x1.size>0)))) (K 14) (Q8 l i 0 (fun k=>∃(J:Bool->Prop),(cond (decide (k>=0)) (((0:Int)<=k/\k<(l.length:Int))/\∀x4,l[k.toNat]? =some x4->cond (x4.op==1) (((0:Int)<=k/\k<(l.length:Int))/\∀x5,l[k.toNat]? =some x5->J (decide (x5.n>=x1.size))) (J false)) (J false))/\∀(x3:Bool),J x3->cond (x3) (K 6) (K 0)))
theorem U7 (l:List Ag) (p:Bn) (i:Int) (K:Int->Prop) (h:Xp l p i K):Qn l p i K:=by
 intro m w hm lA lC bk aO iy tu;obtain⟨a,c,a1,c1,a2,c2,rfl,⟨le,f⟩,⟨gp,f1⟩,⟨ia,f2⟩⟩:=Ge tu;have o:=Mem.start hm.lt;refine Y4 lA l.length lC _ _ _ _ _ _ _ _ _ _ i _ _ ?_;intro b w1 hb aP;obtain⟨st,o⟩:=o.dB hb aP;intro w2 bR;obtain⟨au,o⟩:=o.dD bR;refine⟨_,_,_,(o.at 0 rfl).cell rfl,?_⟩;refine⟨_,_,_,(o.at 0 rfl).cell rfl,?_⟩;obtain⟨hi,h⟩:=h;obtain⟨p1,x,cs,hp,he,hc,hr⟩:=(f2.st (st.trans au)).elem hi;obtain rfl:=hr;have h:=h x he;refine⟨hi,Ae hp ?_⟩;refine⟨_,(Ac.head hc.2),?_⟩;obtain⟨cT,h⟩:=h;obtain⟨p2,x1,fl,eG,eO,cE,ek⟩:=(f.st (st.trans au)).elem cT;obtain rfl:=PE ek;have h:=h x1 eO;refine⟨cT,Ae eG ?_⟩;refine⟨_,cE.2 2 (le_of_ble_eq_true rfl),?_⟩;obtain⟨ec,h⟩:=h;obtain⟨p3,x2,kj,gq,fW,cr,du⟩:=(aO.st (st.trans au)).elem ec;obtain rfl:=As du;have h:=h x2 fW;refine⟨ec,Ae gq ?_⟩;refine⟨_,cr.2 3 (le_of_ble_eq_true rfl),?_⟩;refine Ab (fun h=> ?_) (fun h=> ?_) h;exact⟨14,h,rfl,o.done⟩;refine Ad (h _ w2 (o.mn hm) _ _ bk (aO.st (st.trans au))) ?_;rintro _ w3 ⟨k,h,rfl,ke⟩;obtain⟨ay,o⟩:=o.dE ke;refine⟨_,rfl,?_⟩;obtain⟨J,h,h2⟩:=h;refine⟨fun x3 w4=>J x3/\MT w m w3 w4 [.box b [.slice a p.cH.length c,.slice a1 p.ck.length c1,.q p.main,.slice a2 p.A7.length c2]],?_,?_⟩;refine Ab (fun h=> ?_) (fun h=> ?_) h;obtain⟨hU,h⟩:=h;have sT:=(st.trans au).trans ay;obtain⟨p4,x4,nP,kM,lj,fX,iE⟩:=(aO.st sT).elem hU;obtain rfl:=As iE;have h:=h x4 lj;refine⟨hU,Ae kM ?_⟩;refine⟨_,(Ac.head fX.2),?_⟩;refine Ab (fun h=> ?_) (fun h=> ?_) h;obtain⟨lr,h⟩:=h;obtain⟨p5,x5,rV,oS,oT,jV,np⟩:=(aO.st sT).elem lr;obtain rfl:=As np;have h:=h x5 oT;refine⟨lr,Ae oS ?_⟩;refine⟨_,jV.2 2 (le_of_ble_eq_true rfl),?_⟩;exact⟨h,o,Step.refl _ _⟩;exact⟨h,o,Step.refl _ _⟩;exact⟨h,o,Step.refl _ _⟩;rintro _ x3 w4 ⟨hJ,o,aL⟩;have h:=h2 x3 hJ;refine Ab (fun h=> ?_) (fun h=> ?_) h;exact⟨6,h,rfl,o.done⟩;exact⟨0,h,rfl,o.done⟩
def Zy (l:List Ag) (p:Bn) (i:Int) (K:Int->Prop):Prop:=((0:Int)<=i/\i<(l.length:Int))/\∀x,l[i.toNat]? =some x->((0:Int)<=i/\i<(p.A7.length:Int))/\∀x1,p.A7[i.toNat]? =some x1->((0:Int)<=x1/\x1<(p.ck.length:Int))/\∀x2,p.ck[x1.toNat]? =some x2->cond (x.kids !=x2.params) (K 14) (K 0)
theorem Xq (l:List Ag) (p:Bn) (i:Int) (K:Int->Prop) (h:Zy l p i K):Sy l p i K:=by
 intro m w hm lA lC bk aO iy tu;obtain⟨a,c,a1,c1,a2,c2,rfl,⟨le,f⟩,⟨gp,f1⟩,⟨ia,f2⟩⟩:=Ge tu;have o:=Mem.start hm.lt;refine Abt lA l.length lC _ _ _ _ _ _ _ _ _ _ i _ _ ?_;intro b w1 hb aP;obtain⟨st,o⟩:=o.dB hb aP;intro w2 bR;obtain⟨au,o⟩:=o.dD bR;obtain⟨hi,h⟩:=h;obtain⟨p1,x,cs,hp,he,hc,hr⟩:=(aO.st (st.trans au)).elem hi;obtain rfl:=As hr;have h:=h x he;refine⟨hi,Ae hp ?_⟩;refine⟨_,hc.2 3 (le_of_ble_eq_true rfl),?_⟩;refine⟨_,_,_,(o.at 0 rfl).cell rfl,?_⟩;refine⟨_,_,_,(o.at 0 rfl).cell rfl,?_⟩;obtain⟨cT,h⟩:=h;obtain⟨p2,x1,fl,eG,eO,cE,ek⟩:=(f2.st (st.trans au)).elem cT;obtain rfl:=ek;have h:=h x1 eO;refine⟨cT,Ae eG ?_⟩;refine⟨_,(Ac.head cE.2),?_⟩;obtain⟨ec,h⟩:=h;obtain⟨p3,x2,kj,gq,fW,cr,du⟩:=(f1.st (st.trans au)).elem ec;obtain⟨a3,c3,rfl,⟨kz,f3⟩⟩:=Sw du;have h:=h x2 fW;refine⟨ec,Ae gq ?_⟩;refine⟨_,cr.2 2 (le_of_ble_eq_true rfl),?_⟩;refine Ab (fun h=> ?_) (fun h=> ?_) h;exact⟨14,h,rfl,o.done⟩;exact⟨0,h,rfl,o.done⟩
def U8 (xq:Ay) (K:Int->Bool->Prop):Prop:=∃(J:Bool->Prop),(cond (xq.op==6) (J (xq.op==6)) (cond (xq.op==7) (J (xq.op==7)) (cond (xq.op==8) (J (xq.op==8)) (cond (xq.op==20) (J (xq.op==20)) (cond (xq.op==21) (J (xq.op==21)) (J (xq.op==22)))))))/\∀(x:Bool),J x->cond (x) (K xq.a true) (cond (xq.op==19) (K xq.b true) (K 0 false))
theorem Tb (xq:Ay) (K:Int->Bool->Prop) (h:U8 xq K):Gx xq K:=by
 intro m w hm dA gn;obtain rfl:=Ht gn;have o:=Mem.start hm.lt;refine Xb _ _ _ _ _ ?_;intro b w1 hb aP;obtain⟨st,o⟩:=o.dB hb aP;refine⟨_,(o.at 0 rfl).cell rfl,?_⟩;obtain⟨J,h,h2⟩:=h;refine⟨fun x w2=>J x/\MT w m w1 w2 [.box b [.q xq.op,.q xq.a,.q xq.b]],?_,?_⟩;refine Ab (fun h=> ?_) (fun h=> ?_) h;exact⟨h,o,Step.refl _ _⟩;refine Ab (fun h=> ?_) (fun h=> ?_) h;exact⟨h,o,Step.refl _ _⟩;refine Ab (fun h=> ?_) (fun h=> ?_) h;exact⟨h,o,Step.refl _ _⟩;refine Ab (fun h=> ?_) (fun h=> ?_) h;exact⟨h,o,Step.refl _ _⟩;refine Ab (fun h=> ?_) (fun h=> ?_) h;exact⟨h,o,Step.refl _ _⟩;exact⟨h,o,Step.refl _ _⟩;rintro _ x w2 ⟨hJ,o,au⟩;have h:=h2 x hJ;refine Ab (fun h=> ?_) (fun h=> ?_) h;refine⟨_,(o.at 0 rfl).cell rfl,?_⟩;exact⟨xq.a,true,h,rfl,o.done⟩;refine Ab (fun h=> ?_) (fun h=> ?_) h;refine⟨_,(o.at 0 rfl).cell rfl,?_⟩;exact⟨xq.b,true,h,rfl,o.done⟩;exact⟨0,false,h,rfl,o.done⟩
def Acq (xq:Ay) (aM:Int) (K:Ay->Prop):Prop:=Gx xq (fun r r1=>cond (!r1) (K xq) (∃(J:Int->Int->Int->Prop),(cond (xq.op==19) (J xq.op xq.a aM) (J xq.op aM xq.b))/\∀(Op:Int) (A:Int) (B:Int),J Op A B->K (⟨Op,A,B⟩:Ay)))
theorem Zz (xq:Ay) (aM:Int) (K:Ay->Prop) (h:Acq xq aM K):Oo xq aM K:=by
 intro m w hm dA gn;obtain rfl:=Ht gn;have o:=Mem.start hm.lt;refine Afk _ _ _ aM _ _ ?_;intro b w1 hb aP;obtain⟨st,o⟩:=o.dB hb aP;intro b1 w2 bI bR;obtain⟨au,o⟩:=o.dB bI bR;refine⟨_,_,_,(o.at 1 rfl).whole,?_⟩;refine Ad (h _ w2 (o.mn hm) _ (F7 xq)) ?_;rintro _ w3 ⟨r,r1,h,rfl,ke⟩;obtain⟨ay,o⟩:=o.dE ke;refine⟨_,_,rfl,?_⟩;refine Ab (fun h=> ?_) (fun h=> ?_) h;refine⟨_,_,_,(o.at 1 rfl).whole,?_⟩;refine⟨o.wr 0 rfl rfl,fun w4 dt=> ?_⟩;obtain⟨aL,o⟩:=o.bj 0 dt rfl;refine⟨_,_,_,(o.at 0 rfl).whole,?_⟩;exact⟨xq,h,⟨_,rfl,(F7 xq)⟩,o.done⟩;obtain⟨J,h,h2⟩:=h;refine⟨fun w5=>∃(Op:Int) (A:Int) (B:Int),J Op A B/\MS w m w3 [.box b1 [.q 0,.q 0,.q 0],.box b [.q xq.op,.q xq.a,.q xq.b]] w5 [.box b1 [.q 0,.q 0,.q 0],.box b [.q Op,.q A,.q B]],?_,?_⟩;refine⟨_,(o.at 1 rfl).cell rfl,?_⟩;refine Ab (fun h=> ?_) (fun h=> ?_) h;refine⟨o.wr 1 rfl rfl,fun w6 eK=> ?_⟩;obtain⟨bg,o⟩:=o.dS 1 eK rfl;exact⟨xq.op,xq.a,aM,h,o,bg⟩;refine⟨o.wr 1 rfl rfl,fun w7 gu=> ?_⟩;obtain⟨bQ,o⟩:=o.dS 1 gu rfl;exact⟨xq.op,aM,xq.b,h,o,bQ⟩;rintro _ w5 ⟨Op,A,B,hJ,o,ai⟩;have h:=h2 Op A B hJ;refine⟨_,_,_,(o.at 1 rfl).whole,?_⟩;refine⟨o.wr 0 rfl rfl,fun w8 fg=> ?_⟩;obtain⟨cw,o⟩:=o.bj 0 fg rfl;refine⟨_,_,_,(o.at 0 rfl).whole,?_⟩;exact⟨(⟨Op,A,B⟩:Ay),h,⟨_,rfl,(F7 (⟨Op,A,B⟩:Ay))⟩,o.done⟩
def Z0 (l:List Ay) (tf:Int) (K:(List Ay)->Prop):Prop:=Cp l (fun out=>∃(I:Int->(List Ay)->Nat->Prop),(∃n,I 0 out n)/\∀(x:Int) (l1:List Ay) (n:Nat),I x l1 n->cond (decide (x<(out.length:Int))) (∃(J:(List Ay)->Prop),(((0:Int)<=x/\x<(out.length:Int))/\∀x1,l1[x.toNat]? =some x1->Gx x1 (fun r r1=>cond (r1) (Oo x1 (IntKind.i64.wrap (r+tf)) (fun x2=>((0:Int)<=x/\x<(out.length:Int))/\∀x3,l1[x.toNat]? =some x3->J (l1.set x.toNat x2))) (J l1)))/\∀(l2:List Ay),J l2->∃n1,n1<n/\I (IntKind.i64.wrap (x+1)) l2 n1) (K l1))
theorem Xs (l:List Ay) (tf:Int) (K:(List Ay)->Prop) (h:Z0 l tf K):My l tf K:=by
 intro m w hm lA lC bk aO;have o:=Mem.start hm.lt;refine Abv lA l.length lC tf _ _ ?_;refine Ad (h _ w (o.mn hm) _ _ bk aO) ?_;rintro _ w1 ⟨out,h,⟨a,c,xs,rfl,hr,el,fr⟩,ke⟩;have st:=Mem.OO (ps:=[]) (m0:=m) ke (.row 52 3 a out.length c xs) fr;have o:=o.OM ke (.row 52 3 a out.length c xs) fr hr;refine⟨_,_,_,rfl,?_⟩;obtain⟨I,⟨n2,h⟩,h2⟩:=h;obtain⟨Z,hZ⟩:∃Z:Int->World->Nat->Prop,Z=fun x w2 n=>∃(l1:List Ay) (eS:List Value),I x l1 n/\(out.length=l1.length/\El Cc (ms [.row 52 3 a out.length c eS] m) w2 l1 eS)/\MS w m w1 [.row 52 3 a out.length c xs] w2 [.row 52 3 a out.length c eS]:=⟨_,rfl⟩
 refine⟨fun x w2=>∃n,Z x w2 n,fun x w2=>cP (Z x w2),⟨n2,?_⟩,?_⟩;rw [hZ];exact⟨out,xs,h,⟨rfl,el⟩,o,Step.refl _ _⟩;intro _ x w2 aU;obtain⟨n,bO⟩:∃n,n=cP (Z x w2):=⟨_,rfl⟩
 have aU:=Bl aU;rw [←bO,hZ]at aU;obtain⟨l1,eS,h,⟨ln,c_⟩,o,au⟩:=aU;have h:=h2 x l1 n h;refine Ab (fun h=> ?_) (fun h=> ?_) h;obtain⟨J,h,h2⟩:=h;refine⟨fun w3=>∃(l2:List Ay) (jO:List Value),J l2/\(out.length=l2.length/\El Cc (ms [.row 52 3 a out.length c jO] m) w3 l2 jO)/\MS w m w2 [.row 52 3 a out.length c eS] w3 [.row 52 3 a out.length c jO],?_,?_⟩;obtain⟨hi,h⟩:=h;obtain⟨p,x1,cs,hp,he,hc,ek⟩:=OV (o.rowAt 0 rfl) c_ hi;obtain rfl:=Ht ek;have h:=h x1 he;refine⟨hi,Ae hp ?_⟩;refine⟨_,_,_,hc.2,?_⟩;intro b w4 hb dt;obtain⟨aL,o⟩:=o.dB hb dt;refine⟨o.wr 0 rfl rfl,fun w5 fe=> ?_⟩;obtain⟨ai,o⟩:=o.bj 0 fe rfl;refine⟨_,_,_,(o.at 0 rfl).whole,?_⟩;refine Ad (h _ w5 (o.mn hm) _ (F7 x1)) ?_;rintro _ w6 ⟨r,r1,h,rfl,cU⟩;obtain⟨bg,o⟩:=o.dE cU;refine⟨_,_,rfl,?_⟩;refine Ab (fun h=> ?_) (fun h=> ?_) h;refine⟨_,_,_,(o.at 0 rfl).whole,?_⟩;refine Ad (h _ w6 (o.mn hm) _ (F7 x1)) ?_;rintro _ w7 ⟨x2,h,⟨fl,rfl,f⟩,df⟩;obtain⟨bQ,o⟩:=o.dE df;obtain rfl:=Ht f;refine⟨_,_,_,rfl,?_⟩;obtain⟨cT,h⟩:=h;have sT:=((aL.trans ai).trans bg).trans bQ;obtain⟨p1,x3,kj,eG,eO,cE,du⟩:=OV (o.rowAt 1 rfl) (c_.st sT) cT;obtain rfl:=Ht du;have h:=h x3 eO;refine⟨cT,Ae eG ?_⟩;have hq:=Arc (i:=x.toNat) (o.rowAt 1 rfl) (c_.st sT) eG (by have:=cT;first|omega|(simp at this⊢;omega)) [.q x2.op,.q x2.a,.q x2.b] rfl;refine⟨hq.1,fun w8 fg=> ?_⟩;obtain⟨iH,iE,hg,qJ⟩:=hq.2 _ fg;have l_:=qJ x2 (F7 x2);have cw:=o.xA 1 rfl iE hg (.inl rfl);have o:=o.app 1 rfl iE hg (.inl rfl);have jP:out.length=(l1.set x.toNat x2).length:=Px (o.rowAt 1 rfl) (l_.st cw);obtain⟨cM,o⟩:=o.dX 0;have cN:=(sT.trans cw).trans cM;exact⟨(l1.set x.toNat x2),iH,h,⟨jP,(l_.st (cw.trans cM))⟩,o,cN⟩;have cR:=o.xX 0;have o:=o.erase 0;have e9:=((aL.trans ai).trans bg).trans cR;exact⟨l1,eS,h,⟨ln,(c_.st e9)⟩,o,e9⟩;rintro _ w3 ⟨l2,jO,hJ,⟨jc,jx⟩,o,ay⟩;have h:=h2 l2 hJ;obtain⟨n1,hl,h⟩:=h;exact Be bO (show Z _ w3 n1 from(by rw [hZ];exact⟨l2,jO,h,⟨jc,jx⟩,o,(au.trans ay)⟩)) hl;rw [ln]at o⊢;have le:=(o.rowAt 0 rfl).cap;have ef:=o.xX 0;have f1:=o.freeze (c:=Cc) (l:=l1) 0 rfl (fun b hb=>by simp at hb) (c_.st ef);have o:=o.erase 0;exact⟨l1,h,⟨_,_,rfl,le,(f1.st (Mem.d4 (ps:=[]) (m0:=m)))⟩,o.done⟩
def Xt (pieces:List (List Ay)) (K:(List Ay)->Prop):Prop:=∃(I:(List Ay)->Int->Nat->Prop),(∃n,I [] 0 n)/\∀(out:List Ay) (x:Int) (n:Nat),I out x n->cond (decide (x<(pieces.length:Int))) (((0:Int)<=x/\x<(pieces.length:Int))/\∀x1,pieces[x.toNat]? =some x1->My x1 (out.length:Int) (fun x2=>out.length+x2.length<2^32/\∃n1,n1<n/\I (out++x2) (IntKind.i64.wrap (x+1)) n1)) (K out)
theorem U9 (pieces:List (List Ay)) (K:(List Ay)->Prop) (h:Xt pieces K):Hm pieces K:=by
 intro m w hm zE zF Bnt Bj0;have o:=Mem.start hm.lt;refine Y6 zE pieces.length zF _ _ ?_;have st:=o.xN 52 3;have o:=o.mM 52 3;obtain⟨I,⟨n2,h⟩,h2⟩:=h;obtain⟨Z,hZ⟩:∃Z:(Option Addr)->Nat->Nat->Int->World->Nat->Prop,Z=fun ou mg kn x w1 n=>∃(out:List Ay) (xs:List Value),I out x n/\El Cc (ms [.row 52 3 ou out.length kn xs] m) w1 out xs/\mg=out.length/\MS w m w [.row 52 3 none 0 0 []] w1 [.row 52 3 ou out.length kn xs]:=⟨_,rfl⟩
 refine⟨fun ou mg kn x w1=>∃n,Z ou mg kn x w1 n,fun ou mg kn x w1=>cP (Z ou mg kn x w1),⟨n2,?_⟩,?_⟩;rw [hZ];exact⟨[],[],h,(El.nil _ _ _),rfl,o,Step.refl _ _⟩;intro _ ou mg kn x w1 aU;obtain⟨n,bO⟩:∃n,n=cP (Z ou mg kn x w1):=⟨_,rfl⟩
 have aU:=Bl aU;rw [←bO,hZ]at aU;obtain⟨out,xs,h,el,rfl,o,au⟩:=aU;have h:=h2 out x n h;refine Ab (fun h=> ?_) (fun h=> ?_) h;obtain⟨hi,h⟩:=h;obtain⟨p,x1,cs,hp,he,hc,hr⟩:=(Bj0.st (st.trans au)).elem hi;obtain⟨a,c,rfl,le,f⟩:=hr;have h:=h x1 he;refine⟨hi,Ae hp ?_⟩;refine⟨_,_,_,(Ac.head hc.2),?_⟩;refine Ad (h _ w1 (o.mn hm) _ _ le f) ?_;rintro _ w2 ⟨x2,h,⟨a1,c1,rfl,gp,f1⟩,ke⟩;obtain⟨ay,o⟩:=o.dE ke;refine⟨_,_,_,rfl,?_⟩;obtain⟨lt,h⟩:=h;obtain⟨eS,hx,c_⟩:=aF.cells f1;have jx:=((el.st ay)).app c_;refine Cj zD (o.rowAt 0 rfl) hx c_.len c_.one (by first|(simp;done)|simpa using lt) (by decide) (zero_le _) fun a2 c2 w3 ek hg dR=> ?_
 have ln:out.length+x2.length=(out++x2).length:=(by first|(simp;done)|(simp;omega))
 rw [ln]at ek⊢;refine⟨_,_,_,rfl,?_⟩;have aL:=o.xA 0 rfl ek hg dR;have o:=o.app 0 rfl ek hg dR;obtain⟨n1,hl,h⟩:=h;have sT:=(au.trans ay).trans aL;exact Be bO (show Z _ _ _ _ w3 n1 from(by rw [hZ];exact⟨(out++x2),(xs++eS),h,(jx.st aL),rfl,o,sT⟩)) hl;have ia:=(o.rowAt 0 rfl).cap;have ai:=o.xX 0;have f2:=o.freeze (c:=Cc) (l:=out) 0 rfl (fun b hb=>by simp at hb) (el.st ai);have o:=o.erase 0;exact⟨out,h,⟨_,_,rfl,ia,(f2.st (Mem.d4 (ps:=[]) (m0:=m)))⟩,o.done⟩
def Ga (sx:List Ay) (K:(List Ay)->Prop):Prop:=∀z:Bool,(z=true->sx=[])->cond (z) (K []) (0+sx.length<2^32/\K sx)
theorem F3 (sx:List Ay) (K:(List Ay)->Prop) (h:Ga sx K):Cp sx K:=by
 intro m w hm fQ mP PZ rU;have o:=Mem.start hm.lt;refine Gl fQ sx.length mP _ _ ?_;have h:=h (fQ.isNone) (aF.none rU);refine Ab (fun h=> ?_) (fun h=> ?_) h;have st:=o.xN 52 3;have o:=o.mM 52 3;exact⟨[],h,⟨_,_,_,rfl,o.rowAt 0 rfl,((El.nil _ _ _).st (o.OU 0 rfl)),(fun b hb=>(o.iw _ (mem_of_getElem? (i:=0) rfl) b hb).elim (fun h=>by simp at h) id)⟩,o.done⟩;intro b w1 hb aP;have el:El Cc (ms [] m) w [] ([]:List Value):=(El.nil _ _ _)
 have au:=o.xL hb aP 3 0;have o:=o.lit hb aP 3 0 (by decide) rfl;obtain⟨lt,h⟩:=h;obtain⟨xs,hx,c_⟩:=aF.cells (rU.st au);have jx:=((el.st au)).app c_;refine Cj zD (o.rowAt 0 rfl) hx c_.len c_.one (by first|(simp;done)|simpa using lt) (by decide) (zero_le _) fun a c w2 hr hg dR=> ?_
 have ln:0+sx.length=sx.length:=(by first|(simp;done)|(simp;omega))
 rw [ln]at hr⊢;refine⟨_,_,_,rfl,?_⟩;have ay:=o.xA 0 rfl hr hg dR;have o:=o.app 0 rfl hr hg dR;exact⟨sx,h,⟨_,_,_,rfl,o.rowAt 0 rfl,(jx.st (ay.trans (o.OU 0 rfl))),(fun b hb=>(o.iw _ (mem_of_getElem? (i:=0) rfl) b hb).elim (fun h=>by simp at h) id)⟩,o.done⟩
def Fu (sx:List Ag) (K:(List Ag)->Prop):Prop:=∀z:Bool,(z=true->sx=[])->cond (z) (K []) (0+sx.length<2^32/\K sx)
theorem Fk (sx:List Ag) (K:(List Ag)->Prop) (h:Fu sx K):Dc sx K:=by
 intro m w hm fQ mP PZ rU;have o:=Mem.start hm.lt;refine F0 fQ sx.length mP _ _ ?_;have h:=h (fQ.isNone) (aF.none rU);refine Ab (fun h=> ?_) (fun h=> ?_) h;exact⟨[],h,⟨_,_,rfl,(le_refl _),(aF.nil _ _ _ _)⟩,o.done⟩;intro b w1 hb aP;have el:El A8 (ms [] m) w [] ([]:List Value):=(El.nil _ _ _)
 have st:=o.xL hb aP 5 0;have o:=o.lit hb aP 5 0 (by decide) rfl;obtain⟨lt,h⟩:=h;obtain⟨xs,hx,c_⟩:=aF.cells (rU.st st);have jx:=((el.st st)).app c_;refine Cj Ay0 (o.rowAt 0 rfl) hx c_.len c_.one (by first|(simp;done)|simpa using lt) (by decide) (zero_le _) fun a c w2 hr hg dR=> ?_
 have ln:0+sx.length=sx.length:=(by first|(simp;done)|(simp;omega))
 rw [ln]at hr⊢;refine⟨_,_,_,rfl,?_⟩;have au:=o.xA 0 rfl hr hg dR;have o:=o.app 0 rfl hr hg dR;have le:=(o.rowAt 0 rfl).cap;have ay:=o.xX 0;have f:=o.freeze (c:=A8) (l:=sx) 0 rfl (fun b hb=>by simp at hb) (jx.st (au.trans ay));have o:=o.erase 0;exact⟨sx,h,⟨_,_,rfl,le,(f.st (Mem.d4 (ps:=[]) (m0:=m)))⟩,o.done⟩
def Tc (u:Ap) (i:Int) (K:Bool->Prop):Prop:=cond (decide (i>=0)) (cond (decide (i<(u.l.length:Int))) (((0:Int)<=i/\i<(u.l.length:Int))/\∀x,u.l[i.toNat]? =some x->cond (decide (x.op>=1)) (((0:Int)<=i/\i<(u.l.length:Int))/\∀x1,u.l[i.toNat]? =some x1->cond (decide (x1.op<=17)) (K true) (((0:Int)<=i/\i<(u.l.length:Int))/\∀x2,u.l[i.toNat]? =some x2->K (x2.op==33))) (((0:Int)<=i/\i<(u.l.length:Int))/\∀x3,u.l[i.toNat]? =some x3->K (x3.op==33))) (K false)) (K false)
theorem Rj (u:Ap) (i:Int) (K:Bool->Prop) (h:Tc u i K):Nm u i K:=by
 intro m w hm ub e8 iB jX jY;obtain⟨a,c,a1,c1,a2,c2,a3,c3,rfl,⟨le,f⟩,⟨gp,f1⟩,⟨ia,f2⟩,⟨kz,f3⟩⟩:=Cy jY;have o:=Mem.recv hm.lt iB jX;have st:=Mem.wW (w:=w) iB jX;have nO:∀b∈[ub],b∈m:=fun b hb=>(mem_singleton.1 hb)▸iB
 refine Uv ub i _ _ ?_;refine Ab (fun h=> ?_) (fun h=> ?_) h;refine⟨_,_,_,(o.at 0 rfl).cell rfl,?_⟩;refine Ab (fun h=> ?_) (fun h=> ?_) h;refine⟨_,_,_,(o.at 0 rfl).cell rfl,?_⟩;obtain⟨hi,h⟩:=h;obtain⟨p,x,cs,hp,he,hc,hr⟩:=(f.st st).elem hi;obtain rfl:=As hr;have h:=h x he;refine⟨hi,Ae hp ?_⟩;refine⟨_,(Ac.head hc.2),?_⟩;refine Ab (fun h=> ?_) (fun h=> ?_) h;refine⟨_,_,_,(o.at 0 rfl).cell rfl,?_⟩;obtain⟨cT,h⟩:=h;obtain⟨p1,x1,fl,eG,eO,cE,ek⟩:=(f.st st).elem cT;obtain rfl:=As ek;have h:=h x1 eO;refine⟨cT,Ae eG ?_⟩;refine⟨_,(Ac.head cE.2),?_⟩;refine Ab (fun h=> ?_) (fun h=> ?_) h;exact⟨true,h,rfl,o.at 0 rfl,o.done⟩;refine⟨_,_,_,(o.at 0 rfl).cell rfl,?_⟩;obtain⟨ec,h⟩:=h;obtain⟨p2,x2,kj,gq,fW,cr,du⟩:=(f.st st).elem ec;obtain rfl:=As du;have h:=h x2 fW;refine⟨ec,Ae gq ?_⟩;refine⟨_,(Ac.head cr.2),?_⟩;exact⟨(x2.op==33),h,rfl,o.at 0 rfl,o.done⟩;refine⟨_,_,_,(o.at 0 rfl).cell rfl,?_⟩;obtain⟨hU,h⟩:=h;obtain⟨p3,x3,nP,kM,lj,fX,iE⟩:=(f.st st).elem hU;obtain rfl:=As iE;have h:=h x3 lj;refine⟨hU,Ae kM ?_⟩;refine⟨_,(Ac.head fX.2),?_⟩;exact⟨(x3.op==33),h,rfl,o.at 0 rfl,o.done⟩;exact⟨false,h,rfl,o.at 0 rfl,o.done⟩;exact⟨false,h,rfl,o.at 0 rfl,o.done⟩
def Vb (v0:Int) (v1:List Ag) (xs:List (Int)):Prop:=∃(J1:Bool->(List (Int))->Bool->Prop),(cond (decide (v0<0)) (J1 true [] false) (J1 (decide (v0>=(v1.length:Int))) [] false))/\∀(x:Bool) (pre:List (Int)) (st:Bool),J1 x pre st->cond (x) ((st=false->pre=xs)) (st=false/\((0:Int)<=v0/\v0<(v1.length:Int))/\∀x1,v1[v0.toNat]? =some x1->∃(I:Int->Int->(List (Int))->Bool->Nat->Prop),(∃n,I (IntKind.i64.wrap (v0+1)) 0 pre false n)/\∀(aM:Int) (x2:Int) (mj:List (Int)) (ay:Bool) (n:Nat),I aM x2 mj ay n->cond (decide (x2<x1.kids)) (∃(J2:Bool->(List (Int))->Bool->Prop),(ay=false/\cond (decide (aM>=(v1.length:Int))) (J2 true mj false) (xs[mj.length]? =some aM/\(J2 false (mj++[aM]) false)/\(J2 true (mj++[aM]) true)))/\∀(x3:Bool) (mY:List (Int)) (ai:Bool),J2 x3 mY ai->cond (x3) ((ai=false->mY=xs)) (ai=false/\Q7 v1 aM (fun mf=>∃n1,n1<n/\I mf (IntKind.i64.wrap (x2+1)) mY false n1))) ((ay=false->mj=xs)))
theorem Z3 (v0:Int) (v1:List Ag) (xs:List (Int)) (h:Vb v0 v1 xs):Fb v0 v1 xs:=by
 intro m w hm b0 cQ zR f0 b1 fl c_ f1;obtain rfl:=f0;obtain⟨a,c,rfl,le,f⟩:=f1;intro l J Jx W hW hAJ hAX hY hG;have kw:=hW.Boo m;have i_:=kw.i_;have db:([]:List (Int))<+:xs:=List.nil_prefix;change Gh J Jx [] false W at hG;refine Y8 l b0 b1 _ _ ?_;obtain⟨J1,h,h2⟩:=h;refine⟨fun x w1=>∃(pre:List (Int)) (st:Bool),J1 x pre st/\pre<+:xs/\Gh J Jx pre st w1/\(st=false->Ao m w w1),?_,?_⟩
 ·refine⟨_,(Ac.head (zR.st i_).2),?_⟩;refine Ab (fun h=> ?_) (fun h=> ?_) h
  ·exact⟨[],false,h,db,hG,(fun _=>kw)⟩
  ·refine⟨_,(Ac.head (zR.st i_).2),?_⟩;refine⟨_,_,_,(Ac.head (c_.st i_).2),?_⟩;exact⟨[],false,h,db,hG,(fun _=>kw)⟩
 ·rintro _ x w1 ⟨pre,st,hJ,db,hG,xK⟩;have h:=h2 x pre st hJ;refine Ab (fun h=> ?_) (fun h=> ?_) h
  ·exact⟨EE _,ED hG db h⟩
  ·obtain⟨hs,h⟩:=h;rw [hs]at hG;have kw:=xK hs;have i_:=kw.i_;refine⟨_,(Ac.head (zR.st i_).2),?_⟩;refine⟨_,_,_,(Ac.head (c_.st i_).2),?_⟩;refine⟨_,(Ac.head (zR.st i_).2),?_⟩;obtain⟨hi,h⟩:=h;obtain⟨p,x1,cs,hp,he,hc,hr⟩:=(f.st i_).elem hi;obtain rfl:=As hr;have h:=h x1 he;refine⟨hi,Ae hp ?_⟩;refine⟨_,hc.2 3 (le_of_ble_eq_true rfl),?_⟩;obtain⟨I,⟨n2,h⟩,h2⟩:=h;obtain⟨Z,hZ⟩:∃Z:Int->Int->World->Nat->Prop,Z=fun aM x2 w2 n=>∃(mj:List (Int)) (ay:Bool),I aM x2 mj ay n/\mj<+:xs/\Gh J Jx mj ay w2/\(ay=false->Ao m w w2):=⟨_,rfl⟩
   refine⟨fun aM x2 w2=>∃n,Z aM x2 w2 n,fun aM x2 w2=>cP (Z aM x2 w2),⟨n2,?_⟩,?_⟩
   ·rw [hZ];exact⟨pre,false,h,db,hG,(fun _=>kw)⟩
   ·intro _ aM x2 w2 aU;obtain⟨n,bO⟩:∃n,n=cP (Z aM x2 w2):=⟨_,rfl⟩
    have aU:=Bl aU;rw [←bO,hZ]at aU;obtain⟨mj,ay,h,db,hG,xK⟩:=aU;have h:=h2 aM x2 mj ay n h;refine Ab (fun h=> ?_) (fun h=> ?_) h
    ·obtain⟨J2,h,h2⟩:=h;refine⟨fun x3 w3=>∃(mY:List (Int)) (ai:Bool),J2 x3 mY ai/\mY<+:xs/\Gh J Jx mY ai w3/\(ai=false->Ao m w w3),?_,?_⟩
     ·obtain⟨hs,h⟩:=h;rw [hs]at hG;have kw:=xK hs;have i_:=kw.i_;refine⟨_,_,_,(Ac.head (c_.st i_).2),?_⟩;refine Ab (fun h=> ?_) (fun h=> ?_) h
      ·exact⟨mj,false,h,db,hG,(fun _=>kw)⟩
      ·obtain⟨hx,h⟩:=h;have db:=Aiy db hx;refine J8.mono (hY _ _ _ hG db) (fun go w4 hb=> ?_);cases go
       ·have hG:Gh J Jx _ true w4:=hb;have h:=And.right h;exact⟨(mj++[aM]),true,h,db,hG,(fun h=>(by cases h))⟩
       ·have hG:Gh J Jx _ false w4:=hb.1;have kw:=kw.kpm hb.2;have i_:=kw.i_;have h:=h.1;exact⟨(mj++[aM]),false,h,db,hG,(fun _=>kw)⟩
     ·rintro _ x3 w3 ⟨mY,ai,hJ,db,hG,xK⟩;have h:=h2 x3 mY ai hJ;refine Ab (fun h=> ?_) (fun h=> ?_) h
      ·exact⟨EE _,ED hG db h⟩
      ·obtain⟨hs,h⟩:=h;rw [hs]at hG;have kw:=xK hs;have i_:=kw.i_;refine⟨_,_,_,(Ac.head (c_.st i_).2),?_⟩;refine Ad (h _ w3 (hm.aW kw) _ _ le (f.st i_)) ?_;rintro _ w5 ⟨mf,h,rfl,ke⟩;have kw:=kw.more ke;have hG:=Ayz hAJ hAX hG ke.by;have i_:=kw.i_;refine⟨_,rfl,?_⟩;obtain⟨n1,hl,h⟩:=h;exact Be bO (show Z _ _ w5 n1 from(by rw [hZ];exact⟨mY,false,h,db,hG,(fun _=>kw)⟩)) hl
    ·exact⟨EE _,ED hG db h⟩
def Kh (sx:List UInt8) (K:(List UInt8)->Prop):Prop:=∃(I:Int->Nat->Prop),(∃n,I 0 n)/\∀(x:Int) (n:Nat),I x n->cond (decide (x<(sx.length:Int))) (((0:Int)<=x/\x<(sx.length:Int))/\Kc ((sx.getD x.toNat 0).toNat:Int) (fun x1=>cond (!x1) (((0:Int)<=x/\x<=(sx.length:Int))/\K (sx.take x.toNat)) (∃n1,n1<n/\I (IntKind.i64.wrap (x+1)) n1))) (K sx)
theorem Jr (sx:List UInt8) (K:(List UInt8)->Prop) (h:Kh sx K):Dr sx K:=by
 intro m w hm;have o:=Mem.start hm.lt;refine Kt sx _ _ ?_;obtain⟨I,⟨n2,h⟩,h2⟩:=h;obtain⟨Z,hZ⟩:∃Z:Int->World->Nat->Prop,Z=fun x w1 n=>I x n/\MT w m w w1 []:=⟨_,rfl⟩
 refine⟨fun x w1=>∃n,Z x w1 n,fun x w1=>cP (Z x w1),⟨n2,?_⟩,?_⟩;rw [hZ];exact⟨h,o,Step.refl _ _⟩;intro _ x w1 aU;obtain⟨n,bO⟩:∃n,n=cP (Z x w1):=⟨_,rfl⟩
 have aU:=Bl aU;rw [←bO,hZ]at aU;obtain⟨h,o,st⟩:=aU;have h:=h2 x n h;refine Ab (fun h=> ?_) (fun h=> ?_) h;refine⟨h.1,?_⟩;have h:=And.right h;refine Ad (h _ w1 (o.mn hm)) ?_;rintro _ w2 ⟨x1,h,rfl,ke⟩;obtain⟨au,o⟩:=o.dE ke;refine⟨_,rfl,?_⟩;refine Ab (fun h=> ?_) (fun h=> ?_) h;refine⟨h.1,?_⟩;have h:=And.right h;exact⟨(sx.take x.toNat),h,rfl,o.done⟩;obtain⟨n1,hl,h⟩:=h;exact Be bO (show Z _ w2 n1 from(by rw [hZ];exact⟨h,o,(st.trans au)⟩)) hl;exact⟨sx,h,rfl,o.done⟩
end Go.Proofs.YtpdccfgpbkagcaaGreat
namespace Go.Rk
open Go.Ty
inductive RT where
 |num (n:Int)
 |name (k:Int)
 |un (op:Int) (a:RT)
 |bin (op:Int) (a b:RT)
def H7 (k:Int) (x:Ay):Ay:=
 if x.op=19 then { x with b:=x.b+k }
 else if x.op=6\/x.op=7\/x.op=8\/x.op=20\/x.op=21\/x.op=22 then { x with a:=x.a+k } else x
def d5 (k:Int) (l:List Ay):List Ay:=l.map (H7 k)
def Cq (op:Int):Prop:=op=16\/op=17
instance (op:Int):Decidable (Cq op):=by unfold Cq;infer_instance
def Dm (op:Int):Int:=if op=17 then 1 else 0
def Bv (op:Int):Int:=if op=17 then 8 else 7
def Al:RT->List Ay
 | .num n=>[⟨2,n,0⟩]| .name k=>[⟨3,k,0⟩]| .un op a=>Al a++[⟨5,op,0⟩]| .bin op a b=>
  if Cq op then
   Al a++(⟨Bv op,((Al a).length+(Al b).length+4:Nat),0⟩::(d5 ((Al a).length+1:Nat) (Al b)++
    [⟨Bv op,((Al a).length+(Al b).length+4:Nat),0⟩,⟨2,1-Dm op,0⟩,⟨6,((Al a).length+(Al b).length+5:Nat),0⟩,⟨2,Dm op,0⟩]))
  else Al a++(d5 ((Al a).length:Nat) (Al b)++[⟨5,op,0⟩])
theorem Ci (k:Int) (l:List Ay):(d5 k l).length=l.length:=List.length_map _
theorem Apo (j k:Int) (x:Ay):H7 j (H7 k x)=H7 (j+k) x:=by
 unfold H7;by_cases h:x.op=19
 ·simp only [h,if_true];congr 1;omega
 ·by_cases h2:x.op=6\/x.op=7\/x.op=8\/x.op=20\/x.op=21\/x.op=22
  ·simp only [h,h2,if_true,if_false];congr 1;omega
  ·simp only [h,h2,if_false]
theorem QU (j k:Int) (l:List Ay):d5 j (d5 k l)=d5 (j+k) l:=by
 unfold d5;rw [List.map_map];congr 1;funext x;exact Apo j k x
theorem Py (k:Int) (l m:List Ay):d5 k (l++m)=d5 k l++d5 k m:=List.map_append
theorem Apq (x:Ay):H7 0 x=x:=by
 unfold H7;split
 ·simp
 ·split
  ·simp
  ·rfl
theorem Ox (l:List Ay):d5 0 l=l:=by
 unfold d5;rw [show H7 0=id from funext Apq,List.map_id]
section
variable (ap:Int->Int->Int->Int×Int)
def Bs (vars:List Int):RT->Nat->Int×Int
 | .num n,t=>if 12<=t then(0,2)else(n,0)
 | .name k,t=>if 12<=t then(0,2)else(if 0<=k then vars.getD k.toNat 0 else 0,0)
 | .un op a,t=>if(Bs vars a t).2≠0 then Bs vars a t else ap op (Bs vars a t).1 0
 | .bin op a b,t=>
  if(Bs vars a t).2≠0 then Bs vars a t
  else if op=16/\(Bs vars a t).1=0 then(0,0)
  else if op=17/\(Bs vars a t).1≠0 then(1,0)
  else if(Bs vars b (if Cq op then t else t+1)).2≠0 then Bs vars b (if Cq op then t else t+1)
  else ap op (Bs vars a t).1 (Bs vars b (if Cq op then t else t+1)).1
def Fs (op:Int):Nat:=if op=3\/op=4 then 1 else if 5<=op/\op<=17 then 2 else 0
def D8 (vars:List Int) (x:Ay) (at_:Int) (st:List Int):Except Int (Int×List Int):=
 if x.op=2\/x.op=3 then
  if 12<=st.length then .error 2 else .ok (at_,st++[if x.op=3 then(if 0<=x.a then vars.getD x.a.toNat 0 else 0)else x.a])
 else if x.op=5 then
  if st.length<Fs x.a\/Fs x.a=0 then .error (-1)
  else if(ap x.a (st.getD (st.length-Fs x.a) 0) (st.getD (st.length-1) 0)).2≠0 then .error (ap x.a (st.getD (st.length-Fs x.a) 0) (st.getD (st.length-1) 0)).2
  else .ok (at_,st.take (st.length-Fs x.a)++[(ap x.a (st.getD (st.length-Fs x.a) 0) (st.getD (st.length-1) 0)).1])
 else if x.op=7\/x.op=8 then
  if st.length<1 then .error (-1)
  else .ok (if(st.getD (st.length-1) 0=0↔x.op=7)then x.a else at_,st.take (st.length-1))
 else if x.op=6 then .ok (x.a,st)
 else .error (-1)
def Ft (vars:List Int):Nat->List Ay->Int->List Int->List Int×Int
 |0,_,_,st=>(st,0)|m+1,c,p,st=>
  match(if 0<=p then c[p.toNat]? else none)with
  |none=>(st,0)|some x=>match D8 ap vars x (p+1) st with
   | .ok (q,iQ)=>Ft vars m c q iQ| .error f=>(st,f)
theorem Dp {vars:List Int} {m:Nat} {c:List Ay} {p q:Nat} {x:Ay} {st iQ:List Int} (hx:c[p]? =some x) (h:D8 ap vars x ((p+1:Nat):Int) st= .ok ((q:Nat),iQ)):Ft ap vars (m+1) c p st=Ft ap vars m c q iQ:=by
 rw [Ft,if_pos (Int.natCast_nonneg p),toNat_natCast,hx];have:((p:Int)+1)=((p+1:Nat):Int):=by omega
 simp only [this,h]
theorem Td {vars:List Int} {m:Nat} {c:List Ay} {p:Nat} {x:Ay} {st:List Int} {f:Int} (hx:c[p]? =some x) (h:D8 ap vars x ((p+1:Nat):Int) st= .error f):(Ft ap vars (m+1) c p st).2=f:=by
 rw [Ft,if_pos (Int.natCast_nonneg p),toNat_natCast,hx];have:((p:Int)+1)=((p+1:Nat):Int):=by omega
 simp only [this,h]
def uS:RT->Prop
 | .num _=>True| .name _=>True| .un op a=>(op=3\/op=4)/\uS a| .bin op a b=>(5<=op/\op<=17)/\uS a/\uS b
def At (c:List Ay) (p:Nat) (l:List Ay):Prop:=∀j (h:j<l.length),c[p+j]? =some l[j]
theorem At.app {c:List Ay} {p:Nat} {l m:List Ay} (h:At c p (l++m)):At c p l/\At c (p+l.length) m:=by
 refine⟨fun j hj=> ?_,fun j hj=> ?_⟩
 ·rw [h j (by rw [length_append];omega),List.getElem_append_left hj]
 ·rw [Nat.add_assoc,h (l.length+j) (by rw [length_append];omega),List.getElem_append_right (by omega)];simp
theorem At.cons {c:List Ay} {p:Nat} {x:Ay} {m:List Ay} (h:At c p (x::m)):c[p]? =some x/\At c (p+1) m:=by
 have:=At.app (l:=[x]) (m:=m) h;exact⟨by simpa using this.1 0 (by simp),this.2⟩
theorem At.all (l:List Ay):At l 0 l:=fun j h=>by rw [zero_add];exact List.getElem?_eq_getElem h
structure zS:Prop where
 un:∀op a b,op=3\/op=4->ap op a b=ap op a 0
 and:∀a b,ap 16 a b=(if a≠0/\b≠0 then 1 else 0,0)
 or:∀a b,ap 17 a b=(if a≠0\/b≠0 then 1 else 0,0)
variable {ap}
theorem L1 (vars:List Int):∀(t:RT) (n:Nat),(Bs ap vars t n).2=0->n<12
 | .num _,n,h=>by
  rw [Bs]at h;split at h
  ·simp at h
  ·omega
 | .name _,n,h=>by
  rw [Bs]at h;split at h
  ·simp at h
  ·omega
 | .un op a,n,h=>by
  rw [Bs]at h;by_cases h1:(Bs ap vars a n).2≠0
  ·rw [if_pos h1]at h;exact absurd h h1
  ·exact L1 vars a n (by simpa using h1)
 | .bin op a b,n,h=>by
  rw [Bs]at h;by_cases h1:(Bs ap vars a n).2≠0
  ·rw [if_pos h1]at h;exact absurd h h1
  ·exact L1 vars a n (by simpa using h1)
theorem Pz {vars:List Int} {n:Int} {p:Int} {st:List Int} (h:st.length<12):D8 ap vars ⟨2,n,0⟩ p st= .ok (p,st++[n]):=by
 unfold D8;simp [Nat.not_le.2 h]
theorem Ajo {vars:List Int} {op v:Int} {p:Int} {st:List Int} (h:op=3\/op=4) (mq:zS ap):D8 ap vars ⟨5,op,0⟩ p (st++[v])=if(ap op v 0).2≠0 then .error (ap op v 0).2 else .ok (p,st++[(ap op v 0).1]):=by
 have hw:Fs op=1:=by unfold Fs;rw [if_pos h]
 unfold D8;simp only [hw,show¬((5:Int)=2\/(5:Int)=3) by decide,if_false,if_true,length_append,length_singleton,Nat.add_sub_cancel];rw [if_neg (by omega)];have e1:(st++[v]).getD st.length 0=v:=by simp [getD_eq_getElem?_getD]
 rw [e1,mq.un op v v h,List.take_left'];rfl
theorem Ajp {vars:List Int} {op u v:Int} {p:Int} {st:List Int} (h:5<=op/\op<=17):D8 ap vars ⟨5,op,0⟩ p (st++[u]++[v])=if(ap op u v).2≠0 then .error (ap op u v).2 else .ok (p,st++[(ap op u v).1]):=by
 have hw:Fs op=2:=by unfold Fs;rw [if_neg (by omega),if_pos h]
 unfold D8;simp only [hw,show¬((5:Int)=2\/(5:Int)=3) by decide,if_false,if_true,length_append,length_singleton,Nat.add_sub_cancel];rw [if_neg (by omega)];have e1:(st++[u]++[v]).getD (st.length+1+1-2) 0=u:=by simp [getD_eq_getElem?_getD]
 have e2:(st++[u]++[v]).getD (st.length+1) 0=v:=by simp [getD_eq_getElem?_getD]
 have e3:(st++[u]++[v]).take (st.length+1+1-2)=st:=by simp
 rw [e1,e2,e3]
theorem QV {vars:List Int} {op v a p:Int} {st:List Int} (h:Cq op):D8 ap vars ⟨Bv op,a,0⟩ p (st++[v])= .ok (if(op=16/\v=0)\/(op=17/\v≠0)then a else p,st):=by
 unfold D8;have e1:(st++[v]).getD st.length 0=v:=by simp [getD_eq_getElem?_getD]
 rcases h with rfl|rfl
 ·simp only [show Bv 16=7 from rfl,show¬((7:Int)=2\/(7:Int)=3) by decide,show¬((7:Int)=5) by decide,if_false,length_append,length_singleton,Nat.add_sub_cancel];rw [if_pos (.inl trivial),if_neg (by omega),e1,List.take_left' rfl];simp
 ·simp only [show Bv 17=8 from rfl,show¬((8:Int)=2\/(8:Int)=3) by decide,show¬((8:Int)=5) by decide,if_false,length_append,length_singleton,Nat.add_sub_cancel];rw [if_pos (.inr trivial),if_neg (by omega),e1,List.take_left' rfl];simp
theorem QW {op a k:Int} (h:Cq op):H7 k ⟨Bv op,a,0⟩=⟨Bv op,a+k,0⟩:=by
 rcases h with rfl|rfl<;>rfl
def Comes (vars:List Int) (c:List Ay) (p:Nat) (st:List Int) (len:Nat) (r:Int×Int):Prop:=∃k,k<=len/\(r.2=0->∀m,Ft ap vars (m+k) c p st=Ft ap vars m c ((p+len:Nat):Int) (st++[r.1]))/\(r.2≠0->∀m,(Ft ap vars (m+k) c p st).2=r.2)
theorem Jt (mq:zS ap) (vars:List Int) (c:List Ay):∀(t:RT) (p:Nat) (st:List Int),uS t->At c p (d5 (p:Int) (Al t))->Comes (ap:=ap) vars c p st (Al t).length (Bs ap vars t st.length)
 | .num n,p,st,_,h=>by
  have hx:c[p]? =some ⟨2,n,0⟩:=(At.cons h).1;refine⟨1,le_refl _,fun hr m=> ?_,fun hr m=> ?_⟩
  ·have hl:=L1 vars _ _ hr;rw [Dp ap hx (Pz hl)];rw [Bs,if_neg (by omega)];rfl
  ·rw [Bs]at hr⊢;by_cases kB:12<=st.length
   ·rw [if_pos kB];exact Td ap hx (by unfold D8;simp [kB])
   ·rw [if_neg kB]at hr;simp at hr
 | .name k,p,st,_,h=>by
  have hx:c[p]? =some ⟨3,k,0⟩:=(At.cons h).1;refine⟨1,le_refl _,fun hr m=> ?_,fun hr m=> ?_⟩
  ·have hl:=L1 vars _ _ hr;rw [Dp ap hx (q:=p+1) (iQ:=st++[if 0<=k then vars.getD k.toNat 0 else 0]) (by unfold D8;simp [Nat.not_le.2 hl])];rw [Bs,if_neg (Nat.not_le.2 hl)];rfl
  ·rw [Bs]at hr⊢;by_cases kB:12<=st.length
   ·rw [if_pos kB];exact Td ap hx (by unfold D8;simp [kB])
   ·rw [if_neg kB]at hr;simp at hr
 | .un op a,p,st,ok,h=>by
  rw [Al,Py]at h;obtain⟨ha,hx⟩:=At.app h;rw [Ci]at hx;have hx:=(At.cons hx).1;obtain⟨k,hk,h0,h1⟩:=Jt mq vars c a p st ok.2 ha;rw [Al,length_append,length_singleton];by_cases hv:(Bs ap vars a st.length).2=0
  ·have mO:c[p+(Al a).length]? =some ⟨5,op,0⟩:=hx;have dh:=Ajo (vars:=vars) (p:=((p+(Al a).length+1:Nat):Int)) (st:=st) (v:=(Bs ap vars a st.length).1) ok.1 mq;refine⟨k+1,by omega,fun hr m=> ?_,fun hr m=> ?_⟩
   ·rw [Bs,if_neg (by simpa using hv)]at hr⊢;rw [if_neg (by simpa using hr)]at dh;rw [show m+(k+1)=(m+1)+k by omega,h0 hv,Dp ap mO dh,Nat.add_assoc]
   ·rw [Bs,if_neg (by simpa using hv)]at hr⊢;rw [if_pos hr]at dh;rw [show m+(k+1)=(m+1)+k by omega,h0 hv];exact Td ap mO dh
  ·refine⟨k,by omega,fun hr=> ?_,fun hr m=> ?_⟩
   ·rw [Bs,if_pos hv]at hr;exact absurd hr hv
   ·rw [Bs,if_pos hv];exact h1 hv m
 | .bin op a b,p,st,ok,h=>by
  obtain⟨cF,QX,QY⟩:=ok;by_cases he:Cq op
  ·rw [Al,if_pos he]at h⊢;rw [Py]at h;obtain⟨ha,h⟩:=At.app h;rw [Ci]at h;rw [show d5 (p:Int) (⟨Bv op,((Al a).length+(Al b).length+4:Nat),0⟩::(d5 ((Al a).length+1:Nat) (Al b)++[⟨Bv op,((Al a).length+(Al b).length+4:Nat),0⟩,⟨2,1-Dm op,0⟩,⟨6,((Al a).length+(Al b).length+5:Nat),0⟩,⟨2,Dm op,0⟩]))
    =⟨Bv op,((p+(Al a).length+(Al b).length+4:Nat):Int),0⟩::(d5 ((p+((Al a).length+1):Nat):Int) (Al b)++[⟨Bv op,((p+(Al a).length+(Al b).length+4:Nat):Int),0⟩,⟨2,1-Dm op,0⟩,⟨6,((p+(Al a).length+(Al b).length+5:Nat):Int),0⟩,⟨2,Dm op,0⟩]) by
    have e1:((Al a).length+(Al b).length+4:Nat)+(p:Int)=((p+(Al a).length+(Al b).length+4:Nat):Int):=by omega
    have e2:((Al a).length+(Al b).length+5:Nat)+(p:Int)=((p+(Al a).length+(Al b).length+5:Nat):Int):=by omega
    show H7 p _::d5 p (_++_)=_
    rw [Py,QU,QW he,e1];congr 1;rw [show(p:Int)+((Al a).length+1:Nat)=((p+((Al a).length+1):Nat):Int) by omega];congr 1
    ·show [H7 p _,H7 p _,H7 p _,H7 p _]=_
     rw [QW he,e1];show [_,_,Ay.mk 6 _ 0,_]=_
     rw [e2];rfl]at h
   obtain⟨jw,h⟩:=At.cons h;obtain⟨hb,h⟩:=At.app h;rw [Ci]at h;obtain⟨jZ,h⟩:=At.cons h;obtain⟨zT,h⟩:=At.cons h;obtain⟨uT,h⟩:=At.cons h;obtain⟨QZ,_⟩:=At.cons h;obtain⟨k,hk,h0,h1⟩:=Jt mq vars c a p st QX ha;obtain⟨j,hj,g0,g1⟩:=Jt mq vars c b (p+(Al a).length+1) st QY (by rw [Nat.add_assoc];exact hb);simp only [length_append,length_cons,Ci,List.length_nil];rw [Bs];by_cases hv:(Bs ap vars a st.length).2=0
   ·have hl:=L1 vars _ _ hv;rw [if_neg (by simpa using hv)];have ht:=QV (ap:=ap) (vars:=vars) (v:=(Bs ap vars a st.length).1) (a:=((p+(Al a).length+(Al b).length+4:Nat):Int)) (p:=((p+(Al a).length+1:Nat):Int)) (st:=st) he;by_cases hs:(op=16/\(Bs ap vars a st.length).1=0)\/(op=17/\(Bs ap vars a st.length).1≠0)
    ·have tw:(if op=16/\(Bs ap vars a st.length).1=0 then((0,0):Int×Int)else if op=17/\(Bs ap vars a st.length).1≠0 then(1,0)else if(Bs ap vars b (if Cq op then st.length else st.length+1)).2≠0 then Bs ap vars b (if Cq op then st.length else st.length+1)else ap op (Bs ap vars a st.length).1 (Bs ap vars b (if Cq op then st.length else st.length+1)).1)=(Dm op,0):=by
      rcases hs with⟨rfl,h3⟩|⟨rfl,h3⟩
      ·rw [if_pos ⟨rfl,h3⟩];rfl
      ·rw [if_neg (by omega),if_pos ⟨rfl,h3⟩];rfl
     rw [tw];rw [if_pos hs]at ht;refine⟨k+2,by omega,fun _ m=> ?_,fun hr=>absurd rfl hr⟩;rw [show m+(k+2)=((m+1)+1)+k by omega,h0 hv,Dp ap jw ht,Dp ap (by rw [←QZ];congr 1;omega) (Pz hl)];congr 1;omega
    ·rw [if_neg hs]at ht;rw [if_neg (fun h3=>hs (.inl h3)),if_neg (fun h3=>hs (.inr h3)),if_pos he];by_cases iR:(Bs ap vars b st.length).2=0
     ·have r_:=QV (ap:=ap) (vars:=vars) (v:=(Bs ap vars b st.length).1) (a:=((p+(Al a).length+(Al b).length+4:Nat):Int)) (p:=((p+(Al a).length+1+(Al b).length+1:Nat):Int)) (st:=st) he;rw [if_neg (by simpa using iR)];by_cases kD:(op=16/\(Bs ap vars b st.length).1=0)\/(op=17/\(Bs ap vars b st.length).1≠0)
      ·have tw:ap op (Bs ap vars a st.length).1 (Bs ap vars b st.length).1=(Dm op,0):=by
        rcases kD with⟨rfl,h3⟩|⟨rfl,h3⟩
        ·rw [mq.and,if_neg (fun h4=>h4.2 h3)];rfl
        ·rw [mq.or,if_pos (.inr h3)];rfl
       rw [tw];rw [if_pos kD]at r_;refine⟨k+1+j+2,by omega,fun _ m=> ?_,fun hr=>absurd rfl hr⟩;rw [show m+(k+1+j+2)=(((m+1)+1+j)+1)+k by omega,h0 hv,Dp ap jw ht,g0 iR,Dp ap jZ r_,Dp ap (by rw [←QZ];congr 1;omega) (Pz hl)];congr 1;omega
      ·have tw:ap op (Bs ap vars a st.length).1 (Bs ap vars b st.length).1=(1-Dm op,0):=by
        rcases he with rfl|rfl
        ·have h3:(Bs ap vars a st.length).1≠0:=fun h3=>hs (.inl ⟨rfl,h3⟩)
         have h4:(Bs ap vars b st.length).1≠0:=fun h3=>kD (.inl ⟨rfl,h3⟩)
         rw [mq.and,if_pos ⟨h3,h4⟩];rfl
        ·have h3:(Bs ap vars a st.length).1=0:=Decidable.not_not.1 fun h3=>hs (.inr ⟨rfl,h3⟩)
         have h4:(Bs ap vars b st.length).1=0:=Decidable.not_not.1 fun h3=>kD (.inr ⟨rfl,h3⟩)
         rw [mq.or,if_neg (by rw [h3,h4];simp)];rfl
       rw [tw];rw [if_neg kD]at r_;refine⟨k+1+j+3,by omega,fun _ m=> ?_,fun hr=>absurd rfl hr⟩;rw [show m+(k+1+j+3)=(((m+1)+1+1+j)+1)+k by omega,h0 hv,Dp ap jw ht,g0 iR,Dp ap jZ r_,Dp ap zT (Pz hl),Dp ap uT (q:=p+(Al a).length+(Al b).length+5) (iQ:=st++[1-Dm op]) (by unfold D8;simp)];congr 1;omega
     ·rw [if_pos iR];refine⟨k+1+j,by omega,fun hr=>absurd hr iR,fun hr m=> ?_⟩;rw [show m+(k+1+j)=((m+j)+1)+k by omega,h0 hv,Dp ap jw ht];exact g1 iR m
   ·rw [if_pos hv];exact⟨k,by omega,fun hr=>absurd hr hv,fun hr m=>h1 hv m⟩
  ·rw [Al,if_neg he]at h⊢;rw [Py,Py,QU]at h;obtain⟨ha,h⟩:=At.app h;rw [Ci]at h;obtain⟨hb,h⟩:=At.app h;rw [Ci]at h;have hx:=(At.cons h).1;obtain⟨k,hk,h0,h1⟩:=Jt mq vars c a p st QX ha;obtain⟨j,hj,g0,g1⟩:=Jt mq vars c b (p+(Al a).length) (st++[(Bs ap vars a st.length).1]) QY (by rw [Int.natCast_add];exact hb);simp only [length_append,length_cons,Ci,List.length_nil];rw [Bs];by_cases hv:(Bs ap vars a st.length).2=0
   ·rw [if_neg (by simpa using hv),if_neg (fun h3=>he (.inl h3.1)),if_neg (fun h3=>he (.inr h3.1)),if_neg he];rw [length_append,length_singleton]at g0 g1;by_cases iR:(Bs ap vars b (st.length+1)).2=0
    ·rw [if_neg (by simpa using iR)];have dh:=Ajp (ap:=ap) (vars:=vars) (p:=((p+(Al a).length+(Al b).length+1:Nat):Int)) (st:=st) (u:=(Bs ap vars a st.length).1) (v:=(Bs ap vars b (st.length+1)).1) cF;refine⟨k+j+1,by omega,fun hr m=> ?_,fun hr m=> ?_⟩
     ·rw [if_neg (by simpa using hr)]at dh;rw [show m+(k+j+1)=((m+1)+j)+k by omega,h0 hv,g0 iR,Dp ap hx dh];congr 1;omega
     ·rw [if_pos hr]at dh;rw [show m+(k+j+1)=((m+1)+j)+k by omega,h0 hv,g0 iR];exact Td ap hx dh
    ·rw [if_pos iR];refine⟨k+j,by omega,fun hr=>absurd hr iR,fun hr m=> ?_⟩;rw [show m+(k+j)=(m+j)+k by omega,h0 hv];exact g1 iR m
   ·rw [if_pos hv];exact⟨k,by omega,fun hr=>absurd hr hv,fun hr m=>h1 hv m⟩
theorem Ari (mq:zS ap) (vars:List Int) (t:RT) (ok:uS t) (most:Nat) (hm:(Al t).length<most): ((Bs ap vars t 0).2=0->Ft ap vars most (Al t) 0 []=([(Bs ap vars t 0).1],0))/\((Bs ap vars t 0).2≠0->(Ft ap vars most (Al t) 0 []).2=(Bs ap vars t 0).2):=by
 obtain⟨k,hk,h0,h1⟩:=Jt mq vars (Al t) t 0 [] ok (by rw [show((0:Nat):Int)=0 from rfl,Ox];exact At.all _);obtain⟨m,rfl⟩:∃m,most=(m+1)+k:=⟨most-k-1,by omega⟩
 refine⟨fun hr=> ?_,fun hr=>h1 hr _⟩;have:=h0 hr (m+1);rw [show((0:Nat):Int)=0 from rfl]at this;rw [this,Ft,if_pos (by omega),toNat_natCast,zero_add,getElem?_eq_none (le_refl _)];rfl
end
end Go.Rk
namespace Go.Tr
def eL:Nat->List Int->List Int
 |0,l=>l|_+1,[]=>[]|n+1,k::l=>eL (n+k.toNat) l
 termination_by _ l=>l.length
theorem Cz (l:List Int):eL 0 l=l:=by rw [eL]
theorem K4 (n:Nat):eL n []=[]:=by cases n<;>rw [eL]
theorem Ff (n:Nat) (k:Int) (l:List Int):eL (n+1) (k::l)=eL (n+k.toNat) l:=by rw [eL]
theorem Dy:∀(l:List Int) (a b:Nat),eL (a+b) l=eL b (eL a l)
 |[],a,b=>by simp [K4]
 |k::l,0,b=>by simp [Cz]
 |k::l,a+1,b=>by
  rw [show a+1+b=(a+b)+1 by omega,Ff,Ff,show a+b+k.toNat=(a+k.toNat)+b by omega,Dy l]
theorem Mz (k:Int) (l:List Int):eL 1 (k::l)=eL k.toNat l:=by
 rw [show(1:Nat)=0+1 from rfl,Ff,zero_add]
theorem FQ:∀(l:List Int) (n:Nat),eL n l<:+l
 |[],n=>by rw [K4];exact List.suffix_refl _
 |k::l,0=>by rw [Cz];exact List.suffix_refl _
 |k::l,n+1=>by rw [Ff];exact(FQ l _).trans (List.suffix_cons k l)
theorem Vd (l:List Int) (n:Nat):(eL n l).length<=l.length:=(FQ l n).length_le
theorem zU (l:List Int) (n:Nat) (h:l≠[]) (hn:0<n):(eL n l).length<l.length:=by
 cases l with
 |nil=>exact absurd rfl h
 |cons k l=>
  cases n with
  |zero=>omega
  |succ n=>rw [Ff,length_cons];have:=Vd l (n+k.toNat);omega
theorem FR:∀(l:List Int) (n:Nat),l.length<=n->eL n l=[]
 |[],n,_=>K4 n
 |k::l,0,h=>by simp at h
 |k::l,n+1,h=>by rw [Ff];exact FR l _ (by simp at h;omega)
theorem zV:∀(l:List Int) (n:Nat) (m:List Int),m<:+l->(eL n l).length<m.length->∃d,0<d/\eL n l=eL d m
 |[],n,m,hm,h=>by
  have:m=[]:=List.suffix_nil.1 hm;subst this;simp at h
 |k::l,0,m,hm,h=>by rw [Cz]at h;have:=hm.length_le;omega
 |k::l,n+1,m,hm,h=>by
  rcases List.suffix_cons_iff.1 hm with rfl|hm
  ·exact⟨n+1,by omega,rfl⟩
  ·rw [Ff]at h⊢;exact zV l _ m hm h
theorem Q_:∀(l:List Int) (n:Nat) (m:List Int),m<:+l->(eL n l).length<m.length->
 (∃j,j<n/\m=eL j l)\/∃k r j,(k::r)<:+l/\m.length<=r.length/\j<k.toNat/\m=eL j r
 |[],n,m,hm,h=>by
  have:m=[]:=List.suffix_nil.1 hm;subst this;simp at h
 |k::l,0,m,hm,h=>by rw [Cz]at h;have:=hm.length_le;omega
 |k::l,n+1,m,hm,h=>by
  rcases List.suffix_cons_iff.1 hm with rfl|iU
  ·exact .inl ⟨0,by omega,by rw [Cz]⟩
  ·rw [Ff]at h;rcases Q_ l _ m iU h with⟨j,hj,rfl⟩|⟨k',r,j,hs,hl,hj,lY⟩
   ·by_cases lK:j<k.toNat
    ·exact .inr ⟨k,l,j,List.suffix_refl _,Vd _ _,lK,rfl⟩
    ·refine .inl ⟨j-k.toNat+1,by omega,?_⟩;rw [Ff,show j-k.toNat+k.toNat=j by omega]
   ·exact .inr ⟨k',r,j,hs.trans (List.suffix_cons k l),hl,hj,lY⟩
theorem RA {α:Type} {m l:List α} (h:m<:+l):m=l.drop (l.length-m.length):=by
 obtain⟨t,rfl⟩:=h;simp
theorem D9 {α:Type} {l:List α} {i j:Nat} (hi:i<=l.length) (hj:j<=l.length) (h:l.drop i=l.drop j):i=j:=by
 have:=congrArg List.length h;simp at this;omega
def Cf (l:List Int) (i:Nat):Nat:=l.length-(eL 1 (l.drop i)).length
theorem C8 (l:List Int) (i:Nat):l.drop (Cf l i)=eL 1 (l.drop i):=by
 have h:=(FQ (l.drop i) 1).trans (List.drop_suffix i l);exact(RA h).symm
theorem Cd (l:List Int) (i:Nat):Cf l i<=l.length:=by unfold Cf;omega
theorem Fl (l:List Int) (i:Nat) (h:i<l.length):i<Cf l i:=by
 have h1:=zU (l.drop i) 1 (by intro e;have:=congrArg List.length e;simp at this;omega) (by omega);rw [length_drop]at h1;unfold Cf;omega
def bh (l:List Int) (k j i:Nat):Prop:=k<l.length/\j<(l.getD k 0).toNat/\eL j (l.drop (k+1))=l.drop i/\i<l.length
theorem Gb {l:List Int} {k:Nat} (h:k<l.length):l.drop k=l.getD k 0::l.drop (k+1):=by
 rw [List.drop_eq_getElem_cons h];simp [List.getD,h]
theorem bh.ahead {l:List Int} {k j i:Nat} (h:bh l k j i):k<i:=by
 obtain⟨hk,hj,he,hi⟩:=h;have h1:=Vd (l.drop (k+1)) j;rw [he]at h1;simp at h1;omega
theorem bh.RB {l:List Int} {k1 k2 j1 j2 i:Nat} (h1:bh l k1 j1 i) (h2:bh l k2 j2 i) (aE:k1<k2):False:=by
 obtain⟨kh,zB,eO,hi⟩:=h1;have Bs3:=h2.ahead;obtain⟨jC,uB,fW,_⟩:=h2;have hs:l.drop k2<:+l.drop (k1+1):=by
  rw [show k2=(k1+1)+(k2-(k1+1)) by omega,←List.drop_drop];exact List.drop_suffix _ _
 obtain⟨d,hd,tz⟩:=zV _ j1 _ hs (by rw [eO];simp;omega);rw [eO,show d=1+(d-1) by omega,Dy,Gb jC,Mz,show(l.getD k2 0).toNat=j2+((l.getD k2 0).toNat-j2) by omega,Dy,fW]at tz;have h3:=congrArg List.length tz;have h4:=Vd (eL ((l.getD k2 0).toNat-j2) (l.drop i)) (d-1);have h5:=zU (l.drop i) ((l.getD k2 0).toNat-j2) (by intro e;have:=congrArg List.length e;simp at this;omega) (by omega);omega
theorem bh.unique {l:List Int} {k1 k2 j1 j2 i:Nat} (h1:bh l k1 j1 i) (h2:bh l k2 j2 i):k1=k2:=by
 rcases Nat.lt_trichotomy k1 k2 with h|h|h
 ·exact(h1.RB h2 h).elim
 ·exact h
 ·exact(h2.RB h1 h).elim
def Ea (l:List Int):Nat->Nat->List Int
 |0,_=>[]|n+1,at_=>if at_<l.length then(at_:Int)::Ea l n (Cf l at_)else []
theorem RC (l:List Int):∀(n at_:Nat) (x:Int),x∈Ea l n at_↔∃j i:Nat,x=i/\j<n/\eL j (l.drop at_)=l.drop i/\i<l.length
 |0,at_,x=>by simp [Ea]
 |n+1,at_,x=>by
  unfold Ea;by_cases h:at_<l.length
  ·rw [if_pos h,mem_cons,RC l n];constructor
   ·rintro(rfl|⟨j,i,rfl,hj,he,hi⟩)
    ·exact⟨0,at_,rfl,by omega,Cz _,h⟩
    ·exact⟨1+j,i,rfl,by omega,by rw [Dy,←C8];exact he,hi⟩
   ·rintro⟨j,i,rfl,hj,he,hi⟩;cases j with
    |zero=>
     left;rw [Cz]at he;rw [D9 (by omega) (by omega) he]
    |succ j=>
     right;refine⟨j,i,rfl,by omega,?_,hi⟩;rw [show j+1=1+j by omega,Dy,←C8]at he;exact he
  ·rw [if_neg h];simp only [not_mem_nil,false_iff];rintro⟨j,i,rfl,hj,he,hi⟩;rw [drop_of_length_le (by omega),K4]at he;have:=congrArg List.length he;simp at this;omega
theorem Ve (l:List Int):∀(n at_ j:Nat),(Ea l n at_)[j]? =if j<n/\eL j (l.drop at_)≠[]then some ((l.length-(eL j (l.drop at_)).length:Nat):Int)else none
 |0,at_,j=>by simp [Ea]
 |n+1,at_,j=>by
  unfold Ea;by_cases h:at_<l.length
  ·rw [if_pos h];cases j with
   |zero=>
    rw [Cz,if_pos ⟨by omega,by intro e;have:=congrArg List.length e;simp at this;omega⟩];simp;omega
   |succ j=>
    rw [List.getElem?_cons_succ,Ve l n,C8,←Dy,Nat.add_comm 1 j];by_cases hc:j<n/\eL (j+1) (l.drop at_)≠[]
    ·rw [if_pos hc,if_pos ⟨by omega,hc.2⟩]
    ·rw [if_neg hc,if_neg (fun h=>hc ⟨by omega,h.2⟩)]
  ·rw [if_neg h,drop_of_length_le (by omega),K4];simp
def M6 (l:List Int) (k:Nat):List Int:=if k<l.length then Ea l (l.getD k 0).toNat (k+1)else []
theorem Amk (l:List Int) (k:Nat) (x:Int):x∈M6 l k↔∃j i:Nat,x=i/\bh l k j i:=by
 unfold M6;split
 ·rename_i h;rw [RC];constructor
  ·rintro⟨j,i,rfl,h1,h2,h3⟩;exact⟨j,i,rfl,h,h1,h2,h3⟩
  ·rintro⟨j,i,rfl,_,h1,h2,h3⟩;exact⟨j,i,rfl,h1,h2,h3⟩
 ·rename_i h;simp only [not_mem_nil,false_iff];rintro⟨j,i,rfl,h1,_⟩;exact h h1
def Oy:Nat->List Int->Prop
 |0,l=>l=[]|_+1,[]=>False|n+1,k::l=>0<=k/\Oy (n+k.toNat) l
 termination_by _ l=>l.length
theorem Z4 (l:List Int):Oy 0 l=(l=[]):=by rw [Oy]
theorem Z5 (n:Nat) (k:Int) (l:List Int):Oy (n+1) (k::l)=(0<=k/\Oy (n+k.toNat) l):=by rw [Oy]
theorem Vf:∀(l:List Int) (n:Nat),Oy n l->eL n l=[]
 |l,0,h=>by rw [Z4]at h;rw [Cz,h]
 |[],n+1,h=>K4 _
 |k::l,n+1,h=>by rw [Z5]at h;rw [Ff];exact Vf l _ h.2
theorem Ark {l:List Int} {i:Nat} (h:Oy 1 l) (hi:i<l.length) (h0:0<i):∃k j,bh l k j i:=by
 rcases Q_ l 1 (l.drop i) (List.drop_suffix _ _) (by rw [Vf l 1 h];simp;omega)with⟨j,hj,he⟩|⟨k,r,j,hs,hl,hj,he⟩
 ·have:j=0:=by omega
  subst this;rw [Cz]at he;have:=congrArg List.length he;simp at this;omega
 ·have h1:=RA hs;have h2:=hs.length_le;simp at h2;have hk:l.length-(k::r).length<l.length:=by simp;omega
  rw [Gb hk]at h1;simp only [List.cons.injEq]at h1;exact⟨_,j,hk,by rw [←h1.1];exact hj,by rw [←h1.2];exact he.symm,hi⟩
end Go.Tr
namespace Go.Proofs.YtpdccfgpbkagcaaGreat
open Go.Vc Go.Lv Go.Ty Go.Tr
def ks (l:List Ag):List Int:=l.map (·.kids)
theorem A9 (l:List Ag):(ks l).length=l.length:=by simp [ks]
theorem H8 {l:List Ag} {p:Nat} {x:Ag} (h:l[p]? =some x):(ks l).getD p 0=x.kids:=by
 simp [ks,List.getD,h]
theorem FT {l:List Ag} {p:Nat} {x:Ag} (h:l[p]? =some x):(ks l).drop p=x.kids::(ks l).drop (p+1):=by
 rw [Gb (by rw [A9];exact(List.getElem?_eq_some_iff.1 h).1),H8 h]
def Vg (l:List Ag) (i:Int):Int:=if 0<=i/\i<l.length then Cf (ks l) i.toNat else l.length
def Ar (l:List Ag) (i:Int):List Int:=if 0<=i then M6 (ks l) i.toNat else []
theorem Ay2 (l:List Ag) (i:Int) (hl:l.length<=100000) (K:Int->Prop) (h:K (Vg l i)):Q7 l i K:=by
 refine Ab0 _ _ _ (Aa (fun hc=> ?_) fun hc=> ?_)
 ·unfold Vg at h;rw [if_neg (by simp at hc;omega)]at h;exact h
 ·have hi:0<=i/\i<l.length:=by simp at hc;omega
  unfold Vg at h;rw [if_pos hi]at h;refine⟨fun i1 p_ n=>∃p d:Nat,i1=p/\p_=d/\p<=l.length/\d<=1+p*100000/\n=l.length-p/\eL 1 ((ks l).drop i.toNat)=eL d ((ks l).drop p),⟨_,i.toNat,1,by omega,rfl,by omega,by omega,rfl,rfl⟩,?_⟩;rintro _ _ _ ⟨p,d,rfl,rfl,hp,hd,rfl,he⟩;refine Aa (fun hc=> ?_) fun hc=> ?_
  ·have lH:0<d/\p<l.length:=by simp at hc;omega
   refine⟨by omega,fun x hx=> ?_⟩;rw [toNat_natCast]at hx;rw [FT hx]at he;obtain⟨e,rfl⟩:∃e,d=e+1:=⟨d-1,by omega⟩
   rw [Ff]at he;have hlen:((ks l).drop (p+1)).length<=l.length:=by rw [length_drop,A9];omega
   have hw:∃q:Nat,(if(l.length:Int)<(if 0>x.kids then 0 else x.kids)then(l.length:Int)else(if 0>x.kids then 0 else x.kids))=q/\q<=l.length/\eL (e+x.kids.toNat) ((ks l).drop (p+1))=eL (e+q) ((ks l).drop (p+1)):=by
    by_cases h0:0>x.kids
    ·rw [if_pos h0];exact⟨0,by rw [if_neg (by omega)];rfl,by omega,by rw [show x.kids.toNat=0 by omega]⟩
    ·rw [if_neg h0];by_cases h1:(l.length:Int)<x.kids
     ·rw [if_pos h1];exact⟨l.length,rfl,by omega,by rw [FR _ _ (by omega),FR _ _ (by omega)]⟩
     ·rw [if_neg h1];exact⟨x.kids.toNat,by omega,by omega,rfl⟩
   obtain⟨q,hq,hql,hqe⟩:=hw;rw [hq,Au (n:=(q:Int)-1) (by omega) (by omega),Au (n:=(p:Int)+1) (by omega) (by omega),Au (by omega) (by omega)];exact⟨l.length-(p+1),by omega,p+1,e+q,by omega,by omega,by omega,by omega,rfl,he.trans hqe⟩
  ·have hr:eL 1 ((ks l).drop i.toNat)=(ks l).drop p:=by
    rw [he];by_cases hd0:d=0
    ·rw [hd0,Cz]
    ·have:p=l.length:=by simp at hc;omega
     rw [drop_of_length_le (by rw [A9];omega),K4]
   have:Cf (ks l) i.toNat=p:=by unfold Cf;rw [hr,length_drop,A9];omega
   rw [this]at h;exact h
theorem Axj (l:List Ag) (hl:l.length<=100000):∀(m:Nat) (i:Int) (K:Int->Prop),(l.length:Int)-i<=m->K (Vg l i)->Fj l i K:=by
 intro m
 induction m with
 |zero=>
  intro i K hm h;refine S6 _ _ _ (B3 (by simp;omega) ?_);unfold Vg at h;rw [if_neg (by omega)]at h;exact h
 |succ m ih=>
  intro i K hm h;refine S6 _ _ _ (Aa (fun hc=> ?_) fun hc=> ?_)
  ·unfold Vg at h;rw [if_neg (by simp at hc;omega)]at h;exact h
  ·have hi:0<=i/\i<l.length:=by simp at hc;omega
   unfold Vg at h;rw [if_pos hi]at h;obtain⟨a,rfl⟩:∃a:Nat,i=a:=⟨i.toNat,by omega⟩
   rw [toNat_natCast]at h;have gU:a<l.length:=by omega
   have hx:l[a]? =some l[a]:=List.getElem?_eq_getElem gU;refine⟨fun aM k n=>∃p c:Nat,aM=p/\k=c/\a<p/\p<=l.length/\c<=p/\c<=(l[a].kids).toNat/\n=l.length-p/\eL c ((ks l).drop (a+1))=(ks l).drop p,⟨_,a+1,0,by rw [Au (by omega) (by omega)];omega,rfl,by omega,by omega,by omega,by omega,rfl,Cz _⟩,?_⟩;rintro _ _ _ ⟨p,c,rfl,rfl,mq,hp,RD,lZ,rfl,he⟩;refine⟨fun b=>b=(decide ((c:Int)<l[a].kids)&&decide (p<l.length)),⟨by omega,fun x1 jw=> ?_⟩,?_⟩
   ·rw [toNat_natCast,hx]at jw;cases jw
    refine Aa (fun hd=> ?_) fun hd=> ?_
    ·rw [hd,Bool.true_and];congr 1;simp
    ·rw [hd,Bool.false_and]
   ·rintro _ rfl;refine Aa (fun hd=> ?_) fun hd=> ?_
    ·have d6:(c:Int)<l[a].kids/\p<l.length:=by simpa using hd
     refine ih p _ (by omega) ?_;unfold Vg;rw [if_pos (by omega),toNat_natCast];have h1:=Fl (ks l) p (by rw [A9];omega);have h2:=Cd (ks l) p;rw [A9]at h2;refine⟨l.length-Cf (ks l) p,by omega,Cf (ks l) p,c+1,rfl,by rw [Au (by omega) (by omega)];omega,by omega,by omega,by omega,by omega,rfl,?_⟩;rw [Dy,he,C8]
    ·have hr:eL 1 ((ks l).drop a)=(ks l).drop p:=by
      rw [FT hx,Mz];by_cases dV:c=(l[a].kids).toNat
      ·rw [←dV,he]
      ·have:p=l.length:=by simp at hd;omega
       rw [show(l[a].kids).toNat=c+((l[a].kids).toNat-c) by omega,Dy,he,drop_of_length_le (by rw [A9];omega),K4]
     have:Cf (ks l) a=p:=by unfold Cf;rw [hr,length_drop,A9];omega
     rw [this]at h;exact h
theorem xM (l:List Ag) (i:Int) (hl:l.length<=100000) (K:Int->Prop) (h:K (Vg l i)):Fj l i K:=Axj l hl ((l.length:Int)-i).toNat i K (by omega) h
theorem Js (l:List Ag) (i:Int) (hl:l.length<=100000):Fb i l (Ar l i):=by
 refine Z3 _ _ _ ⟨fun b pre stop=>pre=[]/\stop=false/\b=(decide (i<0)||decide (i>=(l.length:Int))),Aa (fun hc=>⟨rfl,rfl,by rw [hc];rfl⟩) (fun hc=>⟨rfl,rfl,by rw [hc];rfl⟩),?_⟩;rintro _ _ _ ⟨rfl,rfl,rfl⟩;refine Aa (fun hc=>fun _=> ?_) fun hc=>⟨rfl,?_⟩
 ·unfold Ar M6;split
  ·rw [if_neg (by rw [A9];simp at hc;omega)]
  ·rfl
 ·have hi:0<=i/\i<l.length:=by simp at hc;omega
  obtain⟨a,rfl⟩:∃a:Nat,i=a:=⟨i.toNat,by omega⟩
  refine⟨by omega,fun x hx=> ?_⟩;rw [toNat_natCast]at hx;have lh:Ar l a=Ea (ks l) x.kids.toNat (a+1):=by
   unfold Ar M6;rw [if_pos (by omega),toNat_natCast,if_pos (by rw [A9];omega),H8 hx]
  rw [lh];refine⟨fun aM x2 pre stop n=>stop=false/\∃p c:Nat,aM=p/\x2=c/\p<=l.length/\c<=p/\c<=x.kids.toNat/\n=x.kids.toNat-c/\pre++Ea (ks l) (x.kids.toNat-c) p=Ea (ks l) x.kids.toNat (a+1),⟨_,rfl,a+1,0,by rw [Au (by omega) (by omega)];omega,rfl,by omega,by omega,by omega,rfl,by simp⟩,?_⟩;rintro _ _ pre _ _ ⟨rfl,p,c,rfl,rfl,hp,RD,lZ,rfl,he⟩;refine Aa (fun hd=> ?_) fun hd=>fun _=> ?_
  ·have Bs4:c<x.kids.toNat:=by simp at hd;omega
   have hs:x.kids.toNat-c=(x.kids.toNat-(c+1))+1:=by omega
   refine⟨fun b mY FV=>(b=true/\(FV=false->mY=Ea (ks l) x.kids.toNat (a+1)))\/(b=false/\FV=false/\p<l.length/\mY=pre++[(p:Int)]),⟨rfl,Aa (fun hc=> ?_) fun hc=> ?_⟩,?_⟩
   ·refine .inl ⟨rfl,fun _=> ?_⟩;rw [hs,Ea,if_neg (by rw [A9];simp at hc;omega),append_nil]at he;exact he
   ·have l0:p<l.length:=by simp at hc;omega
    rw [hs,Ea,if_pos (by rw [A9];omega)]at he;refine⟨by rw [←he];simp,.inr ⟨rfl,rfl,l0,rfl⟩,.inl ⟨rfl,by simp⟩⟩
   ·rintro b mY FV (⟨rfl,h⟩|⟨rfl,rfl,l0,rfl⟩)
    ·exact h
    ·refine⟨rfl,Ay2 l p hl _ ?_⟩;rw [hs,Ea,if_pos (by rw [A9];omega)]at he;unfold Vg;rw [if_pos (by omega),toNat_natCast];have h1:=Fl (ks l) p (by rw [A9];omega);have h2:=Cd (ks l) p;rw [A9]at h2;exact⟨x.kids.toNat-(c+1),by omega,rfl,Cf (ks l) p,c+1,rfl,by rw [Au (by omega) (by omega)];omega,by omega,by omega,by omega,rfl,by rw [List.append_assoc];exact he⟩
  ·have:x.kids.toNat-c=0:=by simp at hd;omega
   rw [this,Ea,append_nil]at he;exact he
theorem RE (l:List Int):∀(n p:Nat),p<=l.length->(Ea l n p).length<=l.length-p
 |0,p,_=>by simp [Ea]
 |n+1,p,hp=>by
  unfold Ea;split
  ·rename_i h;have h1:=Fl l p h;have h2:=Cd l p;have:=RE l n (Cf l p) h2;rw [length_cons];omega
  ·simp
theorem Eb (l:List Ag) (i:Int):(Ar l i).length<=l.length:=by
 unfold Ar M6;split
 ·split
  ·rename_i h;have:=RE (ks l) ((ks l).getD i.toNat 0).toNat (i.toNat+1) (by omega);rw [A9]at this;omega
  ·simp
 ·simp
theorem We (l:List Ag) (i:Int) (hl:l.length<=100000) (K:List Int->Prop) (h:K (Ar l i)):Ds l i K:=by
 refine Ab2 _ _ _ (Aa (fun hc=> ?_) fun hc=> ?_)
 ·have:Ar l i=[]:=by
   unfold Ar M6;split
   ·rw [if_neg (by rw [A9];simp at hc;omega)]
   ·rfl
  rw [this]at h;exact h
 ·have hi:0<=i/\i<l.length:=by simp at hc;omega
  obtain⟨a,rfl⟩:∃a:Nat,i=a:=⟨i.toNat,by omega⟩
  have gU:a<l.length:=by omega
  have hx:l[a]? =some l[a]:=List.getElem?_eq_getElem gU;have lh:Ar l a=Ea (ks l) (l[a].kids).toNat (a+1):=by
   unfold Ar M6;rw [if_pos (by omega),toNat_natCast,if_pos (by rw [A9];omega),H8 hx]
  have hlen:=Eb l a;rw [lh]at h hlen;refine⟨fun out aM k n=>∃p c:Nat,aM=p/\k=c/\p<=l.length/\c<=p/\c<=(l[a].kids).toNat/\n=(l[a].kids).toNat-c/\out++Ea (ks l) ((l[a].kids).toNat-c) p=Ea (ks l) (l[a].kids).toNat (a+1),⟨_,a+1,0,by rw [Au (by omega) (by omega)];omega,rfl,by omega,by omega,by omega,rfl,by simp⟩,?_⟩;rintro out _ _ _ ⟨p,c,rfl,rfl,hp,RD,lZ,rfl,he⟩;refine⟨fun b=>b=(decide ((c:Int)<l[a].kids)&&decide (p<l.length)),⟨by omega,fun x1 jw=> ?_⟩,?_⟩
  ·rw [toNat_natCast,hx]at jw;cases jw
   refine Aa (fun hd=> ?_) fun hd=> ?_
   ·rw [hd,Bool.true_and];congr 1;simp
   ·rw [hd,Bool.false_and]
  ·rintro _ rfl;refine Aa (fun hd=> ?_) fun hd=> ?_
   ·have d6:(c:Int)<l[a].kids/\p<l.length:=by simpa using hd
    have hs:(l[a].kids).toNat-c=((l[a].kids).toNat-(c+1))+1:=by omega
    rw [hs,Ea,if_pos (by rw [A9];omega)]at he;have FW:out.length+1<=l.length:=by
     have:=congrArg List.length he;simp at this;omega
    refine⟨by simp;omega,xM l p hl _ ?_⟩;unfold Vg;rw [if_pos (by omega),toNat_natCast];have h1:=Fl (ks l) p (by rw [A9];omega);have h2:=Cd (ks l) p;rw [A9]at h2;exact⟨(l[a].kids).toNat-(c+1),by omega,Cf (ks l) p,c+1,rfl,by rw [Au (by omega) (by omega)];omega,by omega,by omega,by omega,rfl,by rw [List.append_assoc];exact he⟩
   ·have:out=Ea (ks l) (l[a].kids).toNat (a+1):=by
     by_cases dV:c=(l[a].kids).toNat
     ·rw [←dV,Nat.sub_self,Ea,append_nil,dV]at he;exact he
     ·have l0:¬p<(ks l).length:=by rw [A9];simp at hd;omega
      rw [show(l[a].kids).toNat-c=((l[a].kids).toNat-(c+1))+1 by omega,Ea,if_neg l0,append_nil]at he;exact he
    rw [this];exact h
theorem M7 (l:List Ag) (i:Int) (K:Int->List Ag->Prop) (h:K i l):Hu l i K:=Zj _ _ _ h
def Rl (l:List Ag) (i k:Int):Int:=if 0<=k then(Ar l i).getD k.toNat (-1)else-1
theorem Ay3 (l:List Ag) (i k:Int) (hl:l.length<=100000) (hk:k<9223372036854775808) (K:Int->Prop) (h:K (Rl l i k)):Q8 l i k K:=by
 refine Ab1 _ _ _ _ (Aa (fun hc=> ?_) fun hc=> ?_)
 ·unfold Rl at h;rw [if_neg (by simp at hc;omega)]at h;exact h
 ·have tA:0<=k:=by simp at hc;omega
  unfold Rl at h;rw [if_pos tA]at h;refine M7 l i _ ⟨_,Js l i hl,fun pre _ k'=>pre.length<=k.toNat/\k'=k-pre.length,⟨by simp,by simp⟩,?_,?_⟩
  ·rintro pre x _ _ db ⟨wY,rfl⟩;refine Aa (fun hd=> ?_) fun hd=> ?_
   ·have:k.toNat=pre.length:=by simp at hd;omega
    obtain⟨t,ht⟩:=db;rw [this,←ht]at h;simpa using h
   ·have:pre.length≠k.toNat:=by simp at hd;omega
    exact⟨by simp;omega,by rw [Au (by omega) (by omega)];simp;omega⟩
  ·rintro _ _ ⟨wY,_⟩;rw [getD_eq_getElem?_getD,getElem?_eq_none (by omega)]at h;exact h
theorem Axk (l:List Ag) (i k:Int) (hl:l.length<=100000) (K:Int->Prop) (h:K (Rl l i k)):Ux l i k K:=by
 refine Afq _ _ _ _ (We l i hl _ (Aa (fun hc=> ?_) fun hc=>⟨by simp at hc;omega,fun x hx=> ?_⟩))
 ·unfold Rl at h;by_cases hk:0<=k
  ·rw [if_pos hk,getD_eq_getElem?_getD,getElem?_eq_none (by simp at hc;omega)]at h;exact h
  ·rw [if_neg hk]at h;exact h
 ·unfold Rl at h;rw [if_pos (by simp at hc;omega),getD_eq_getElem?_getD,hx]at h;exact h
def uU (l:List Ag) (i r:Int):Prop:=(∃k:Nat,r=k/\i∈Ar l k)\/(r= -1/\∀k:Nat,i∉Ar l k)
theorem Hd {l:List Ag} {k:Nat} {x:Int} :x∈Ar l k↔∃j i:Nat,x=i/\bh (ks l) k j i:=by
 unfold Ar;rw [if_pos (by omega),toNat_natCast,Amk]
theorem uU.unique {l:List Ag} {i r r':Int} (h:uU l i r) (h':uU l i r'):r=r':=by
 rcases h with⟨k,rfl,hk⟩|⟨rfl,hn⟩<;>rcases h' with⟨k',rfl,bZ⟩|⟨rfl,jD⟩
 ·obtain⟨j,a,rfl,h1⟩:=Hd.1 hk;obtain⟨j',a',e,h2⟩:=Hd.1 bZ;obtain rfl:a=a':=by omega
  rw [h1.unique h2]
 ·exact absurd hk (jD k)
 ·exact absurd bZ (hn k')
 ·rfl
theorem Bas (l:List Ag) (i:Int) (hl:l.length<=100000) (K:Int->Prop) (h:∀r,uU l i r->K r):PT l i K:=by
 refine Afo _ _ _ ⟨fun b=>b=(decide (i<0)||decide (i>=(l.length:Int))),Aa (fun hc=>by rw [hc];rfl) (fun hc=>by rw [hc];rfl),?_⟩;rintro _ rfl;refine Aa (fun hc=>h _ (.inr ⟨rfl,fun k hk=> ?_⟩)) fun hc=> ?_
 ·obtain⟨j,a,rfl,hq⟩:=Hd.1 hk;have:=hq.2.2.2;rw [A9]at this;simp at hc;omega
 ·have hi:0<=i/\i<l.length:=by simp at hc;omega
  refine⟨fun v _ n=>v<i/\-1<=v/\n=(v+1).toNat/\∀k:Nat,v<k->i∉Ar l k,⟨_,by rw [Au (by omega) (by omega)];omega,by rw [Au (by omega) (by omega)];omega,rfl,fun k hk hm=> ?_⟩,?_⟩
  ·rw [Au (by omega) (by omega)]at hk;obtain⟨j,a,rfl,hq⟩:=Hd.1 hm;have:=hq.ahead;omega
  ·rintro v v1 _ ⟨hv,hv1,rfl,bV⟩;refine Aa (fun hd=> ?_) fun hd=> ?_
   ·have FX:0<=v:=by simpa using hd
    refine M7 l v _ ⟨_,Js l v hl,fun pre _=>i∉pre,by simp,?_,?_⟩
    ·rintro pre x _ ⟨t,ht⟩ hp;refine Aa (fun he=> ?_) fun he=> ?_
     ·have:x=i:=by simpa using he
      subst this;refine h _ (.inl ⟨v.toNat,by omega,?_⟩);rw [Int.toNat_of_nonneg FX,←ht];simp
     ·simp only [mem_append,mem_singleton,not_or];exact⟨hp,fun e=>by rw [e]at he;simp at he⟩
    ·rintro _ Bri;rw [Au (by omega) (by omega)];refine⟨v.toNat,by omega,by omega,by omega,by omega,fun k hk=> ?_⟩;by_cases tB:(k:Int)=v
     ·rw [tB];exact Bri
     ·exact bV k (by omega)
   ·exact h _ (.inr ⟨rfl,fun k=>bV k (by simp at hd;omega)⟩)
theorem RF (l:List Ag) (i:Int) (hl:l.length<=100000) (K:Int->Prop) (h:∀r,uU l i r->K r):Sx l i K:=by
 refine Aja _ _ _ ⟨fun k n=>∃a:Nat,k=a/\a<=l.length/\n=l.length-a/\∀b,b<a->i∉Ar l b,⟨_,0,rfl,by omega,rfl,by omega⟩,?_⟩;rintro _ _ ⟨a,rfl,ha,rfl,bV⟩;refine Aa (fun hc=> ?_) fun hc=> ?_
 ·have lH:(a:Int)<i/\a<l.length:=by simp at hc;omega
  refine We l a hl _ ⟨fun j n=>∃b:Nat,j=b/\b<=(Ar l a).length/\n=(Ar l a).length-b/\i∉(Ar l a).take b,⟨_,0,rfl,by omega,rfl,by simp⟩,?_⟩;rintro _ _ ⟨b,rfl,hb,rfl,qa⟩;have hlen:=Eb l a;refine Aa (fun hd=>⟨by simp at hd;omega,fun x hx=> ?_⟩) fun hd=> ?_
  ·rw [toNat_natCast]at hx;have xO:=(List.getElem?_eq_some_iff.1 hx).1;refine Aa (fun he=>h _ (.inl ⟨a,rfl,?_⟩)) fun he=> ?_
   ·have:x=i:=by simpa using he
    subst this;exact mem_of_getElem? hx
   ·rw [Au (by omega) (by omega)];refine⟨(Ar l a).length-(b+1),by omega,b+1,by omega,by omega,rfl,?_⟩;rw [List.take_add_one,hx];simp only [Option.toList_some,mem_append,mem_singleton,not_or];exact⟨qa,fun e=>by rw [e]at he;simp at he⟩
  ·rw [List.take_of_length_le (by simp at hd;omega)]at qa;rw [Au (by omega) (by omega)];refine⟨l.length-(a+1),by omega,a+1,by omega,by omega,rfl,fun c hc=> ?_⟩;by_cases n9:c=a
   ·rw [n9];exact qa
   ·exact bV c (by omega)
 ·refine h _ (.inr ⟨rfl,fun k hk=> ?_⟩);by_cases hka:k<a
  ·exact bV k hka hk
  ·obtain⟨j,b,rfl,hq⟩:=Hd.1 hk;have h1:=hq.ahead;have h2:=hq.2.2.2;have h3:=hq.1;rw [A9]at h2 h3;simp at hc;omega
open Go.Rk
def gC (n:Int):Prop:= -9223372036854775808<=n/\n<=9223372036854775807
abbrev wr (n:Int):Int:=IntKind.i64.wrap n
theorem uV (n:Int):gC (wr n):=by
 have h1:(-9223372036854775808:Int)<=wr n/\wr n<=9223372036854775807:=by
  unfold wr;rw [IntKind.wrap_i64];omega
 exact h1
def Vh (c:Bool):Int:=cond c 1 0
theorem L2 (c:Bool) (K:Int->Prop) (h:K (Vh c)):Cu c K:=by
 refine Af2 _ _ ?_;cases c<;>exact h
theorem Te (c:Bool):gC (Vh c):=by cases c<;>exact⟨by decide,by decide⟩
def sa (n:Int):Int:=if n<0 then IntKind.u64.wrap (0-IntKind.u64.wrap n)else IntKind.u64.wrap n
def uW (a b:Int):Int:=
 if¬(a<0↔b<0)then wr (IntKind.u64.wrap (0-IntKind.u64.wrap ((sa a).tdiv (sa b))))else wr (IntKind.u64.wrap ((sa a).tdiv (sa b)))
theorem RG (n:Int) (K:Int->Prop) (h:K (sa n)):Mx n K:=by
 unfold sa at h;refine Acj _ _ (Aa (fun hc=> ?_) fun hc=> ?_)
 ·rwa [if_pos (of_decide_eq_true hc)]at h
 ·rwa [if_neg (of_decide_eq_false hc)]at h
theorem Axl {b:Int} (hj:gC b) (hb:b≠0):sa b≠0:=by
 unfold sa;obtain⟨h1,h2⟩:=hj;split
 ·rw [IntKind.wrap_u64,IntKind.wrap_u64];omega
 ·rw [IntKind.wrap_u64];omega
theorem Ay4 (a b:Int) (hj:gC b) (hb:b≠0) (K:Int->Prop) (h:K (uW a b)):Ke a b K:=by
 refine S8 _ _ _ (RG a _ (RG b _ ⟨Axl hj hb,?_⟩));unfold uW at h;refine Aa (fun hc=> ?_) fun hc=> ?_
 ·rwa [if_pos (by intro e;simp [e]at hc)]at h
 ·rwa [if_neg (by
   intro hn;apply hn;simp only [Bool.not_eq_false',beq_iff_eq]at hc;rw [decide_eq_decide]at hc;exact hc)]at h
def fq (op a b:Int):Int×Int:=
 if op=3 then(wr (0-a),0)
 else if op=4 then(Vh (a==0),0)
 else if op=5 then(wr (IntKind.u64.wrap (IntKind.u64.wrap a+IntKind.u64.wrap b)),0)
 else if op=6 then(wr (IntKind.u64.wrap (IntKind.u64.wrap a-IntKind.u64.wrap b)),0)
 else if op=7 then(wr (IntKind.u64.wrap (IntKind.u64.wrap a*IntKind.u64.wrap b)),0)
 else if op=8\/op=9 then(if b=0 then(0,1)else if op=8 then(uW a b,0)else(wr (a-wr (uW a b*b)),0))
 else if op=10 then(Vh (a==b),0)
 else if op=11 then(Vh (!(a==b)),0)
 else if op=12 then(Vh (decide (a<b)),0)
 else if op=13 then(Vh (decide (a<b)||(a==b)),0)
 else if op=14 then(Vh (!(decide (a<b))&& !(a==b)),0)
 else if op=15 then(Vh (!(decide (a<b))),0)
 else if op=16 then(Vh (a !=0&&b !=0),0)
 else if op=17 then(Vh (a !=0||b !=0),0)
 else(0,0)
theorem zW (a:Int):(a !=0)=decide (a≠0):=by rw [Bool.eq_iff_iff];simp
theorem Ay5:zS fq:=by
 refine⟨fun op a b h=> ?_,fun a b=> ?_,fun a b=> ?_⟩
 ·rcases h with rfl|rfl<;>rfl
 ·unfold fq;simp only [show¬((16:Int)=3) by decide,show¬((16:Int)=4) by decide,show¬((16:Int)=5) by decide,show¬((16:Int)=6) by decide,show¬((16:Int)=7) by decide,show¬((16:Int)=8\/(16:Int)=9) by decide,show¬((16:Int)=10) by decide,show¬((16:Int)=11) by decide,show¬((16:Int)=12) by decide,show¬((16:Int)=13) by decide,show¬((16:Int)=14) by decide,show¬((16:Int)=15) by decide,if_false,if_true];rw [zW a,zW b];unfold Vh;by_cases h1:a=0<;>by_cases h2:b=0<;>simp [h1,h2]
 ·unfold fq;simp only [show¬((17:Int)=3) by decide,show¬((17:Int)=4) by decide,show¬((17:Int)=5) by decide,show¬((17:Int)=6) by decide,show¬((17:Int)=7) by decide,show¬((17:Int)=8\/(17:Int)=9) by decide,show¬((17:Int)=10) by decide,show¬((17:Int)=11) by decide,show¬((17:Int)=12) by decide,show¬((17:Int)=13) by decide,show¬((17:Int)=14) by decide,show¬((17:Int)=15) by decide,show¬((17:Int)=16) by decide,if_false,if_true];rw [zW a,zW b];unfold Vh;by_cases h1:a=0<;>by_cases h2:b=0<;>simp [h1,h2]
theorem Ay6 (a b:Int):gC (uW a b):=by
 unfold uW;split<;>exact uV _
theorem FY (op a b:Int):gC (fq op a b).1:=by
 have z:gC 0:=⟨by decide,by decide⟩
 unfold fq;by_cases h:op=3
 ·rw [if_pos h];exact uV _
 rw [if_neg h];clear h;by_cases h:op=4
 ·rw [if_pos h];exact Te _
 rw [if_neg h];clear h;by_cases h:op=5
 ·rw [if_pos h];exact uV _
 rw [if_neg h];clear h;by_cases h:op=6
 ·rw [if_pos h];exact uV _
 rw [if_neg h];clear h;by_cases h:op=7
 ·rw [if_pos h];exact uV _
 rw [if_neg h];clear h;by_cases h:op=8\/op=9
 ·rw [if_pos h];by_cases h0:b=0
  ·rw [if_pos h0];exact z
  ·rw [if_neg h0];by_cases h8:op=8
   ·rw [if_pos h8];exact Ay6 _ _
   ·rw [if_neg h8];exact uV _
 rw [if_neg h];clear h;by_cases h:op=10
 ·rw [if_pos h];exact Te _
 rw [if_neg h];clear h;by_cases h:op=11
 ·rw [if_pos h];exact Te _
 rw [if_neg h];clear h;by_cases h:op=12
 ·rw [if_pos h];exact Te _
 rw [if_neg h];clear h;by_cases h:op=13
 ·rw [if_pos h];exact Te _
 rw [if_neg h];clear h;by_cases h:op=14
 ·rw [if_pos h];exact Te _
 rw [if_neg h];clear h;by_cases h:op=15
 ·rw [if_pos h];exact Te _
 rw [if_neg h];clear h;by_cases h:op=16
 ·rw [if_pos h];exact Te _
 rw [if_neg h];clear h;by_cases h:op=17
 ·rw [if_pos h];exact Te _
 rw [if_neg h];clear h;exact z
theorem FZ (op a b:Int) (hb:gC b) (K:Ah->Prop) (h:K ⟨(fq op a b).1,(fq op a b).2⟩):Hw op a b K:=by
 unfold fq at h;refine Zv _ _ _ _ (Aa (fun hc=> ?_) fun c3=> ?_)
 ·obtain rfl:op=3:=by simpa using hc
  exact h
 rw [if_neg (by simpa using c3)]at h;refine Aa (fun hc=> ?_) fun c4=> ?_
 ·obtain rfl:op=4:=by simpa using hc
  exact L2 _ _ h
 rw [if_neg (by simpa using c4)]at h;refine Aa (fun hc=> ?_) fun c5=> ?_
 ·obtain rfl:op=5:=by simpa using hc
  exact h
 rw [if_neg (by simpa using c5)]at h;refine Aa (fun hc=> ?_) fun c6=> ?_
 ·obtain rfl:op=6:=by simpa using hc
  exact h
 rw [if_neg (by simpa using c6)]at h;refine Aa (fun hc=> ?_) fun c7=> ?_
 ·obtain rfl:op=7:=by simpa using hc
  exact h
 rw [if_neg (by simpa using c7)]at h;refine⟨fun x=>x=decide (op=8\/op=9),Aa (fun hc=> ?_) fun hc=> ?_,?_⟩
 ·have:op=8:=by simpa using hc
  simp [this]
 ·have:¬op=8:=by simpa using hc
  simp only [this,false_or];rw [Bool.eq_iff_iff];simp
 rintro _ rfl;refine Aa (fun hc=> ?_) fun c8=> ?_
 ·rw [if_pos (of_decide_eq_true hc)]at h;refine Aa (fun hz=> ?_) fun hz=> ?_
  ·rwa [if_pos (by simpa using hz)]at h
  ·rw [if_neg (by simpa using hz)]at h;refine Ay4 a b hb (by simpa using hz) _ (Aa (fun h8=> ?_) fun h8=> ?_)
   ·rwa [if_pos (by simpa using h8)]at h
   ·rwa [if_neg (by simpa using h8)]at h
 rw [if_neg (of_decide_eq_false c8)]at h;refine Aa (fun hc=> ?_) fun pV=> ?_
 ·obtain rfl:op=10:=by simpa using hc
  exact L2 _ _ h
 rw [if_neg (by simpa using pV)]at h;refine Aa (fun hc=> ?_) fun uN=> ?_
 ·obtain rfl:op=11:=by simpa using hc
  exact L2 _ _ h
 rw [if_neg (by simpa using uN)]at h;refine Aa (fun hc=> ?_) fun uO=> ?_
 ·obtain rfl:op=12:=by simpa using hc
  exact L2 _ _ h
 rw [if_neg (by simpa using uO)]at h;refine Aa (fun hc=> ?_) fun kx=> ?_
 ·obtain rfl:op=13:=by simpa using hc
  refine Aa (fun hl=>L2 _ _ ?_) fun hl=>L2 _ _ ?_
  ·rw [hl]at h;exact h
  ·rw [hl]at h;exact h
 rw [if_neg (by simpa using kx)]at h;refine Aa (fun hc=> ?_) fun ky=> ?_
 ·obtain rfl:op=14:=by simpa using hc
  refine Aa (fun hl=>L2 _ _ ?_) fun hl=>L2 _ _ ?_
  ·rw [if_pos rfl,hl,Bool.true_and]at h;exact h
  ·rw [if_pos rfl,hl,Bool.false_and]at h;exact h
 rw [if_neg (by simpa using ky)]at h;refine Aa (fun hc=> ?_) fun kS=> ?_
 ·obtain rfl:op=15:=by simpa using hc
  exact L2 _ _ h
 rw [if_neg (by simpa using kS)]at h;refine Aa (fun hc=> ?_) fun mX=> ?_
 ·obtain rfl:op=16:=by simpa using hc
  rw [if_pos rfl]at h;refine Aa (fun hl=>L2 _ _ ?_) fun hl=>L2 _ _ ?_
  ·rw [hl,Bool.true_and]at h;exact h
  ·rw [hl,Bool.false_and]at h;exact h
 rw [if_neg (by simpa using mX)]at h;refine Aa (fun hc=> ?_) fun nY=> ?_
 ·obtain rfl:op=17:=by simpa using hc
  rw [if_pos rfl]at h;refine Aa (fun hl=>L2 _ _ ?_) fun hl=>L2 _ _ ?_
  ·rw [hl,Bool.true_or]at h;exact h
  ·rw [hl,Bool.false_or]at h;exact h
 rwa [if_neg (by simpa using nY)]at h
theorem Axm (op:Int) (K:Int->Prop) (h:K ((Fs op:Nat):Int)):Rd op K:=by
 unfold Fs at h;refine Acl _ _ (Aa (fun hc=> ?_) fun hc=>Aa (fun hd=> ?_) fun hd=> ?_)
 ·rwa [if_pos (by simpa using hc)]at h
 ·rw [if_neg (by simpa using hc)]at h
  rwa [if_pos (by simpa using hd)]at h
 ·rw [if_neg (by simpa using hc)]at h
  rwa [if_neg (by simpa using hd)]at h
theorem Axn (l:List Ay) (vars:List Int) (most:Nat) (hl:l.length<2147483648) (hm:most<2147483648) (hv:∀v∈vars,gC v) (uX:vars.length<2147483648) (hc:∀x∈l,x.op=2->gC x.a) (K:List Int->Int->Prop) (h:K (Ft fq vars most l 0 []).1 (Ft fq vars most l 0 []).2):Zf l vars most K:=by
 generalize hR:Ft fq vars most l 0 []=R at h;refine Acp _ _ _ _ ⟨fun m st p n=>∃k:Nat,m=k/\k=n/\k<=most/\st.length<=12/\(∀v∈st,gC v)/\Ft fq vars k l p st=R,⟨most,most,rfl,rfl,le_refl _,by simp,by simp,hR⟩,?_⟩;rintro _ st p _ ⟨k,rfl,rfl,hk,dh,hj,he⟩;refine Aa (fun nw=> ?_) fun nw=> ?_
 ·have nw:0<=p/\p<(l.length:Int)/\0<k:=by simpa using nw
  obtain⟨h1,h2,h3⟩:=nw;obtain⟨k,rfl⟩:∃j,k=j+1:=⟨k-1,by omega⟩
  have aE:p.toNat<l.length:=by omega
  rw [Ft,if_pos h1,List.getElem?_eq_getElem aE]at he;simp only at he;have jZ:=hc _ (List.getElem_mem aE);generalize mr:l[p.toNat]=x at he jZ;have eG:IntKind.i64.wrap (p+1)=p+1:=Au (by omega) (by omega);have key:∀q iQ,D8 fq vars x (p+1) st= .ok (q,iQ)->iQ.length<=12->(∀v∈iQ,gC v)->∃n1,n1<k+1/\∃j:Nat,IntKind.i64.wrap (((k+1:Nat):Int)-1)=j/\j=n1/\j<=most/\iQ.length<=12/\(∀v∈iQ,gC v)/\Ft fq vars j l q iQ=R:=by
   intro q iQ hs kB F_;rw [hs]at he;exact⟨k,by omega,k,by rw [Au (by omega) (by omega)];omega,rfl,by omega,kB,F_,he⟩
  have err:∀f,D8 fq vars x (p+1) st= .error f->K st f:=by
   intro f hs;rw [hs]at he;rw [←he]at h;exact h
  refine⟨fun iQ q=>D8 fq vars x (p+1) st= .ok (q,iQ)/\iQ.length<=12/\(∀v∈iQ,gC v),⟨⟨h1,h2⟩,fun y hy=> ?_⟩,?_⟩
  ·rw [List.getElem?_eq_getElem aE]at hy;obtain rfl:x=y:=by simp only [Option.some.injEq]at hy;rw [←hy];exact mr.symm
   refine⟨fun c=>c=decide (x.op=2\/x.op=3),Aa (fun hc=> ?_) fun hc=> ?_,?_⟩
   ·have:x.op=2:=by simpa using hc
    simp [this]
   ·have:¬x.op=2:=by simpa using hc
    simp only [this,false_or];rw [Bool.eq_iff_iff];simp
   rintro _ rfl;refine Aa (fun hc=> ?_) fun hc=> ?_
   ·have hc:=of_decide_eq_true hc;refine⟨fun v=>v=(if x.op=3 then(if 0<=x.a then vars.getD x.a.toNat 0 else 0)else x.a),Aa (fun h3=> ?_) fun h3=> ?_,?_⟩
    ·have h3:x.op=3:=by simpa using h3
     rw [if_pos h3];refine⟨fun c=>c=decide (0<=x.a/\x.a<(vars.length:Int)),Aa (fun hd=> ?_) fun hd=> ?_,?_⟩
     ·have hd:0<=x.a:=by simpa using hd
      simp [hd]
     ·have hd:¬0<=x.a:=by simpa using hd
      simp [hd]
     rintro _ rfl;refine Aa (fun hd=> ?_) fun hd=> ?_
     ·have hd:=of_decide_eq_true hd;refine⟨hd,fun v mH=> ?_⟩;rw [if_pos hd.1,getD_eq_getElem?_getD,mH];rfl
     ·have hd:=of_decide_eq_false hd;split
      ·rw [getD_eq_getElem?_getD,getElem?_eq_none (by omega)];rfl
      ·rfl
    ·have h3:¬x.op=3:=by simpa using h3
     rw [if_neg h3]
    rintro _ rfl;refine Aa (fun kB=> ?_) fun kB=> ?_
    ·have kB:12<=st.length:=by simp at kB;omega
     exact err 2 (by unfold D8;rw [if_pos hc,if_pos kB])
    ·have kB:¬12<=st.length:=by simp at kB;omega
     refine⟨by simp;omega,?_,by simp;omega,?_⟩
     ·unfold D8;rw [if_pos hc,if_neg kB,eG]
     ·intro v uY;rcases mem_append.1 uY with uY|uY
      ·exact hj v uY
      ·rw [mem_singleton]at uY;rw [uY];split
       ·split
        ·rw [getD_eq_getElem?_getD];cases hg:vars[x.a.toNat]? with
         |none=>exact⟨by decide,by decide⟩
         |some u=>exact hv u (mem_of_getElem? hg)
        ·exact⟨by decide,by decide⟩
       ·rename_i h3;exact jZ (by omega)
   have uZ:=of_decide_eq_false hc;refine Aa (fun hc=> ?_) fun lu=> ?_
   ·have hc:x.op=5:=by simpa using hc
    refine Axm _ _ (Aa (fun hd=> ?_) fun hd=> ?_)
    ·refine err (-1) ?_;unfold D8;rw [if_neg uZ,if_pos hc,if_pos (by simp at hd;omega)]
    ·have hw:Fs x.a=1\/Fs x.a=2:=by
      have h2w:Fs x.a<=2:=by
       unfold Fs;split
       ·omega
       ·split<;>omega
      simp at hd;omega
     have hd:¬(st.length<Fs x.a\/Fs x.a=0):=by simp at hd;omega
     have e1:IntKind.i64.wrap ((st.length:Int)-(Fs x.a:Nat))=((st.length-Fs x.a:Nat):Int):=by rw [Au (by omega) (by omega)];omega
     have e2:IntKind.i64.wrap ((st.length:Int)-1)=((st.length-1:Nat):Int):=by rw [Au (by omega) (by omega)];omega
     rw [e1,e2];refine⟨⟨by omega,by omega⟩,fun u hu=>⟨⟨by omega,by omega⟩,fun v mH=> ?_⟩⟩;rw [toNat_natCast]at hu mH;have eu:st.getD (st.length-Fs x.a) 0=u:=by rw [getD_eq_getElem?_getD,hu];rfl
     have ev:st.getD (st.length-1) 0=v:=by rw [getD_eq_getElem?_getD,mH];rfl
     have hs:D8 fq vars x (p+1) st=if(fq x.a u v).2≠0 then .error (fq x.a u v).2 else .ok (p+1,st.take (st.length-Fs x.a)++[(fq x.a u v).1]):=by
      unfold D8;rw [if_neg uZ,if_pos hc,if_neg hd,eu,ev]
     refine FZ _ _ _ (hj v (mem_of_getElem? mH)) _ (Aa (fun hf=> ?_) fun hf=> ?_)
     ·exact err _ (by rw [hs,if_pos (by simpa using hf)])
     ·refine⟨⟨by omega,by omega⟩,by rw [toNat_natCast,length_take];omega,by rw [toNat_natCast,length_take,length_singleton];omega,?_,?_,?_⟩
      ·rw [toNat_natCast,hs,if_neg (by simpa using hf),eG]
      ·rw [toNat_natCast,length_append,length_take,length_singleton];omega
      ·intro y j3;rw [toNat_natCast]at j3;rcases mem_append.1 j3 with j3|j3
       ·exact hj y (List.mem_of_mem_take j3)
       ·rw [mem_singleton]at j3;rw [j3];exact FY _ _ _
   have lu:¬x.op=5:=by simpa using lu
   refine⟨fun c=>c=decide (x.op=7\/x.op=8),Aa (fun hc=> ?_) fun hc=> ?_,?_⟩
   ·have:x.op=7:=by simpa using hc
    simp [this]
   ·have:¬x.op=7:=by simpa using hc
    simp only [this,false_or];rw [Bool.eq_iff_iff];simp
   rintro _ rfl;refine Aa (fun hc=> ?_) fun zX=> ?_
   ·have hc:=of_decide_eq_true hc;refine Aa (fun hd=> ?_) fun hd=> ?_
    ·refine err (-1) ?_;unfold D8;rw [if_neg uZ,if_neg lu,if_pos hc,if_pos (by have:=of_decide_eq_true hd;omega)]
    ·have hd:¬st.length<1:=by have:=of_decide_eq_false hd;omega
     have e2:IntKind.i64.wrap ((st.length:Int)-1)=((st.length-1:Nat):Int):=by rw [Au (by omega) (by omega)];omega
     rw [e2];refine⟨fun q=>q=(if(st.getD (st.length-1) 0=0↔x.op=7)then x.a else p+1),⟨⟨by omega,by omega⟩,fun v mH=> ?_⟩,?_⟩
     ·rw [toNat_natCast]at mH;have ev:st.getD (st.length-1) 0=v:=by rw [getD_eq_getElem?_getD,mH];rfl
      rw [ev];refine Aa (fun hq=> ?_) fun hq=> ?_
      ·rw [if_pos];rw [beq_iff_eq,Bool.eq_iff_iff,beq_iff_eq,beq_iff_eq]at hq;exact hq
      ·rw [if_neg,eG];intro hh;apply absurd hq;simp only [Bool.not_eq_false];rw [beq_iff_eq,Bool.eq_iff_iff,beq_iff_eq,beq_iff_eq];exact hh
     rintro _ rfl;refine⟨⟨by omega,by omega⟩,by rw [toNat_natCast,length_take];omega,?_,?_,?_⟩
     ·rw [toNat_natCast];unfold D8;rw [if_neg uZ,if_neg lu,if_pos hc,if_neg hd]
     ·rw [toNat_natCast,length_take];omega
     ·intro y j3;exact hj y (List.mem_of_mem_take j3)
   have zX:=of_decide_eq_false zX;refine Aa (fun hc=> ?_) fun qV=> ?_
   ·have hc:x.op=6:=by simpa using hc
    refine⟨?_,dh,hj⟩;unfold D8;rw [if_neg uZ,if_neg lu,if_neg zX,if_pos hc]
   ·refine err (-1) ?_;unfold D8;rw [if_neg uZ,if_neg lu,if_neg zX,if_neg (by simpa using qV)]
  ·rintro iQ q ⟨hs,kB,F_⟩;exact key q iQ hs kB F_
 ·have hn:(p<0\/(l.length:Int)<=p)\/k=0:=by
   simp at nw;omega
  cases k with
  |zero=>rw [Ft]at he;rw [←he]at h;exact h
  |succ k=>
   rw [Ft]at he;have:(if 0<=p then l[p.toNat]? else none)=none:=by
    split
    ·rw [getElem?_eq_none (by omega)]
    ·rfl
   rw [this]at he;simp only at he;rw [←he]at h;exact h
inductive Nw (L:List Ag) (A7:List Int):Nat->RT->Prop
 |num {i:Nat} {x:Ag} :L[i]? =some x->x.op=1->gC x.n->Nw L A7 i (.num x.n)
 |name {i:Nat} {x:Ag} {k:Int} :L[i]? =some x->x.op=2->A7[i]? =some k->Nw L A7 i (.name k)
 |un {i:Nat} {x:Ag} {a:RT} :L[i]? =some x->(x.op=3\/x.op=4)->x.kids=1->Nw L A7 (i+1) a->Nw L A7 i (.un x.op a)
 |bin {i j:Nat} {x:Ag} {a b:RT} :L[i]? =some x->5<=x.op->x.op<=17->x.kids=2->Nw L A7 (i+1) a->Rl L i 1=j->Nw L A7 j b->Nw L A7 i (.bin x.op a b)
theorem Ay7 {L:List Ag} {A7:List Int} (vars:List Int) (hv:∀v∈vars,gC v) {i:Nat} {t:RT} (h:Nw L A7 i t):∀n,gC (Bs fq vars t n).1:=by
 have z:gC 0:=⟨by decide,by decide⟩
 have o:gC 1:=⟨by decide,by decide⟩
 induction h with
 |num _ _ hj=>
  intro n;rw [Bs];split
  ·exact z
  ·exact hj
 |@name i x k _ _ _=>
  intro n;rw [Bs];split
  ·exact z
  ·show gC (if _ then _ else _)
   split
   ·rw [getD_eq_getElem?_getD];cases hg:vars[k.toNat]? with
    |none=>exact z
    |some u=>exact hv u (mem_of_getElem? hg)
   ·exact z
 |un _ _ _ _ ih=>
  intro n;rw [Bs];split
  ·exact ih n
  ·exact FY _ _ _
 |@bin i j x a b _ _ _ _ _ _ _ xP q_=>
  intro n;rw [Bs];generalize (if Cq x.op then n else n+1)=m;split
  ·exact xP n
  ·split
   ·exact z
   ·split
    ·exact o
    ·split
     ·exact q_ _
     ·exact FY _ _ _
theorem Ay8 {L:List Ag} {A7:List Int} {i:Nat} {t:RT} (h:Nw L A7 i t):uS t:=by
 induction h with
 |num=>trivial
 |name=>trivial
 |un _ ho _ _ ih=>exact⟨ho,ih⟩
 |bin _ h1 h2 _ _ _ _ xP q_=>exact⟨⟨h1,h2⟩,xP,q_⟩
theorem xQ {α:Type} {l:List α} {i:Nat} {x y:α} (h:l[i]? =some x) (h':l[((i:Nat):Int).toNat]? =some y):y=x:=by
 rw [toNat_natCast,h]at h';exact(Option.some.inj h').symm
theorem Auv (p:Bn) (L:List Ag) (hL:L.length<=100000) (vars:List Int) (hv:∀v∈vars,gC v) {i:Nat} {t:RT} (h:Nw L p.A7 i t):∀(n:Nat),n<=13->∀K:Ah->Prop,K ⟨(Bs fq vars t n).1,(Bs fq vars t n).2⟩->K2 L p i vars n K:=by
 have z:gC 0:=⟨by decide,by decide⟩
 induction h with
 |@num i x hx ho hj=>
  intro n hn K h;have aE:=(List.getElem?_eq_some_iff.1 hx).1;rw [Bs]at h;refine Gy _ _ _ _ _ _ ⟨⟨by omega,by omega⟩,fun y hy=> ?_⟩;obtain rfl:=xQ hx hy;refine⟨fun c=>c=true,B3 (by simpa using ho) rfl,?_⟩;rintro _ rfl;refine B3 rfl (Aa (fun hc=> ?_) fun hc=>B3 (by simpa using ho) ?_)
  ·have hc:12<=n:=by have:=of_decide_eq_true hc;omega
   rwa [if_pos hc]at h
  ·have hc:¬12<=n:=by have:=of_decide_eq_false hc;omega
   rwa [if_neg hc]at h
 |@name i x k hx ho hk=>
  intro n hn K h;have aE:=(List.getElem?_eq_some_iff.1 hx).1;have gw:=(List.getElem?_eq_some_iff.1 hk).1;rw [Bs]at h;refine Gy _ _ _ _ _ _ ⟨⟨by omega,by omega⟩,fun y hy=> ?_⟩;obtain rfl:=xQ hx hy;refine⟨fun c=>c=true,Ba (by simp [ho]) (by simp [ho]),?_⟩;rintro _ rfl;refine B3 rfl (Aa (fun hc=> ?_) fun hc=>Ba (by simp [ho]) ⟨⟨by omega,by omega⟩,fun v mH=> ?_⟩)
  ·have hc:12<=n:=by have:=of_decide_eq_true hc;omega
   rwa [if_pos hc]at h
  ·have hc:¬12<=n:=by have:=of_decide_eq_false hc;omega
   rw [if_neg hc]at h;obtain rfl:=xQ hk mH;refine Aa (fun hd=> ?_) fun hd=> ?_
   ·have hd:0<=v/\v<(vars.length:Int):=by simpa using hd
    refine⟨hd,fun u hu=> ?_⟩
    rwa [if_pos hd.1,getD_eq_getElem?_getD,hu]at h
   ·have hd:¬(0<=v/\v<(vars.length:Int)):=by simpa using hd
    have:(if 0<=v then vars.getD v.toNat 0 else 0)=0:=by
     split
     ·rw [getD_eq_getElem?_getD,getElem?_eq_none (by omega)];rfl
     ·rfl
    rwa [this]at h
 |@un i x a hx ho hk ha ih=>
  intro n hn K h;have aE:=(List.getElem?_eq_some_iff.1 hx).1;rw [Bs]at h;refine Gy _ _ _ _ _ _ ⟨⟨by omega,by omega⟩,fun y hy=> ?_⟩;obtain rfl:=xQ hx hy;refine⟨fun c=>c=false,Ba (by simp;omega) (by show(y.op==2)=false;simp;omega),?_⟩;rintro _ rfl;refine Ba rfl ?_;rw [show IntKind.i64.wrap ((i:Int)+1)=((i+1:Nat):Int) by rw [Au (by omega) (by omega)];omega];refine ih n hn _ (Aa (fun hc=> ?_) fun hc=>B3 (by simpa using hk) ?_)
  ·rwa [if_pos (by simpa using hc)]at h
  ·rw [if_neg (by simpa using hc)]at h;exact FZ _ _ _ z _ h
 |@bin i j x a b hx h5 mv hk ha hj hb xP q_=>
  intro n hn K h;have aE:=(List.getElem?_eq_some_iff.1 hx).1;rw [Bs]at h;refine Gy _ _ _ _ _ _ ⟨⟨by omega,by omega⟩,fun y hy=> ?_⟩;obtain rfl:=xQ hx hy;refine⟨fun c=>c=false,Ba (by simp;omega) (by show(y.op==2)=false;simp;omega),?_⟩;rintro _ rfl;refine Ba rfl ?_;rw [show IntKind.i64.wrap ((i:Int)+1)=((i+1:Nat):Int) by rw [Au (by omega) (by omega)];omega];refine xP n hn _ (Aa (fun hc=> ?_) fun hc=>Ba (by simp;omega) ?_)
  ·rwa [if_pos (by simpa using hc)]at h
  ·have hc:(Bs fq vars a n).2=0:=by simpa using hc
   have ra:=L1 vars a n hc;rw [if_neg (by simpa using hc)]at h;refine⟨fun c=>c=decide (y.op=16/\(Bs fq vars a n).1=0),Aa (fun ib=> ?_) fun ib=> ?_,?_⟩
   ·have ib:y.op=16:=by simpa using ib
    show(_==_)=decide _
    rw [Bool.eq_iff_iff];simp [ib]
   ·have ib:¬y.op=16:=by simpa using ib
    simp [ib]
   rintro _ rfl;refine Aa (fun hs=> ?_) fun hs=> ?_
   ·rwa [if_pos (of_decide_eq_true hs)]at h
   rw [if_neg (of_decide_eq_false hs)]at h;refine⟨fun c=>c=decide (y.op=17/\(Bs fq vars a n).1≠0),Aa (fun ib=> ?_) fun ib=> ?_,?_⟩
   ·have ib:y.op=17:=by simpa using ib
    show(_ !=_)=decide _
    rw [Bool.eq_iff_iff];simp [ib]
   ·have ib:¬y.op=17:=by simpa using ib
    simp [ib]
   rintro _ rfl;refine Aa (fun kD=> ?_) fun kD=> ?_
   ·rwa [if_pos (of_decide_eq_true kD)]at h
   rw [if_neg (of_decide_eq_false kD)]at h;refine⟨fun k=>k=((if Cq y.op then n else n+1:Nat):Int),⟨fun c=>c=decide (¬Cq y.op),Aa (fun ib=> ?_) fun ib=> ?_,?_⟩,?_⟩
   ·have ib:¬y.op=16:=by simpa using ib
    show(_ !=_)=decide _
    rw [Bool.eq_iff_iff];simp [Cq,ib]
   ·have ib:y.op=16:=by simpa using ib
    simp [Cq,ib]
   ·rintro _ rfl;refine Aa (fun he=> ?_) fun he=> ?_
    ·have he:¬Cq y.op:=of_decide_eq_true he;rw [if_neg he,Au (by omega) (by omega)];omega
    ·have he:Cq y.op:=by simpa using of_decide_eq_false he
     rw [if_pos he]
   rintro _ rfl;generalize hm:(if Cq y.op then n else n+1)=m at h;have Brj:m<=13:=by rw [←hm];split<;>omega
   refine⟨fun N f=>N=(Bs fq vars b m).1/\f=(Bs fq vars b m).2,Axk L i 1 hL _ ?_,?_⟩
   ·rw [hj];exact q_ m Brj _ ⟨rfl,rfl⟩
   rintro _ _ ⟨rfl,rfl⟩;refine Aa (fun hf=> ?_) fun hf=> ?_
   ·rwa [if_pos (by simpa using hf)]at h
   ·rw [if_neg (by simpa using hf)]at h;exact FZ _ _ _ (Ay7 vars hv hb m) _ h
open Go.Tk
abbrev Str:=List UInt8
def qb (n:Nat):Int:=IntKind.i64.wrap (n:Int)
theorem Le {n:Nat} (h:n<2^40):qb n=n:=Au (by omega) (by omega)
inductive dg:UInt8->Ag->List UInt8->Prop
 |num (n a:Int):0<=n->n<=999999999999999999->dg 69 ⟨1,[],n,0,a⟩ []
 |name (s:Str) (a:Int):Tk.D7 s=true->dg 69 ⟨2,s,0,0,a⟩ []
 |un (op a:Int):op=3\/op=4->dg 69 ⟨op,[],0,1,a⟩ [69]
 |bin (op a:Int):5<=op->op<=17->dg 69 ⟨op,[],0,2,a⟩ [69,69]
 |set (op:Int) (s:Str) (a:Int):op=18\/op=19\/op=20->Tk.D7 s=true->dg 83 ⟨op,s,0,1,a⟩ [69]
 |send (a:Int):dg 83 ⟨21,[],0,2,a⟩ [82,69]
 |recv (s:Str) (a:Int):Tk.D7 s=true->dg 83 ⟨22,s,0,1,a⟩ [82]
 |RH (a:Int):dg 83 ⟨23,[],0,2,a⟩ [69,66]
 |RJ (a:Int):dg 83 ⟨23,[],0,3,a⟩ [69,66,66]
 |RK (a:Int):dg 83 ⟨24,[],0,2,a⟩ [69,66]
 |zY (k:Nat) (a:Int):1<=k->dg 83 ⟨25,[],0,qb k,a⟩ (replicate k 67)
 |start (s:Str) (k:Nat) (a:Int):Tk.D7 s=true->dg 83 ⟨26,s,0,qb k,a⟩ (replicate k 69)
 |one (op a:Int):op=27\/op=28\/op=29->dg 83 ⟨op,[],0,1,a⟩ [69]
 |none (op a:Int):op=30\/op=31->dg 83 ⟨op,[],0,0,a⟩ []
 |zZ (a:Int):dg 67 ⟨37,[],0,1,a⟩ [66]
 |clause (op:Int) (s:Str) (a:Int) (w:Bool) (ds:List UInt8):(op=34/\Tk.D7 s=true/\ds=[82,66])\/(op=35/\s=[]/\ds=[82,69,66])\/(op=36/\s=[]/\ds=[69,66])->
  dg 67 ⟨op,s,(if w then 1 else 0),qb ((if w then [69]else [])++ds).length,a⟩ ((if w then [69]else [])++ds)
 |z0 (s:Str) (a:Int):Tk.D7 s=true->dg 82 ⟨33,s,0,0,a⟩ []
 |z3 (s:Str) (a:Int):Tk.D7 s=true->dg 82 ⟨33,s,0,1,a⟩ [69]
 |block (k:Nat) (a:Int):dg 66 ⟨32,[],0,qb k,a⟩ (replicate k 83)
 |param (s:Str) (a:Int):Tk.D7 s=true->dg 80 ⟨39,s,0,0,a⟩ []
 |unit (k:Nat) (a:Int):dg 85 ⟨42,[],0,qb k,a⟩ (replicate k 68)
 |chan (s:Str) (n a:Int):Tk.D7 s=true->0<=n->n<=16->dg 68 ⟨38,s,n,0,a⟩ []
 |main (a:Int):dg 68 ⟨41,[],0,1,a⟩ [66]
 |proc (s:Str) (k:Nat) (a:Int):Tk.D7 s=true->dg 68 ⟨40,s,0,qb (k+1),a⟩ (replicate k 80++[66])
inductive Fo where
 |nil
 |cons (x:Ag) (ks rs:Fo)
def Fo.flat:Fo->List Ag
 | .nil=>[]| .cons x ks rs=>x::(ks.flat++rs.flat)
inductive kT:List UInt8->Fo->Prop
 |nil:kT [] .nil
 |cons {c:UInt8} {x:Ag} {ds cs:List UInt8} {a b:Fo} :dg c x ds->kT ds a->kT cs b->kT (c::cs) (.cons x a b)
theorem Arp {K K':Value->World->Prop} (h:∀v w',K v w'->K' v w'):∀e w',aD K e w'->aD K' e w'
 | .returned _,w',hk=>h _ w' hk
 | .panicked _,_,hk=>hk.elim
 | .outgrown,_,hk=>hk.elim
theorem GA:IntKind.i64.max=9223372036854775807:=by decide
theorem GB {c:UInt8} {x:Ag} {ds:List UInt8} (h:dg c x ds) (hn:ds.length<2^39):x.kids=(ds.length:Int):=by
 cases h with
 |zY k a=>simp only [length_replicate]at hn⊢;exact Le (by omega)
 |start s k a=>simp only [length_replicate]at hn⊢;exact Le (by omega)
 |block k a=>simp only [length_replicate]at hn⊢;exact Le (by omega)
 |unit k a=>simp only [length_replicate]at hn⊢;exact Le (by omega)
 |proc s k a=>simp only [length_append,length_replicate,length_singleton]at hn⊢;exact Le (by omega)
 |clause op s a w ds h=>exact Le (by omega)
 |_=>rfl
def Fo.app:Fo->Fo->Fo
 | .nil,g=>g| .cons x ks rs,g=> .cons x ks (rs.app g)
theorem K5:∀(f g:Fo),(f.app g).flat=f.flat++g.flat
 | .nil,_=>rfl
 | .cons x ks rs,g=>by
  show x::(ks.flat++(rs.app g).flat)=x::(ks.flat++rs.flat)++g.flat
  rw [K5 rs g,List.cons_append,List.append_assoc]
theorem RL {cs ds:List UInt8} {f g:Fo} (h:kT cs f) (k:kT ds g):kT (cs++ds) (f.app g):=by
 induction h with
 |nil=>exact k
 |cons ho h1 _ _ q_=>exact .cons ho h1 q_
theorem GC (s:Str) (hs:s.length<2^63) (K:Bool->Prop) (h:K (Tk.D7 s)):Mv s K:=fun _ w _=>
 (Amj s hs w).mono (Arp fun _ _ ⟨hv,he⟩=>⟨_,h,hv,Ao.zA he⟩)
theorem Lf (x:Ag) (k:Int) (hs:x.name.length<2^63) (K:Bool->Prop) (h:K (Tk.D7 x.name&&(x.n==0&&x.kids==k))):Dt x k K:=by
 refine Ab7 _ _ _ (GC _ hs _ (Aa (fun h1=>Aa (fun h2=> ?_) fun h2=> ?_) fun h1=> ?_))
 ·rw [h1,h2]at h;exact h
 ·rw [h1,h2]at h;exact h
 ·rw [h1]at h;exact h
theorem Gz (x:Ag) (k:Int) (K:Bool->Prop) (h:K (x.name==[]&&(x.n==0&&x.kids==k))):Ca x k K:=by
 refine Ab8 _ _ _ (Aa (fun h1=>Aa (fun h2=> ?_) fun h2=> ?_) fun h1=> ?_)
 ·rw [h1,h2]at h;exact h
 ·rw [h1,h2]at h;exact h
 ·rw [h1]at h;exact h
abbrev RM (f:FuncId) (a:Array Value) (w:World) (K:Value->World->Prop):Prop:=Calls Tryz.prog f a w (aD K)
def H9 (x0:Option Addr) (x1:Nat) (x2:Nat) (x3:Int) (K:Value->World->Prop) (w:World):Prop:=∃(J:World->Prop),(cond (decide (x3<0)) (False) (J w))/\∀(_x5:Nat->Value) w2,J w2->RM 111 #[.int .u64 (IntKind.u64.wrap (x1:Int)),.int .u64 (IntKind.u64.wrap x3)] w2 (fun x6 w3=>∃x7 x8,x6= .tuple #[.int .u64 x7,.int .u64 x8]/\∃(J1:World->Prop),(∀(_x9:Nat->Value),cond (((decide (x7>0))||(decide (x8>9223372036854775807)))) (False) (J1 w3))/\∀(_x11:Nat->Value) w5,J1 w5->Bh Tryz.prog (Instr.makeSlice 162 (.int .i64 (IntKind.i64.wrap x8)) (.int .i64 (IntKind.i64.wrap x8))) (fun af w6=>∃ae ag ah,af= .slice ae ag ah/\Bh Tryz.prog (Builtin.copy_ #[162,162] 3 #[.slice ae ag ah,.slice x0 x1 x2]) (fun aj w7=>∃ax,aj= .int .i64 ax/\∃(I:Int->World->Prop) (aH:Int->World->Nat),I ax w7/\∀(_x19:Nat->Value) (ar:Int) (w8:World),I ar w8->cond (decide (ar<(ag:Int))) (∀w9:World,w9=w8.drew->((0:Int)<=ar/\ar<=(ag:Int))/\((0:Int)<=ar/\ar<=(ah:Int))/\Bh Tryz.prog (Builtin.copy_ #[162,162] 3 #[.slice (Cn ae ar.toNat ah 1) (ag-ar.toNat) (ah-ar.toNat),.slice (Cn ae 0 ah 1) ar.toNat ah]) (fun aK ak=>∃aG,aK= .int .i64 aG/\I (IntKind.i64.wrap (ar+aG)) ak/\aH (IntKind.i64.wrap (ar+aG)) ak<aH ar w8) w9) (K (.slice ae ag ah) w8)) w6) w5)
theorem Ja (x0:Option Addr) (x1:Nat) (x2:Nat) (x3:Int) (K:Value->World->Prop) (w:World) (h:H9 x0 x1 x2 x3 K w):Calls Tryz.prog 128 #[.slice x0 x1 x2,.int .i64 x3] w (aD K):=
 Aj { loops:=[(508,[(8,.int .i64)])],dN:=[(3,[]),(15,[])],j_:=[(60,[26])] } Tryz.func128 (by kernel_rfl) h
def Vi (x0:Int) (x1:Int) (K:Value->World->Prop) (w:World):Prop:=RM 122 #[.int .u64 x0,.int .u64 x1] w (fun x2 w1=>∃x3 x4,x2= .tuple #[.int .u64 x3,.int .u64 x4]/\K (.tuple #[.int .u64 x3,.int .u64 x4]) w1)
theorem Vj (x0:Int) (x1:Int) (K:Value->World->Prop) (w:World) (h:Vi x0 x1 K w):Calls Tryz.prog 111 #[.int .u64 x0,.int .u64 x1] w (aD K):=
 Aj {} Tryz.func111 (by kernel_rfl) h
def Rm (x0:Int) (x1:Int) (K:Value->World->Prop) (w:World):Prop:=(0:Int)<=32/\(0:Int)<=32/\(0:Int)<=32/\(0:Int)<=32/\(0:Int)<=32/\K (.tuple #[.int .u64 (IntKind.u64.wrap ((IntKind.u64.wrap ((IntKind.u64.wrap ((x0.fdiv (2^(min 32 IntKind.u64.bits)))*(x1.fdiv (2^(min 32 IntKind.u64.bits)))))+((IntKind.u64.wrap ((IntKind.u64.wrap ((x0.fdiv (2^(min 32 IntKind.u64.bits)))*(F6 .u64 x1 4294967295)))+((IntKind.u64.wrap ((F6 .u64 x0 4294967295)*(F6 .u64 x1 4294967295))).fdiv (2^(min 32 IntKind.u64.bits))))).fdiv (2^(min 32 IntKind.u64.bits)))))+((IntKind.u64.wrap ((F6 .u64 (IntKind.u64.wrap ((IntKind.u64.wrap ((x0.fdiv (2^(min 32 IntKind.u64.bits)))*(F6 .u64 x1 4294967295)))+((IntKind.u64.wrap ((F6 .u64 x0 4294967295)*(F6 .u64 x1 4294967295))).fdiv (2^(min 32 IntKind.u64.bits))))) 4294967295)+(IntKind.u64.wrap ((F6 .u64 x0 4294967295)*(x1.fdiv (2^(min 32 IntKind.u64.bits))))))).fdiv (2^(min 32 IntKind.u64.bits))))),.int .u64 (IntKind.u64.wrap (x0*x1))]) w
theorem Rp (x0:Int) (x1:Int) (K:Value->World->Prop) (w:World) (h:Rm x0 x1 K w):Calls Tryz.prog 122 #[.int .u64 x0,.int .u64 x1] w (aD K):=
 Aj {} Tryz.func122 (by kernel_rfl) h
theorem wrap_u64 {n:Int} (h0:0<=n) (h:n<18446744073709551616):IntKind.u64.wrap n=n:=by
 simp [IntKind.wrap,IntKind.signed,IntKind.bits];omega
theorem Auw (n:Int) (h0:0<=n) (h:n<4294967296):F6 .u64 n 4294967295=n:=by
 obtain⟨m,rfl⟩:∃m:Nat,n=m:=⟨n.toNat,by omega⟩
 unfold F6;have e:(BitVec.ofInt (IntKind.u64.bits) (m:Int)&&&BitVec.ofInt (IntKind.u64.bits) 4294967295).toNat=m:=by
  have h1:(BitVec.ofInt (IntKind.u64.bits) (m:Int)).toNat=m:=by
   show(BitVec.ofInt 64 (m:Int)).toNat=m
   rw [BitVec.toNat_ofInt];omega
  have h2:(BitVec.ofInt (IntKind.u64.bits) (4294967295:Int)).toNat=2^32-1:=by decide
  rw [BitVec.toNat_and,h1,h2,Nat.and_two_pow_sub_one_eq_mod];omega
 rw [e];have e2:IntKind.u64.wrap (m:Int)=(m:Int):=wrap_u64 (by omega) (by omega);exact e2
theorem Tf (n:Int) (h0:0<=n) (h:n<4294967296) (w:World):Calls Tryz.prog 111 #[.int .u64 1,.int .u64 n] w (aD fun v w'=>v= .tuple #[.int .u64 0,.int .u64 n]/\w=w'):=by
 refine Vj _ _ _ _ ?_;refine Rp _ _ _ _ ⟨by decide,by decide,by decide,by decide,by decide,?_⟩;have hb:(2^(min 32 IntKind.u64.bits):Int)=4294967296:=by decide
 rw [hb,Auw n h0 h,show(F6 .u64 1 4294967295)=1 by decide,show Int.fdiv 1 4294967296=0 by decide,show Int.fdiv n 4294967296=0 by rw [Int.fdiv_eq_ediv_of_nonneg _ (by omega)];omega];have w0:IntKind.u64.wrap 0=0:=by decide
 have wn:IntKind.u64.wrap n=n:=wrap_u64 (by omega) (by omega);simp only [Int.zero_mul,Int.one_mul,Int.mul_zero,w0,wn];rw [show Int.fdiv n 4294967296=0 by rw [Int.fdiv_eq_ediv_of_nonneg _ (by omega)];omega];simp only [w0,Int.zero_fdiv,show(F6 .u64 0 4294967295)=0 by decide,Int.add_zero];exact⟨_,_,rfl,rfl,trivial⟩
theorem RN {w0 w:World} {g:Nat} {xs:Array Value} (h:Ao [] w0 w) (hg:w0.heap.size<=g):Ao [] w0 (w.setRow g xs):=
 ⟨h.os,h.tape,h.output,by simpa [World.setRow] using h.size,fun j hj hm=>by
  rw [←h.block j hj hm];simp only [World.setRow,Array.getElem?_modify];rw [if_neg (by omega)]⟩
theorem Axp (a n:Int) (hn:0<=n) (tC:n<4294967296) (K:List Int->Prop) (h:K (replicate n.toNat a)):Ey [a] n K:=by
 intro m w hm xA xC hxc hx;obtain⟨N,rfl⟩:∃N:Nat,n=N:=⟨n.toNat,by omega⟩
 rw [toNat_natCast]at h;refine Ja _ _ _ _ _ _ ⟨fun w'=>w=w',Ba (by simp) rfl,?_⟩;rintro _ _ rfl;have wn:IntKind.u64.wrap (N:Int)=N:=wrap_u64 (by omega) (by omega);rw [wn,show IntKind.u64.wrap (([a].length:Nat):Int)=1 from wrap_u64 (n:=1) (by omega) (by omega)];refine Ad (Tf N hn tC _) ?_;rintro _ _ ⟨rfl,rfl⟩;refine⟨_,_,rfl,fun w'=>w=w',fun _=>Ba (by simp;omega) rfl,?_⟩;rintro _ _ rfl;have hT:=PI;obtain⟨i,z,ht,hi,hz,dL,hb,qB,jN⟩:=hT;have o1:z= .int .u8 0:=by
  have:Tryz.prog.info? 5=some Tryz.t5:=by kernel_rfl
  rw [this]at hi;cases hi
  have h2:Tryz.t5.zero=some (.int .u8 0):=by kernel_rfl
  rw [h2]at hz;exact(Option.some.inj hz).symm
 subst o1;rw [Au (n:=(N:Int)) (by omega) (by omega)];refine⟨_,_,run_make w (P:=Tryz.prog) 162 5 i (.int .u8 0) ht hi hz .i64 .i64 N N (by omega) (by omega) (by rw [hb];omega) (by omega),?_⟩;refine⟨_,_,_,rfl,?_⟩;rw [toNat_natCast];have u0:(madeCells (Value.int .u8 0).cells (N*i.size))=⟨replicate N (.int .u8 0)⟩:=by
  rw [dL,Nat.mul_one];apply Array.ext';apply List.ext_getElem
  ·simp [madeCells]
  ·intro j h1 h2;simp [madeCells,Value.cells,Nat.mod_one]
 rw [u0];have o3:(Tryz.prog.info? 5).map (·.size)=some 1:=by rw [hi];simp [dL]
 generalize aP:w.alloc (.cells ⟨replicate N (.int .u8 0)⟩ 5)=w1;have gS:w1.heap[w.heap.size]? =some (.cells ⟨replicate N (.int .u8 0)⟩ 5 (0,0)):=by rw [←aP];show(w.heap.push _)[w.heap.size]? =_;simp
 have kh:Ao [] w w1:=Bd aP.symm;have ka:∀(w8:World),Ao [] w w8->w8.heap[w.heap.size]? =some (.cells ⟨replicate N (.int .u8 a)⟩ 5 (0,0))->
  (∃r0:List Int,K r0/\(∃(a0:Option Addr) (c0:Nat),(Value.slice (some ⟨w.heap.size,0,none⟩) N N)= .slice a0 r0.length c0/\r0.length<=c0/\aF (Bz .u8) m w8 a0 r0)/\Ao [] w w8):=by
  intro w8 hk hg;refine⟨_,h,⟨some ⟨w.heap.size,0,none⟩,N,by simp,by simp,.inr ⟨_,_,rfl,fun rf=>Nat.lt_irrefl _ (hm.lt _ rf),?_,X4 _ _ _⟩⟩,hk⟩;intro j hj;rw [Bo,zero_add];have iX:j<N:=by simpa using hj
  simp [World.cell?,hg,iX]
 by_cases hN:N=0
 ·subst hN;refine⟨_,_,run_copy_none (P:=Tryz.prog) w1 _ _ _ _ _ _ _ _ _ _ ht o3 (by simp),⟨_,rfl,fun n1 w8=>n1=0/\w1=w8,fun _ _=>0,⟨rfl,rfl⟩,?_⟩⟩;rintro _ _ _ ⟨rfl,rfl⟩;exact Ba (by simp) (ka _ kh gS)
 ·obtain⟨p,x,cs,rfl,RO,dR,dT⟩:=hx.elem (i:=0) (by simp);simp at RO;subst RO;have ir:cs=[.int .u8 a]:=dT;subst ir;have kR:Ac w1 (p.add 0) [.int .u8 a]:=dR.held kh (by simp);refine⟨_,_,run_copy_row Tryz.prog w1 _ _ _ _ w.heap.size 0 N N p 1 xC ⟨replicate N (.int .u8 0)⟩ 5 [.int .u8 a] ht o3 gS (by show 1=min 1 N;omega) (fun j v hj=> ?_) (by simp;omega) (by simp [Value.oneCell']),?_⟩
  ·cases j with
   |zero=>
    simp at hj;subst hj;have:=kR 0 (by simp);simpa [Addr.add] using this
   |succ j=>simp at hj
  ·refine⟨_,rfl,fun n1 w8=>∃q:Nat,n1=q/\1<=q/\q<=N/\Ao [] w w8/\w8.heap[w.heap.size]? =some (.cells ⟨replicate q (.int .u8 a)++replicate (N-q) (.int .u8 0)⟩ 5 (0,0)),fun n1 _=>N-n1.toNat,⟨1,rfl,by omega,by omega,RN kh (le_refl _),?_⟩,?_⟩
   ·rw [setRow_heap _ _ _ _ _ _ gS];simp
   ·rintro _ _ w8 ⟨q,rfl,uE,hqN,hk,hg⟩;refine Aa (fun hc=> ?_) fun hc=> ?_
    ·have Brk:q<N:=by simp at hc;omega
     intro w9 ff;refine⟨by omega,by omega,?_⟩;have GD:Ao [] w w9:=hk.trans (Aq ff);have tD:w9.heap[w.heap.size]? =some (.cells ⟨replicate q (.int .u8 a)++replicate (N-q) (.int .u8 0)⟩ 5 (0,0)):=by rw [ff];exact hg
     rw [toNat_natCast,Gq];have m7:Cn (some ⟨w.heap.size,0,none⟩) q N 1=some ⟨w.heap.size,q,none⟩:=by
      unfold Cn;rw [if_neg (by omega)];simp [Bo]
     rw [m7];obtain⟨c,cE,cr,fX,jV⟩:∃c:Nat,min q (N-q)=c/\1<=c/\c<=q/\c<=N-q:=⟨_,rfl,by omega,by omega,by omega⟩
     refine⟨_,_,run_copy_row Tryz.prog w9 _ _ _ _ w.heap.size q (N-q) (N-q) ⟨w.heap.size,0,none⟩ (q-0) (N-0) _ 5 (replicate c (.int .u8 a)) ht o3 tD (by rw [length_replicate];show c=min q (N-q);omega) (fun j v hj=> ?_) (by simp;omega) (fun v hv=>by rw [List.eq_of_mem_replicate hv];rfl),?_⟩
     ·have iX:=(List.getElem?_eq_some_iff.1 hj).1;have hv:=(List.getElem?_eq_some_iff.1 hj).2;simp at iX hv;rw [Bo,zero_add];have GF:j<q:=by omega
      simp only [World.cell?,tD,Option.isSome_none,Bool.false_eq_true,if_false];rw [List.getElem?_toArray];show(replicate q (Value.int .u8 a)++replicate (N-q) (Value.int .u8 0))[j]? =some v
      rw [List.getElem?_append_left (by simp;omega),←hv];simp [GF]
     ·refine⟨_,rfl,?_⟩;rw [length_replicate];rw [Au (by omega) (by omega)];refine⟨⟨q+c,by omega,by omega,by omega,RN GD (le_refl _),?_⟩,by show N-((q:Int)+(c:Int)).toNat<N-(q:Int).toNat;omega⟩;have hl:(replicate q (Value.int .u8 a)++replicate (N-q) (Value.int .u8 0)).take q++replicate c (Value.int .u8 a)++(replicate q (Value.int .u8 a)++replicate (N-q) (Value.int .u8 0)).drop (q+c)=replicate (q+c) (Value.int .u8 a)++replicate (N-(q+c)) (Value.int .u8 0):=by
       rw [List.take_append_of_le_length (by simp),List.take_of_length_le (by simp),List.drop_append,drop_of_length_le (by simp),List.nil_append,List.drop_replicate,length_replicate,List.replicate_append_replicate,show N-q-(q+c-q)=N-(q+c) by omega]
      refine(setRow_heap _ _ _ _ _ _ tD).trans ?_;rw [←hl]
    ·have hq:q=N:=by simp at hc;omega
     subst hq;rw [Nat.sub_self,List.replicate_zero,append_nil]at hg;exact ka _ hk hg
end Go.Proofs.YtpdccfgpbkagcaaGreat
