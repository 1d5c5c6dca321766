/- A part of the proof: conditions of the code, contracts, the plain law. -/
import Derived.Test.YthkbhlmijkegiaaGreatM2
import Derived.Test.YthkbhlmijkegiaaGreatM3
import Derived.Test.YthkbhlmijkegiaaGreatM4
import Derived.Test.YthkbhlmijkegiaaGreatM5
import Derived.Test.YthkbhlmijkegiaaGreatMapL
import Derived.Test.YthkbhlmijkegiaaGreatMem
open Nat (mod ble le_refl le_of_ble_eq_true zero_le le_trans)
open Bool (and_eq_true or_eq_true)
open List (map_cons)
open Option (map_none map_some)
open Array (ext')
namespace Go.Proofs.YthkbhlmijkegiaaGreat
open Go.Vc Go.Lv Go.Ty
set_option maxRecDepth 10000
def Aey (cq:Ah) (p:Aj) (au:Int) (K:Aj->Prop):Prop:=∃(J:Int->Int->(List Int)->Int->Int->Int->Int->Int->Int->Int->Prop),(Jb cq au (fun x=>C6 p.vars (fun x1=>J p.bp x x1 p.fuel 0 0 0 0 0 0)))/\∀(Def:Int) (At:Int) (Va:List Int) (Fu:Int) (Mo:Int) (Ch:Int) (cI:Int) (Sl:Int) (Un:Int) (Si:Int),J Def At Va Fu Mo Ch cI Sl Un Si->∃(J1:Int->Int->(List Int)->Int->Int->Int->Int->Int->Int->Int->Prop),(∃(J2:Bool->Prop),(cond (decide (At>=0)) (cond (decide (At<(cq.ins.length:Int))) (((0:Int)<=At/\At<(cq.ins.length:Int))/\∀x1,cq.ins[At.toNat]? =some x1->J2 (x1.op==24)) (J2 false)) (J2 false))/\∀(x:Bool),J2 x->cond (x) (J1 Def 0 Va Fu 5 Ch cI Sl Un Si) (J1 Def At Va Fu Mo Ch cI Sl Un Si))/\∀(nN:Int) (jC:Int) (mh:List Int) (nO:Int) (nP:Int) (iX:Int) (nQ:Int) (nR:Int) (nS:Int) (nT:Int),J1 nN jC mh nO nP iX nQ nR nS nT->K (⟨nN,jC,mh,nO,nP,iX,nQ,nR,nS,nT,[]⟩:Aj)
set_option maxHeartbeats 4000000 in
theorem Ab4 (cq:Ah) (p:Aj) (au:Int) (K:Aj->Prop) (h:Aey cq p au K):Ql cq p au K:=by
 intro m w hm bN dQ er jD;obtain⟨a,c,a1,c1,a2,c2,rfl,⟨le,f⟩,⟨bz,f1⟩,⟨bH,f2⟩⟩:=A5 dQ;obtain⟨a3,c3,a4,c4,rfl,⟨cY,f3⟩,⟨eB,f4⟩⟩:=A1 jD;have o:=Mem.start hm.lt;refine Aik _ _ _ _ _ _ _ _ _ _ _ _ _ _ _ _ _ _ _ _ _ _ _ _ _ _ au _ _ ?_;intro b w1 hb aU;obtain⟨st,o⟩:=o.dB hb aU;intro b1 w2 ca cJ;obtain⟨ar,o⟩:=o.dB ca cJ;intro b2 w3 di eC;obtain⟨aR,o⟩:=o.dB di eC;obtain⟨J,h,h2⟩:=h;refine⟨fun out w4=>∃(Def:Int) (At:Int) (Va:List Int) (Fu:Int) (Mo:Int) (Ch:Int) (cI:Int) (Sl:Int) (Un:Int) (Si:Int) (b3:Nat) (a5:Option Addr) (c5:Nat),J Def At Va Fu Mo Ch cI Sl Un Si/\out=some ⟨b3,0,none⟩/\(Va.length<=c5/\aW (A8 .i64) (ms [.box b3 [.q Def,.q At,.slice a5 Va.length c5,.q Fu,.q Mo,.q Ch,.q cI,.q Sl,.q Un,.q Si,.slice none 0 0],.box b2 [.q 0,.q 0,.slice none 0 0,.q 0,.q 0,.q 0,.q 0,.q 0,.q 0,.q 0,.slice none 0 0],.box b1 [.q p.bp,.q p.at_,.slice a3 p.vars.length c3,.q p.fuel,.q p.mode,.q p.chan,.q p.val,.q p.slot,.q p.bR,.q p.since,.slice a4 p.alts.length c4],.box b [.slice a cq.ins.length c,.slice a1 cq.defs.length c1,.slice a2 cq.af.length c2,.q cq.main,.q cq.stmts]] m) w4 a5 Va)/\MS w m w3 [.box b2 [.q 0,.q 0,.slice none 0 0,.q 0,.q 0,.q 0,.q 0,.q 0,.q 0,.q 0,.slice none 0 0],.box b1 [.q p.bp,.q p.at_,.slice a3 p.vars.length c3,.q p.fuel,.q p.mode,.q p.chan,.q p.val,.q p.slot,.q p.bR,.q p.since,.slice a4 p.alts.length c4],.box b [.slice a cq.ins.length c,.slice a1 cq.defs.length c1,.slice a2 cq.af.length c2,.q cq.main,.q cq.stmts]] w4 [.box b3 [.q Def,.q At,.slice a5 Va.length c5,.q Fu,.q Mo,.q Ch,.q cI,.q Sl,.q Un,.q Si,.slice none 0 0],.box b2 [.q 0,.q 0,.slice none 0 0,.q 0,.q 0,.q 0,.q 0,.q 0,.q 0,.q 0,.slice none 0 0],.box b1 [.q p.bp,.q p.at_,.slice a3 p.vars.length c3,.q p.fuel,.q p.mode,.q p.chan,.q p.val,.q p.slot,.q p.bR,.q p.since,.slice a4 p.alts.length c4],.box b [.slice a cq.ins.length c,.slice a1 cq.defs.length c1,.slice a2 cq.af.length c2,.q cq.main,.q cq.stmts]],?_,?_⟩;intro w5 du;obtain⟨bh,o⟩:=o.dD du;have ox:=o;refine⟨fun u=>Ai [] w5 u,Ai.refl _ _,?_⟩;refine⟨_,fun u hu=>((ox.at 1 rfl).bo hu (by simp)).cell rfl,?_⟩;refine⟨_,_,_,_,_,_,_,_,_,_,_,fun u hu=>((ox.at 2 rfl).bo hu (by simp)).whole,?_⟩;refine⟨_,_,_,fun u hu=>((ox.at 1 rfl).bo hu (by simp)).cell rfl,?_⟩;refine⟨_,fun u hu=>((ox.at 1 rfl).bo hu (by simp)).cell rfl,?_⟩;refine⟨?_,?_⟩;have sT:=((st.trans ar).trans aR).trans bh;refine Ac (h _ w5 (o.mn hm) _ (Az cq ⟨le,(f.st sT)⟩ ⟨bz,(f1.st sT)⟩ ⟨bH,(f2.st sT)⟩)) ?_;rintro _ w6 ⟨x,h,rfl,ke⟩;obtain⟨bk,o⟩:=o.dE ke;refine⟨_,rfl,?_⟩;refine⟨(ke.mono (by simp)),?_⟩;refine⟨?_,?_⟩;have cF:=sT.trans bk;refine Ac (h _ w6 (o.mn hm) _ _ cY (f3.st cF)) ?_;rintro _ w7 ⟨x1,h,⟨a6,c6,xs,rfl,hr,el,fr⟩,cD⟩;have aY:=Mem.xQ (ps:=[.box b2 [.q 0,.q 0,.slice none 0 0,.q 0,.q 0,.q 0,.q 0,.q 0,.q 0,.q 0,.slice none 0 0],.box b1 [.q p.bp,.q p.at_,.slice a3 p.vars.length c3,.q p.fuel,.q p.mode,.q p.chan,.q p.val,.q p.slot,.q p.bR,.q p.since,.slice a4 p.alts.length c4],.box b [.slice a cq.ins.length c,.slice a1 cq.defs.length c1,.slice a2 cq.af.length c2,.q cq.main,.q cq.stmts]]) (m0:=m) cD (.row 3 1 a6 x1.length c6 xs) fr;have o:=o.xP cD (.row 3 1 a6 x1.length c6 xs) fr hr;refine⟨_,_,_,rfl,?_⟩;refine⟨((ke.mono (by simp)).trans (cD.mono (by simp))),?_⟩;intro b4 w8 gQ gG;obtain⟨bu,o⟩:=o.dB gQ gG;refine⟨(((ke.mono (by simp)).trans (cD.mono (by simp))).trans ((Aq gG).mono (by simp))),?_⟩;refine⟨o.wr 0 rfl rfl,fun w9 ef=> ?_⟩;obtain⟨bX,o⟩:=o.cH 0 ef rfl;have fY:=(o.rowAt 1 rfl).cap;have bV:=o.xX 1;have dt:=(bu.trans bX).trans bV;have f6:=o.freeze (c:=(A8 .i64)) (l:=x1) 1 rfl (fun b hb=>by simp at hb) (el.st dt);have o:=o.erase 1;have eX:=((((bh.trans bk).trans aY).trans bu).trans bX).trans bV;exact⟨p.bp,x,x1,p.fuel,0,0,0,0,0,0,b4,a6,c6,h,rfl,⟨fY,f6⟩,o,eX⟩;intro b4 w7 gQ eY;obtain⟨aY,o⟩:=o.dB gQ eY;refine⟨((ke.mono (by simp)).trans ((Aq eY).mono (by simp))),?_⟩;have fp:=(sT.trans bk).trans aY;refine Ac (h _ w7 (o.mn hm) _ _ cY (f3.st fp)) ?_;rintro _ w8 ⟨x1,h,⟨a6,c6,xs,rfl,hr,el,fr⟩,cD⟩;have bu:=Mem.xQ (ps:=[.box b4 [.q 0,.q 0,.slice none 0 0,.q 0,.q 0,.q 0,.q 0,.q 0,.q 0,.q 0,.slice none 0 0],.box b2 [.q 0,.q 0,.slice none 0 0,.q 0,.q 0,.q 0,.q 0,.q 0,.q 0,.q 0,.slice none 0 0],.box b1 [.q p.bp,.q p.at_,.slice a3 p.vars.length c3,.q p.fuel,.q p.mode,.q p.chan,.q p.val,.q p.slot,.q p.bR,.q p.since,.slice a4 p.alts.length c4],.box b [.slice a cq.ins.length c,.slice a1 cq.defs.length c1,.slice a2 cq.af.length c2,.q cq.main,.q cq.stmts]]) (m0:=m) cD (.row 3 1 a6 x1.length c6 xs) fr
 have o:=o.xP cD (.row 3 1 a6 x1.length c6 xs) fr hr;refine⟨_,_,_,rfl,?_⟩;refine⟨(((ke.mono (by simp)).trans ((Aq eY).mono (by simp))).trans (cD.mono (by simp))),?_⟩;refine⟨o.wr 1 rfl rfl,fun w9 ef=> ?_⟩;obtain⟨bX,o⟩:=o.cH 1 ef rfl;have fY:=(o.rowAt 0 rfl).cap;have bV:=o.xX 0;have f6:=o.freeze (c:=(A8 .i64)) (l:=x1) 0 rfl (fun b hb=>by simp at hb) (el.st (bX.trans bV));have o:=o.erase 0;have fQ:=((((bh.trans bk).trans aY).trans bu).trans bX).trans bV;exact⟨p.bp,x,x1,p.fuel,0,0,0,0,0,0,b4,a6,c6,h,rfl,⟨fY,f6⟩,o,fQ⟩;intro b4 w6 gQ cZ;obtain⟨bk,o⟩:=o.dB gQ cZ;refine⟨((Aq cZ).mono (by simp)),?_⟩;have gh:=(((st.trans ar).trans aR).trans bh).trans bk;refine Ac (h _ w6 (o.mn hm) _ (Az cq ⟨le,(f.st gh)⟩ ⟨bz,(f1.st gh)⟩ ⟨bH,(f2.st gh)⟩)) ?_;rintro _ w7 ⟨x,h,rfl,ke⟩;obtain⟨aY,o⟩:=o.dE ke;refine⟨_,rfl,?_⟩;refine⟨(((Aq cZ).mono (by simp)).trans (ke.mono (by simp))),?_⟩;have gV:=gh.trans aY;refine Ac (h _ w7 (o.mn hm) _ _ cY (f3.st gV)) ?_;rintro _ w8 ⟨x1,h,⟨a6,c6,xs,rfl,hr,el,fr⟩,cD⟩;have bu:=Mem.xQ (ps:=[.box b4 [.q 0,.q 0,.slice none 0 0,.q 0,.q 0,.q 0,.q 0,.q 0,.q 0,.q 0,.slice none 0 0],.box b2 [.q 0,.q 0,.slice none 0 0,.q 0,.q 0,.q 0,.q 0,.q 0,.q 0,.q 0,.slice none 0 0],.box b1 [.q p.bp,.q p.at_,.slice a3 p.vars.length c3,.q p.fuel,.q p.mode,.q p.chan,.q p.val,.q p.slot,.q p.bR,.q p.since,.slice a4 p.alts.length c4],.box b [.slice a cq.ins.length c,.slice a1 cq.defs.length c1,.slice a2 cq.af.length c2,.q cq.main,.q cq.stmts]]) (m0:=m) cD (.row 3 1 a6 x1.length c6 xs) fr;have o:=o.xP cD (.row 3 1 a6 x1.length c6 xs) fr hr;refine⟨_,_,_,rfl,?_⟩;refine⟨((((Aq cZ).mono (by simp)).trans (ke.mono (by simp))).trans (cD.mono (by simp))),?_⟩;refine⟨o.wr 1 rfl rfl,fun w9 ef=> ?_⟩;obtain⟨bX,o⟩:=o.cH 1 ef rfl;have fY:=(o.rowAt 0 rfl).cap;have bV:=o.xX 0;have f6:=o.freeze (c:=(A8 .i64)) (l:=x1) 0 rfl (fun b hb=>by simp at hb) (el.st (bX.trans bV));have o:=o.erase 0;have jS:=((((bh.trans bk).trans aY).trans bu).trans bX).trans bV;exact⟨p.bp,x,x1,p.fuel,0,0,0,0,0,0,b4,a6,c6,h,rfl,⟨fY,f6⟩,o,jS⟩;rintro _ out w4 ⟨Def,At,Va,Fu,Mo,Ch,cI,Sl,Un,Si,b3,a5,c5,hJ,rfl,⟨eI,f5⟩,o,bf⟩;have h:=h2 Def At Va Fu Mo Ch cI Sl Un Si hJ;obtain⟨J1,h,h2⟩:=h;refine⟨fun w6=>∃(nN:Int) (jC:Int) (mh:List Int) (nO:Int) (nP:Int) (iX:Int) (nQ:Int) (nR:Int) (nS:Int) (nT:Int) (a6:Option Addr) (c6:Nat),J1 nN jC mh nO nP iX nQ nR nS nT/\(mh.length<=c6/\aW (A8 .i64) (ms [.box b3 [.q nN,.q jC,.slice a6 mh.length c6,.q nO,.q nP,.q iX,.q nQ,.q nR,.q nS,.q nT,.slice none 0 0],.box b2 [.q 0,.q 0,.slice none 0 0,.q 0,.q 0,.q 0,.q 0,.q 0,.q 0,.q 0,.slice none 0 0],.box b1 [.q p.bp,.q p.at_,.slice a3 p.vars.length c3,.q p.fuel,.q p.mode,.q p.chan,.q p.val,.q p.slot,.q p.bR,.q p.since,.slice a4 p.alts.length c4],.box b [.slice a cq.ins.length c,.slice a1 cq.defs.length c1,.slice a2 cq.af.length c2,.q cq.main,.q cq.stmts]] m) w6 a6 mh)/\MS w m w4 [.box b3 [.q Def,.q At,.slice a5 Va.length c5,.q Fu,.q Mo,.q Ch,.q cI,.q Sl,.q Un,.q Si,.slice none 0 0],.box b2 [.q 0,.q 0,.slice none 0 0,.q 0,.q 0,.q 0,.q 0,.q 0,.q 0,.q 0,.slice none 0 0],.box b1 [.q p.bp,.q p.at_,.slice a3 p.vars.length c3,.q p.fuel,.q p.mode,.q p.chan,.q p.val,.q p.slot,.q p.bR,.q p.since,.slice a4 p.alts.length c4],.box b [.slice a cq.ins.length c,.slice a1 cq.defs.length c1,.slice a2 cq.af.length c2,.q cq.main,.q cq.stmts]] w6 [.box b3 [.q nN,.q jC,.slice a6 mh.length c6,.q nO,.q nP,.q iX,.q nQ,.q nR,.q nS,.q nT,.slice none 0 0],.box b2 [.q 0,.q 0,.slice none 0 0,.q 0,.q 0,.q 0,.q 0,.q 0,.q 0,.q 0,.slice none 0 0],.box b1 [.q p.bp,.q p.at_,.slice a3 p.vars.length c3,.q p.fuel,.q p.mode,.q p.chan,.q p.val,.q p.slot,.q p.bR,.q p.since,.slice a4 p.alts.length c4],.box b [.slice a cq.ins.length c,.slice a1 cq.defs.length c1,.slice a2 cq.af.length c2,.q cq.main,.q cq.stmts]],?_,?_⟩;obtain⟨J2,h,h2⟩:=h;refine⟨fun x w7=>J2 x/\MT w m w4 w7 [.box b3 [.q Def,.q At,.slice a5 Va.length c5,.q Fu,.q Mo,.q Ch,.q cI,.q Sl,.q Un,.q Si,.slice none 0 0],.box b2 [.q 0,.q 0,.slice none 0 0,.q 0,.q 0,.q 0,.q 0,.q 0,.q 0,.q 0,.slice none 0 0],.box b1 [.q p.bp,.q p.at_,.slice a3 p.vars.length c3,.q p.fuel,.q p.mode,.q p.chan,.q p.val,.q p.slot,.q p.bR,.q p.since,.slice a4 p.alts.length c4],.box b [.slice a cq.ins.length c,.slice a1 cq.defs.length c1,.slice a2 cq.af.length c2,.q cq.main,.q cq.stmts]],?_,?_⟩
 refine⟨_,(o.at 0 rfl).cell rfl,?_⟩;refine Aa (fun h=> ?_) (fun h=> ?_) h;refine⟨_,(o.at 0 rfl).cell rfl,?_⟩;refine⟨_,_,_,(o.at 3 rfl).cell rfl,?_⟩;refine Aa (fun h=> ?_) (fun h=> ?_) h;refine⟨_,_,_,(o.at 3 rfl).cell rfl,?_⟩;refine⟨_,(o.at 0 rfl).cell rfl,?_⟩;obtain⟨hi,h⟩:=h;have lj:=((st.trans ar).trans aR).trans bf;obtain⟨p1,x1,cs,hp,he,hc,hr⟩:=(f.st lj).elem hi;obtain rfl:=A6 hr;have h:=h x1 he;refine⟨hi,Ae hp ?_⟩;refine⟨_,(Ad.head hc.2),?_⟩;exact⟨h,o,Step.refl _ _⟩;exact⟨h,o,Step.refl _ _⟩;exact⟨h,o,Step.refl _ _⟩;rintro _ x w7 ⟨hJ,o,aY⟩;have h:=h2 x hJ;refine Aa (fun h=> ?_) (fun h=> ?_) h;refine⟨o.wr 0 rfl rfl,fun w8 gG=> ?_⟩;obtain⟨bu,o⟩:=o.dS 0 gG rfl;refine⟨o.wr 0 rfl rfl,fun w9 ef=> ?_⟩;obtain⟨bX,o⟩:=o.dS 0 ef rfl;have nK:=(aY.trans bu).trans bX;exact⟨Def,0,Va,Fu,5,Ch,cI,Sl,Un,Si,a5,c5,h,⟨eI,(f5.st nK)⟩,o,nK⟩;exact⟨Def,At,Va,Fu,Mo,Ch,cI,Sl,Un,Si,a5,c5,h,⟨eI,(f5.st aY)⟩,o,aY⟩;rintro _ w6 ⟨nN,jC,mh,nO,nP,iX,nQ,nR,nS,nT,a6,c6,hJ,⟨fY,f6⟩,o,bk⟩;have h:=h2 nN jC mh nO nP iX nQ nR nS nT hJ;refine⟨_,_,_,_,_,_,_,_,_,_,_,_,_,_,_,(o.at 0 rfl).whole,?_⟩;refine⟨o.wr 1 rfl rfl,fun aK fI=> ?_⟩;obtain⟨bV,o⟩:=o.cH 1 fI rfl;refine⟨_,_,_,_,_,_,_,_,_,_,_,_,_,_,_,(o.at 1 rfl).whole,?_⟩;exact⟨(⟨nN,jC,mh,nO,nP,iX,nQ,nR,nS,nT,[]⟩:Aj),h,⟨_,rfl,(Bq (⟨nN,jC,mh,nO,nP,iX,nQ,nR,nS,nT,[]⟩:Aj) ⟨fY,(f6.st (bV.trans Mem.d_))⟩ ⟨(le_refl _),(aW.nil _ _ _ _)⟩)⟩,o.done⟩
def Aez (p:Aj) (K:Int->Bool->Prop):Prop:=cond (p.mode==4) (K p.bR true) (∃(I:Int->Bool->Int->Nat->Prop),(∃n,I 0 false 0 n)/\∀(bH:Int) (ok:Bool) (x:Int) (n:Nat),I bH ok x n->cond (decide (x<(p.alts.length:Int))) (∃(J:Int->Bool->Prop),(((0:Int)<=x/\x<(p.alts.length:Int))/\∀x1,p.alts[x.toNat]? =some x1->∃(J1:Bool->Prop),(cond (p.mode==3) (cond (x1.kind==3) (cond (!ok) (J1 true) (J1 (decide (x1.val<bH)))) (J1 false)) (J1 false))/\∀(x2:Bool),J1 x2->cond (x2) (J x1.val true) (J bH ok))/\∀(cY:Int) (fq:Bool),J cY fq->∃n1,n1<n/\I cY fq (IntKind.i64.wrap (x+1)) n1) (K bH ok))
theorem Ab5 (p:Aj) (K:Int->Bool->Prop) (h:Aez p K):Mf p K:=by
 intro m w hm er jD;obtain⟨a,c,a1,c1,rfl,⟨le,f⟩,⟨bz,f1⟩⟩:=A1 jD;have o:=Mem.start hm.lt;refine Aim _ _ _ _ _ _ _ _ _ _ _ _ _ _ _ _ _ ?_;intro b w1 hb aU;obtain⟨st,o⟩:=o.dB hb aU;refine⟨_,(o.at 0 rfl).cell rfl,?_⟩;refine Aa (fun h=> ?_) (fun h=> ?_) h;refine⟨_,(o.at 0 rfl).cell rfl,?_⟩;exact⟨p.bR,true,h,rfl,o.done⟩;refine⟨_,_,_,(o.at 0 rfl).cell rfl,?_⟩;obtain⟨I,⟨n2,h⟩,h2⟩:=h;obtain⟨Z,hZ⟩:∃Z:Int->Bool->Int->World->Nat->Prop,Z=fun bH ok x w2 n=>I bH ok x n/\MT w m w1 w2 [.box b [.q p.bp,.q p.at_,.slice a p.vars.length c,.q p.fuel,.q p.mode,.q p.chan,.q p.val,.q p.slot,.q p.bR,.q p.since,.slice a1 p.alts.length c1]]:=⟨_,rfl⟩
 refine⟨fun bH ok x w2=>∃n,Z bH ok x w2 n,fun bH ok x w2=>b8 (Z bH ok x w2),⟨n2,?_⟩,?_⟩;rw [hZ];exact⟨h,o,Step.refl _ _⟩;intro _ bH ok x w2 aM;obtain⟨n,bZ⟩:∃n,n=b8 (Z bH ok x w2):=⟨_,rfl⟩
 have aM:=Aw aM;rw [←bZ,hZ]at aM;obtain⟨h,o,ar⟩:=aM;have h:=h2 bH ok x n h;refine Aa (fun h=> ?_) (fun h=> ?_) h;obtain⟨J,h,h2⟩:=h;refine⟨fun cY fq w3=>J cY fq/\MT w m w2 w3 [.box b [.q p.bp,.q p.at_,.slice a p.vars.length c,.q p.fuel,.q p.mode,.q p.chan,.q p.val,.q p.slot,.q p.bR,.q p.since,.slice a1 p.alts.length c1]],?_,?_⟩;obtain⟨hi,h⟩:=h;obtain⟨p1,x1,cs,hp,he,hc,hr⟩:=(f1.st (st.trans ar)).elem hi;obtain rfl:=Ji hr;have h:=h x1 he;refine⟨hi,Ae hp ?_⟩;refine⟨_,_,_,_,_,hc.2,?_⟩;intro b1 w4 ca db;obtain⟨bf,o⟩:=o.dB ca db;refine⟨o.wr 0 rfl rfl,fun w5 du=> ?_⟩;obtain⟨bh,o⟩:=o.cH 0 du rfl;obtain⟨J1,h,h2⟩:=h;refine⟨fun x2 w6=>J1 x2/\MT w m w5 w6 [.box b1 [.q x1.kind,.q x1.chan,.q x1.val,.q x1.slot,.q x1.goto],.box b [.q p.bp,.q p.at_,.slice a p.vars.length c,.q p.fuel,.q p.mode,.q p.chan,.q p.val,.q p.slot,.q p.bR,.q p.since,.slice a1 p.alts.length c1]],?_,?_⟩;refine⟨_,(o.at 1 rfl).cell rfl,?_⟩;refine Aa (fun h=> ?_) (fun h=> ?_) h;refine⟨_,(o.at 0 rfl).cell rfl,?_⟩;refine Aa (fun h=> ?_) (fun h=> ?_) h;refine Aa (fun h=> ?_) (fun h=> ?_) h;exact⟨h,o,Step.refl _ _⟩;refine⟨_,(o.at 0 rfl).cell rfl,?_⟩;exact⟨h,o,Step.refl _ _⟩;exact⟨h,o,Step.refl _ _⟩;exact⟨h,o,Step.refl _ _⟩;rintro _ x2 w6 ⟨hJ,o,bk⟩;have h:=h2 x2 hJ;refine Aa (fun h=> ?_) (fun h=> ?_) h;refine⟨_,(o.at 0 rfl).cell rfl,?_⟩;obtain⟨aY,o⟩:=o.dX 0;have sT:=((bf.trans bh).trans bk).trans aY;exact⟨h,o,sT⟩;have bu:=o.xX 0;have o:=o.erase 0;have cF:=((bf.trans bh).trans bk).trans bu;exact⟨h,o,cF⟩;rintro _ cY fq w3 ⟨hJ,o,aR⟩;have h:=h2 cY fq hJ;obtain⟨n1,hl,h⟩:=h;exact As bZ (show Z _ _ _ w3 n1 from(by rw [hZ];exact⟨h,o,(ar.trans aR)⟩)) hl;exact⟨bH,ok,h,rfl,o.done⟩
def Y1 (l:List Aj) (K:Bool->Prop):Prop:=Bo l (fun x=>K x)
theorem Wr (l:List Aj) (K:Bool->Prop) (h:Y1 l K):Mw l K:=by
 intro m w hm lA lC JZ AW;have o:=Mem.start hm.lt;refine Aa3 lA l.length lC _ _ ?_;refine Ac (h _ w (o.mn hm) _ _ JZ AW) ?_;rintro _ w1 ⟨x,h,rfl,ke⟩;obtain⟨st,o⟩:=o.dE ke;refine⟨_,rfl,?_⟩;exact⟨x,h,rfl,o.done⟩
def Uy (p:Aj) (K:Bool->Prop):Prop:=Mf p (fun r r1=>K r1)
theorem Ti (p:Aj) (K:Bool->Prop) (h:Uy p K):Pd p K:=by
 intro m w hm er jD;obtain⟨a,c,a1,c1,rfl,⟨le,f⟩,⟨bz,f1⟩⟩:=A1 jD;have o:=Mem.start hm.lt;refine V8 _ _ _ _ _ _ _ _ _ _ _ _ _ _ _ _ _ ?_;intro b w1 hb aU;obtain⟨st,o⟩:=o.dB hb aU;refine⟨_,_,_,_,_,_,_,_,_,_,_,_,_,_,_,(o.at 0 rfl).whole,?_⟩;refine Ac (h _ w1 (o.mn hm) _ (Bq p ⟨le,(f.st st)⟩ ⟨bz,(f1.st st)⟩)) ?_;rintro _ w2 ⟨r,r1,h,rfl,ke⟩;obtain⟨ar,o⟩:=o.dE ke;refine⟨_,_,rfl,?_⟩;exact⟨r1,h,rfl,o.done⟩
def K7 (s1:List Int) (s2:List Int) (K:Bool->Prop):Prop:=cond ((s1.length:Int) !=(s2.length:Int)) (K false) (∃(I:Int->Nat->Prop),(∃n,I 0 n)/\∀(x:Int) (n:Nat),I x n->cond (decide (x<(s1.length:Int))) (((0:Int)<=x/\x<(s1.length:Int))/\∀x1,s1[x.toNat]? =some x1->((0:Int)<=x/\x<(s2.length:Int))/\∀x2,s2[x.toNat]? =some x2->cond (x1 !=x2) (K false) (∃n1,n1<n/\I (IntKind.i64.wrap (x+1)) n1)) (K true))
theorem Km (s1:List Int) (s2:List Int) (K:Bool->Prop) (h:K7 s1 s2 K):Ep s1 s2 K:=by
 intro m w hm oV oW Bod BE oX oY Boe BF;have o:=Mem.start hm.lt;refine Lp oV s1.length oW oX s2.length oY _ _ ?_;refine Aa (fun h=> ?_) (fun h=> ?_) h;exact⟨false,h,rfl,o.done⟩;obtain⟨I,⟨n2,h⟩,h2⟩:=h;obtain⟨Z,hZ⟩:∃Z:Int->World->Nat->Prop,Z=fun x w1 n=>I x n/\MT w m w w1 []:=⟨_,rfl⟩
 refine⟨fun x w1=>∃n,Z x w1 n,fun x w1=>b8 (Z x w1),⟨n2,?_⟩,?_⟩;rw [hZ];exact⟨h,o,Step.refl _ _⟩;intro _ x w1 aM;obtain⟨n,bZ⟩:∃n,n=b8 (Z x w1):=⟨_,rfl⟩
 have aM:=Aw aM;rw [←bZ,hZ]at aM;obtain⟨h,o,st⟩:=aM;have h:=h2 x n h;refine Aa (fun h=> ?_) (fun h=> ?_) h;intro w2 cJ;obtain⟨ar,o⟩:=o.dD cJ;obtain⟨hi,h⟩:=h;obtain⟨p,x1,cs,hp,he,hc,hr⟩:=(BE.st (st.trans ar)).elem hi;obtain rfl:=hr;have h:=h x1 he;refine⟨hi,Ae hp ?_⟩;refine⟨_,(Ad.head hc.2),?_⟩;obtain⟨cj,h⟩:=h;obtain⟨p1,x2,gP,dg,dz,cN,cT⟩:=(BF.st (st.trans ar)).elem cj;obtain rfl:=cT;have h:=h x2 dz;refine⟨cj,Ae dg ?_⟩;refine⟨_,(Ad.head cN.2),?_⟩;refine Aa (fun h=> ?_) (fun h=> ?_) h;exact⟨false,h,rfl,o.done⟩;obtain⟨n1,hl,h⟩:=h;exact As bZ (show Z _ w2 n1 from(by rw [hZ];exact⟨h,o,(st.trans ar)⟩)) hl;exact⟨true,h,rfl,o.done⟩
def G4 (s1:List F4) (s2:List F4) (K:Bool->Prop):Prop:=cond ((s1.length:Int) !=(s2.length:Int)) (K false) (∃(I:Int->Nat->Prop),(∃n,I 0 n)/\∀(x:Int) (n:Nat),I x n->cond (decide (x<(s1.length:Int))) (((0:Int)<=x/\x<(s1.length:Int))/\∀x1,s1[x.toNat]? =some x1->((0:Int)<=x/\x<(s2.length:Int))/\∀x2,s2[x.toNat]? =some x2->cond (!((x1.kind==x2.kind)&&((x1.chan==x2.chan)&&((x1.val==x2.val)&&((x1.slot==x2.slot)&&((x1.goto==x2.goto)&&true)))))) (K false) (∃n1,n1<n/\I (IntKind.i64.wrap (x+1)) n1)) (K true))
theorem Gq (s1:List F4) (s2:List F4) (K:Bool->Prop) (h:G4 s1 s2 K):Cm s1 s2 K:=by
 intro m w hm oV oW Bod BE oX oY Boe BF;have o:=Mem.start hm.lt;refine Hl oV s1.length oW oX s2.length oY _ _ ?_;refine Aa (fun h=> ?_) (fun h=> ?_) h;exact⟨false,h,rfl,o.done⟩;obtain⟨I,⟨n2,h⟩,h2⟩:=h;obtain⟨Z,hZ⟩:∃Z:Int->World->Nat->Prop,Z=fun x w1 n=>I x n/\MT w m w w1 []:=⟨_,rfl⟩
 refine⟨fun x w1=>∃n,Z x w1 n,fun x w1=>b8 (Z x w1),⟨n2,?_⟩,?_⟩;rw [hZ];exact⟨h,o,Step.refl _ _⟩;intro _ x w1 aM;obtain⟨n,bZ⟩:∃n,n=b8 (Z x w1):=⟨_,rfl⟩
 have aM:=Aw aM;rw [←bZ,hZ]at aM;obtain⟨h,o,st⟩:=aM;have h:=h2 x n h;refine Aa (fun h=> ?_) (fun h=> ?_) h;intro w2 cJ;obtain⟨ar,o⟩:=o.dD cJ;obtain⟨hi,h⟩:=h;obtain⟨p,x1,cs,hp,he,hc,hr⟩:=(BE.st (st.trans ar)).elem hi;obtain rfl:=Ji hr;have h:=h x1 he;refine⟨hi,Ae hp ?_⟩;refine⟨_,_,_,_,_,hc.2,?_⟩;obtain⟨cj,h⟩:=h;obtain⟨p1,x2,gP,dg,dz,cN,cT⟩:=(BF.st (st.trans ar)).elem cj;obtain rfl:=Ji cT;have h:=h x2 dz;refine⟨cj,Ae dg ?_⟩;refine⟨_,_,_,_,_,cN.2,?_⟩;refine Aa (fun h=> ?_) (fun h=> ?_) h;exact⟨false,h,rfl,o.done⟩;obtain⟨n1,hl,h⟩:=h;exact As bZ (show Z _ w2 n1 from(by rw [hZ];exact⟨h,o,(st.trans ar)⟩)) hl;exact⟨true,h,rfl,o.done⟩
def K8 (sx:List Int) (K:(List Int)->Prop):Prop:=∀z:Bool,(z=true->sx=[])->cond (z) (K []) (0+sx.length<2^32/\K sx)
theorem Ko (sx:List Int) (K:(List Int)->Prop) (h:K8 sx K):C6 sx K:=by
 intro m w hm df dy lS eG;have o:=Mem.start hm.lt;refine Lr df sx.length dy _ _ ?_;have h:=h (df.isNone) (aW.none eG);refine Aa (fun h=> ?_) (fun h=> ?_) h;have st:=o.xN 3 1;have o:=o.xR 3 1;exact⟨[],h,⟨_,_,_,rfl,o.rowAt 0 rfl,((El.nil _ _ _).st (o.vg 0 rfl)),(fun b hb=>(o.jy _ (List.mem_of_getElem? (i:=0) rfl) b hb).elim (fun h=>by simp at h) id)⟩,o.done⟩;intro b w1 hb aU;have el:El (A8 .i64) (ms [] m) w [] ([]:List Value):=(El.nil _ _ _)
 have ar:=o.xL hb aU 1 0;have o:=o.lit hb aU 1 0 (by decide) rfl;obtain⟨lt,h⟩:=h;obtain⟨xs,hx,ev⟩:=aW.cells (eG.st ar);have fE:=((el.st ar)).app ev;refine Ca Wb (o.rowAt 0 rfl) hx ev.len ev.one (by first|(simp;done)|simpa using lt) (by decide) (zero_le _) fun a c w2 hr hg dZ=> ?_
 have ln:0+sx.length=sx.length:=(by first|(simp;done)|(simp;omega))
 rw [ln]at hr⊢;refine⟨_,_,_,rfl,?_⟩;have aR:=o.xA 0 rfl hr hg dZ;have o:=o.app 0 rfl hr hg dZ;exact⟨sx,h,⟨_,_,_,rfl,o.rowAt 0 rfl,(fE.st (aR.trans (o.vg 0 rfl))),(fun b hb=>(o.jy _ (List.mem_of_getElem? (i:=0) rfl) b hb).elim (fun h=>by simp at h) id)⟩,o.done⟩
def G5 (sx:List Ay) (K:(List Ay)->Prop):Prop:=∀z:Bool,(z=true->sx=[])->cond (z) (K []) (0+sx.length<2^32/\K sx)
theorem Gr (sx:List Ay) (K:(List Ay)->Prop) (h:G5 sx K):Em sx K:=by
 intro m w hm df dy lS eG;have o:=Mem.start hm.lt;refine Hn df sx.length dy _ _ ?_;have h:=h (df.isNone) (aW.none eG);refine Aa (fun h=> ?_) (fun h=> ?_) h;exact⟨[],h,⟨_,_,rfl,(le_refl _),(aW.nil _ _ _ _)⟩,o.done⟩;intro b w1 hb aU;have el:El Df (ms [] m) w [] ([]:List Value):=(El.nil _ _ _)
 have st:=o.xL hb aU 3 0;have o:=o.lit hb aU 3 0 (by decide) rfl;obtain⟨lt,h⟩:=h;obtain⟨xs,hx,ev⟩:=aW.cells (eG.st st);have fE:=((el.st st)).app ev;refine Ca Bam (o.rowAt 0 rfl) hx ev.len ev.one (by first|(simp;done)|simpa using lt) (by decide) (zero_le _) fun a c w2 hr hg dZ=> ?_
 have ln:0+sx.length=sx.length:=(by first|(simp;done)|(simp;omega))
 rw [ln]at hr⊢;refine⟨_,_,_,rfl,?_⟩;have ar:=o.xA 0 rfl hr hg dZ;have o:=o.app 0 rfl hr hg dZ;have le:=(o.rowAt 0 rfl).cap;have aR:=o.xX 0;have f:=o.freeze (c:=Df) (l:=sx) 0 rfl (fun b hb=>by simp at hb) (fE.st (ar.trans aR));have o:=o.erase 0;exact⟨sx,h,⟨_,_,rfl,le,(f.st (Mem.d_ (ps:=[]) (m0:=m)))⟩,o.done⟩
def G6 (sx:List Cf) (K:(List Cf)->Prop):Prop:=∀z:Bool,(z=true->sx=[])->cond (z) (K []) (0+sx.length<2^32/\K sx)
theorem Gs (sx:List Cf) (K:(List Cf)->Prop) (h:G6 sx K):Ck sx K:=by
 intro m w hm df dy lS eG;have o:=Mem.start hm.lt;refine Hp df sx.length dy _ _ ?_;have h:=h (df.isNone) (aW.none eG);refine Aa (fun h=> ?_) (fun h=> ?_) h;exact⟨[],h,⟨_,_,rfl,(le_refl _),(aW.nil _ _ _ _)⟩,o.done⟩;intro b w1 hb aU;have el:El Gc (ms [] m) w [] ([]:List Value):=(El.nil _ _ _)
 have st:=o.xL hb aU 4 0;have o:=o.lit hb aU 4 0 (by decide) rfl;obtain⟨lt,h⟩:=h;obtain⟨xs,hx,ev⟩:=aW.cells (eG.st st);have fE:=((el.st st)).app ev;refine Ca Ban (o.rowAt 0 rfl) hx ev.len ev.one (by first|(simp;done)|simpa using lt) (by decide) (zero_le _) fun a c w2 hr hg dZ=> ?_
 have ln:0+sx.length=sx.length:=(by first|(simp;done)|(simp;omega))
 rw [ln]at hr⊢;refine⟨_,_,_,rfl,?_⟩;have ar:=o.xA 0 rfl hr hg dZ;have o:=o.app 0 rfl hr hg dZ;have le:=(o.rowAt 0 rfl).cap;have aR:=o.xX 0;have f:=o.freeze (c:=Gc) (l:=sx) 0 rfl (fun b hb=>by simp at hb) (fE.st (ar.trans aR));have o:=o.erase 0;exact⟨sx,h,⟨_,_,rfl,le,(f.st (Mem.d_ (ps:=[]) (m0:=m)))⟩,o.done⟩
def Gg (sx:List Bu) (K:(List Bu)->Prop):Prop:=∀z:Bool,(z=true->sx=[])->cond (z) (K []) (0+sx.length<2^32/\K sx)
theorem F6 (sx:List Bu) (K:(List Bu)->Prop) (h:Gg sx K):Bl sx K:=by
 intro m w hm df dy lS eG;have o:=Mem.start hm.lt;refine Gn df sx.length dy _ _ ?_;have h:=h (df.isNone) (aW.none eG);refine Aa (fun h=> ?_) (fun h=> ?_) h;exact⟨[],h,⟨_,_,rfl,(le_refl _),(aW.nil _ _ _ _)⟩,o.done⟩;intro b w1 hb aU;have el:El Dv (ms [] m) w [] ([]:List Value):=(El.nil _ _ _)
 have st:=o.xL hb aU 3 0;have o:=o.lit hb aU 3 0 (by decide) rfl;obtain⟨lt,h⟩:=h;obtain⟨xs,hx,ev⟩:=aW.cells (eG.st st);have fE:=((el.st st)).app ev;refine Ca Bao (o.rowAt 0 rfl) hx ev.len ev.one (by first|(simp;done)|simpa using lt) (by decide) (zero_le _) fun a c w2 hr hg dZ=> ?_
 have ln:0+sx.length=sx.length:=(by first|(simp;done)|(simp;omega))
 rw [ln]at hr⊢;refine⟨_,_,_,rfl,?_⟩;have ar:=o.xA 0 rfl hr hg dZ;have o:=o.app 0 rfl hr hg dZ;have le:=(o.rowAt 0 rfl).cap;have aR:=o.xX 0;have f:=o.freeze (c:=Dv) (l:=sx) 0 rfl (fun b hb=>by simp at hb) (fE.st (ar.trans aR));have o:=o.erase 0;exact⟨sx,h,⟨_,_,rfl,le,(f.st (Mem.d_ (ps:=[]) (m0:=m)))⟩,o.done⟩
def C7 (sx:List Aj) (K:Bool->Prop):Prop:=Bw sx (fun x=>K (decide (x>=0)))
theorem C4 (sx:List Aj) (K:Bool->Prop) (h:C7 sx K):Bo sx K:=by
 intro m w hm df dy lS eG;have o:=Mem.start hm.lt;refine Db df sx.length dy _ _ ?_;refine Ac (h _ w (o.mn hm) _ _ lS eG) ?_;rintro _ w1 ⟨x,h,rfl,ke⟩;obtain⟨st,o⟩:=o.dE ke;refine⟨_,rfl,?_⟩;exact⟨(decide (x>=0)),h,rfl,o.done⟩
def Dw (sx:List Aj) (K:Int->Prop):Prop:=∃(I:Int->Nat->Prop),(∃n,I 0 n)/\∀(x:Int) (n:Nat),I x n->cond (decide (x<(sx.length:Int))) (((0:Int)<=x/\x<(sx.length:Int))/\∀x1,sx[x.toNat]? =some x1->Pd x1 (fun x2=>cond (x2) (K x) (∃n1,n1<n/\I (IntKind.i64.wrap (x+1)) n1))) (K (-1))
theorem Dq (sx:List Aj) (K:Int->Prop) (h:Dw sx K):Bw sx K:=by
 intro m w hm df dy lS eG;have o:=Mem.start hm.lt;refine Dy df sx.length dy _ _ ?_;obtain⟨I,⟨n2,h⟩,h2⟩:=h;obtain⟨Z,hZ⟩:∃Z:Int->World->Nat->Prop,Z=fun x w1 n=>I x n/\MT w m w w1 []:=⟨_,rfl⟩
 refine⟨fun x w1=>∃n,Z x w1 n,fun x w1=>b8 (Z x w1),⟨n2,?_⟩,?_⟩;rw [hZ];exact⟨h,o,Step.refl _ _⟩;intro _ x w1 aM;obtain⟨n,bZ⟩:∃n,n=b8 (Z x w1):=⟨_,rfl⟩
 have aM:=Aw aM;rw [←bZ,hZ]at aM;obtain⟨h,o,st⟩:=aM;have h:=h2 x n h;refine Aa (fun h=> ?_) (fun h=> ?_) h;obtain⟨hi,h⟩:=h;obtain⟨p,x1,cs,hp,he,hc,hr⟩:=(eG.st st).elem hi;obtain⟨a,c,a1,c1,rfl,⟨le,f⟩,⟨bz,f1⟩⟩:=A1 hr;have h:=h x1 he;refine⟨hi,Ae hp ?_⟩;refine⟨_,_,_,_,_,_,_,_,_,_,_,_,_,_,_,hc.2,?_⟩;refine Ac (h _ w1 (o.mn hm) _ (Bq x1 ⟨le,f⟩ ⟨bz,f1⟩)) ?_;rintro _ w2 ⟨x2,h,rfl,ke⟩;obtain⟨ar,o⟩:=o.dE ke;refine⟨_,rfl,?_⟩;refine Aa (fun h=> ?_) (fun h=> ?_) h;exact⟨x,h,rfl,o.done⟩;obtain⟨n1,hl,h⟩:=h;exact As bZ (show Z _ w2 n1 from(by rw [hZ];exact⟨h,o,(st.trans ar)⟩)) hl;exact⟨(-1),h,rfl,o.done⟩
def K9 (sx:List UInt8) (K:(List UInt8)->Prop):Prop:=∃(I:Int->Nat->Prop),(∃n,I 0 n)/\∀(x:Int) (n:Nat),I x n->cond (decide (x<(sx.length:Int))) (((0:Int)<=x/\x<(sx.length:Int))/\K4 ((sx.getD x.toNat 0).toNat:Int) (fun x1=>cond (!x1) (((0:Int)<=x/\x<=(sx.length:Int))/\K (sx.take x.toNat)) (∃n1,n1<n/\I (IntKind.i64.wrap (x+1)) n1))) (K sx)
theorem Kp (sx:List UInt8) (K:(List UInt8)->Prop) (h:K9 sx K):Eo sx K:=by
 intro m w hm;have o:=Mem.start hm.lt;refine Lt sx _ _ ?_;obtain⟨I,⟨n2,h⟩,h2⟩:=h;obtain⟨Z,hZ⟩:∃Z:Int->World->Nat->Prop,Z=fun x w1 n=>I x n/\MT w m w w1 []:=⟨_,rfl⟩
 refine⟨fun x w1=>∃n,Z x w1 n,fun x w1=>b8 (Z x w1),⟨n2,?_⟩,?_⟩;rw [hZ];exact⟨h,o,Step.refl _ _⟩;intro _ x w1 aM;obtain⟨n,bZ⟩:∃n,n=b8 (Z x w1):=⟨_,rfl⟩
 have aM:=Aw aM;rw [←bZ,hZ]at aM;obtain⟨h,o,st⟩:=aM;have h:=h2 x n h;refine Aa (fun h=> ?_) (fun h=> ?_) h;refine⟨h.1,?_⟩;have h:=And.right h;refine Ac (h _ w1 (o.mn hm)) ?_;rintro _ w2 ⟨x1,h,rfl,ke⟩;obtain⟨ar,o⟩:=o.dE ke;refine⟨_,rfl,?_⟩;refine Aa (fun h=> ?_) (fun h=> ?_) h;refine⟨h.1,?_⟩;have h:=And.right h;exact⟨(sx.take x.toNat),h,rfl,o.done⟩;obtain⟨n1,hl,h⟩:=h;exact As bZ (show Z _ w2 n1 from(by rw [hZ];exact⟨h,o,(st.trans ar)⟩)) hl;exact⟨sx,h,rfl,o.done⟩
def Cn (sx:List Bu) (kM:Ay) (K:Bool->Prop):Prop:=Bh sx kM (fun x=>K (decide (x>=0)))
theorem Cg (sx:List Bu) (kM:Ay) (K:Bool->Prop) (h:Cn sx kM K):A4 sx kM K:=by
 intro m w hm df dy lS eG oU qK BG BH;obtain rfl:=A6 BH;have o:=Mem.start hm.lt;refine Cs df sx.length dy oU _ _ ?_;refine Ac (h _ w (o.mn hm) _ _ lS eG _ _ BG (Ci kM)) ?_;rintro _ w1 ⟨x,h,rfl,ke⟩;obtain⟨st,o⟩:=o.dE ke;refine⟨_,rfl,?_⟩;exact⟨(decide (x>=0)),h,rfl,o.done⟩
def Cy (sx:List Bu) (kM:Ay) (K:Int->Prop):Prop:=∃(I:Int->Nat->Prop),(∃n,I 0 n)/\∀(x:Int) (n:Nat),I x n->cond (decide (x<(sx.length:Int))) (((0:Int)<=x/\x<(sx.length:Int))/\∀x1,sx[x.toNat]? =some x1->Fx x1 kM (fun x2=>cond (x2) (K x) (∃n1,n1<n/\I (IntKind.i64.wrap (x+1)) n1))) (K (-1))
theorem Cv (sx:List Bu) (kM:Ay) (K:Int->Prop) (h:Cy sx kM K):Bh sx kM K:=by
 intro m w hm df dy lS eG oU qK BG BH;obtain rfl:=A6 BH;have o:=Mem.start hm.lt;refine C1 df sx.length dy oU _ _ ?_;obtain⟨I,⟨n2,h⟩,h2⟩:=h;obtain⟨Z,hZ⟩:∃Z:Int->World->Nat->Prop,Z=fun x w1 n=>I x n/\MT w m w w1 []:=⟨_,rfl⟩
 refine⟨fun x w1=>∃n,Z x w1 n,fun x w1=>b8 (Z x w1),⟨n2,?_⟩,?_⟩;rw [hZ];exact⟨h,o,Step.refl _ _⟩;intro _ x w1 aM;obtain⟨n,bZ⟩:∃n,n=b8 (Z x w1):=⟨_,rfl⟩
 have aM:=Aw aM;rw [←bZ,hZ]at aM;obtain⟨h,o,st⟩:=aM;have h:=h2 x n h;refine Aa (fun h=> ?_) (fun h=> ?_) h;obtain⟨hi,h⟩:=h;obtain⟨p,x1,cs,hp,he,hc,hr⟩:=(eG.st st).elem hi;obtain rfl:=F3 hr;have h:=h x1 he;refine⟨hi,Ae hp ?_⟩;refine⟨_,_,_,hc.2,?_⟩;refine Ac (h _ w1 (o.mn hm) _ (Ate x1) _ _ (BG.st st) (Ci kM)) ?_;rintro _ w2 ⟨x2,h,rfl,ke⟩;obtain⟨ar,o⟩:=o.dE ke;refine⟨_,rfl,?_⟩;refine Aa (fun h=> ?_) (fun h=> ?_) h;exact⟨x,h,rfl,o.done⟩;obtain⟨n1,hl,h⟩:=h;exact As bZ (show Z _ w2 n1 from(by rw [hZ];exact⟨h,o,(st.trans ar)⟩)) hl;exact⟨(-1),h,rfl,o.done⟩
def Ov (d:Bu) (p1:Ay) (K:Bool->Prop):Prop:=cond (d.base==p1.a) (K (d.size==p1.b)) (K false)
theorem Nw (d:Bu) (p1:Ay) (K:Bool->Prop) (h:Ov d p1 K):Fx d p1 K:=by
 intro m w hm AA f_d xY AB KJ Bq5;obtain rfl:=F3 f_d;obtain rfl:=A6 Bq5;have o:=Mem.start hm.lt;refine Pu _ _ _ xY _ _ ?_;intro b w1 hb aU;obtain⟨st,o⟩:=o.dB hb aU;refine⟨_,(o.at 0 rfl).cell rfl,?_⟩;refine⟨_,(KJ.st st).2 1 (le_of_ble_eq_true rfl),?_⟩;refine Aa (fun h=> ?_) (fun h=> ?_) h;refine⟨_,(o.at 0 rfl).cell rfl,?_⟩;refine⟨_,(KJ.st st).2 2 (le_of_ble_eq_true rfl),?_⟩;exact⟨(d.size==p1.b),h,rfl,o.done⟩;exact⟨false,h,rfl,o.done⟩
def Cz (sx:List Aj) (K:Bool->Prop):Prop:=Br sx (fun x=>K (decide (x>=0)))
theorem Cw (sx:List Aj) (K:Bool->Prop) (h:Cz sx K):Bg sx K:=by
 intro m w hm df dy lS eG;have o:=Mem.start hm.lt;refine C3 df sx.length dy _ _ ?_;refine Ac (h _ w (o.mn hm) _ _ lS eG) ?_;rintro _ w1 ⟨x,h,rfl,ke⟩;obtain⟨st,o⟩:=o.dE ke;refine⟨_,rfl,?_⟩;exact⟨(decide (x>=0)),h,rfl,o.done⟩
def Dk (sx:List Aj) (K:Int->Prop):Prop:=∃(I:Int->Nat->Prop),(∃n,I 0 n)/\∀(x:Int) (n:Nat),I x n->cond (decide (x<(sx.length:Int))) (((0:Int)<=x/\x<(sx.length:Int))/\∀x1,sx[x.toNat]? =some x1->Mg x1 (fun x2=>cond (x2) (K x) (∃n1,n1<n/\I (IntKind.i64.wrap (x+1)) n1))) (K (-1))
theorem C8 (sx:List Aj) (K:Int->Prop) (h:Dk sx K):Br sx K:=by
 intro m w hm df dy lS eG;have o:=Mem.start hm.lt;refine Dp df sx.length dy _ _ ?_;obtain⟨I,⟨n2,h⟩,h2⟩:=h;obtain⟨Z,hZ⟩:∃Z:Int->World->Nat->Prop,Z=fun x w1 n=>I x n/\MT w m w w1 []:=⟨_,rfl⟩
 refine⟨fun x w1=>∃n,Z x w1 n,fun x w1=>b8 (Z x w1),⟨n2,?_⟩,?_⟩;rw [hZ];exact⟨h,o,Step.refl _ _⟩;intro _ x w1 aM;obtain⟨n,bZ⟩:∃n,n=b8 (Z x w1):=⟨_,rfl⟩
 have aM:=Aw aM;rw [←bZ,hZ]at aM;obtain⟨h,o,st⟩:=aM;have h:=h2 x n h;refine Aa (fun h=> ?_) (fun h=> ?_) h;obtain⟨hi,h⟩:=h;obtain⟨p,x1,cs,hp,he,hc,hr⟩:=(eG.st st).elem hi;obtain⟨a,c,a1,c1,rfl,⟨le,f⟩,⟨bz,f1⟩⟩:=A1 hr;have h:=h x1 he;refine⟨hi,Ae hp ?_⟩;refine⟨_,_,_,_,_,_,_,_,_,_,_,_,_,_,_,hc.2,?_⟩;refine Ac (h _ w1 (o.mn hm) _ (Bq x1 ⟨le,f⟩ ⟨bz,f1⟩)) ?_;rintro _ w2 ⟨x2,h,rfl,ke⟩;obtain⟨ar,o⟩:=o.dE ke;refine⟨_,rfl,?_⟩;refine Aa (fun h=> ?_) (fun h=> ?_) h;exact⟨x,h,rfl,o.done⟩;obtain⟨n1,hl,h⟩:=h;exact As bZ (show Z _ w2 n1 from(by rw [hZ];exact⟨h,o,(st.trans ar)⟩)) hl;exact⟨(-1),h,rfl,o.done⟩
def C9 (sx:List Aj) (K:Int->Prop):Prop:=∃(I:Int->Nat->Prop),(∃n,I 0 n)/\∀(x:Int) (n:Nat),I x n->cond (decide (x<(sx.length:Int))) (((0:Int)<=x/\x<(sx.length:Int))/\∀x1,sx[x.toNat]? =some x1->K1 x1 (fun x2=>cond (x2) (K x) (∃n1,n1<n/\I (IntKind.i64.wrap (x+1)) n1))) (K (-1))
theorem C5 (sx:List Aj) (K:Int->Prop) (h:C9 sx K):Bn sx K:=by
 intro m w hm df dy lS eG;have o:=Mem.start hm.lt;refine Dd df sx.length dy _ _ ?_;obtain⟨I,⟨n2,h⟩,h2⟩:=h;obtain⟨Z,hZ⟩:∃Z:Int->World->Nat->Prop,Z=fun x w1 n=>I x n/\MT w m w w1 []:=⟨_,rfl⟩
 refine⟨fun x w1=>∃n,Z x w1 n,fun x w1=>b8 (Z x w1),⟨n2,?_⟩,?_⟩;rw [hZ];exact⟨h,o,Step.refl _ _⟩;intro _ x w1 aM;obtain⟨n,bZ⟩:∃n,n=b8 (Z x w1):=⟨_,rfl⟩
 have aM:=Aw aM;rw [←bZ,hZ]at aM;obtain⟨h,o,st⟩:=aM;have h:=h2 x n h;refine Aa (fun h=> ?_) (fun h=> ?_) h;obtain⟨hi,h⟩:=h;obtain⟨p,x1,cs,hp,he,hc,hr⟩:=(eG.st st).elem hi;obtain⟨a,c,a1,c1,rfl,⟨le,f⟩,⟨bz,f1⟩⟩:=A1 hr;have h:=h x1 he;refine⟨hi,Ae hp ?_⟩;refine⟨_,_,_,_,_,_,_,_,_,_,_,_,_,_,_,hc.2,?_⟩;refine Ac (h _ w1 (o.mn hm) _ (Bq x1 ⟨le,f⟩ ⟨bz,f1⟩)) ?_;rintro _ w2 ⟨x2,h,rfl,ke⟩;obtain⟨ar,o⟩:=o.dE ke;refine⟨_,rfl,?_⟩;refine Aa (fun h=> ?_) (fun h=> ?_) h;exact⟨x,h,rfl,o.done⟩;obtain⟨n1,hl,h⟩:=h;exact As bZ (show Z _ w2 n1 from(by rw [hZ];exact⟨h,o,(st.trans ar)⟩)) hl;exact⟨(-1),h,rfl,o.done⟩
end Go.Proofs.YthkbhlmijkegiaaGreat
namespace Go.Am
open Go.Vc
open Go.RowKit (Below)
structure Bx (α:Type) where
 get:α
def i4 {α R:Type} (b:Bx α) (f:α->Option R):Option R:=Bx.casesOn (motive:=fun _=>Option R) b f
theorem Azb {α R:Type} (b:Bx α) (f:α->Option R):i4 b f=f b.get:=rfl
structure N8 (α:Type) where
 a0:α
 a1:α
 a2:α
 a3:α
 a4:α
 a5:α
 a6:α
 a7:α
def N8.pr {α:Type} :Nat->Bx (N8 α->α)
 |0=>⟨N8.a0⟩|1=>⟨N8.a1⟩|2=>⟨N8.a2⟩|3=>⟨N8.a3⟩|4=>⟨N8.a4⟩|5=>⟨N8.a5⟩|6=>⟨N8.a6⟩|_=>⟨N8.a7⟩
def N8.put {α:Type} (t:N8 α) (x:α):Nat->N8 α
 |0=>⟨x,t.a1,t.a2,t.a3,t.a4,t.a5,t.a6,t.a7⟩|1=>⟨t.a0,x,t.a2,t.a3,t.a4,t.a5,t.a6,t.a7⟩|2=>⟨t.a0,t.a1,x,t.a3,t.a4,t.a5,t.a6,t.a7⟩|3=>⟨t.a0,t.a1,t.a2,x,t.a4,t.a5,t.a6,t.a7⟩|4=>⟨t.a0,t.a1,t.a2,t.a3,x,t.a5,t.a6,t.a7⟩|5=>⟨t.a0,t.a1,t.a2,t.a3,t.a4,x,t.a6,t.a7⟩|6=>⟨t.a0,t.a1,t.a2,t.a3,t.a4,t.a5,x,t.a7⟩|_=>⟨t.a0,t.a1,t.a2,t.a3,t.a4,t.a5,t.a6,x⟩
def N8.up {α R:Type} :Nat->Bx (N8 α->(α->(α->Option R)->Option R)->(N8 α->Option R)->Option R)
 |0=>⟨fun t f K=>N8.casesOn (motive:=fun _=>Option R) t fun a0 a1 a2 a3 a4 a5 a6 a7=>f a0 fun x=>K ⟨x,a1,a2,a3,a4,a5,a6,a7⟩⟩
 |1=>⟨fun t f K=>N8.casesOn (motive:=fun _=>Option R) t fun a0 a1 a2 a3 a4 a5 a6 a7=>f a1 fun x=>K ⟨a0,x,a2,a3,a4,a5,a6,a7⟩⟩
 |2=>⟨fun t f K=>N8.casesOn (motive:=fun _=>Option R) t fun a0 a1 a2 a3 a4 a5 a6 a7=>f a2 fun x=>K ⟨a0,a1,x,a3,a4,a5,a6,a7⟩⟩
 |3=>⟨fun t f K=>N8.casesOn (motive:=fun _=>Option R) t fun a0 a1 a2 a3 a4 a5 a6 a7=>f a3 fun x=>K ⟨a0,a1,a2,x,a4,a5,a6,a7⟩⟩
 |4=>⟨fun t f K=>N8.casesOn (motive:=fun _=>Option R) t fun a0 a1 a2 a3 a4 a5 a6 a7=>f a4 fun x=>K ⟨a0,a1,a2,a3,x,a5,a6,a7⟩⟩
 |5=>⟨fun t f K=>N8.casesOn (motive:=fun _=>Option R) t fun a0 a1 a2 a3 a4 a5 a6 a7=>f a5 fun x=>K ⟨a0,a1,a2,a3,a4,x,a6,a7⟩⟩
 |6=>⟨fun t f K=>N8.casesOn (motive:=fun _=>Option R) t fun a0 a1 a2 a3 a4 a5 a6 a7=>f a6 fun x=>K ⟨a0,a1,a2,a3,a4,a5,x,a7⟩⟩
 |_=>⟨fun t f K=>N8.casesOn (motive:=fun _=>Option R) t fun a0 a1 a2 a3 a4 a5 a6 a7=>f a7 fun x=>K ⟨a0,a1,a2,a3,a4,a5,a6,x⟩⟩
theorem N8.KK {α R:Type} (i:Nat) (t:N8 α) (f:α->(α->Option R)->Option R) (K:N8 α->Option R):(N8.up i).get t f K=f ((N8.pr i).get t) fun x=>K (t.put x i):=by
 match i with
 |0|1|2|3|4|5|6|_+7=>rfl
theorem N8.jZ {α:Type} (t:N8 α) (x:α):∀(i j:Nat),i<8->j<8->(N8.pr j).get (t.put x i)=if j=i then x else(N8.pr j).get t
 |0,0,_,_=>rfl
 |0,1,_,_=>rfl
 |0,2,_,_=>rfl
 |0,3,_,_=>rfl
 |0,4,_,_=>rfl
 |0,5,_,_=>rfl
 |0,6,_,_=>rfl
 |0,7,_,_=>rfl
 |1,0,_,_=>rfl
 |1,1,_,_=>rfl
 |1,2,_,_=>rfl
 |1,3,_,_=>rfl
 |1,4,_,_=>rfl
 |1,5,_,_=>rfl
 |1,6,_,_=>rfl
 |1,7,_,_=>rfl
 |2,0,_,_=>rfl
 |2,1,_,_=>rfl
 |2,2,_,_=>rfl
 |2,3,_,_=>rfl
 |2,4,_,_=>rfl
 |2,5,_,_=>rfl
 |2,6,_,_=>rfl
 |2,7,_,_=>rfl
 |3,0,_,_=>rfl
 |3,1,_,_=>rfl
 |3,2,_,_=>rfl
 |3,3,_,_=>rfl
 |3,4,_,_=>rfl
 |3,5,_,_=>rfl
 |3,6,_,_=>rfl
 |3,7,_,_=>rfl
 |4,0,_,_=>rfl
 |4,1,_,_=>rfl
 |4,2,_,_=>rfl
 |4,3,_,_=>rfl
 |4,4,_,_=>rfl
 |4,5,_,_=>rfl
 |4,6,_,_=>rfl
 |4,7,_,_=>rfl
 |5,0,_,_=>rfl
 |5,1,_,_=>rfl
 |5,2,_,_=>rfl
 |5,3,_,_=>rfl
 |5,4,_,_=>rfl
 |5,5,_,_=>rfl
 |5,6,_,_=>rfl
 |5,7,_,_=>rfl
 |6,0,_,_=>rfl
 |6,1,_,_=>rfl
 |6,2,_,_=>rfl
 |6,3,_,_=>rfl
 |6,4,_,_=>rfl
 |6,5,_,_=>rfl
 |6,6,_,_=>rfl
 |6,7,_,_=>rfl
 |7,0,_,_=>rfl
 |7,1,_,_=>rfl
 |7,2,_,_=>rfl
 |7,3,_,_=>rfl
 |7,4,_,_=>rfl
 |7,5,_,_=>rfl
 |7,6,_,_=>rfl
 |7,7,_,_=>rfl
 |i+8,j,hi,_=>by omega
 |i,j+8,_,hj=>by omega
theorem KL (a b:Nat):Nat.div a b=a/b:=rfl
theorem KM (a b:Nat):mod a b=a%b:=rfl
abbrev Tr (α:Type):Type:=N8 (N8 (N8 (N8 (N8 (N8 (Option α))))))
def Tr.gB {α:Type} (k:Nat):Bx (Tr α->Option α):=cond (ble k 262143) (match N8.pr (Nat.div k 32768),N8.pr (mod (Nat.div k 4096) 8),N8.pr (mod (Nat.div k 512) 8),N8.pr (mod (Nat.div k 64) 8),N8.pr (mod (Nat.div k 8) 8),N8.pr (mod k 8)with|⟨p1⟩,⟨p2⟩,⟨p3⟩,⟨p4⟩,⟨p5⟩,⟨p6⟩=>⟨fun t=>p6 (p5 (p4 (p3 (p2 (p1 t)))))⟩) ⟨fun _=>none⟩
def Tr.get {α:Type} (t:Tr α) (k:Nat):Option α:=(Tr.gB k).get t
def Tr.sB {α R:Type} (k:Nat):Bx (Tr α->Option α->(Tr α->Option R)->Option R):=cond (ble k 262143) (match N8.up (R:=R) (Nat.div k 32768),N8.up (R:=R) (mod (Nat.div k 4096) 8),N8.up (R:=R) (mod (Nat.div k 512) 8),N8.up (R:=R) (mod (Nat.div k 64) 8),N8.up (R:=R) (mod (Nat.div k 8) 8),N8.up (R:=R) (mod k 8)with|⟨u1⟩,⟨u2⟩,⟨u3⟩,⟨u4⟩,⟨u5⟩,⟨u6⟩=>⟨fun t x K=>u1 t (fun t K=>u2 t (fun t K=>u3 t (fun t K=>u4 t (fun t K=>u5 t (fun t K=>u6 t (fun _ K=>K x) K) K) K) K) K) K⟩) ⟨fun _ _ _=>none⟩
theorem Tr.get_eq {α:Type} (t:Tr α) (k:Nat):Tr.get t k=cond (ble k 262143) ((N8.pr (mod k 8)).get ((N8.pr (mod (Nat.div k 8) 8)).get ((N8.pr (mod (Nat.div k 64) 8)).get ((N8.pr (mod (Nat.div k 512) 8)).get ((N8.pr (mod (Nat.div k 4096) 8)).get ((N8.pr (Nat.div k 32768)).get t)))))) none:=by unfold Tr.get Tr.gB;cases ble k 262143<;>rfl
theorem Tr.BI {α R:Type} (k:Nat) (hk:ble k 262143=true) (t:Tr α) (x:Option α) (K:Tr α->Option R):(Tr.sB k).get t x K=K (N8.put t (N8.put ((N8.pr (Nat.div k 32768)).get t) (N8.put ((N8.pr (mod (Nat.div k 4096) 8)).get ((N8.pr (Nat.div k 32768)).get t)) (N8.put ((N8.pr (mod (Nat.div k 512) 8)).get ((N8.pr (mod (Nat.div k 4096) 8)).get ((N8.pr (Nat.div k 32768)).get t))) (N8.put ((N8.pr (mod (Nat.div k 64) 8)).get ((N8.pr (mod (Nat.div k 512) 8)).get ((N8.pr (mod (Nat.div k 4096) 8)).get ((N8.pr (Nat.div k 32768)).get t)))) (N8.put ((N8.pr (mod (Nat.div k 8) 8)).get ((N8.pr (mod (Nat.div k 64) 8)).get ((N8.pr (mod (Nat.div k 512) 8)).get ((N8.pr (mod (Nat.div k 4096) 8)).get ((N8.pr (Nat.div k 32768)).get t))))) x (mod k 8)) (mod (Nat.div k 8) 8)) (mod (Nat.div k 64) 8)) (mod (Nat.div k 512) 8)) (mod (Nat.div k 4096) 8)) (Nat.div k 32768)):=by unfold Tr.sB;rw [hk];simp only [cond_true,N8.KK]
theorem Tr.Vp {α:Type} (k j:Nat) (hk:ble k 262143=true) (t:Tr α) (x:Option α):Tr.get (N8.put t (N8.put ((N8.pr (Nat.div k 32768)).get t) (N8.put ((N8.pr (mod (Nat.div k 4096) 8)).get ((N8.pr (Nat.div k 32768)).get t)) (N8.put ((N8.pr (mod (Nat.div k 512) 8)).get ((N8.pr (mod (Nat.div k 4096) 8)).get ((N8.pr (Nat.div k 32768)).get t))) (N8.put ((N8.pr (mod (Nat.div k 64) 8)).get ((N8.pr (mod (Nat.div k 512) 8)).get ((N8.pr (mod (Nat.div k 4096) 8)).get ((N8.pr (Nat.div k 32768)).get t)))) (N8.put ((N8.pr (mod (Nat.div k 8) 8)).get ((N8.pr (mod (Nat.div k 64) 8)).get ((N8.pr (mod (Nat.div k 512) 8)).get ((N8.pr (mod (Nat.div k 4096) 8)).get ((N8.pr (Nat.div k 32768)).get t))))) x (mod k 8)) (mod (Nat.div k 8) 8)) (mod (Nat.div k 64) 8)) (mod (Nat.div k 512) 8)) (mod (Nat.div k 4096) 8)) (Nat.div k 32768)) j=if j=k then x else Tr.get t j:=by
 rw [Tr.get_eq,Tr.get_eq];have vw:=le_of_ble_eq_true hk;cases hj:ble j 262143 with
 |false=>
  have:j≠k:=fun e=>by subst e;rw [hk]at hj;cases hj
  simp [this]
 |true=>
  have nE:=le_of_ble_eq_true hj;simp only [cond_true,KL,KM];by_cases e0:(j/32768)=(k/32768)
  case neg=>
   have:j≠k:=fun e=>by subst e;exact e0 rfl
   rw [N8.jZ _ _ _ _ (by omega) (by omega),if_neg e0,if_neg this]
  rw [N8.jZ _ _ _ _ (by omega) (by omega),if_pos e0];by_cases e1:(j/4096%8)=(k/4096%8)
  case neg=>
   have:j≠k:=fun e=>by subst e;exact e1 rfl
   rw [N8.jZ _ _ _ _ (by omega) (by omega),if_neg e1,if_neg this];simp only [e0]
  rw [N8.jZ _ _ _ _ (by omega) (by omega),if_pos e1];by_cases e2:(j/512%8)=(k/512%8)
  case neg=>
   have:j≠k:=fun e=>by subst e;exact e2 rfl
   rw [N8.jZ _ _ _ _ (by omega) (by omega),if_neg e2,if_neg this];simp only [e0,e1]
  rw [N8.jZ _ _ _ _ (by omega) (by omega),if_pos e2];by_cases e3:(j/64%8)=(k/64%8)
  case neg=>
   have:j≠k:=fun e=>by subst e;exact e3 rfl
   rw [N8.jZ _ _ _ _ (by omega) (by omega),if_neg e3,if_neg this];simp only [e0,e1,e2]
  rw [N8.jZ _ _ _ _ (by omega) (by omega),if_pos e3];by_cases e4:(j/8%8)=(k/8%8)
  case neg=>
   have:j≠k:=fun e=>by subst e;exact e4 rfl
   rw [N8.jZ _ _ _ _ (by omega) (by omega),if_neg e4,if_neg this];simp only [e0,e1,e2,e3]
  rw [N8.jZ _ _ _ _ (by omega) (by omega),if_pos e4];by_cases e5:(j%8)=(k%8)
  case neg=>
   have:j≠k:=fun e=>by subst e;exact e5 rfl
   rw [N8.jZ _ _ _ _ (by omega) (by omega),if_neg e5,if_neg this];simp only [e0,e1,e2,e3,e4]
  rw [N8.jZ _ _ _ _ (by omega) (by omega),if_pos e5];rw [if_pos (by omega)]
def Tr.n1 {α:Type} :N8 (Option α):=⟨none,none,none,none,none,none,none,none⟩
def Tr.n2 {α:Type} :N8 (N8 (Option α)):=⟨Tr.n1,Tr.n1,Tr.n1,Tr.n1,Tr.n1,Tr.n1,Tr.n1,Tr.n1⟩
def Tr.n3 {α:Type} :N8 (N8 (N8 (Option α))):=⟨Tr.n2,Tr.n2,Tr.n2,Tr.n2,Tr.n2,Tr.n2,Tr.n2,Tr.n2⟩
def Tr.n4 {α:Type} :N8 (N8 (N8 (N8 (Option α)))):=⟨Tr.n3,Tr.n3,Tr.n3,Tr.n3,Tr.n3,Tr.n3,Tr.n3,Tr.n3⟩
def Tr.n5 {α:Type} :N8 (N8 (N8 (N8 (N8 (Option α))))):=⟨Tr.n4,Tr.n4,Tr.n4,Tr.n4,Tr.n4,Tr.n4,Tr.n4,Tr.n4⟩
def Tr.nil {α:Type} :Tr α:=(⟨Tr.n5,Tr.n5,Tr.n5,Tr.n5,Tr.n5,Tr.n5,Tr.n5,Tr.n5⟩:N8 _)
theorem N8.KN {α:Type} (x:α) (i:Nat):(N8.pr i).get ⟨x,x,x,x,x,x,x,x⟩=x:=by
 match i with
 |0|1|2|3|4|5|6|_+7=>rfl
theorem Tr.get_nil {α:Type} (k:Nat):(Tr.nil:Tr α).get k=none:=by
 rw [Tr.get_eq];simp only [Tr.nil,Tr.n5,Tr.n4,Tr.n3,Tr.n2,Tr.n1,N8.KN];cases ble k 262143<;>rfl
def Tr.i5 {α R:Type} (_f:Nat) (t:Tr α) (k:Nat) (x:Option α) (K:Tr α->Option R):Option R:=i4 (Tr.sB k) fun s=>s t x K
theorem Tr.jF {α R:Type} {r:R} {f:Nat} {t:Tr α} {k:Nat} {x:Option α} {K:Tr α->Option R} (h:Tr.i5 f t k x K=some r): ∃t',K t'=some r/\∀j,t'.get j=if j=k then x else t.get j:=by
 unfold Tr.i5 at h;rw [Azb]at h;cases hk:ble k 262143 with
 |false=>simp only [Tr.sB,hk,cond_false]at h;cases h
 |true=>
  rw [Tr.BI k hk]at h;exact⟨_,h,fun j=>Tr.Vp k j hk t x⟩
inductive AV where
 |lit (v:Value)
 |ptr (b o:Nat)
 |slice (b o n sz c:Nat) (x:Bool)
 |agg (l:List AV)
 |tuple (l:List AV)
 |func (f:FuncId) (first captured:List AV)
 |map (b:Nat)
 |iface (t:TypeId) (x:AV)
 |yield (b:Nat)
 |nU (k:IntKind) (lo hi:Int)
 |m6
 |same (i:Nat) (k:IntKind) (lo hi:Int)
instance:Inhabited AV:=⟨.lit default⟩
abbrev Tm:Type:=N8 (N8 (N8 (Option AV)))
def Tm.gB (k:Nat):Bx (Tm->Option AV):=cond (ble k 511) (match N8.pr (Nat.div k 64),N8.pr (mod (Nat.div k 8) 8),N8.pr (mod k 8)with|⟨p1⟩,⟨p2⟩,⟨p3⟩=>⟨fun t=>p3 (p2 (p1 t))⟩) ⟨fun _=>none⟩
def Tm.get (t:Tm) (k:Nat):Option AV:=(Tm.gB k).get t
def Tm.sB {R:Type} (k:Nat):Bx (Tm->Option AV->(Tm->Option R)->Option R):=cond (ble k 511) (match N8.up (R:=R) (Nat.div k 64),N8.up (R:=R) (mod (Nat.div k 8) 8),N8.up (R:=R) (mod k 8)with|⟨u1⟩,⟨u2⟩,⟨u3⟩=>⟨fun t x K=>u1 t (fun t K=>u2 t (fun t K=>u3 t (fun _ K=>K x) K) K) K⟩) ⟨fun _ _ _=>none⟩
theorem Tm.get_eq (t:Tm) (k:Nat):Tm.get t k=cond (ble k 511) ((N8.pr (mod k 8)).get ((N8.pr (mod (Nat.div k 8) 8)).get ((N8.pr (Nat.div k 64)).get t))) none:=by unfold Tm.get Tm.gB;cases ble k 511<;>rfl
theorem Tm.BI {R:Type} (k:Nat) (hk:ble k 511=true) (t:Tm) (x:Option AV) (K:Tm->Option R):(Tm.sB k).get t x K=K (N8.put t (N8.put ((N8.pr (Nat.div k 64)).get t) (N8.put ((N8.pr (mod (Nat.div k 8) 8)).get ((N8.pr (Nat.div k 64)).get t)) x (mod k 8)) (mod (Nat.div k 8) 8)) (Nat.div k 64)):=by unfold Tm.sB;rw [hk];simp only [cond_true,N8.KK]
theorem Tm.Vp (k j:Nat) (hk:ble k 511=true) (t:Tm) (x:Option AV):Tm.get (N8.put t (N8.put ((N8.pr (Nat.div k 64)).get t) (N8.put ((N8.pr (mod (Nat.div k 8) 8)).get ((N8.pr (Nat.div k 64)).get t)) x (mod k 8)) (mod (Nat.div k 8) 8)) (Nat.div k 64)) j=if j=k then x else Tm.get t j:=by
 rw [Tm.get_eq,Tm.get_eq];have vw:=le_of_ble_eq_true hk;cases hj:ble j 511 with
 |false=>
  have:j≠k:=fun e=>by subst e;rw [hk]at hj;cases hj
  simp [this]
 |true=>
  have nE:=le_of_ble_eq_true hj;simp only [cond_true,KL,KM];by_cases e0:(j/64)=(k/64)
  case neg=>
   have:j≠k:=fun e=>by subst e;exact e0 rfl
   rw [N8.jZ _ _ _ _ (by omega) (by omega),if_neg e0,if_neg this]
  rw [N8.jZ _ _ _ _ (by omega) (by omega),if_pos e0];by_cases e1:(j/8%8)=(k/8%8)
  case neg=>
   have:j≠k:=fun e=>by subst e;exact e1 rfl
   rw [N8.jZ _ _ _ _ (by omega) (by omega),if_neg e1,if_neg this];simp only [e0]
  rw [N8.jZ _ _ _ _ (by omega) (by omega),if_pos e1];by_cases e2:(j%8)=(k%8)
  case neg=>
   have:j≠k:=fun e=>by subst e;exact e2 rfl
   rw [N8.jZ _ _ _ _ (by omega) (by omega),if_neg e2,if_neg this];simp only [e0,e1]
  rw [N8.jZ _ _ _ _ (by omega) (by omega),if_pos e2];rw [if_pos (by omega)]
def Tm.nil:Tm:=(⟨Tr.n2,Tr.n2,Tr.n2,Tr.n2,Tr.n2,Tr.n2,Tr.n2,Tr.n2⟩:N8 _)
theorem Tm.get_nil (k:Nat):Tm.nil.get k=none:=by
 rw [Tm.get_eq];simp only [Tm.nil,Tr.n2,Tr.n1,N8.KN];cases ble k 511<;>rfl
theorem Tm.BJ {R:Type} {r:R} {t:Tm} {k:Nat} {x:Option AV} {K:Tm->Option R} (h:(Tm.sB k).get t x K=some r): ∃t',K t'=some r/\∀j,t'.get j=if j=k then x else t.get j:=by
 cases hk:ble k 511 with
 |false=>simp only [Tm.sB,hk,cond_false]at h;cases h
 |true=>
  rw [Tm.BI k hk]at h;exact⟨_,h,fun j=>Tm.Vp k j hk t x⟩
abbrev Env:Type:=Nat->Option (Nat×Nat)
def sF (B t:Nat):Int:=match t with
 |0=>Int.ofNat B|_=>Int.negSucc B
mutual
def AV.rep (e:Env):AV->Value->Prop
 | .lit u,v=>v=u| .ptr b o,v=>∃B t,e b=some (B,t)/\v= .pointer (some ⟨B,o,none⟩)| .slice b o n sz c x,v=>∃B t k A,e b=some (B,t)/\v= .slice (some A) n k/\(A=⟨B,o,none⟩\/k=0)/\n<=k/\c<=k/\(x=true->k=c)/\o+k*sz<=t| .agg l,v=>∃vs,v= .agg ⟨vs⟩/\AV.bI e l vs| .tuple l,v=>∃vs,v= .tuple ⟨vs⟩/\AV.bI e l vs| .func f l m,v=>∃vs us,v= .func (.func f) ⟨vs⟩ ⟨us⟩/\AV.bI e l vs/\AV.bI e m us
 | .map b,v=>∃B t,e b=some (B,t)/\v= .map (some B)| .iface t x,v=>∃u,v= .iface t u/\AV.rep e x u| .yield b,v=>∃B t,e b=some (B,t)/\v= .func (.yield B) #[] #[]
 | .nU k lo hi,v=>∃n,v= .int k n/\lo<=n/\n<=hi| .m6,v=>v.oneCell'=true| .same i k lo hi,v=>∃B t,e i=some (B,t)/\v= .int k (sF B t)/\lo<=sF B t/\sF B t<=hi
def AV.bI (e:Env):List AV->List Value->Prop
 |[],vs=>vs=[]|a::l,vs=>∃x xs,vs=x::xs/\AV.rep e a x/\AV.bI e l xs
end
def A0 (e e':Env):Prop:=∀(b:Nat) (x:Nat×Nat),e b=some x->e' b=some x
theorem A0.refl (e:Env):A0 e e:=fun _ _ h=>h
theorem A0.trans {e e' sG:Env} (h:A0 e e') (k:A0 e' sG):A0 e sG:=fun b x hb=>k b x (h b x hb)
def Env.put (e:Env) (n:Nat) (x:Nat×Nat):Env:=fun b=>if b=n then some x else e b
theorem Gi (e:Env) (n:Nat) (x:Nat×Nat):e.put n x n=some x:=if_pos rfl
theorem Qr {e:Env} {n b:Nat} (h:b≠n) (x:Nat×Nat):e.put n x b=e b:=if_neg h
theorem A0.put {e:Env} {n:Nat} (h:e n=none) (x:Nat×Nat):A0 e (e.put n x):=fun b y hb=>by
 by_cases KO:b=n
 ·subst KO;rw [h]at hb;cases hb
 ·rw [Qr KO];exact hb
mutual
theorem E9 {e e':Env} (h:A0 e e'):∀ {a:AV} {v:Value},a.rep e v->a.rep e' v
 | .lit _,_,hr=>by simp only [AV.rep]at hr⊢;exact hr
 | .ptr _ _,_,hr=>by simp only [AV.rep]at hr⊢;obtain⟨B,t,h1,h2⟩:=hr;exact⟨B,t,h _ _ h1,h2⟩
 | .slice ..,_,hr=>by simp only [AV.rep]at hr⊢;obtain⟨B,t,k,A,h1,h2⟩:=hr;exact⟨B,t,k,A,h _ _ h1,h2⟩
 | .agg _,_,hr=>by simp only [AV.rep]at hr⊢;obtain⟨vs,h1,h2⟩:=hr;exact⟨vs,h1,Er h h2⟩
 | .tuple _,_,hr=>by simp only [AV.rep]at hr⊢;obtain⟨vs,h1,h2⟩:=hr;exact⟨vs,h1,Er h h2⟩
 | .func ..,_,hr=>by simp only [AV.rep]at hr⊢;obtain⟨vs,us,h1,h2,h3⟩:=hr;exact⟨vs,us,h1,Er h h2,Er h h3⟩
 | .map _,_,hr=>by simp only [AV.rep]at hr⊢;obtain⟨B,t,h1,h2⟩:=hr;exact⟨B,t,h _ _ h1,h2⟩
 | .iface _ _,_,hr=>by simp only [AV.rep]at hr⊢;obtain⟨u,h1,h2⟩:=hr;exact⟨u,h1,E9 h h2⟩
 | .yield _,_,hr=>by simp only [AV.rep]at hr⊢;obtain⟨B,t,h1,h2⟩:=hr;exact⟨B,t,h _ _ h1,h2⟩
 | .nU ..,_,hr=>by simp only [AV.rep]at hr⊢;exact hr
 | .m6,_,hr=>by simp only [AV.rep]at hr⊢;exact hr
 | .same ..,_,hr=>by simp only [AV.rep]at hr⊢;obtain⟨B,t,h1,h2⟩:=hr;exact⟨B,t,h _ _ h1,h2⟩
theorem Er {e e':Env} (h:A0 e e'):∀ {l:List AV} {vs:List Value},AV.bI e l vs->AV.bI e' l vs
 |[],_,hr=>by simp only [AV.bI]at hr⊢;exact hr
 |_::_,_,hr=>by simp only [AV.bI]at hr⊢;obtain⟨x,xs,h1,h2,h3⟩:=hr;exact⟨x,xs,h1,E9 h h2,Er h h3⟩
end
theorem A7 {e:Env} :∀ {l:List AV} {vs:List Value},AV.bI e l vs->vs.length=l.length
 |[],_,h=>by simp only [AV.bI]at h;subst h;rfl
 |_::l,_,h=>by simp only [AV.bI]at h;obtain⟨x,xs,rfl,_,h⟩:=h;simp [A7 h]
theorem Jm {e:Env} :∀ {l:List AV} {vs:List Value} {i:Nat} {a:AV},AV.bI e l vs->l[i]? =some a->∃v,vs[i]? =some v/\a.rep e v
 |[],_,_,_,_,hi=>by simp at hi
 |_::l,_,i,a,h,hi=>by
  simp only [AV.bI]at h;obtain⟨x,xs,rfl,h1,h2⟩:=h;cases i with
  |zero=>simp at hi;subst hi;exact⟨x,by simp,h1⟩
  |succ i=>simp at hi;obtain⟨v,hv,hr⟩:=Jm h2 hi;exact⟨v,by simpa using hv,hr⟩
theorem BK {e:Env} :∀ {l:List AV} {vs:List Value},vs.length=l.length->(∀(i:Nat) (a:AV),l[i]? =some a->∃v,vs[i]? =some v/\AV.rep e a v)->AV.bI e l vs
 |[],vs,hl,_=>by simp only [AV.bI];exact List.eq_nil_of_length_eq_zero (by simpa using hl)
 |a::l,vs,hl,h=>by
  cases vs with
  |nil=>simp at hl
  |cons v vs=>
   simp only [AV.bI];obtain⟨v',hv,hr⟩:=h 0 a (by simp);simp at hv;subst hv;exact⟨v,vs,rfl,hr,BK (by simpa using hl) fun i b hb=>by have:=h (i+1) b (by simpa using hb);simpa using this⟩
theorem D4 {e:Env} :∀ {l m:List AV} {vs us:List Value},AV.bI e l vs->AV.bI e m us->AV.bI e (l++m) (vs++us)
 |[],_,_,_,h,k=>by simp only [AV.bI]at h;subst h;exact k
 |_::l,_,_,_,h,k=>by
  simp only [AV.bI]at h;obtain⟨x,xs,rfl,h1,h2⟩:=h;simp only [List.cons_append,AV.bI];exact⟨x,_,rfl,h1,D4 h2 k⟩
theorem Ew {e:Env} :∀ {n:Nat} {l:List AV} {vs:List Value},AV.bI e l vs->AV.bI e (l.take n) (vs.take n)
 |0,_,_,_=>by simp [AV.bI]
 |n+1,[],_,h=>by simp only [AV.bI]at h;subst h;simp [AV.bI]
 |n+1,_::l,_,h=>by
  simp only [AV.bI]at h;obtain⟨x,xs,rfl,h1,h2⟩:=h;simp only [List.take_succ_cons,AV.bI];exact⟨x,_,rfl,h1,Ew h2⟩
theorem F7 {e:Env} :∀ {n:Nat} {l:List AV} {vs:List Value},AV.bI e l vs->AV.bI e (l.drop n) (vs.drop n)
 |0,_,_,h=>by simpa using h
 |n+1,[],_,h=>by simp only [AV.bI]at h;subst h;simp [AV.bI]
 |n+1,_::l,_,h=>by
  simp only [AV.bI]at h;obtain⟨x,xs,rfl,h1,h2⟩:=h;simpa using F7 h2
theorem Ath {e:Env} {l:List AV} {vs:List Value} (h:AV.bI e l vs) (i:Nat) {a:AV} {v:Value} (hr:a.rep e v):AV.bI e (l.set i a) (vs.set i v):=by
 refine BK (by simp [A7 h]) fun j b hb=> ?_
 rw [List.getElem?_set]at hb;split at hb
 ·rename_i lE;subst lE;split at hb
  ·rename_i aP;cases hb
   exact⟨v,by rw [List.getElem?_set];simp [A7 h,aP],hr⟩
  ·cases hb
 ·rename_i lE;obtain⟨u,hu,hru⟩:=Jm h hb;exact⟨u,by rw [List.getElem?_set,if_neg lE];exact hu,hru⟩
mutual
def AV.val? :AV->Option Value
 | .lit v=>some v| .agg l=>match AV.vals? l with|some vs=>some (.agg ⟨vs⟩)|none=>none
 | .tuple l=>match AV.vals? l with|some vs=>some (.tuple ⟨vs⟩)|none=>none
 | .iface t x=>match AV.val? x with|some v=>some (.iface t v)|none=>none
 |_=>none
def AV.vals? :List AV->Option (List Value)
 |[]=>some []|a::l=>match AV.val? a,AV.vals? l with|some v,some vs=>some (v::vs)|_,_=>none
end
mutual
theorem Zs {e:Env} :∀ {a:AV} {u v:Value},a.val? =some u->a.rep e v->v=u
 | .lit _,_,_,h,hr=>by simp only [AV.val?]at h;cases h;simpa only [AV.rep] using hr
 | .agg l,_,_,h,hr=>by
  simp only [AV.val?]at h;split at h
  ·rename_i vs j0;cases h
   simp only [AV.rep]at hr;obtain⟨us,rfl,i6⟩:=hr;rw [Qs j0 i6]
  ·cases h
 | .tuple l,_,_,h,hr=>by
  simp only [AV.val?]at h;split at h
  ·rename_i vs j0;cases h
   simp only [AV.rep]at hr;obtain⟨us,rfl,i6⟩:=hr;rw [Qs j0 i6]
  ·cases h
 | .iface t x,_,_,h,hr=>by
  simp only [AV.val?]at h;split at h
  ·rename_i v hv;cases h
   simp only [AV.rep]at hr;obtain⟨u,rfl,hu⟩:=hr;rw [Zs hv hu]
  ·cases h
 | .ptr ..,_,_,h,_=>by simp [AV.val?]at h
 | .slice ..,_,_,h,_=>by simp [AV.val?]at h
 | .func ..,_,_,h,_=>by simp [AV.val?]at h
 | .map ..,_,_,h,_=>by simp [AV.val?]at h
 | .yield ..,_,_,h,_=>by simp [AV.val?]at h
 | .nU ..,_,_,h,_=>by simp [AV.val?]at h
 | .m6,_,_,h,_=>by simp [AV.val?]at h
 | .same ..,_,_,h,_=>by simp [AV.val?]at h
theorem Qs {e:Env} :∀ {l:List AV} {us vs:List Value},AV.vals? l=some us->AV.bI e l vs->vs=us
 |[],_,_,h,hr=>by simp only [AV.vals?]at h;cases h;simpa only [AV.bI] using hr
 |_::_,_,_,h,hr=>by
  simp only [AV.vals?]at h;split at h
  ·rename_i v vs hv j0;cases h
   simp only [AV.bI]at hr;obtain⟨x,xs,rfl,h1,h2⟩:=hr;rw [Zs hv h1,Qs j0 h2]
  ·cases h
end
def AV.cells:AV->List AV
 | .agg l=>l| .lit (.agg cs)=>cs.toList.map .lit|a=>[a]
theorem La {e:Env} :∀(vs:List Value),AV.bI e (vs.map .lit) vs
 |[]=>by simp [AV.bI]
 |v::vs=>by simp only [map_cons,AV.bI];exact⟨v,vs,rfl,by simp [AV.rep],La vs⟩
theorem Nx {e:Env} {a:AV} {v:Value} (h:a.rep e v):AV.bI e a.cells v.cells.toList:=by
 have one:∀ {b:AV} {x:Value},b.rep e x->AV.bI e [b] [x]:=fun hb=>by simp only [AV.bI];exact⟨_,[],rfl,hb,rfl⟩
 cases a with
 |lit u=>
  have hu:v=u:=by simpa only [AV.rep] using h
  subst hu;cases v with
  |agg cs=>exact La cs.toList
  |_=>exact one h
 |agg l=>simp only [AV.rep]at h;obtain⟨vs,rfl,h⟩:=h;exact h
 |ptr b o=>have h':=h;simp only [AV.rep]at h;obtain⟨_,_,_,rfl⟩:=h;exact one h'
 |slice b o n sz c x=>have h':=h;simp only [AV.rep]at h;obtain⟨_,_,_,_,_,rfl,_⟩:=h;exact one h'
 |tuple l=>have h':=h;simp only [AV.rep]at h;obtain⟨_,rfl,_⟩:=h;exact one h'
 |func f l m=>have h':=h;simp only [AV.rep]at h;obtain⟨_,_,rfl,_⟩:=h;exact one h'
 |map b=>have h':=h;simp only [AV.rep]at h;obtain⟨_,_,_,rfl⟩:=h;exact one h'
 |iface t x=>have h':=h;simp only [AV.rep]at h;obtain⟨_,rfl,_⟩:=h;exact one h'
 |yield b=>have h':=h;simp only [AV.rep]at h;obtain⟨_,_,_,rfl⟩:=h;exact one h'
 |nU k lo hi=>have h':=h;simp only [AV.rep]at h;obtain⟨_,rfl,_⟩:=h;exact one h'
 |m6=>have h':=h;simp only [AV.rep]at h;cases v<;>first|exact one h'|cases h
 |same i k lo hi=>have h':=h;simp only [AV.rep]at h;obtain⟨_,_,_,rfl,_⟩:=h;exact one h'
def AV.one:AV->Bool
 | .lit v=>v.oneCell'| .agg _| .tuple _=>false|_=>true
theorem Aws {e:Env} {a:AV} {v:Value} (h:a.one=true) (hr:a.rep e v):v.oneCell'=true:=by
 cases a with
 |lit u=>have hu:v=u:=by simpa only [AV.rep] using hr
         subst hu;exact h
 |agg l=>cases h
 |tuple l=>cases h
 |ptr b o=>simp only [AV.rep]at hr;obtain⟨_,_,_,rfl⟩:=hr;rfl
 |slice b o n sz c x=>simp only [AV.rep]at hr;obtain⟨_,_,_,_,_,rfl,_⟩:=hr;rfl
 |func f l m=>simp only [AV.rep]at hr;obtain⟨_,_,rfl,_⟩:=hr;rfl
 |map b=>simp only [AV.rep]at hr;obtain⟨_,_,_,rfl⟩:=hr;rfl
 |iface t x=>simp only [AV.rep]at hr;obtain⟨_,rfl,_⟩:=hr;rfl
 |yield b=>simp only [AV.rep]at hr;obtain⟨_,_,_,rfl⟩:=hr;rfl
 |nU k lo hi=>simp only [AV.rep]at hr;obtain⟨_,rfl,_⟩:=hr;rfl
 |m6=>simpa only [AV.rep] using hr
 |same i k lo hi=>simp only [AV.rep]at hr;obtain⟨_,_,_,rfl,_⟩:=hr;rfl
inductive iD where
 |normal|ret|exit (id:Nat)
def iD.nV:iD->Exit
 | .normal=> .normal| .ret=> .ret| .exit id=> .exit id
def iD.jump:iD->Option Code
 | .normal=>none| .ret=>some .ret| .exit id=>some (.exit id)
structure rf where
 tm:Tm
 sz:Nat
 ps:List Nat
 assign:Code
 body:Code
 st:Nat
 o5:iD
def pS:Nat->LoopState
 |0=> .ready|1=> .busy|2=> .done|_=> .exhausted
inductive aL where
 |cells (l:List AV) (rw:Bool)
 |map (es:List (Value×AV)) (clock:Nat)
 |loop (r:rf)
def B6 (e:Env):List (Value×AV)->List MapEntry->Prop
 |[],ms=>ms=[]|(k,a)::es,ms=>∃m iM,ms=m::iM/\m.key=k/\a.rep e m.val/\B6 e es iM
structure Base where
 w:World
 X:Nat->Prop
 lt:∀k,X k->k<w.heap.size
 R:Nat->Prop
structure Kept (b:Base) (w:World):Prop where
 os:w.os=b.w.os
 tape:w.tape=b.w.tape
 output:w.output=b.w.output
 size:b.w.heap.size<=w.heap.size
 block:∀k,b.X k->w.heap[k]? =b.w.heap[k]?
def L0 (w:World) (b:Nat) (rw:Bool) (l:List Value):Prop:=∃T fr,w.heap[b]? =some (.cells ⟨l⟩ T fr)/\(fr=(0,0)\/(rw=false/\l.length<=fr.1))
theorem L0.lt {w:World} {b:Nat} {rw:Bool} {l:List Value} (h:L0 w b rw l):b<w.heap.size:=by
 obtain⟨T,fr,h,_⟩:=h;exact(Array.getElem?_eq_some_iff.1 h).1
theorem KP {w:World} {b:Nat} {rw:Bool} {l:List Value} (h:dc w b l):L0 w b rw l:=by
 obtain⟨T,h,_⟩:=h;exact⟨T,_,h,.inl rfl⟩
theorem L0.frozen {w:World} {b:Nat} {rw:Bool} {l:List Value} (h:L0 w b rw l) {i:Nat} (hi:i<l.length):w.frozen? ⟨b,i,none⟩=false:=by
 obtain⟨T,fr,h,hf⟩:=h;rcases hf with rfl|⟨_,hf⟩
 ·simp [World.frozen?,h]
 ·simp [World.frozen?,h];omega
theorem L0.set {w w':World} {b i:Nat} {rw:Bool} {l:List Value} {v:Value} (h:L0 w b rw l) (e:w'=w.setCell ⟨b,i,none⟩ v):L0 w' b rw (l.set i v):=by
 subst e;obtain⟨T,fr,h,hf⟩:=h;exact⟨T,fr,by rw [heap_setCell,if_pos rfl,h];simp,by simpa using hf⟩
theorem L0.cell {w:World} {b:Nat} {rw:Bool} {l:List Value} (h:L0 w b rw l) {i:Nat} {v:Value} (hv:l[i]? =some v):w.cell? ⟨b,i,none⟩=some v:=by
 obtain⟨T,fr,h,_⟩:=h;simp [World.cell?,h,hv]
theorem L0.cells {w:World} {b:Nat} {rw:Bool} {l:List Value} (h:L0 w b rw l) (i:Nat) {m:List Value} (hm:∀j (hj:j<m.length),l[i+j]? =some m[j]):Ad w ⟨b,i,none⟩ m:=by
 intro j hj;rw [Fe];exact h.cell (hm j hj)
structure sH (e:Env) (r:rf) (R:Loop):Prop where
 state:R.state=pS r.st
 pending:R.pending=r.o5.jump
 size:R.tmps.size=r.sz
 tmps:∀t av,r.tm.get t=some av->t<R.tmps.size/\av.rep e (R.tmps.getD t undef)
 params:R.params=⟨r.ps⟩
 assign:R.assign=r.assign
 body:R.body=r.body
theorem sH.later {e e':Env} {r:rf} {R:Loop} (h:sH e r R) (k:A0 e e'):sH e' r R:=
 ⟨h.state,h.pending,h.size,fun t av ht=>⟨(h.tmps t av ht).1,E9 k (h.tmps t av ht).2⟩,h.params,h.assign,h.body⟩
def nW (e:Env) (b0:Base) (w:World) (b:Nat):aL->Prop
 | .cells l rw=>∃B t vs rest,e b=some (B,t)/\L0 w B rw (vs++rest)/\(vs++rest).length=t/\AV.bI e l vs/\¬b0.X B| .map es clock=>∃B t ms,e b=some (B,t)/\w.heap[B]? =some (.map ⟨ms⟩ clock)/\B6 e es ms/\¬b0.X B| .loop r=>∃B t R,e b=some (B,t)/\w.heap[B]? =some (.loop R)/\sH e r R/\¬b0.X B
theorem Qt {e e':Env} (h:A0 e e'):∀ {es:List (Value×AV)} {ms:List MapEntry},B6 e es ms->B6 e' es ms
 |[],_,hr=>hr
 |(_,_)::_,_,hr=>by
  obtain⟨m,iM,h1,h2,h3,h4⟩:=hr;exact⟨m,iM,h1,h2,E9 h h3,Qt h h4⟩
theorem nW.at {e:Env} {b0:Base} {w:World} {b:Nat} {x:aL} (h:nW e b0 w b x):∃B t,e b=some (B,t)/\B<w.heap.size/\¬b0.X B:=by
 cases x with
 |cells l rw=>obtain⟨B,t,vs,rest,h1,h2,_,_,h5⟩:=h;exact⟨B,t,h1,h2.lt,h5⟩
 |map es c=>obtain⟨B,t,ms,h1,h2,_,h4⟩:=h;exact⟨B,t,h1,(Array.getElem?_eq_some_iff.1 h2).1,h4⟩
 |loop r=>obtain⟨B,t,R,h1,h2,_,h4⟩:=h;exact⟨B,t,h1,(Array.getElem?_eq_some_iff.1 h2).1,h4⟩
theorem nW.bo {e e':Env} {b0 b1:Base} {w w':World} {b:Nat} {x:aL} (h:nW e b0 w b x) (he:A0 e e') (hX:∀B t,e b=some (B,t)->¬b0.X B->¬b1.X B) (hw:∀B t,e b=some (B,t)->w'.heap[B]? =w.heap[B]?):nW e' b1 w' b x:=by
 cases x with
 |cells l rw=>
  obtain⟨B,t,vs,rest,h1,⟨T,fr,h2,hf⟩,h3,h4,h5⟩:=h;exact⟨B,t,vs,rest,he _ _ h1,⟨T,fr,(hw B t h1).trans h2,hf⟩,h3,Er he h4,hX B t h1 h5⟩
 |map es c=>
  obtain⟨B,t,ms,h1,h2,h3,h4⟩:=h;exact⟨B,t,ms,he _ _ h1,(hw B t h1).trans h2,Qt he h3,hX B t h1 h4⟩
 |loop r=>
  obtain⟨B,t,R,h1,h2,h3,h4⟩:=h;exact⟨B,t,R,he _ _ h1,(hw B t h1).trans h2,h3.later he,hX B t h1 h4⟩
abbrev Mm:Type:=Nat->Option aL
structure Bc (b0:Base) (e:Env) (M:Mm) (n:Nat) (w:World):Prop where
 new:∀b,n<=b\/b0.R b->e b=none
 res:∀b,b0.R b->b<n
 bK:∀b x,M b=some x->nW e b0 w b x
 ff:∀b b' x x',b≠b'->M b=some x->M b'=some x'->∀B B' t t',e b=some (B,t)->e b'=some (B',t')->B≠B'
 kept:Kept b0 w
def base (w:World):Base:=⟨w,fun k=>k<w.heap.size,fun _ h=>h,fun _=>False⟩
theorem Bc.start (w:World):Bc (base w) (fun _=>none) (Tr.nil:Tr aL).get 0 w:=⟨fun _ _=>rfl,fun _ h=>h.elim,fun _ _ h=>(by rw [Tr.get_nil]at h;cases h),fun _ _ _ _ _ h=>(by rw [Tr.get_nil]at h;cases h),⟨rfl,rfl,rfl,le_refl _,fun _ _=>rfl⟩⟩
theorem Bc.below {w w':World} {e:Env} {M:Mm} {n:Nat} (h:Bc (base w) e M n w'):Below w.heap.size w w':=⟨h.kept.os,h.kept.tape,h.kept.output,h.kept.size,h.kept.block⟩
theorem Bc.drew {b0:Base} {w:World} {e:Env} {M:Mm} {n:Nat} (h:Bc b0 e M n w) (k:Nat):Bc b0 e M n { w with drawn:=k } :=
 ⟨h.new,h.res,fun b x hx=>(h.bK b x hx).bo (A0.refl e) (fun _ _ _ h=>h) fun _ _ _=>rfl,h.ff,⟨h.kept.os,h.kept.tape,h.kept.output,h.kept.size,h.kept.block⟩⟩
theorem Bc.sub {b0:Base} {w:World} {e:Env} {M M':Mm} {n:Nat} (h:Bc b0 e M n w) (hs:∀j x,M' j=some x->M j=some x):Bc b0 e M' n w:=
 ⟨h.new,h.res,fun b x hx=>h.bK b x (hs b x hx),fun b b' x x' hb hx kI=>h.ff b b' x x' hb (hs b x hx) (hs b' x' kI),h.kept⟩
theorem Bc.more {b0:Base} {w:World} {e:Env} {M:Mm} {n n':Nat} (h:Bc b0 e M n w) (hn:n<=n'):Bc b0 e M n' w:=
 ⟨fun b hb=>h.new b (hb.imp (fun hb=>le_trans hn hb) id),fun b hb=>Nat.lt_of_lt_of_le (h.res b hb) hn,h.bK,h.ff,h.kept⟩
theorem Bc.same {b0:Base} {w:World} {e:Env} {M M':Mm} {n:Nat} (h:Bc b0 e M n w) (hs:∀j,M' j=M j):Bc b0 e M' n w:=h.sub fun j x hx=>by rw [←hs];exact hx
theorem Bc.KQ {b0:Base} {w w':World} {e:Env} {M M':Mm} {n n' i t:Nat} {x:aL} (h:Bc b0 e M n w) (hE:w.grownBy w' none) (hi:e i=none) (hR:¬b0.R i) (hn:n<=n') (jP:i<n') (hM:∀j,M' j=if j=i then some x else M j) (hx:nW (e.put i (w.heap.size,t)) b0 w' i x):Bc b0 (e.put i (w.heap.size,t)) M' n' w':=by
 have old:∀ {c z C s},c≠i->M' c=some z->(e.put i (w.heap.size,t)) c=some (C,s)->M c=some z/\e c=some (C,s)/\C<w.heap.size:=by
  intro c z C s hc hz BL;rw [hM,if_neg hc]at hz;rw [Qr hc]at BL;obtain⟨C',s',h1,h2,_⟩:=(h.bK c z hz).at;rw [BL]at h1;cases h1;exact⟨hz,BL,h2⟩
 have new:∀ {C s},(e.put i (w.heap.size,t)) i=some (C,s)->C=w.heap.size:=by
  intro C s hc;rw [Gi]at hc;cases hc;rfl
 refine⟨fun b hb=> ?_,fun b hb=>Nat.lt_of_lt_of_le (h.res b hb) hn,fun b y hy=> ?_,fun b b' y y' hb hy KR B B' s s' he kY=> ?_,⟨hE.os.trans h.kept.os,hE.tape.trans h.kept.tape,hE.output.trans h.kept.output,le_trans h.kept.size hE.size,fun k hk=> ?_⟩⟩
 ·have ot:b≠i:=by
   rintro rfl;rcases hb with hb|hb
   ·omega
   ·exact hR hb
  rw [Qr ot];exact h.new b (hb.imp (fun hb=>by omega) id)
 ·rw [hM]at hy;split at hy
  ·rename_i hb;subst hb;cases hy;exact hx
  ·have hb:=h.bK b y hy;refine hb.bo (A0.put hi _) (fun _ _ _ h=>h) fun B s he=> ?_
   obtain⟨B',s',h1,h2,_⟩:=hb.at;rw [he]at h1;cases h1;exact hE.block B h2 (by simp)
 ·by_cases hn:b=i
  ·subst hn;obtain⟨_,_,h3⟩:=old (Ne.symm hb) KR kY;have:=new he;omega
  ·obtain⟨g1,g2,g3⟩:=old hn hy he;by_cases sI:b'=i
   ·subst sI;have:=new kY;omega
   ·obtain⟨k1,k2,_⟩:=old sI KR kY;exact h.ff b b' y y' hb g1 k1 B B' s s' g2 k2
 ·rw [hE.block k (Nat.lt_of_lt_of_le (b0.lt k hk) h.kept.size) (by simp)];exact h.kept.block k hk
theorem Bc.push {b0:Base} {w w':World} {e:Env} {M M':Mm} {n n' i t:Nat} {x:aL} {ob:Obj} (h:Bc b0 e M n w) (hw:w'=w.alloc ob) (hi:e i=none) (hR:¬b0.R i) (hn:n<=n') (jP:i<n') (hM:∀j,M' j=if j=i then some x else M j) (hx:nW (e.put i (w.heap.size,t)) b0 w' i x):Bc b0 (e.put i (w.heap.size,t)) M' n' w':=
 h.KQ (hw▸World.grownBy_alloc w ob none) hi hR hn jP hM hx
theorem KS {b0:Base} {w w':World} {B:Nat} (h:Kept b0 w) (hB:¬b0.X B) (hw:w.grownBy w' (some B)):Kept b0 w':=
 ⟨hw.os.trans h.os,hw.tape.trans h.tape,hw.output.trans h.output,le_trans h.size hw.size,fun j hj=>by
  rw [hw.block j (Nat.lt_of_lt_of_le (b0.lt j hj) h.size) (fun hh=>by have:=Option.some.inj hh;subst this;exact hB hj)];exact h.block j hj⟩
theorem Bc.kG {b0:Base} {w w':World} {e:Env} {M M':Mm} {n b B t:Nat} {x y:aL} (h:Bc b0 e M n w) (hx:M b=some x) (he:e b=some (B,t)) (hB:¬b0.X B) (hw:w.grownBy w' (some B)) (hM:∀j,M' j=if j=b then some y else M j) (hy:nW e b0 w' b y):Bc b0 e M' n w':=by
 refine⟨h.new,h.res,fun c z hz=> ?_,fun c c' z z' hc hz lF C C' s s' k k'=> ?_,KS h.kept hB hw⟩
 ·rw [hM]at hz;split at hz
  ·rename_i hc;subst hc;cases hz;exact hy
  ·rename_i hc;refine(h.bK c z hz).bo (A0.refl e) (fun _ _ _ h=>h) fun C s hC=> ?_
   obtain⟨C',s',h1,h2,_⟩:=(h.bK c z hz).at;rw [hC]at h1;cases h1;exact hw.block C h2 fun hh=>h.ff c b z x hc hz hx C B s t hC he (Option.some.inj hh)
 ·have:∀ {d u},M' d=some u->∃u',M d=some u':=by
   intro d u hd;rw [hM]at hd;split at hd
   ·rename_i hdb;subst hdb;exact⟨x,hx⟩
   ·exact⟨u,hd⟩
  obtain⟨_,g⟩:=this hz;obtain⟨_,g'⟩:=this lF;exact h.ff c c' _ _ hc g g' C C' s s' k k'
theorem Bc.drop {b0:Base} {w:World} {e:Env} {M M':Mm} {n b:Nat} (h:Bc b0 e M n w) (hM:∀j,M' j=if j=b then none else M j):Bc b0 e M' n w:=h.sub fun d u hd=>by
 rw [hM]at hd;split at hd
 ·cases hd
 ·exact hd
theorem Bc.move {b0:Base} {w w':World} {e:Env} {M M':Mm} {n b B t:Nat} {x y:aL} (h:Bc b0 e M n w) (hx:M b=some x) (he:e b=some (B,t)) (hB:¬b0.X B) (hw:w.grownBy w' (some B)) (hM:∀j,M' j=if j=n then some y else if j=b then none else M j) (hy:nW (e.put n (B,t)) b0 w' n y):Bc b0 (e.put n (B,t)) M' (n+1) w':=by
 have jG:e n=none:=h.new n (.inl (le_refl _));have old:∀ {c z},c≠n->M' c=some z->c≠b/\M c=some z:=by
  intro c z hc hz;rw [hM,if_neg hc]at hz;split at hz
  ·cases hz
  ·rename_i rh;exact⟨rh,hz⟩
 refine⟨fun c hc=> ?_,fun b hb=>Nat.lt_succ_of_lt (h.res b hb),fun c z hz=> ?_,fun c c' z z' hc hz lF C C' s s' k k'=> ?_,KS h.kept hB hw⟩
 ·have yg:c≠n:=by
   rintro rfl;rcases hc with hc|hc
   ·omega
   ·exact Nat.lt_irrefl _ (h.res c hc)
  rw [Qr yg];exact h.new c (hc.imp (fun hc=>by omega) id)
 ·by_cases yg:c=n
  ·subst yg;rw [hM,if_pos rfl]at hz;cases hz;exact hy
  ·obtain⟨rh,hz⟩:=old yg hz;refine(h.bK c z hz).bo (A0.put jG _) (fun _ _ _ h=>h) fun C s hC=> ?_
   obtain⟨C',s',h1,h2,_⟩:=(h.bK c z hz).at;rw [hC]at h1;cases h1;exact hw.block C h2 fun hh=>h.ff c b z x rh hz hx C B s t hC he (Option.some.inj hh)
 ·have new:∀ {C s},(e.put n (B,t)) n=some (C,s)->C=B:=by
   intro C s hc;rw [Gi]at hc;cases hc;rfl
  by_cases hn:c=n
  ·subst hn;obtain⟨rh,g⟩:=old (Ne.symm hc) lF;have h1:=new k;subst h1;rw [Qr (Ne.symm hc)]at k';exact fun hh=>h.ff c' b z' x rh g hx C' C s' t k' he hh.symm
  ·obtain⟨rh,g⟩:=old hn hz;rw [Qr hn]at k;by_cases sI:c'=n
   ·subst sI;have h1:=new k';subst h1;exact h.ff c b z x rh g hx C C' s t k he
   ·obtain⟨_,g'⟩:=old sI lF;rw [Qr sI]at k';exact h.ff c c' z z' hc g g' C C' s s' k k'
theorem Bc.frame {b0:Base} {w:World} {e:Env} {F f:Mm} {n:Nat} (h:Bc b0 e F n w) (P:Nat->Prop) (R:Nat->Prop) (nX:∀b,b0.R b->R b) (hR:∀b,R b->b<n/\e b=none) (ov:∀j x,f j=some x->F j=some x/\¬P j): ∃b1:Base,b1.R=R/\Bc b1 e f n w/\∀e' f' n' w',A0 e e'->Bc b1 e' f' n' w'->∀G:Mm,(∀j x,G j=some x->(P j/\F j=some x)\/(¬P j/\f' j=some x))->Bc b0 e' G n' w':=by
 let b1:Base:=⟨w,fun k=>b0.X k\/∃j t x,P j/\F j=some x/\e j=some (k,t),fun k hk=>by
  rcases hk with hk|⟨j,t,x,_,h2,h3⟩
  ·exact Nat.lt_of_lt_of_le (b0.lt k hk) h.kept.size
  ·obtain⟨B,t',g1,g2,_⟩:=(h.bK j x h2).at;rw [h3]at g1;cases g1;exact g2,R⟩
 refine⟨b1,rfl,⟨fun b hb=>hb.elim (fun hb=>h.new b (.inl hb)) (fun hb=>(hR b hb).2),fun b hb=>(hR b hb).1,fun b x hx=> ?_,fun b b' x x' hb hx kI=>h.ff b b' x x' hb (ov b x hx).1 (ov b' x' kI).1,⟨rfl,rfl,rfl,le_refl _,fun _ _=>rfl⟩⟩,fun e' f' n' w' hl dq G hG=> ?_⟩
 ·obtain⟨g1,g2⟩:=ov b x hx;refine(h.bK b x g1).bo (A0.refl e) (fun B t hB hX hc=> ?_) fun _ _ _=>rfl
  rcases hc with hc|⟨j,t',x',k1,k2,k3⟩
  ·exact hX hc
  ·exact h.ff b j x x' (fun e=>g2 (e▸k1)) g1 k2 B B t t' hB k3 rfl
 ·have KT:∀ {j x B t},P j->F j=some x->e j=some (B,t)->b1.X B:=fun {j x B t} h1 h2 h3=> .inr ⟨j,t,x,h1,h2,h3⟩
  refine⟨fun b hb=>dq.new b (hb.imp id (nX b)),fun b hb=>dq.res b (nX b hb),fun b x hx=> ?_,fun b b' x x' hb hx kI B B' t t' he kY=> ?_,⟨dq.kept.os.trans h.kept.os,dq.kept.tape.trans h.kept.tape,dq.kept.output.trans h.kept.output,le_trans h.kept.size dq.kept.size,fun k hk=> ?_⟩⟩
  ·rcases hG b x hx with⟨g1,g2⟩|⟨g1,g2⟩
   ·exact(h.bK b x g2).bo hl (fun _ _ _ h=>h) fun B t hB=>dq.kept.block B (KT g1 g2 hB)
   ·exact(dq.bK b x g2).bo (A0.refl e') (fun B t _ hX hc=>hX (.inl hc)) fun _ _ _=>rfl
  ·have yh:∀ {c z C s},P c->F c=some z->e' c=some (C,s)->b1.X C/\e c=some (C,s):=by
    intro c z C s h1 h2 h3;obtain⟨D,u,k1,_,_⟩:=(h.bK c z h2).at;have:=hl _ _ k1;rw [h3]at this;cases this;exact⟨KT h1 h2 k1,k1⟩
   have off:∀ {c z C s},f' c=some z->e' c=some (C,s)->¬b1.X C:=by
    intro c z C s h2 h3;obtain⟨D,u,k1,_,k3⟩:=(dq.bK c z h2).at;rw [h3]at k1;cases k1;exact k3
   rcases hG b x hx with⟨g1,g2⟩|⟨g1,g2⟩<;>rcases hG b' x' kI with⟨k1,k2⟩|⟨k1,k2⟩
   ·exact h.ff b b' x x' hb g2 k2 B B' t t' (yh g1 g2 he).2 (yh k1 k2 kY).2
   ·exact fun hh=>off k2 kY (hh▸(yh g1 g2 he).1)
   ·exact fun hh=>off g2 he (hh▸(yh k1 k2 kY).1)
   ·exact dq.ff b b' x x' hb g2 k2 B B' t t' he kY
  ·rw [dq.kept.block k (.inl hk)];exact h.kept.block k hk
variable {R:Type}
def fN (n:Nat) (K:Nat->Option R):Option R:=Nat.casesOn (motive:=fun _=>Option R) (Nat.succ n) none K
theorem Ez (n:Nat) (K:Nat->Option R):fN n K=K n:=rfl
def fZ (n:Int) (K:Int->Option R):Option R:=match n with
 | .ofNat m=>fN m fun m=>K (.ofNat m)
 | .negSucc m=>fN m fun m=>K (.negSucc m)
theorem Baq (n:Int) (K:Int->Option R):fZ n K=K n:=by cases n<;>simp [fZ,Ez]
def fB (b:UInt8) (K:UInt8->Option R):Option R:=fN b.toNat fun n=>K (UInt8.ofNat n)
theorem Bar (b:UInt8) (K:UInt8->Option R):fB b K=K b:=by simp [fB,Ez]
def fS:List UInt8->(List UInt8->Option R)->Option R
 |[],K=>K []|b::l,K=>fB b fun b=>fS l fun l=>K (b::l)
theorem KU:∀(l:List UInt8) (K:List UInt8->Option R),fS l K=K l
 |[],_=>rfl
 |b::l,K=>by simp only [fS,Bar,KU l]
def fC (v:Value) (K:Value->Option R):Option R:=match v with
 | .int k n=>fZ n fun n=>K (.int k n)
 | .bool b=>cond b (K (.bool true)) (K (.bool false))| .string ⟨⟨l⟩⟩=>fS l fun l=>K (.string ⟨⟨l⟩⟩)
 |v=>K v
theorem KV (v:Value) (K:Value->Option R):fC v K=K v:=by
 unfold fC;split
 ·exact Baq _ _
 ·rename_i b;cases b<;>rfl
 ·exact KU _ _
 ·rfl
def vx:List Value->(List Value->Option R)->Option R
 |[],K=>K []|v::l,K=>fC v fun v=>vx l fun l=>K (v::l)
theorem BM:∀(l:List Value) (K:List Value->Option R),vx l K=K l
 |[],_=>rfl
 |b::l,K=>by simp only [vx,KV,BM l]
def fV (v:Value) (K:Value->Option R):Option R:=match v with
 | .agg ⟨l⟩=>vx l fun l=>K (.agg ⟨l⟩)
 | .tuple ⟨l⟩=>vx l fun l=>K (.tuple ⟨l⟩)
 |v=>fC v K
theorem KW (v:Value) (K:Value->Option R):fV v K=K v:=by
 unfold fV;split
 ·exact BM _ _
 ·exact BM _ _
 ·exact KV _ _
def vy (a:AV) (K:AV->Option R):Option R:=match a with
 | .lit v=>fV v fun v=>K (.lit v)
 | .ptr b o=>fN b fun b=>fN o fun o=>K (.ptr b o)
 | .slice b o n sz c x=>fN b fun b=>fN o fun o=>fN n fun n=>fN sz fun sz=>fN c fun c=>cond x (K (.slice b o n sz c true)) (K (.slice b o n sz c false))
 | .map b=>fN b fun b=>K (.map b)
 |a=>K a
theorem KX (a:AV) (K:AV->Option R):vy a K=K a:=by
 unfold vy;split
 ·exact KW _ _
 ·simp only [Ez]
 ·rename_i x;simp only [Ez];cases x<;>rfl
 ·simp only [Ez]
 ·rfl
def sJ:List AV->(List AV->Option R)->Option R
 |[],K=>K []|a::l,K=>vy a fun a=>sJ l fun l=>K (a::l)
theorem KY:∀(l:List AV) (K:List AV->Option R),sJ l K=K l
 |[],_=>rfl
 |a::l,K=>by simp only [sJ,KX,KY l]
def yi (a:AV) (K:AV->Option R):Option R:=match a with
 | .agg l=>sJ l fun l=>K (.agg l)
 | .func f l m=>sJ l fun l=>sJ m fun m=>K (.func f l m)
 | .iface t x=>vy x fun x=>K (.iface t x)
 |a=>vy a K
theorem KZ (a:AV) (K:AV->Option R):yi a K=K a:=by
 unfold yi;split<;>simp only [KY,KX]
def nY:List AV->(List AV->Option R)->Option R
 |[],K=>K []|a::l,K=>yi a fun a=>nY l fun l=>K (a::l)
theorem vz:∀(l:List AV) (K:List AV->Option R),nY l K=K l
 |[],_=>rfl
 |a::l,K=>by simp only [nY,KZ,vz l]
def fA (a:AV) (K:AV->Option R):Option R:=match a with
 | .agg l=>nY l fun l=>K (.agg l)
 | .tuple l=>nY l fun l=>K (.tuple l)
 | .func f l m=>nY l fun l=>nY m fun m=>K (.func f l m)
 |a=>yi a K
theorem Qu (a:AV) (K:AV->Option R):fA a K=K a:=by
 unfold fA;split<;>simp only [vz,KZ]
def cV (tm:Tm):Operand->Option AV
 | .tmp t=>tm.get t| .const v=>some (.lit v)| .func f=>some (.lit (.func (.func f) #[] #[]))
 | .global _=>none
def m7 (tm:Tm):List Operand->Option (List AV)
 |[]=>some []|x::l=>match cV tm x with
  |some a=>match m7 tm l with
   |some az=>some (a::az)|none=>none
  |none=>none
structure m8 (e:Env) (tm:Tm) (a:Act):Prop where
 at_:∀t av,tm.get t=some av->t<a.tmps.size/\av.rep e (a.tmps.getD t undef)
theorem m8.later {e e':Env} {tm:Tm} {a:Act} (h:m8 e tm a) (k:A0 e e'):m8 e' tm a:=⟨fun t av ht=>⟨(h.at_ t av ht).1,E9 k (h.at_ t av ht).2⟩⟩
theorem Zt {e:Env} {tm:Tm} {a:Act} (h:m8 e tm a) {x:Operand} {av:AV} (hx:cV tm x=some av):av.rep e (a.eval x):=by
 cases x with
 |tmp t=>exact(h.at_ t av hx).2
 |const v=>simp only [cV]at hx;cases hx;simp [AV.rep,Act.eval]
 |func f=>simp only [cV]at hx;cases hx;simp [AV.rep,Act.eval]
 |global g=>simp [cV]at hx
def Qv (e:Env) (tm:Tm) (a:Act) (l:List Operand):Prop:=∀x∈l,∀av,cV tm x=some av->av.rep e (a.eval x)
theorem m8.dm {e:Env} {tm:Tm} {a:Act} (h:m8 e tm a) (l:List Operand):Qv e tm a l:=fun _ _ _ hx=>Zt h hx
theorem Qv.sub {e:Env} {tm:Tm} {a:Act} {l m:List Operand} (h:Qv e tm a l) (hs:∀x∈m,x∈l):Qv e tm a m:=fun x hx=>h x (hs x hx)
theorem Ow {e:Env} {tm:Tm} {a:Act} :∀ {l:List Operand} {az:List AV},Qv e tm a l->m7 tm l=some az->AV.bI e az (l.map a.eval)
 |[],_,_,hx=>by simp only [m7]at hx;cases hx;simp [AV.bI]
 |x::l,_,h,hx=>by
  simp only [m7]at hx;split at hx
  ·rename_i av fh;split at hx
   ·rename_i az has;cases hx
    simp only [AV.bI,map_cons];exact⟨_,_,rfl,h x (by simp) _ fh,Ow (h.sub fun y hy=>by simp [hy]) has⟩
   ·cases hx
  ·cases hx
def o6 {α:Type} (P:Program):Sem α->Option α
 | .pure a=>some a| .program k=>o6 P (k P)| .mark _ k=>o6 P k|_=>none
theorem K_ {α:Type} {P:Program} :∀ {s:Sem α} {a:α},o6 P s=some a->∀w,s.run P w= .ok a w:=by
 intro s
 induction s with
 |pure a=>intro b h w;simp only [o6]at h;cases h;rfl
 |program k ih=>intro b h w;simp only [o6]at h;simp only [Sem.run];exact ih P h w
 |mark m k ih=>intro b h w;simp only [o6]at h;simp only [Sem.run];exact ih h w
 |_=>intro b h w;simp [o6]at h
def yj (tm:Tm) (x:Operand):Value:=match cV tm x with
 |some a=>match a.val? with
  |some v=>v|none=>undef
 |none=>undef
def plain (tm:Tm):List Operand->Bool
 |[]=>true|x::l=>match cV tm x with
  |some a=>a.val?.isSome&&plain tm l|none=>false
theorem LA {e:Env} {tm:Tm} {a:Act} :∀ {l:List Operand},Qv e tm a l->plain tm l=true->∀x∈l,a.eval x=yj tm x
 |[],_,_,_,hx=>by cases hx
 |y::l,h,hp,x,hx=>by
  simp only [plain]at hp;split at hp
  ·rename_i av fh;simp only [and_eq_true]at hp;rcases List.mem_cons.1 hx with rfl|hx
   ·obtain⟨v,hv⟩:=Option.isSome_iff_exists.1 hp.1;unfold yj;rw [fh];simp only [hv];exact Zs hv (h _ (by simp) _ fh)
   ·exact LA (h.sub fun z hz=>by simp [hz]) hp.2 x hx
  ·cases hp
def BN (o:Oper):Bool:=match o.op with
 | .select .. =>false|_=>true
def Qw (P:Program) (tm:Tm) (o:Oper):Option AV:=
 cond (BN o&&plain tm o.op.operands.toList) (match o6 P (execOp (yj tm) o)with
  |some (.value v)=>some (.lit v)|_=>none) none
def Ny (P:Program) (tm:Tm) (o:Oper) (av:AV):Prop:=∀e a,Qv e tm a o.op.operands.toList->∃v,av.rep e v/\∀w,(execOp a.eval o).run P w= .ok (.value v) w
theorem E4 {P:Program} {tm:Tm} {o:Oper} {av:AV} (h:Qw P tm o=some av):Ny P tm o av:=by
 intro e a ht;unfold Qw at h;cases hc:(BN o&&plain tm o.op.operands.toList)with
 |false=>rw [hc]at h;cases h
 |true=>
  rw [hc]at h;simp only [and_eq_true]at hc;simp only [cond_true]at h;split at h
  ·rename_i v hv;cases h
   refine⟨v,by simp [AV.rep],fun w=> ?_⟩;rw [execOp_congr (ρ':=yj tm) o (fun cs b hs=>by have h1:=hc.1;unfold BN at h1;rw [hs]at h1;cases h1) (fun x hx=>LA ht hc.2 x (by simpa using hx))];exact K_ hv w
  ·cases h
def o7 (P:Program) (t:TypeId):Option Bool:=match P.underlying t with
 |some (.struct _)=>some true|some (.array _ _)=>some true|some _=>some false|none=>none
theorem Nz {P:Program} {t:TypeId} {b:Bool} (h:o7 P t=some b) (w:World):(isAgg t).run P w= .ok b w:=by
 unfold o7 at h;split at h
 ·rename_i hd;cases h;rw [Hc hd]
 ·rename_i hd;cases h;rw [Hc hd]
 ·rename_i d h1 h2 hd;cases h
  rw [Hc hd];cases d<;>first|rfl|exact absurd rfl (h1 _)|exact absurd rfl (h2 _ _)
 ·cases h
def yk (P:Program) (t:TypeId) (l:List AV) (off:Nat):Option AV:=match o7 P t,P.info? t with
 |some true,some i=>cond (ble (off+i.size) l.length) (some (.agg ((l.drop off).take i.size))) none|some false,_=>l[off]?|_,_=>none
theorem LB {P:Program} {t:TypeId} {l:List AV} {off:Nat} {av:AV} (h:yk P t l off=some av) {e:Env} {vs:List Value} (hr:AV.bI e l vs):∃v,av.rep e v/\∀w,(part t ⟨vs⟩ off).run P w= .ok v w:=by
 unfold yk at h;split at h
 ·rename_i i ha hi;cases hc:ble (off+i.size) l.length with
  |false=>rw [hc]at h;cases h
  |true=>
   rw [hc]at h;cases h;refine⟨_,by simp only [AV.rep];exact⟨_,rfl,Ew (F7 hr)⟩,fun w=> ?_⟩;simp only [part,Sem.run_bind,Nz ha,Result.andThen_ok,if_true,sizeOf,typeInfo,run_program,hi,Sem.run_pure];congr 2;apply ext';simp [List.drop_take]
 ·rename_i ha;obtain⟨v,hv,lT⟩:=Jm hr h;refine⟨v,lT,fun w=> ?_⟩;simp only [part,Sem.run_bind,Nz ha,Result.andThen_ok,Bool.false_eq_true,if_false];have:(⟨vs⟩:Array Value)[off]? =some v:=by simpa using hv
  rw [this];rfl
 ·cases h
def Uz:List AV->Nat->List AV->List AV
 |l,_,[]=>l|l,i,a::az=>Uz (l.set i a) (i+1) az
theorem LC:∀(az l:List AV) (i:Nat),(Uz l i az).length=l.length
 |[],_,_=>rfl
 |_::az,l,i=>by simp only [Uz];rw [LC az];simp
theorem U0 {e:Env} :∀ {az:List AV} {us:List Value} {l:List AV} {vs:List Value} (i:Nat),AV.bI e az us->AV.bI e l vs->AV.bI e (Uz l i az) (D0 vs i us)
 |[],_,_,_,_,h,k=>by simp only [AV.bI]at h;subst h;exact k
 |_::_,_,_,_,i,h,k=>by
  simp only [AV.bI]at h;obtain⟨x,xs,rfl,h1,h2⟩:=h;exact U0 (i+1) h2 (Ath k i h1)
theorem Ws:∀(us vs:List Value) (i:Nat),(D0 vs i us).length=vs.length
 |[],_,_=>rfl
 |u::us,vs,i=>by simp only [D0];rw [Ws us];simp
def Pg (place:Nat->Option (Nat×Nat)):List AV->List (Nat×AV)->Option (List AV)
 |l,[]=>some l|l,(i,a)::r=>match place i with
  |some (off,size)=>cond (Nat.beq a.cells.length size&&ble (off+size) l.length) (Pg place (Uz l off a.cells) r) none|none=>none
theorem LD:∀(us:List Value) (cs:Array Value) (off j:Nat),((us.zipIdx j).foldl (fun(cs:Array Value) (x:Value×Nat)=>cs.setIfInBounds (off+x.2) x.1) cs).toList=D0 cs.toList (off+j) us
 |[],_,_,_=>rfl
 |u::us,cs,off,j=>by
  simp only [List.zipIdx_cons,List.foldl_cons,D0];rw [LD us];simp [Nat.add_assoc]
theorem Aoq (v:Array Value) (cs:Array Value) (off:Nat):(v.zipIdx.foldl (fun(cs:Array Value) (x:Value×Nat)=>cs.setIfInBounds (off+x.2) x.1) cs).toList=D0 cs.toList off v.toList:=by
 have:=LD v.toList cs off 0;rw [Nat.add_zero]at this;rw [←this];congr 1;rw [←Array.foldl_toList];simp
theorem U1 {place:Nat->Option (Nat×Nat)} {e:Env} :∀ {r:List (Nat×AV)} {l l':List AV} {cs:Array Value} {vs:List (Nat×Value)},Pg place l r=some l'->AV.bI e l cs.toList->
 vs.map (·.1)=r.map (·.1)->AV.bI e (r.map (·.2)) (vs.map (·.2))->∃gO,Instr.fill place cs vs=some gO/\AV.bI e l' gO.toList
 |[],l,l',cs,vs,h,hl,h1,_=>by
  simp only [Pg]at h;cases h;cases vs with
  |nil=>exact⟨cs,rfl,hl⟩
  |cons=>simp at h1
 |(i,a)::r,l,l',cs,vs,h,hl,h1,h2=>by
  cases vs with
  |nil=>simp at h1
  |cons p vs=>
   obtain⟨i',v⟩:=p;simp only [map_cons,List.cons.injEq]at h1;obtain⟨rfl,h1⟩:=h1;simp only [map_cons,AV.bI]at h2;obtain⟨x,xs,hx,hv,h2⟩:=h2;simp only [List.cons.injEq]at hx;obtain⟨rfl,rfl⟩:=hx;simp only [Pg]at h;split at h
   ·rename_i off size hp;cases hc:(Nat.beq a.cells.length size&&ble (off+size) l.length)with
    |false=>rw [hc]at h;cases h
    |true=>
     rw [hc]at h;simp only [and_eq_true]at hc;have c1:=Nat.eq_of_beq_eq_true hc.1;have c2:=le_of_ble_eq_true hc.2;have sK:=Nx hv;have hlen:=A7 sK;have z8:=A7 hl;have eU:v.cells.size=size:=by rw [←c1,←hlen];simp
     have h_:off+v.cells.size<=cs.size:=by rw [eU];have:cs.size=l.length:=by simpa using z8
                                           omega
     simp only [Instr.fill,hp];have hn:¬(v.cells.size≠size\/off+v.cells.size>cs.size):=by omega
     have lU:((decide (v.cells.size≠size))||decide (off+v.cells.size>cs.size))=false:=by
      simp [eU];rw [←eU];exact h_
     have:=U1 (cs:=v.cells.zipIdx.foldl (fun(cs:Array Value) (x:Value×Nat)=>cs.setIfInBounds (off+x.2) x.1) cs) (vs:=vs) h (by rw [Aoq];exact U0 off sK hl) h1 h2;obtain⟨gO,g1,g2⟩:=this;refine⟨gO,?_,g2⟩;rw [←g1];rw [if_neg (by simpa using lU)]
   ·cases h
def U2 (tm:Tm) (x:Operand):Option Int:=match cV tm x with
 |some (.lit (.int _ n))=>some n|_=>none
theorem Eg {e:Env} {tm:Tm} {a:Act} {l:List Operand} (h:Qv e tm a l) {x:Operand} (hl:x∈l) {n:Int} (hx:U2 tm x=some n):∃k,a.eval x= .int k n:=by
 unfold U2 at hx;split at hx
 ·rename_i k m hm;cases hx
  have:=h x hl _ hm;simp only [AV.rep]at this;exact⟨k,this⟩
 ·cases hx
def BO (P:Program) (tm:Tm) (t:TypeId) (b k n sz c:Nat) (ex:Bool) (lo hi mx:Option Operand):Option AV:=match P.underlying t with
 |some (.slice e)=>match P.info? e with
  |some i=>cond (Nat.beq i.size sz) (match lo,hi,mx with
   |none,none,none=>some (.slice b k n sz c ex)|some l,none,none=>match U2 tm l with
    |some l=>cond (decide (0<=l)&&decide (l<=n)) (some (.slice b (k+l.toNat*sz) (n-l.toNat) sz (c-l.toNat) ex)) none|none=>none
   |none,some h,none=>match U2 tm h with
    |some h=>cond (decide (0<=h)&&(decide (h<=n)||decide (h<=c))) (some (.slice b k h.toNat sz c ex)) none|none=>none
   |some l,some h,none=>match U2 tm l,U2 tm h with
    |some l,some h=>cond (decide (0<=l)&&decide (l<=h)&&(decide (h<=n)||decide (h<=c))) (some (.slice b (k+l.toNat*sz) (h.toNat-l.toNat) sz (c-l.toNat) ex)) none|_,_=>none
   |none,some h,some m=>match U2 tm h,U2 tm m with
    |some h,some m=>cond (decide (0<=h)&&decide (h<=m)&&(decide (m<=n)||decide (m<=c))) (some (.slice b k h.toNat sz m.toNat true)) none|_,_=>none
   |_,_,_=>none) none
  |none=>none
 |_=>none
def Lb (P:Program) (t:TypeId):Option (List AV):=match P.info? t with
 |some i=>match i.zero with
  |some z=>some (AV.cells (.lit z))|none=>none
 |none=>none
def pT (tm:Tm):List (Nat×Operand)->Option (List (Nat×AV))
 |[]=>some []|(i,x)::l=>match cV tm x with
  |some a=>match pT tm l with
   |some az=>some ((i,a)::az)|none=>none
  |none=>none
def Wt (P:Program):List Field->Option (List (Nat×Nat))
 |[]=>some []|f::fs=>match P.info? f.type with
  |some i=>match Wt P fs with
   |some r=>some ((f.offset,i.size)::r)|none=>none
  |none=>none
def yl (P:Program) (tm:Tm) (t:TypeId) (parts:List (Nat×Operand)):Option AV:=match Lb P t,pT tm parts with
 |some z,some ps=>match P.underlying t with
  |some (.struct fs)=>match Wt P fs.toList with
   |some l=>match Pg (l[·]?) z ps with
    |some r=>some (.agg r)|none=>none
   |none=>none
  |some (.array _ e)=>match P.info? e with
   |some i=>match Pg (fun k=>some (k*i.size,i.size)) z ps with
    |some r=>some (.agg r)|none=>none
   |none=>none
  |_=>none
 |_,_=>none
def BP (d:Option TypeDesc):AV->AV->Option Bool
 | .ptr ..,.lit (.pointer none)=>match d with
  |some (.pointer _)=>some false|_=>none
 | .slice ..,.lit (.slice none _ _)=>match d with
  |some (.slice _)=>some false|_=>none
 | .map _,.lit (.map none)=>match d with
  |some (.map _ _)=>some false|_=>none
 | .iface ..,.lit .nilIface=>match d with
  |some (.interface _)=>some false|_=>none
 | .func ..,.lit .nilFunc=>match d with
  |some (.func ..)=>some false
  |_=>none
 |_,_=>none
def nZ (op:BinOp) (lo hi n:Int):Option Bool:=match op with
 | .lss=>cond (decide (hi<n)) (some true) (cond (decide (n<=lo)) (some false) none)| .leq=>cond (decide (hi<=n)) (some true) (cond (decide (n<lo)) (some false) none)| .gtr=>cond (decide (n<lo)) (some true) (cond (decide (hi<=n)) (some false) none)| .geq=>cond (decide (n<=lo)) (some true) (cond (decide (hi<n)) (some false) none)| .eql=>cond (decide (hi<n)||decide (n<lo)) (some false) none| .neq=>cond (decide (hi<n)||decide (n<lo)) (some true) none|_=>none
def Xw:BinOp->BinOp
 | .lss=> .gtr| .leq=> .geq| .gtr=> .lss| .geq=> .leq|op=>op
def BQ (op:BinOp):AV->AV->Option Bool
 | .nU k lo hi,.lit (.int k' n)=>cond (decide (k=k')) (nZ op lo hi n) none| .lit (.int k' n),.nU k lo hi=>cond (decide (k=k')) (nZ (Xw op) lo hi n) none| .same _ k lo hi,.lit (.int k' n)=>cond (decide (k=k')) (nZ op lo hi n) none| .lit (.int k' n),.same _ k lo hi=>cond (decide (k=k')) (nZ (Xw op) lo hi n) none| .same i k _ _,.same j k' _ _=>cond (Nat.beq i j&&decide (k=k')) (match op with
  | .eql=>some true| .neq=>some false|_=>none) none
 |_,_=>none
def Tj (ok:Bool) (a:AV):AV:=cond ok (.tuple [a,.lit (.bool true)]) a
def BR (P:Program) (t asserted:TypeId) (ok:Bool) (a:AV):Option AV:=match P.underlying asserted with
 |some (.interface want)=>match P.info? t with
  |some i=>match Instr.missingMethod want i.methods with
   |none=>some (Tj ok (.iface t a))|some _=>none
  |none=>none
 |some _=>cond (Nat.beq t asserted) (some (Tj ok a)) (cond ok (match P.info? asserted with
  |some i=>match i.zero with
   |some z=>some (.tuple [.lit z,.lit (.bool false)])|none=>none
  |none=>none) none)
 |none=>none
def J8 (P:Program) (tm:Tm) (o:Oper):Option AV:=match o.op with
 | .move x=>cV tm x| .assign x=>cV tm x| .pick c x y=>match cV tm c with
  |some (.lit (.bool b))=>cond b (cV tm x) (cV tm y)|_=>none
 | .nilCheck x=>match cV tm x with
  |some (.ptr b k)=>some (.ptr b k)|some (.func f l m)=>some (.func f l m)
  |some (.lit _)=>Qw P tm o|_=>none
 | .fieldAddr t x f=>match cV tm x,P.underlying t with
  |some (.ptr b k),some (.struct fs)=>match fs[f]? with
   |some kg=>match P.info? kg.type with
    |some i=>cond (Nat.beq i.size 0) none (some (.ptr b (k+kg.offset)))|none=>none
   |none=>none
  |_,_=>none
 | .indexAddr t x i=>match U2 tm i with
  |some n=>match cV tm x,P.underlying t with
   |some (.slice b k len sz _ _),some (.slice e)=>match P.info? e with
    |some inf=>cond (decide (0<=n)&&decide (n<len)&&Nat.beq inf.size sz) (some (.ptr b (k+n.toNat*sz))) none|none=>none
   |some (.ptr b k),some (.array len e)=>match P.info? e with
    |some inf=>cond (decide (0<=n)&&decide (n<len)) (some (.ptr b (k+n.toNat*inf.size))) none|none=>none
   |_,_=>none
  |none=>none
 | .slice t x lo hi mx=>match cV tm x with
  |some (.slice b k n sz c ex)=>BO P tm t b k n sz c ex lo hi mx|some (.lit _)=>Qw P tm o|_=>none
 | .field t x f=>match cV tm x with
  |some (.agg l)=>match P.underlying t with
   |some (.struct fs)=>match fs[f]? with
    |some kg=>yk P kg.type l kg.offset|none=>none
   |_=>none
  |some (.lit _)=>Qw P tm o|_=>none
 | .index t x i=>match cV tm x with
  |some (.agg l)=>match P.underlying t,U2 tm i with
   |some (.array len e),some n=>match P.info? e with
    |some inf=>cond (decide (0<=n)&&decide (n<len)) (yk P e l (n.toNat*inf.size)) none|none=>none
   |_,_=>none
  |some (.lit _)=>Qw P tm o|_=>none
 | .extract x i=>match cV tm x with
  |some (.tuple l)=>l[i]?|some (.lit _)=>Qw P tm o|_=>none
 | .build t ps=>cond (plain tm (ps.toList.map (·.2))) (Qw P tm o) (yl P tm t ps.toList)| .makeFunc (.func f) first kz=>match m7 tm first.toList,m7 tm kz.toList with
  |some l,some m=>some (.func f l m)
  |_,_=>none
 | .binOp op t x y _=>match cV tm x,cV tm y with
  |some u,some v=>match BP (P.underlying t) u v with
   |some b=>match op with
    | .eql=>some (.lit (.bool b))| .neq=>some (.lit (.bool !b))|_=>none
   |none=>match BQ op u v with
    |some b=>some (.lit (.bool b))|none=>Qw P tm o
  |_,_=>none
 | .call { callee:= .builtin .len,args:=⟨[x]⟩,argTypes:=⟨[t]⟩ } =>match cV tm x with
  |some (.slice _ _ n _ _ _)=>match P.underlying t with
   |some (.slice _)=>some (.lit (.int .i64 n))|_=>none
  |some (.lit _)=>Qw P tm o|_=>none
 | .call { callee:= .builtin .cap,args:=⟨[x]⟩,argTypes:=⟨[t]⟩ } =>match cV tm x with
  |some (.slice _ _ _ _ c true)=>match P.underlying t with
   |some (.slice _)=>some (.lit (.int .i64 c))|_=>none
  |some (.lit _)=>Qw P tm o|_=>none
 | .call { callee:= .builtin .min,.. } =>Qw P tm o| .call { callee:= .builtin .max,.. } =>Qw P tm o| .unOp .. =>Qw P tm o| .convert .. =>Qw P tm o| .makeInterface t x=>cond (plain tm [x]) (Qw P tm o) (match cV tm x with
  |some a=>match P.underlying t with
   |some (.interface _)=>none|some _=>some (.iface t a)|none=>none
  |none=>none)
 | .typeAssert x _ t ok=>match cV tm x with
  |some (.iface d a)=>BR P d t ok a|_=>Qw P tm o
 |_=>none
theorem ym (B o n:Nat):(⟨B,o,none⟩:Addr).add n=⟨B,o+n,none⟩:=Fe B o n
theorem Ox {P:Program} {o:Oper} {av:AV} {e:Env} {a:Act} {p:gZ} (hp:B0 P a.eval o=some p) (h:p.then fun v=>av.rep e v):∃v,av.rep e v/\∀w,(execOp a.eval o).run P w= .ok (.value v) w:=by
 obtain⟨v,h1,_,h2⟩:=Fo hp h;exact⟨v,h1,h2⟩
theorem Arz {P:Program} {tm:Tm} {o:Oper} {t:TypeId} {x:Operand} {lo hi mx:Option Operand} {b k n sz c:Nat} {ex:Bool} {av:AV} (ho:o.op= .slice t x lo hi mx) (h:BO P tm t b k n sz c ex lo hi mx=some av) (hx:cV tm x=some (.slice b k n sz c ex)):Ny P tm o av:=by
 intro e a ht;have hr:=ht _ (by simp [ho,Op.operands]) _ hx;simp only [AV.rep]at hr;obtain⟨B,tt,kk,A,h1,h2,h3,h4,h5,h6,h7⟩:=hr;unfold BO at h;split at h
 case h_2=>cases h
 rename_i el hu;split at h
 case h_2=>cases h
 rename_i inf hi;cases hb:Nat.beq inf.size sz with
 |false=>rw [hb]at h;cases h
 |true=>
 rw [hb]at h;have eU:inf.size=sz:=Nat.eq_of_beq_eq_true hb;simp only [cond_true]at h;have key:∀(l h':Nat),l<=h'->h'<=kk->(AV.slice b (k+l*sz) (h'-l) sz (c-l) ex).rep e (.slice (Ke (some A) l kk inf.size) (h'-l) (kk-l)):=by
  intro l h' g1 g2;simp only [AV.rep];by_cases hk:kk=l
  ·subst hk;refine⟨B,tt,0,A,h1,by simp [Ke],.inr rfl,by omega,by omega,fun hx=>by have:=h6 hx;omega,?_⟩;simp only [Nat.zero_mul,Nat.add_zero];omega
  ·rcases h3 with rfl|h3
   ·refine⟨B,tt,kk-l,⟨B,k+l*sz,none⟩,h1,?_,.inl rfl,by omega,by omega,fun hx=>by have:=h6 hx;omega,?_⟩
    ·unfold Ke;rw [if_neg hk,eU];simp [ym]
    ·have:l*sz+(kk-l)*sz=kk*sz:=by rw [←Nat.add_mul];congr 1;omega
     omega
   ·omega
 have kh:∀p,B0 P a.eval o=some p->(p.then fun v=>av.rep e v)->∃v,av.rep e v/\∀w,(execOp a.eval o).run P w= .ok (.value v) w:=fun p=>Ox (e:=e)
 split at h
 ·cases h
  refine kh (.when True (.slice (Ke (some A) 0 kk inf.size) (n-0) (kk-0))) (by simp only [B0,ho,hu,h2,bounds,map_none,hi]) ⟨trivial,?_⟩;have:=key 0 n (by omega) h4;simpa using this
 ·rename_i l;split at h
  ·rename_i l' hl;cases hc:(decide (0<=l')&&decide (l'<=(n:Int)))with
   |false=>rw [hc]at h;cases h
   |true=>
    rw [hc]at h;cases h;simp only [and_eq_true,decide_eq_true_eq]at hc;obtain⟨kd,hl⟩:=Eg ht (by simp [ho,Op.operands]) hl;exact kh (.when (0<=l'/\l'<=(n:Int)) (.slice (Ke (some A) l'.toNat kk inf.size) (n-l'.toNat) (kk-l'.toNat))) (by simp only [B0,ho,hu,h2,bounds,map_none,map_some,hl,hi]) ⟨⟨hc.1,hc.2⟩,key l'.toNat n (by omega) h4⟩
  ·cases h
 ·rename_i l;split at h
  ·rename_i l' hl;cases hc:(decide (0<=l')&&(decide (l'<=(n:Int))||decide (l'<=(c:Int))))with
   |false=>rw [hc]at h;cases h
   |true=>
    rw [hc]at h;cases h;simp only [and_eq_true,or_eq_true,decide_eq_true_eq]at hc;obtain⟨kd,hl⟩:=Eg ht (by simp [ho,Op.operands]) hl;refine kh (.when (0<=l'/\l'<=(kk:Int)) (.slice (Ke (some A) 0 kk inf.size) (l'.toNat-0) (kk-0))) (by simp only [B0,ho,hu,h2,bounds,map_none,map_some,hl,hi]) ⟨⟨hc.1,by omega⟩,?_⟩;have:=key 0 l'.toNat (by omega) (by omega);simpa using this
  ·cases h
 ·rename_i l l2;split at h
  ·rename_i l' h' hl hh;cases hc:(decide (0<=l')&&decide (l'<=h')&&(decide (h'<=(n:Int))||decide (h'<=(c:Int))))with
   |false=>rw [hc]at h;cases h
   |true=>
    rw [hc]at h;cases h;simp only [and_eq_true,or_eq_true,decide_eq_true_eq]at hc;obtain⟨kd,hl⟩:=Eg ht (by simp [ho,Op.operands]) hl;obtain⟨kd2,hh⟩:=Eg ht (by simp [ho,Op.operands]) hh;exact kh (.when ((0<=h'/\h'<=(kk:Int))/\0<=l'/\l'<=(h'.toNat:Int)) (.slice (Ke (some A) l'.toNat kk inf.size) (h'.toNat-l'.toNat) (kk-l'.toNat))) (by simp only [B0,ho,hu,h2,bounds,map_some,hl,hh,hi]) ⟨⟨⟨by omega,by omega⟩,hc.1.1,by omega⟩,key l'.toNat h'.toNat (by omega) (by omega)⟩
  ·cases h
 ·rename_i l l2;split at h
  ·rename_i h' m' hh hm;cases hc:(decide (0<=h')&&decide (h'<=m')&&(decide (m'<=(n:Int))||decide (m'<=(c:Int))))with
   |false=>rw [hc]at h;cases h
   |true=>
    rw [hc]at h;cases h;simp only [and_eq_true,or_eq_true,decide_eq_true_eq]at hc;obtain⟨kd,hh⟩:=Eg ht (by simp [ho,Op.operands]) hh;obtain⟨kd2,hm⟩:=Eg ht (by simp [ho,Op.operands]) hm;refine kh (.when ((0<=m'/\m'<=(kk:Int))/\0<=h'/\h'<=(m'.toNat:Int)) (.slice (some A) h'.toNat m'.toNat)) (by simp only [B0,ho,hu,h2,hh,hm,hi]) ⟨⟨⟨by omega,by omega⟩,by omega,by omega⟩,?_⟩;simp only [AV.rep];refine⟨B,tt,m'.toNat,A,h1,rfl,?_,by omega,le_refl _,fun _=>rfl,?_⟩
    ·rcases h3 with h3|h3
     ·exact .inl h3
     ·exact .inr (by omega)
    ·have:m'.toNat*sz<=kk*sz:=Nat.mul_le_mul_right _ (by omega);omega
  ·cases h
 ·cases h
theorem BS {tm:Tm} {e:Env} {a:Act} :∀ {l:List (Nat×Operand)} {az:List (Nat×AV)},Qv e tm a (l.map (·.2))->pT tm l=some az->
 (l.map fun p=>(p.1,a.eval p.2)).map (·.1)=az.map (·.1)/\AV.bI e (az.map (·.2)) ((l.map fun p=>(p.1,a.eval p.2)).map (·.2))
 |[],_,_,h=>by simp only [pT]at h;cases h;exact⟨rfl,by simp [AV.bI]⟩
 |(i,x)::l,_,ht,h=>by
  simp only [pT]at h;split at h
  ·rename_i av fh;split at h
   ·rename_i az has;cases h
    obtain⟨h1,h2⟩:=BS (ht.sub fun y hy=>by simp only [map_cons];exact List.mem_cons_of_mem _ hy) has;refine⟨by simp only [map_cons,h1],?_⟩;simp only [map_cons,AV.bI];exact⟨_,_,rfl,ht x (by simp) _ fh,h2⟩
   ·cases h
  ·cases h
theorem Wu {P:Program} {t:TypeId} {z:List AV} (h:Lb P t=some z):∃v,(∀e,AV.bI e z v.cells.toList)/\∀w,(zeroValue t).run P w= .ok v w:=by
 unfold Lb at h;split at h
 ·rename_i i hi;split at h
  ·rename_i v hv;cases h
   exact⟨v,fun e=>Nx (by simp [AV.rep]),fun w=>by simp [zeroValue,typeInfo,hi,hv]⟩
  ·cases h
 ·cases h
theorem LF {P:Program} :∀ {fs:List Field} {r:List (Nat×Nat)},Wt P fs=some r->∀w,(fs.mapM fun f=>(do pure (f.offset,←sizeOf f.type):Sem (Nat×Nat))).run P w= .ok r w
 |[],_,h,w=>by simp only [Wt]at h;cases h;rfl
 |f::fs,_,h,w=>by
  simp only [Wt]at h;split at h
  ·rename_i i hi;split at h
   ·rename_i r hr;cases h
    have:=LF hr w;simp only [List.mapM_cons,Sem.run_bind,sizeOf,typeInfo,run_program,Result.andThen_ok,hi,Sem.run_pure]at this⊢;rw [this];rfl
   ·cases h
  ·cases h
theorem LG {P:Program} {tm:Tm} {o:Oper} {t:TypeId} {ps:Array (Nat×Operand)} {av:AV} (ho:o.op= .build t ps) (h:yl P tm t ps.toList=some av):Ny P tm o av:=by
 intro e a ht;unfold yl at h;split at h
 case h_2=>cases h
 rename_i z az hz has;obtain⟨zv,LH,LI⟩:=Wu hz;obtain⟨p1,p2⟩:=BS (ht.sub fun y hy=>by simpa [ho,Op.operands] using hy) has;have mf:(ps.map fun(i,x)=>(i,a.eval x)).toList=ps.toList.map fun p=>(p.1,a.eval p.2):=by simp
 split at h
 ·rename_i fs hu;split at h
  case h_2=>cases h
  rename_i l hl;split at h
  case h_2=>cases h
  rename_i r hr;cases h
  obtain⟨gO,g1,g2⟩:=U1 (cs:=zv.cells) hr (LH e) p1 p2;refine⟨.agg gO,by simp only [AV.rep];exact⟨gO.toList,rfl,g2⟩,fun w=> ?_⟩;have hs:=LF (P:=P) hl w;have hm:(fs.mapM fun f=>(do pure (f.offset,←sizeOf f.type):Sem (Nat×Nat))).run P w= .ok l.toArray w:=by
   rw [Array.mapM_eq_mapM_toList,Sem.run_map,hs];rfl
  have hg:(fun i:Nat=>l.toArray[i]?)=(fun i:Nat=>l[i]?):=by funext i;simp
  simp only [execOp,ho,Instr.build,Sem.run_bind,LI w,Result.andThen_ok,underlying,run_program,hu,Sem.run_pure,hm,mf,hg,g1]
 ·rename_i n el hu;split at h
  case h_2=>cases h
  rename_i i hi;split at h
  case h_2=>cases h
  rename_i r hr;cases h
  obtain⟨gO,g1,g2⟩:=U1 (cs:=zv.cells) hr (LH e) p1 p2;refine⟨.agg gO,by simp only [AV.rep];exact⟨gO.toList,rfl,g2⟩,fun w=> ?_⟩;simp only [execOp,ho,Instr.build,Sem.run_bind,LI w,Result.andThen_ok,underlying,run_program,hu,Sem.run_pure,sizeOf,typeInfo,hi,mf,g1]
 ·cases h
theorem Awu {P:Program} {tm:Tm} {o:Oper} {t yt:TypeId} {op:BinOp} {x y:Operand} {u v:AV} {b:Bool} (ho:o.op= .binOp op t x y yt) (hx:cV tm x=some u) (hy:cV tm y=some v) (hn:BP (P.underlying t) u v=some b): (op= .eql->Ny P tm o (.lit (.bool b)))/\(op= .neq->Ny P tm o (.lit (.bool !b))):=by
 unfold BP at hn;split at hn
 ·split at hn
  case h_2=>cases hn
  rename_i el hu;cases hn
  constructor
  all_goals
   rintro rfl e a ht;have rx:=ht x (by simp [ho,Op.operands]) _ hx;have ry:=ht y (by simp [ho,Op.operands]) _ hy;simp only [AV.rep]at rx ry;obtain⟨B,tt,h1,h2⟩:=rx;refine Ox (e:=e) (p:= .val (.bool _)) (by simp only [B0,ho,h2,ry,hu,H2,Bool.and_false,cond_false];rfl) ?_;simp [gZ.then,AV.rep]
 ·split at hn
  case h_2=>cases hn
  rename_i el hu;cases hn
  constructor
  all_goals
   rintro rfl e a ht;have rx:=ht x (by simp [ho,Op.operands]) _ hx;have ry:=ht y (by simp [ho,Op.operands]) _ hy;simp only [AV.rep]at rx ry;obtain⟨B,tt,k,A,h1,h2,_⟩:=rx;refine Ox (e:=e) (p:= .val (.bool _)) (by simp only [B0,ho,h2,ry,hu,H2,Bool.and_false,cond_false];rfl) ?_;simp [gZ.then,AV.rep]
 ·split at hn
  case h_2=>cases hn
  rename_i el hu;cases hn
  constructor
  all_goals
   rintro rfl e a ht;have rx:=ht x (by simp [ho,Op.operands]) _ hx;have ry:=ht y (by simp [ho,Op.operands]) _ hy;simp only [AV.rep]at rx ry;obtain⟨B,tt,h1,h2⟩:=rx;refine Ox (e:=e) (p:= .val (.bool _)) (by simp only [B0,ho,h2,ry,hu,H2,Bool.and_false,cond_false];rfl) ?_;simp [gZ.then,AV.rep]
 ·split at hn
  case h_2=>cases hn
  rename_i el hu;cases hn
  constructor
  all_goals
   rintro rfl e a ht;have rx:=ht x (by simp [ho,Op.operands]) _ hx;have ry:=ht y (by simp [ho,Op.operands]) _ hy;simp only [AV.rep]at rx ry;obtain⟨B,h2,_⟩:=rx;refine⟨.bool _,by (simp only [AV.rep];rfl),fun w=> ?_⟩;have hq:∀(t':TypeId) (v:Value),Sem.run P (Op.equalIn Op.maxDepth t (.iface t' v) .nilIface) w= .ok false w:=by
    have h0:∀(d:Nat) (t':TypeId) (v:Value),(Op.equalIn (d+1) t (.iface t' v) .nilIface).run P w= .ok false w:=fun d t' v=>by simp [Op.equalIn,underlying,hu]
    exact fun t' v=>h0 9999 t' v
   simp [execOp,ho,h2,ry,eqGuard,binOp,Op.equal,underlying,hu,hq]
 ·split at hn
  case h_2=>cases hn
  rename_i ps rs vr hu;cases hn
  constructor
  all_goals
   rintro rfl e a ht;have rx:=ht x (by simp [ho,Op.operands]) _ hx;have ry:=ht y (by simp [ho,Op.operands]) _ hy;simp only [AV.rep]at rx ry;obtain⟨vs,us,h2,_⟩:=rx;refine⟨.bool _,by (simp only [AV.rep];rfl),fun w=> ?_⟩;have hq:∀(a:Value) (l m:Array Value) (f:FuncId),Sem.run P (Op.equalIn Op.maxDepth t (.func (.func f) l m) .nilFunc) w= .ok false w:=by
    have h0:∀(d:Nat) (l m:Array Value) (f:FuncId),(Op.equalIn (d+1) t (.func (.func f) l m) .nilFunc).run P w= .ok false w:=fun d l m f=>by simp [Op.equalIn,underlying,hu]
    exact fun _ l m f=>h0 9999 l m f
   simp [execOp,ho,h2,ry,eqGuard,binOp,Op.equal,underlying,hu,hq undef]
 ·cases hn
theorem Aot {P:Program} {tm:Tm} {o:Oper} {x:Operand} {xt d t:TypeId} {ok:Bool} {a av:AV} (ho:o.op= .typeAssert x xt t ok) (hx:cV tm x=some (.iface d a)) (h:BR P d t ok a=some av):Ny P tm o av:=by
 intro e ac ht;have hr:=ht _ (by simp [ho,Op.operands]) _ hx;simp only [AV.rep]at hr;obtain⟨u,h2,h3⟩:=hr;have holds:∀ {b:AV} {v:Value},b.rep e v->(Tj ok b).rep e (if ok then .tuple #[v,.bool true]else v):=by
  intro b v hb;cases ok with
  |true=>simp only [Tj,cond_true,if_true,AV.rep];exact⟨[v,.bool true],rfl,by simp only [AV.bI];exact⟨_,_,rfl,hb,_,_,rfl,by simp only [AV.rep],rfl⟩⟩
  |false=>exact hb
 unfold BR at h;split at h
 ·rename_i want hu;split at h
  case h_2=>cases h
  rename_i i hi;split at h
  case h_2=>cases h
  rename_i hm;cases h
  refine⟨_,holds (b:= .iface d a) (v:= .iface d u) (by simp only [AV.rep];exact⟨u,rfl,h3⟩),fun w=> ?_⟩;simp [execOp,ho,Instr.typeAssert,h2,underlying,hu,typeInfo,hi,hm]
 ·rename_i ds cf hu;cases hb:Nat.beq d t with
  |true=>
   rw [hb]at h;simp only [cond_true]at h;cases h
   have:=Nat.eq_of_beq_eq_true hb;subst this;refine⟨_,holds h3,fun w=> ?_⟩;cases ds<;>first|exact absurd rfl (cf _)|simp [execOp,ho,Instr.typeAssert,h2,underlying,hu]
  |false=>
   rw [hb]at h;simp only [cond_false]at h;have hdt:d≠t:=fun e=>by subst e;simp at hb
   cases ok with
   |false=>cases h
   |true=>
    simp only [cond_true]at h;split at h
    case h_2=>cases h
    rename_i i hi;split at h
    case h_2=>cases h
    rename_i z hz;cases h
    refine⟨.tuple #[z,.bool false],by simp only [AV.rep];exact⟨[z,.bool false],rfl,by simp only [AV.bI,AV.rep];exact⟨_,_,rfl,rfl,_,_,rfl,rfl,rfl⟩⟩,fun w=> ?_⟩;cases ds<;>first|exact absurd rfl (cf _)|simp [execOp,ho,Instr.typeAssert,h2,underlying,hu,hdt,zeroValue,typeInfo,hi,hz]
 ·cases h
theorem yn {op:BinOp} {lo hi m n:Int} {b:Bool} (h:nZ op lo hi n=some b) (h1:lo<=m) (h2:m<=hi) {P:Program} {t:TypeId} {k:IntKind} (w:World):(binOp op t (.int k m) (.int k n)).run P w= .ok (.bool b) w:=by
 unfold nZ at h;split at h
 ·cases c1:decide (hi<n)with
  |true=>
   rw [c1]at h;cases h;have:=of_decide_eq_true c1;simp [binOp,Op.intArith,Op.intBits,Op.intCmp];omega
  |false=>
   rw [c1]at h;cases c2:decide (n<=lo)with
   |true=>rw [c2]at h;cases h;have:=of_decide_eq_true c2;simp [binOp,Op.intArith,Op.intBits,Op.intCmp];omega
   |false=>rw [c2]at h;cases h
 ·cases c1:decide (hi<=n)with
  |true=>
   rw [c1]at h;cases h;have:=of_decide_eq_true c1;simp [binOp,Op.intArith,Op.intBits,Op.intCmp];omega
  |false=>
   rw [c1]at h;cases c2:decide (n<lo)with
   |true=>rw [c2]at h;cases h;have:=of_decide_eq_true c2;simp [binOp,Op.intArith,Op.intBits,Op.intCmp];omega
   |false=>rw [c2]at h;cases h
 ·cases c1:decide (n<lo)with
  |true=>
   rw [c1]at h;cases h;have:=of_decide_eq_true c1;simp [binOp,Op.intArith,Op.intBits,Op.intCmp];omega
  |false=>
   rw [c1]at h;cases c2:decide (hi<=n)with
   |true=>rw [c2]at h;cases h;have:=of_decide_eq_true c2;simp [binOp,Op.intArith,Op.intBits,Op.intCmp];omega
   |false=>rw [c2]at h;cases h
 ·cases c1:decide (n<=lo)with
  |true=>
   rw [c1]at h;cases h;have:=of_decide_eq_true c1;simp [binOp,Op.intArith,Op.intBits,Op.intCmp];omega
  |false=>
   rw [c1]at h;cases c2:decide (hi<n)with
   |true=>rw [c2]at h;cases h;have:=of_decide_eq_true c2;simp [binOp,Op.intArith,Op.intBits,Op.intCmp];omega
   |false=>rw [c2]at h;cases h
 ·cases c1:(decide (hi<n)||decide (n<lo))with
  |true=>
   rw [c1]at h;cases h;simp only [or_eq_true,decide_eq_true_eq]at c1;simp [binOp,Op.intArith,Op.intBits,Op.intCmp];omega
  |false=>rw [c1]at h;cases h
 ·cases c1:(decide (hi<n)||decide (n<lo))with
  |true=>
   rw [c1]at h;cases h;simp only [or_eq_true,decide_eq_true_eq]at c1;simp [binOp,Op.intArith,Op.intBits,Op.intCmp];omega
  |false=>rw [c1]at h;cases h
 ·cases h
theorem LJ {op:BinOp} {m n:Int} {b:Bool} {P:Program} {t:TypeId} {k:IntKind} {w:World} (kh:(∃lo hi,(nZ (Xw op) lo hi n).isSome=true)) (h:(binOp (Xw op) t (.int k m) (.int k n)).run P w= .ok (.bool b) w):(binOp op t (.int k n) (.int k m)).run P w= .ok (.bool b) w:=by
 obtain⟨lo,hi,kh⟩:=kh;cases op<;>first|(simp [Xw,nZ]at kh;done)|skip
 all_goals
  simp only [Xw]at h;simp [binOp,Op.intArith,Op.intBits,Op.intCmp]at h⊢;rw [←h]<;>first|rfl|exact BEq.comm|exact bne_comm|exact decide_eq_decide.2 eq_comm|(congr 1;exact decide_eq_decide.2 eq_comm)|(congr 1;exact BEq.comm)
theorem Azd {P:Program} {tm:Tm} {o:Oper} {t yt:TypeId} {op:BinOp} {x y:Operand} {u v:AV} {b:Bool} (ho:o.op= .binOp op t x y yt) (hx:cV tm x=some u) (hy:cV tm y=some v) (hn:BQ op u v=some b):Ny P tm o (.lit (.bool b)):=by
 intro e a ht;have rx:=ht x (by simp [ho,Op.operands]) _ hx;have ry:=ht y (by simp [ho,Op.operands]) _ hy;refine⟨.bool b,by simp only [AV.rep],fun w=> ?_⟩;unfold BQ at hn;split at hn
 ·rename_i k lo hi k' n;simp only [AV.rep]at rx ry;obtain⟨m,rx,h1,h2⟩:=rx;cases hk:decide (k=k')with
  |false=>rw [hk]at hn;cases hn
  |true=>
   rw [hk]at hn;have:=of_decide_eq_true hk;subst this;have hr:=yn hn h1 h2 (P:=P) (t:=t) (k:=k) w;have hg:(eqGuard op t x y (.int k m) (.int k n)).run P w= .ok () w:=by cases op<;>rfl
   simp only [execOp,ho,rx,ry,Sem.run_bind,hg,hr,Result.andThen_ok,Sem.run_pure]
 ·rename_i k' n k lo hi;simp only [AV.rep]at rx ry;obtain⟨m,ry,h1,h2⟩:=ry;cases hk:decide (k=k')with
  |false=>rw [hk]at hn;cases hn
  |true=>
   rw [hk]at hn;have:=of_decide_eq_true hk;subst this;have hr:=LJ ⟨lo,hi,by rw [show nZ (Xw op) lo hi n=some b from hn];rfl⟩ (yn hn h1 h2 (P:=P) (t:=t) (k:=k) w);have hg:(eqGuard op t x y (.int k n) (.int k m)).run P w= .ok () w:=by cases op<;>rfl
   simp only [execOp,ho,rx,ry,Sem.run_bind,hg,hr,Result.andThen_ok,Sem.run_pure]
 ·rename_i i k lo hi k' n;simp only [AV.rep]at rx ry;obtain⟨B,tt,_,rx,h1,h2⟩:=rx;generalize sF B tt=m at rx h1 h2;cases hk:decide (k=k')with
  |false=>rw [hk]at hn;cases hn
  |true=>
   rw [hk]at hn;have:=of_decide_eq_true hk;subst this;have hr:=yn hn h1 h2 (P:=P) (t:=t) (k:=k) w;have hg:(eqGuard op t x y (.int k m) (.int k n)).run P w= .ok () w:=by cases op<;>rfl
   simp only [execOp,ho,rx,ry,Sem.run_bind,hg,hr,Result.andThen_ok,Sem.run_pure]
 ·rename_i k' n i k lo hi;simp only [AV.rep]at rx ry;obtain⟨B,tt,_,ry,h1,h2⟩:=ry;generalize sF B tt=m at ry h1 h2;cases hk:decide (k=k')with
  |false=>rw [hk]at hn;cases hn
  |true=>
   rw [hk]at hn;have:=of_decide_eq_true hk;subst this;have hr:=LJ ⟨lo,hi,by rw [show nZ (Xw op) lo hi n=some b from hn];rfl⟩ (yn hn h1 h2 (P:=P) (t:=t) (k:=k) w);have hg:(eqGuard op t x y (.int k n) (.int k m)).run P w= .ok () w:=by cases op<;>rfl
   simp only [execOp,ho,rx,ry,Sem.run_bind,hg,hr,Result.andThen_ok,Sem.run_pure]
 ·rename_i i k lo hi j k' yo ft;simp only [AV.rep]at rx ry;obtain⟨B,tt,cj,rx,_⟩:=rx;obtain⟨B',tt',eV,ry,_⟩:=ry;cases hk:(Nat.beq i j&&decide (k=k'))with
  |false=>rw [hk]at hn;cases hn
  |true=>
   rw [hk]at hn;simp only [and_eq_true,decide_eq_true_eq]at hk;have h1:=Nat.eq_of_beq_eq_true hk.1;have h2:=hk.2;subst h1 h2;rw [cj]at eV;cases eV
   generalize sF B tt=m at rx ry;simp only [cond_true]at hn;have hg:(eqGuard op t x y (.int k m) (.int k m)).run P w= .ok () w:=by cases op<;>rfl
   have hr:(binOp op t (.int k m) (.int k m)).run P w= .ok (.bool b) w:=by
    split at hn
    ·cases hn;simp [binOp,Op.intArith,Op.intBits,Op.intCmp]
    ·cases hn;simp [binOp,Op.intArith,Op.intBits,Op.intCmp]
    ·cases hn
   simp only [execOp,ho,rx,ry,Sem.run_bind,hg,hr,Result.andThen_ok,Sem.run_pure]
 ·cases hn
theorem Qx {P:Program} {tm:Tm} {o:Oper} {av:AV} (h:J8 P tm o=some av):Ny P tm o av:=by
 have hc:∀ {x y:Option AV} {b:Bool},cond b x y=some av->(b=true/\x=some av)\/(b=false/\y=some av):=by
  intro x y b h;cases b
  ·exact .inr ⟨rfl,h⟩
  ·exact .inl ⟨rfl,h⟩
 unfold J8 at h;split at h
 ·rename_i x ho;exact fun e a ht=>⟨_,ht _ (by simp [ho,Op.operands]) _ h,fun w=>by simp only [execOp,ho];rfl⟩
 ·rename_i x ho;exact fun e a ht=>⟨_,ht _ (by simp [ho,Op.operands]) _ h,fun w=>by simp only [execOp,ho];rfl⟩
 ·rename_i c x y ho;split at h
  ·rename_i b hb;intro e a ht;have BT:=ht _ (by simp [ho,Op.operands]) _ hb;simp only [AV.rep]at BT;cases b with
   |true=>exact⟨_,ht _ (by simp [ho,Op.operands]) _ h,fun w=>by simp only [execOp,ho,BT,asBool];rfl⟩
   |false=>exact⟨_,ht _ (by simp [ho,Op.operands]) _ h,fun w=>by simp only [execOp,ho,BT,asBool];rfl⟩
  ·cases h
 ·rename_i x ho;split at h
  ·rename_i b k hx;cases h
   intro e a ht;have hr:=ht _ (by simp [ho,Op.operands]) _ hx;have mi:=hr;simp only [AV.rep]at mi;obtain⟨B,tt,h1,h2⟩:=mi;exact⟨_,hr,fun w=>by simp only [execOp,ho,h2];rfl⟩
  ·rename_i f l m hx;cases h
   intro e a ht;have hr:=ht _ (by simp [ho,Op.operands]) _ hx;have mi:=hr;simp only [AV.rep]at mi;obtain⟨vs,us,h2,_⟩:=mi;exact⟨_,hr,fun w=>by simp only [execOp,ho,h2];rfl⟩
  ·exact E4 h
  ·cases h
 ·rename_i t x f ho;split at h
  case h_2=>cases h
  rename_i b k fs hx hu;split at h
  case h_2=>cases h
  rename_i kg hf;split at h
  case h_2=>cases h
  rename_i i hi;rcases hc h with⟨_,h⟩|⟨h0,h⟩
  ·cases h
  cases h
  intro e a ht;have hr:=ht _ (by simp [ho,Op.operands]) _ hx;simp only [AV.rep]at hr;obtain⟨B,tt,h1,h2⟩:=hr;have hz:i.size≠0:=fun e=>by rw [e]at h0;cases h0
  obtain⟨n,hn⟩:=Nat.exists_eq_succ_of_ne_zero hz;refine Ox (e:=e) (p:= .ptr (some ⟨B,k,none⟩) fun a=> .pointer (some (a.add kg.offset))) (by simp only [B0,ho,hu,hf,hi,hn,h2]) ?_;simp only [gZ.then,Ak,AV.rep,ym];exact⟨B,tt,h1,rfl⟩
 ·rename_i t x i ho;split at h
  case h_2=>cases h
  rename_i n hn;split at h
  ·rename_i b k len sz c ex el hx hu;split at h
   case h_2=>cases h
   rename_i inf hi;rcases hc h with⟨hb,h⟩|⟨_,h⟩
   rotate_left
   ·cases h
   cases h
   simp only [and_eq_true,decide_eq_true_eq]at hb;obtain⟨⟨b1,b2⟩,b3⟩:=hb;have eU:=Nat.eq_of_beq_eq_true b3;intro e a ht;obtain⟨kd,hn⟩:=Eg ht (by simp [ho,Op.operands]) hn;have hr:=ht _ (by simp [ho,Op.operands]) _ hx;simp only [AV.rep]at hr;obtain⟨B,tt,kk,A,h1,h2,h3,h4,_⟩:=hr;rcases h3 with rfl|h3
   rotate_left
   ·omega
   refine Ox (e:=e) (p:= .rS (some ⟨B,k,none⟩) (0<=n/\n<len) fun a=> .pointer (some (a.add (n.toNat*inf.size)))) (by simp only [B0,ho,hu,h2,hn,hi]) ⟨⟨b1,b2⟩,?_⟩;simp only [Ak,AV.rep,ym,eU];exact⟨B,tt,h1,rfl⟩
  ·rename_i b k len el hx hu;split at h
   case h_2=>cases h
   rename_i inf hi;rcases hc h with⟨hb,h⟩|⟨_,h⟩
   rotate_left
   ·cases h
   cases h
   simp only [and_eq_true,decide_eq_true_eq]at hb;intro e a ht;obtain⟨kd,hn⟩:=Eg ht (by simp [ho,Op.operands]) hn;have hr:=ht _ (by simp [ho,Op.operands]) _ hx;simp only [AV.rep]at hr;obtain⟨B,tt,h1,h2⟩:=hr;refine Ox (e:=e) (p:= .rS (some ⟨B,k,none⟩) (0<=n/\n<len) fun a=> .pointer (some (a.add (n.toNat*inf.size)))) (by simp only [B0,ho,hu,h2,hn,hi]) ⟨hb,?_⟩;simp only [Ak,AV.rep,ym];exact⟨B,tt,h1,rfl⟩
  ·cases h
 ·rename_i t x lo hi mx ho;split at h
  ·rename_i hx;exact Arz ho h hx
  ·exact E4 h
  ·cases h
 ·rename_i t x f ho;split at h
  ·rename_i l hx;split at h
   case h_2=>cases h
   rename_i fs hu;split at h
   case h_2=>cases h
   rename_i kg hf;intro e a ht;have hr:=ht _ (by simp [ho,Op.operands]) _ hx;simp only [AV.rep]at hr;obtain⟨vs,h2,h3⟩:=hr;obtain⟨v,g1,g2⟩:=LB h h3;refine⟨v,g1,fun w=> ?_⟩;simp only [execOp,ho,Instr.field,underlying,Sem.run_bind,run_program,Result.andThen_ok,hu,Sem.run_pure,hf,h2,asAgg,g2 w]
  ·exact E4 h
  ·cases h
 ·rename_i t x i ho;split at h
  ·rename_i l hx;split at h
   case h_2=>cases h
   rename_i len el n hu hn;split at h
   case h_2=>cases h
   rename_i inf hi;rcases hc h with⟨hb,h⟩|⟨_,h⟩
   rotate_left
   ·cases h
   simp only [and_eq_true,decide_eq_true_eq]at hb;intro e a ht;obtain⟨kd,hn⟩:=Eg ht (by simp [ho,Op.operands]) hn;have hr:=ht _ (by simp [ho,Op.operands]) _ hx;simp only [AV.rep]at hr;obtain⟨vs,h2,h3⟩:=hr;obtain⟨v,g1,g2⟩:=LB h h3;refine⟨v,g1,fun w=> ?_⟩;simp only [execOp,ho,Instr.index,asIntOf,hn,underlying,Sem.run_bind,run_program,Result.andThen_ok,hu,Sem.run_pure,h2,hb.1,hb.2,and_self,if_true,sizeOf,typeInfo,hi,g2 w]
  ·exact E4 h
  ·cases h
 ·rename_i x i ho;split at h
  ·rename_i l hx;intro e a ht;have hr:=ht _ (by simp [ho,Op.operands]) _ hx;simp only [AV.rep]at hr;obtain⟨vs,h2,h3⟩:=hr;obtain⟨v,g1,g2⟩:=Jm h3 h;refine⟨v,g2,fun w=> ?_⟩;have:(⟨vs⟩:Array Value)[i]? =some v:=by simpa using g1
   simp only [execOp,ho,Instr.extract,h2,this];rfl
  ·exact E4 h
  ·cases h
 ·rename_i t ps ho;rcases hc h with⟨_,h⟩|⟨_,h⟩
  ·exact E4 h
  ·exact LG ho h
 ·rename_i f first kz ho
  split at h
  case h_2=>cases h
  rename_i l m hl hm;cases h
  intro e a ht;refine⟨.func (.func f) (first.map a.eval) (kz.map a.eval),?_,fun w=>by simp only [execOp,ho];rfl⟩;simp only [AV.rep];exact⟨first.toList.map a.eval,kz.toList.map a.eval,by congr 1<;>(apply ext';simp),Ow (ht.sub fun y hy=>by simp only [ho,Op.operands,Array.toList_append,List.mem_append];exact .inl hy) hl,Ow (ht.sub fun y hy=>by simp only [ho,Op.operands,Array.toList_append,List.mem_append];exact .inr hy) hm⟩
 ·rename_i op t x y yt ho;split at h
  case h_2=>cases h
  rename_i u v hx hy;split at h
  ·rename_i b hb;obtain⟨h1,h2⟩:=Awu ho hx hy hb;split at h
   ·cases h;exact h1 rfl
   ·cases h;exact h2 rfl
   ·cases h
  ·split at h
   ·rename_i b hb;cases h
    exact Azd ho hx hy hb
   ·exact E4 h
 ·rename_i x t ho;split at h
  ·rename_i b k n sz c ex hx;split at h
   case h_2=>cases h
   rename_i el hu;cases h
   intro e a ht;have hr:=ht _ (by simp [ho,Op.operands,Call.operands]) _ hx;simp only [AV.rep]at hr;obtain⟨B,tt,kk,A,h1,h2,_⟩:=hr;refine⟨.int .i64 n,by simp only [AV.rep],fun w=> ?_⟩;simp [execOp,ho,resolve,invoke,builtin,Builtin.len_,underlying,hu,h2,goInt]
  ·exact E4 h
  ·cases h
 ·rename_i x t ho;split at h
  ·rename_i b k n sz c hx;split at h
   case h_2=>cases h
   rename_i el hu;cases h
   intro e a ht;have hr:=ht _ (by simp [ho,Op.operands,Call.operands]) _ hx;simp only [AV.rep]at hr;obtain⟨B,tt,kk,A,h1,h2,_,_,_,h6,_⟩:=hr;have:=h6 trivial;subst this;refine⟨.int .i64 kk,by simp only [AV.rep],fun w=> ?_⟩;simp [execOp,ho,resolve,invoke,builtin,Builtin.cap_,underlying,hu,h2,goInt]
  ·exact E4 h
  ·cases h
 ·exact E4 h
 ·exact E4 h
 ·exact E4 h
 ·exact E4 h
 ·rename_i t x ho;rcases hc h with⟨_,h⟩|⟨_,h⟩
  ·exact E4 h
  ·split at h
   case h_2=>cases h
   rename_i a hx;split at h
   ·cases h
   ·rename_i d cf hu;cases h
    intro e ac ht;refine⟨.iface t (ac.eval x),by simp only [AV.rep];exact⟨_,rfl,ht _ (by simp [ho,Op.operands]) _ hx⟩,fun w=> ?_⟩;cases d<;>first|exact absurd rfl (cf _)|simp [execOp,ho,Instr.makeInterface,underlying,hu]
   ·cases h
 ·rename_i x xt t ok ho;split at h
  ·rename_i d a hx;exact Aot ho hx h
  ·exact E4 h
 ·cases h
end Go.Am
