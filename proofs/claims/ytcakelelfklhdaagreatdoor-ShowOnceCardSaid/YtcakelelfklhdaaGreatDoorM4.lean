/- A part of the proof: conditions of the code, contracts, the plain law. -/
import Derived.Test.YtcakelelfklhdaaGreatDoorM2
import Derived.Test.YtcakelelfklhdaaGreatDoorMapL
namespace Go.Proofs.YtcakelelfklhdaaGreatDoor
open Go.Vc Go.Lv Go.Ty
set_option maxRecDepth 10000
def Y3 (sx:List UInt8) (K:Bool->Prop):Prop:=
 Ru (fun x=>
 C3 x sx (fun r r1=>
 K r1))
theorem W9 (sx:List UInt8) (K:Bool->Prop) (h:Y3 sx K):Oo sx K:=by
 intro m w hm
 have o:=Mem.start hm.lt
 refine Aad sx _ _ ?_
 refine Aa (h _ w (o.mn hm)) ?_
 rintro _ w1 ⟨x,h,⟨a,c,rfl,le,f⟩,ke⟩
 obtain⟨st,o⟩:=o.dE ke
 refine⟨_,_,_,rfl,?_⟩
 refine Aa (h _ w1 (o.mn hm) _ _ le f) ?_
 rintro _ w2 ⟨r,r1,h,rfl,ke1⟩
 obtain⟨st1,o⟩:=o.dE ke1
 refine⟨_,_,rfl,?_⟩
 exact⟨r1,h,rfl,o.done⟩
def N0 (cq:Int) (K:Bool->Prop):Prop:=
 K ((cq==95)||((decide ((Pt .u8 cq 32)>=97))&&(decide ((Pt .u8 cq 32)<=122))))
theorem Ts (cq:Int) (K:Bool->Prop) (h:N0 cq K):Jz cq K:=by
 intro m w hm
 have o:=Mem.start hm.lt
 refine Wi cq _ _ ?_
 intro _
 exact⟨((cq==95)||((decide ((Pt .u8 cq 32)>=97))&&(decide ((Pt .u8 cq 32)<=122)))),h,rfl,o.done⟩
def O4 (cq:Int) (K:Bool->Prop):Prop:=
 K ((decide (cq>=48))&&(decide (cq<=57)))
theorem U3 (cq:Int) (K:Bool->Prop) (h:O4 cq K):M8 cq K:=by
 intro m w hm
 have o:=Mem.start hm.lt
 refine Yi cq _ _ ?_
 intro _
 exact⟨((decide (cq>=48))&&(decide (cq<=57))),h,rfl,o.done⟩
def U4 (cq:Int) (K:Bool->Prop):Prop:=
 Jz cq (fun x=>
 cond (x)
 (K true)
 (M8 cq (fun x1=>
 K x1)))
theorem Tt (cq:Int) (K:Bool->Prop) (h:U4 cq K):L9 cq K:=by
 intro m w hm
 have o:=Mem.start hm.lt
 refine Wl cq _ _ ?_
 refine Aa (h _ w (o.mn hm)) ?_
 rintro _ w1 ⟨x,h,rfl,ke⟩
 obtain⟨st,o⟩:=o.dE ke
 refine⟨_,rfl,?_⟩
 refine Ad (fun h=> ?_) (fun h=> ?_) h
 exact⟨true,h,rfl,o.done⟩
 refine Aa (h _ w1 (o.mn hm)) ?_
 rintro _ w2 ⟨x1,h,rfl,ke1⟩
 obtain⟨st1,o⟩:=o.dE ke1
 refine⟨_,rfl,?_⟩
 exact⟨x1,h,rfl,o.done⟩
def Xa (K:(List (List UInt8))->Prop):Prop:=
 K ([[97,102,116,101,114],[97,115,115,101,114,116],[99,97,115,101],[99,104,97,110],[101,108,115,101],[105,102],[109,97,105,110],[112,114,105,110,116],[112,114,111,99],[114,97,110,100,111,109],[115,101,108,101,99,116],[115,107,105,112],[115,108,101,101,112],[115,116,97,114,116],[115,116,111,112],[118,97,114],[119,104,101,110],[119,104,105,108,101]]:List (List UInt8))
theorem U5 (K:(List (List UInt8))->Prop) (h:Xa K):Ru K:=by
 intro m w hm
 have o:=Mem.start hm.lt
 refine Yk _ _ ?_
 intro b w1 hb hw1
 have el:El Cy (ms [] m) w ([[97,102,116,101,114],[97,115,115,101,114,116],[99,97,115,101],[99,104,97,110],[101,108,115,101],[105,102],[109,97,105,110],[112,114,105,110,116],[112,114,111,99],[114,97,110,100,111,109],[115,101,108,101,99,116],[115,107,105,112],[115,108,101,101,112],[115,116,97,114,116],[115,116,111,112],[118,97,114],[119,104,101,110],[119,104,105,108,101]]:List (List UInt8)) ([.s [97,102,116,101,114],.s [97,115,115,101,114,116],.s [99,97,115,101],.s [99,104,97,110],.s [101,108,115,101],.s [105,102],.s [109,97,105,110],.s [112,114,105,110,116],.s [112,114,111,99],.s [114,97,110,100,111,109],.s [115,101,108,101,99,116],.s [115,107,105,112],.s [115,108,101,101,112],.s [115,116,97,114,116],.s [115,116,111,112],.s [118,97,114],.s [119,104,101,110],.s [119,104,105,108,101]]:List Value):=(El.cons (cs:=[.s [97,102,116,101,114]]) rfl (El.cons (cs:=[.s [97,115,115,101,114,116]]) rfl (El.cons (cs:=[.s [99,97,115,101]]) rfl (El.cons (cs:=[.s [99,104,97,110]]) rfl (El.cons (cs:=[.s [101,108,115,101]]) rfl (El.cons (cs:=[.s [105,102]]) rfl (El.cons (cs:=[.s [109,97,105,110]]) rfl (El.cons (cs:=[.s [112,114,105,110,116]]) rfl (El.cons (cs:=[.s [112,114,111,99]]) rfl (El.cons (cs:=[.s [114,97,110,100,111,109]]) rfl (El.cons (cs:=[.s [115,101,108,101,99,116]]) rfl (El.cons (cs:=[.s [115,107,105,112]]) rfl (El.cons (cs:=[.s [115,108,101,101,112]]) rfl (El.cons (cs:=[.s [115,116,97,114,116]]) rfl (El.cons (cs:=[.s [115,116,111,112]]) rfl (El.cons (cs:=[.s [118,97,114]]) rfl (El.cons (cs:=[.s [119,104,101,110]]) rfl (El.cons (cs:=[.s [119,104,105,108,101]]) rfl (El.nil _ _ _)))))))))))))))))))
 have st:=o.xL hb hw1 1 18
 have o:=o.lit hb hw1 1 18 (by decide) rfl
 have le:=(o.rowAt 0 rfl).cap
 have st1:=o.xX 0
 have f:=o.freeze (c:=Cy) (l:=([[97,102,116,101,114],[97,115,115,101,114,116],[99,97,115,101],[99,104,97,110],[101,108,115,101],[105,102],[109,97,105,110],[112,114,105,110,116],[112,114,111,99],[114,97,110,100,111,109],[115,101,108,101,99,116],[115,107,105,112],[115,108,101,101,112],[115,116,97,114,116],[115,116,111,112],[118,97,114],[119,104,101,110],[119,104,105,108,101]]:List (List UInt8))) 0 rfl (fun b hb=>by simp at hb) (el.st (st.trans st1))
 have o:=o.erase 0
 exact⟨([[97,102,116,101,114],[97,115,115,101,114,116],[99,97,115,101],[99,104,97,110],[101,108,115,101],[105,102],[109,97,105,110],[112,114,105,110,116],[112,114,111,99],[114,97,110,100,111,109],[115,101,108,101,99,116],[115,107,105,112],[115,108,101,101,112],[115,116,97,114,116],[115,116,111,112],[118,97,114],[119,104,101,110],[119,104,105,108,101]]:List (List UInt8)),h,⟨_,_,rfl,le,(f.st (Mem.Awg (ps:=[]) (m0:=m)))⟩,o.done⟩
def Hb (xq:List (List UInt8)) (target:List UInt8) (K:Int->Bool->Prop):Prop:=
 ∃(I:Int->Int->Nat->Prop),(∃n,I 0 (xq.length:Int) n)/\
 ∀(i:Int) (j:Int) (n:Nat),I i j n->
 cond (decide (i<j))
 ((0:Int)<=1/\
 ((0:Int)<=(IntKind.i64.wrap ((IntKind.u64.wrap (IntKind.i64.wrap (i+j))).fdiv (2^(min 1 IntKind.u64.bits))))/\(IntKind.i64.wrap ((IntKind.u64.wrap (IntKind.i64.wrap (i+j))).fdiv (2^(min 1 IntKind.u64.bits))))<(xq.length:Int))/\
 ∀x,xq[(IntKind.i64.wrap ((IntKind.u64.wrap (IntKind.i64.wrap (i+j))).fdiv (2^(min 1 IntKind.u64.bits)))).toNat]? =some x->
 J0 x target (fun x1=>
 cond (x1)
 (∃n1,n1<n/\I (IntKind.i64.wrap ((IntKind.i64.wrap ((IntKind.u64.wrap (IntKind.i64.wrap (i+j))).fdiv (2^(min 1 IntKind.u64.bits))))+1)) j n1)
 (∃n2,n2<n/\I i (IntKind.i64.wrap ((IntKind.u64.wrap (IntKind.i64.wrap (i+j))).fdiv (2^(min 1 IntKind.u64.bits)))) n2)))
 (cond (decide (i<(xq.length:Int)))
 (((0:Int)<=i/\i<(xq.length:Int))/\
 ∀x2,xq[i.toNat]? =some x2->
 cond (x2==target)
 (K i true)
 (((0:Int)<=i/\i<(xq.length:Int))/\
 ∀x3,xq[i.toNat]? =some x3->
 E9 x3 (fun x4=>
 cond (x4)
 (E9 target (fun x5=>
 K i x5))
 (K i false))))
 (K i false))
theorem G1 (xq:List (List UInt8)) (target:List UInt8) (K:Int->Bool->Prop) (h:Hb xq target K):C3 xq target K:=by
 intro m w hm xqA xqC Ch8 Ayy
 have o:=Mem.start hm.lt
 refine Hg xqA xq.length xqC target _ _ ?_
 obtain⟨I,⟨n3,h⟩,h2⟩:=h
 obtain⟨Z,hZ⟩:∃Z:Int->Int->World->Nat->Prop,Z=fun i j w1 n=>I i j n/\MT w m w w1 []:=⟨_,rfl⟩
 refine⟨fun i j w1=>∃n,Z i j w1 n,fun i j w1=>Awb (Z i j w1),⟨n3,?_⟩,?_⟩
 rw [hZ];exact⟨h,o,Step.refl _ _⟩
 intro _ i j w1 hIZ
 obtain⟨n,hnn⟩:∃n,n=Awb (Z i j w1):=⟨_,rfl⟩
 have hIZ:=C2 hIZ
 rw [←hnn,hZ]at hIZ
 obtain⟨h,o,st⟩:=hIZ
 have h:=h2 i j n h
 refine Ad (fun h=> ?_) (fun h=> ?_) h
 refine⟨h.1,?_⟩
 have h:=And.right h
 obtain⟨hi,h⟩:=h
 obtain⟨p,x,cs,hp,he,hc,hr⟩:=(Ayy.st st).elem hi
 obtain rfl:=hr
 have h:=h x he
 refine⟨hi,An hp ?_⟩
 refine⟨_,(Ae.head hc.2),?_⟩
 refine Aa (h _ w1 (o.mn hm)) ?_
 rintro _ w2 ⟨x1,h,rfl,ke⟩
 obtain⟨st1,o⟩:=o.dE ke
 refine⟨_,rfl,?_⟩
 refine Ad (fun h=> ?_) (fun h=> ?_) h
 obtain⟨n1,hl,h⟩:=h
 exact B8 hnn (show Z _ _ w2 n1 from(by rw [hZ];exact⟨h,o,(st.trans st1)⟩)) hl
 obtain⟨n2,hl1,h⟩:=h
 exact B8 hnn (show Z _ _ w2 n2 from(by rw [hZ];exact⟨h,o,(st.trans st1)⟩)) hl1
 refine Ad (fun h=> ?_) (fun h=> ?_) h
 obtain⟨hi1,h⟩:=h
 obtain⟨p1,x2,cs1,hp1,he1,hc1,hr1⟩:=(Ayy.st st).elem hi1
 obtain rfl:=hr1
 have h:=h x2 he1
 refine⟨hi1,An hp1 ?_⟩
 refine⟨_,(Ae.head hc1.2),?_⟩
 refine Ad (fun h=> ?_) (fun h=> ?_) h
 exact⟨i,true,h,rfl,o.done⟩
 obtain⟨hi2,h⟩:=h
 obtain⟨p2,x3,cs2,hp2,he2,hc2,hr2⟩:=(Ayy.st st).elem hi2
 obtain rfl:=hr2
 have h:=h x3 he2
 refine⟨hi2,An hp2 ?_⟩
 refine⟨_,(Ae.head hc2.2),?_⟩
 refine Aa (h _ w1 (o.mn hm)) ?_
 rintro _ w3 ⟨x4,h,rfl,ke1⟩
 obtain⟨st2,o⟩:=o.dE ke1
 refine⟨_,rfl,?_⟩
 refine Ad (fun h=> ?_) (fun h=> ?_) h
 refine Aa (h _ w3 (o.mn hm)) ?_
 rintro _ w4 ⟨x5,h,rfl,ke2⟩
 obtain⟨st3,o⟩:=o.dE ke2
 refine⟨_,rfl,?_⟩
 exact⟨i,x5,h,rfl,o.done⟩
 exact⟨i,false,h,rfl,o.done⟩
 exact⟨i,false,h,rfl,o.done⟩
def Rn (xq:List UInt8) (y:List UInt8) (K:Bool->Prop):Prop:=
 Gl xq (fun x=>
 cond (x)
 (Gl y (fun x1=>
 cond (!x1)
 (K true)
 (K (Op.bytesLess xq y))))
 (K (Op.bytesLess xq y)))
theorem Qc (xq:List UInt8) (y:List UInt8) (K:Bool->Prop) (h:Rn xq y K):J0 xq y K:=by
 intro m w hm
 have o:=Mem.start hm.lt
 refine Se xq y _ _ ?_
 refine Aa (h _ w (o.mn hm)) ?_
 rintro _ w1 ⟨x,h,rfl,ke⟩
 obtain⟨st,o⟩:=o.dE ke
 refine⟨_,rfl,?_⟩
 refine Ad (fun h=> ?_) (fun h=> ?_) h
 refine Aa (h _ w1 (o.mn hm)) ?_
 rintro _ w2 ⟨x1,h,rfl,ke1⟩
 obtain⟨st1,o⟩:=o.dE ke1
 refine⟨_,rfl,?_⟩
 refine Ad (fun h=> ?_) (fun h=> ?_) h
 exact⟨true,h,rfl,o.done⟩
 exact⟨(Op.bytesLess xq y),h,rfl,o.done⟩
 exact⟨(Op.bytesLess xq y),h,rfl,o.done⟩
def Jk (xq:List UInt8) (K:Bool->Prop):Prop:=
 K (!(xq==xq))
theorem M9 (xq:List UInt8) (K:Bool->Prop) (h:Jk xq K):E9 xq K:=by
 intro m w hm
 have o:=Mem.start hm.lt
 refine Oh xq _ _ ?_
 exact⟨(!(xq==xq)),h,rfl,o.done⟩
def K9 (xq:List UInt8) (K:Bool->Prop):Prop:=
 K (!(xq==xq))
theorem Pf (xq:List UInt8) (K:Bool->Prop) (h:K9 xq K):Gl xq K:=by
 intro m w hm
 have o:=Mem.start hm.lt
 refine Rm xq _ _ ?_
 exact⟨(!(xq==xq)),h,rfl,o.done⟩
def Qd (op:Int) (K:Int->Prop):Prop:=
 cond (op==17)
 (K 1)
 (cond (op==16)
 (K 2)
 (cond (((decide (op>=10))&&(decide (op<=15))))
 (K 3)
 (cond (((op==5)||(op==6)))
 (K 4)
 (cond (((decide (op>=7))&&(decide (op<=9))))
 (K 5)
 (cond (((op==3)||(op==4)))
 (K 6)
 (cond (((op==1)||(op==2)))
 (K 7)
 (K 0)))))))
theorem Xb (op:Int) (K:Int->Prop) (h:Qd op K):Jv op K:=by
 intro m w hm
 have o:=Mem.start hm.lt
 refine Aaf op _ _ ?_
 refine Ad (fun h=> ?_) (fun h=> ?_) h
 exact⟨1,h,rfl,o.done⟩
 refine Ad (fun h=> ?_) (fun h=> ?_) h
 exact⟨2,h,rfl,o.done⟩
 intro _
 refine Ad (fun h=> ?_) (fun h=> ?_) h
 exact⟨3,h,rfl,o.done⟩
 intro _
 refine Ad (fun h=> ?_) (fun h=> ?_) h
 exact⟨4,h,rfl,o.done⟩
 intro _
 refine Ad (fun h=> ?_) (fun h=> ?_) h
 exact⟨5,h,rfl,o.done⟩
 intro _
 refine Ad (fun h=> ?_) (fun h=> ?_) h
 exact⟨6,h,rfl,o.done⟩
 intro _
 refine Ad (fun h=> ?_) (fun h=> ?_) h
 exact⟨7,h,rfl,o.done⟩
 exact⟨0,h,rfl,o.done⟩
def Ade (aq:List Aj) (bq:List Aj) (K:Bool->Prop):Prop:=
 cond ((aq.length:Int) !=(bq.length:Int))
 (K false)
 (∃(I:Int->Nat->Prop),(∃n,I 0 n)/\
 ∀(i:Int) (n:Nat),I i n->
 cond (decide (i<(aq.length:Int)))
 (∃(J:Bool->Prop),
 (((0:Int)<=i/\i<(aq.length:Int))/\
 ∀x1,aq[i.toNat]? =some x1->
 ((0:Int)<=i/\i<(bq.length:Int))/\
 ∀x2,bq[i.toNat]? =some x2->
 cond (x1.op !=x2.op)
 (J true)
 (((0:Int)<=i/\i<(aq.length:Int))/\
 ∀x3,aq[i.toNat]? =some x3->
 ((0:Int)<=i/\i<(bq.length:Int))/\
 ∀x4,bq[i.toNat]? =some x4->
 cond (!(x3.name==x4.name))
 (J true)
 (((0:Int)<=i/\i<(aq.length:Int))/\
 ∀x5,aq[i.toNat]? =some x5->
 ((0:Int)<=i/\i<(bq.length:Int))/\
 ∀x6,bq[i.toNat]? =some x6->
 cond (x5.n !=x6.n)
 (J true)
 (((0:Int)<=i/\i<(aq.length:Int))/\
 ∀x7,aq[i.toNat]? =some x7->
 ((0:Int)<=i/\i<(bq.length:Int))/\
 ∀x8,bq[i.toNat]? =some x8->
 J (x7.kids !=x8.kids)))))/\
 ∀(x:Bool),J x->
 cond (x)
 (K false)
 (∃n1,n1<n/\I (IntKind.i64.wrap (i+1)) n1))
 (K true))
theorem Aas (aq:List Aj) (bq:List Aj) (K:Bool->Prop) (h:Ade aq bq K):Si aq bq K:=by
 intro m w hm aqA aqC Ch9 Bkm bqA bqC Cia Bkn
 have o:=Mem.start hm.lt
 refine Afn aqA aq.length aqC bqA bq.length bqC _ _ ?_
 refine Ad (fun h=> ?_) (fun h=> ?_) h
 exact⟨false,h,rfl,o.done⟩
 obtain⟨I,⟨n2,h⟩,h2⟩:=h
 obtain⟨Z,hZ⟩:∃Z:Int->World->Nat->Prop,Z=fun i w1 n=>I i n/\MT w m w w1 []:=⟨_,rfl⟩
 refine⟨fun i w1=>∃n,Z i w1 n,fun i w1=>Awb (Z i w1),⟨n2,?_⟩,?_⟩
 rw [hZ];exact⟨h,o,Step.refl _ _⟩
 intro _ i w1 hIZ
 obtain⟨n,hnn⟩:∃n,n=Awb (Z i w1):=⟨_,rfl⟩
 have hIZ:=C2 hIZ
 rw [←hnn,hZ]at hIZ
 obtain⟨h,o,st⟩:=hIZ
 have h:=h2 i n h
 refine Ad (fun h=> ?_) (fun h=> ?_) h
 obtain⟨J,h,h2⟩:=h
 refine⟨fun x w2=>J x/\MT w m w1 w2 [],?_,?_⟩
 intro w3 hw3
 obtain⟨st2,o⟩:=o.dD hw3
 obtain⟨hi,h⟩:=h
 obtain⟨p,x1,cs,hp,he,hc,hr⟩:=(Bkm.st (st.trans st2)).elem hi
 obtain rfl:=Bv hr
 have h:=h x1 he
 refine⟨hi,An hp ?_⟩
 refine⟨_,(Ae.head hc.2),?_⟩
 obtain⟨hi1,h⟩:=h
 obtain⟨p1,x2,cs1,hp1,he1,hc1,hr1⟩:=(Bkn.st (st.trans st2)).elem hi1
 obtain rfl:=Bv hr1
 have h:=h x2 he1
 refine⟨hi1,An hp1 ?_⟩
 refine⟨_,(Ae.head hc1.2),?_⟩
 refine Ad (fun h=> ?_) (fun h=> ?_) h
 exact⟨h,o,st2⟩
 obtain⟨hi2,h⟩:=h
 obtain⟨p2,x3,cs2,hp2,he2,hc2,hr2⟩:=(Bkm.st (st.trans st2)).elem hi2
 obtain rfl:=Bv hr2
 have h:=h x3 he2
 refine⟨hi2,An hp2 ?_⟩
 refine⟨_,hc2.2 1 (Nat.le_of_ble_eq_true rfl),?_⟩
 obtain⟨hi3,h⟩:=h
 obtain⟨p3,x4,cs3,hp3,he3,hc3,hr3⟩:=(Bkn.st (st.trans st2)).elem hi3
 obtain rfl:=Bv hr3
 have h:=h x4 he3
 refine⟨hi3,An hp3 ?_⟩
 refine⟨_,hc3.2 1 (Nat.le_of_ble_eq_true rfl),?_⟩
 refine Ad (fun h=> ?_) (fun h=> ?_) h
 exact⟨h,o,st2⟩
 obtain⟨hi4,h⟩:=h
 obtain⟨p4,x5,cs4,hp4,he4,hc4,hr4⟩:=(Bkm.st (st.trans st2)).elem hi4
 obtain rfl:=Bv hr4
 have h:=h x5 he4
 refine⟨hi4,An hp4 ?_⟩
 refine⟨_,hc4.2 2 (Nat.le_of_ble_eq_true rfl),?_⟩
 obtain⟨hi5,h⟩:=h
 obtain⟨p5,x6,cs5,hp5,he5,hc5,hr5⟩:=(Bkn.st (st.trans st2)).elem hi5
 obtain rfl:=Bv hr5
 have h:=h x6 he5
 refine⟨hi5,An hp5 ?_⟩
 refine⟨_,hc5.2 2 (Nat.le_of_ble_eq_true rfl),?_⟩
 refine Ad (fun h=> ?_) (fun h=> ?_) h
 exact⟨h,o,st2⟩
 obtain⟨hi6,h⟩:=h
 obtain⟨p6,x7,cs6,hp6,he6,hc6,hr6⟩:=(Bkm.st (st.trans st2)).elem hi6
 obtain rfl:=Bv hr6
 have h:=h x7 he6
 refine⟨hi6,An hp6 ?_⟩
 refine⟨_,hc6.2 3 (Nat.le_of_ble_eq_true rfl),?_⟩
 obtain⟨hi7,h⟩:=h
 obtain⟨p7,x8,cs7,hp7,he7,hc7,hr7⟩:=(Bkn.st (st.trans st2)).elem hi7
 obtain rfl:=Bv hr7
 have h:=h x8 he7
 refine⟨hi7,An hp7 ?_⟩
 refine⟨_,hc7.2 3 (Nat.le_of_ble_eq_true rfl),?_⟩
 exact⟨h,o,st2⟩
 rintro _ x w2 ⟨hJ,o,st1⟩
 have h:=h2 x hJ
 refine Ad (fun h=> ?_) (fun h=> ?_) h
 exact⟨false,h,rfl,o.done⟩
 obtain⟨n1,hl,h⟩:=h
 exact B8 hnn (show Z _ w2 n1 from(by rw [hZ];exact⟨h,o,(st.trans st1)⟩)) hl
 exact⟨true,h,rfl,o.done⟩
def Adf (xq:Aj) (kids:Int) (K:Bool->Prop):Prop:=
 Yu xq.name (fun x=>
 cond (x)
 (cond (xq.n==0)
 (K (xq.kids==kids))
 (K false))
 (K false))
theorem Aat (xq:Aj) (kids:Int) (K:Bool->Prop) (h:Adf xq kids K):Yt xq kids K:=by
 intro m w hm Axs Ayy
 obtain rfl:=Bv Ayy
 have o:=Mem.start hm.lt
 refine Afp _ _ _ _ _ kids _ _ ?_
 intro b w1 hb hw1
 obtain⟨st,o⟩:=o.dB hb hw1
 refine⟨_,(o.at 0 rfl).cell rfl,?_⟩
 refine Aa (h _ w1 (o.mn hm)) ?_
 rintro _ w2 ⟨x,h,rfl,ke⟩
 obtain⟨st1,o⟩:=o.dE ke
 refine⟨_,rfl,?_⟩
 refine Ad (fun h=> ?_) (fun h=> ?_) h
 refine⟨_,(o.at 0 rfl).cell rfl,?_⟩
 refine Ad (fun h=> ?_) (fun h=> ?_) h
 refine⟨_,(o.at 0 rfl).cell rfl,?_⟩
 exact⟨(xq.kids==kids),h,rfl,o.done⟩
 exact⟨false,h,rfl,o.done⟩
 exact⟨false,h,rfl,o.done⟩
def Aip (toks:List Aq) (atx:Int) (sx:List UInt8) (K:Bool->Prop):Prop:=
 Dp toks atx (fun x=>
 cond (x.kind==3)
 (K (x.text==sx))
 (cond (x.kind==4)
 (K (x.text==sx))
 (K false)))
theorem Agf (toks:List Aq) (atx:Int) (sx:List UInt8) (K:Bool->Prop) (h:Aip toks atx sx K):Cm toks atx sx K:=by
 intro m w hm Av4 Av5 Av1 Av2
 have o:=Mem.start hm.lt
 refine Ak6 Av4 toks.length Av5 atx sx _ _ ?_
 refine Aa (h _ w (o.mn hm) _ _ Av1 Av2) ?_
 rintro _ w1 ⟨x,h,⟨cs,rfl,f⟩,ke⟩
 obtain⟨st,o⟩:=o.dE ke
 obtain rfl:=Dk f
 refine⟨_,_,_,_,rfl,?_⟩
 intro b w2 hb hw2
 obtain⟨st1,o⟩:=o.dB hb hw2
 refine⟨o.wr 0 rfl rfl,fun w3 hw3=> ?_⟩
 obtain⟨st2,o⟩:=o.dSs 0 hw3 rfl
 refine⟨_,(o.at 0 rfl).cell rfl,?_⟩
 refine Ad (fun h=> ?_) (fun h=> ?_) h
 refine⟨_,(o.at 0 rfl).cell rfl,?_⟩
 exact⟨(x.text==sx),h,rfl,o.done⟩
 refine⟨_,(o.at 0 rfl).cell rfl,?_⟩
 refine Ad (fun h=> ?_) (fun h=> ?_) h
 refine⟨_,(o.at 0 rfl).cell rfl,?_⟩
 exact⟨(x.text==sx),h,rfl,o.done⟩
 exact⟨false,h,rfl,o.done⟩
def Adg (atx:Int) (K:Ai->Prop):Prop:=
 K (⟨[],0,atx,0⟩:Ai)
theorem Aau (atx:Int) (K:Ai->Prop) (h:Adg atx K):D6 atx K:=by
 intro m w hm
 have o:=Mem.start hm.lt
 refine Afr atx _ _ ?_
 intro b w1 hb hw1
 obtain⟨st,o⟩:=o.dB hb hw1
 refine⟨o.wr 0 rfl rfl,fun w2 hw2=> ?_⟩
 obtain⟨st1,o⟩:=o.dSs 0 hw2 rfl
 refine⟨_,_,_,_,_,_,(o.at 0 rfl).whole,?_⟩
 exact⟨(⟨[],0,atx,0⟩:Ai),h,⟨_,rfl,(Ac (⟨[],0,atx,0⟩:Ai) ⟨(Nat.le_refl _),(SlR.nil _ _ _ _)⟩)⟩,o.done⟩
def Agg (toks:List Aq) (atx:Int) (K:Ai->Prop):Prop:=
 D6 atx (fun x=>
 Db x toks (fun r r1=>
 ∃(J:(List Aj)->Int->Int->Int->Prop),
 (∃(J1:Bool->Prop),
 (cond (r.e_==0)
 (Cm toks r.at_ [91] (fun x2=>
 J1 x2))
 (J1 false))/\
 ∀(x1:Bool),J1 x1->
 cond (x1)
 (Ak r toks [91] (fun x3=>
 Bj x3 toks (fun x4=>
 Ak x4 toks [93] (fun x5=>
 J x5.l x5.n x5.at_ x5.e_))))
 (J r.l r.n r.at_ r.e_))/\
 ∀(l:List Aj) (n:Int) (Av7:Int) (ex:Int),J l n Av7 ex->
 Dp toks atx (fun x6=>
 Ay (⟨l,n,Av7,ex⟩:Ai) (⟨33,r1,0,0,x6.at_⟩:Aj) (fun x7=>
 K x7))))
theorem Adh (toks:List Aq) (atx:Int) (K:Ai->Prop) (h:Agg toks atx K):Uz toks atx K:=by
 intro m w hm Av4 Av5 Av1 Av2
 have o:=Mem.start hm.lt
 refine Aia Av4 toks.length Av5 atx _ _ ?_
 intro b w1 hb hw1
 obtain⟨st,o⟩:=o.dB hb hw1
 refine Aa (h _ w1 (o.mn hm)) ?_
 rintro _ w2 ⟨x,h,⟨cs,rfl,f⟩,ke⟩
 obtain⟨st1,o⟩:=o.dE ke
 obtain⟨a,c,rfl,⟨le,f1⟩⟩:=Af f
 refine⟨_,_,_,_,_,_,rfl,?_⟩
 refine Aa (h _ w2 (o.mn hm) _ (Ac x ⟨le,f1⟩) _ _ Av1 (Av2.st (st.trans st1))) ?_
 rintro _ w3 ⟨r,r1,h,⟨cs1,rfl,f2⟩,ke1⟩
 obtain⟨st2,o⟩:=o.dE ke1
 obtain⟨a1,c1,rfl,⟨le1,f3⟩⟩:=Af f2
 refine⟨_,_,_,_,_,_,_,rfl,?_⟩
 intro b1 w4 hb1 hw4
 obtain⟨st3,o⟩:=o.dB hb1 hw4
 refine⟨o.wr 0 rfl rfl,fun w5 hw5=> ?_⟩
 obtain⟨st4,o⟩:=o.dSs 0 hw5 rfl
 obtain⟨J,h,h2⟩:=h
 refine⟨fun w6=>∃(l:List Aj) (n:Int) (Av7:Int) (ex:Int) (a2:Option Addr) (c2:Nat),J l n Av7 ex/\(l.length<=c2/\SlR A4 (ms [.box b1 [.slice a2 l.length c2,.q n,.q Av7,.q ex],.box b [.slice none 0 0,.q 0,.q 0,.q 0]] m) w6 a2 l)/\MS w m w5 [.box b1 [.slice a1 r.l.length c1,.q r.n,.q r.at_,.q r.e_],.box b [.slice none 0 0,.q 0,.q 0,.q 0]] w6 [.box b1 [.slice a2 l.length c2,.q n,.q Av7,.q ex],.box b [.slice none 0 0,.q 0,.q 0,.q 0]],?_,?_⟩
 obtain⟨J1,h,h2⟩:=h
 refine⟨fun x1 w7=>J1 x1/\MT w m w5 w7 [.box b1 [.slice a1 r.l.length c1,.q r.n,.q r.at_,.q r.e_],.box b [.slice none 0 0,.q 0,.q 0,.q 0]],?_,?_⟩
 refine⟨_,(o.at 0 rfl).cell rfl,?_⟩
 refine Ad (fun h=> ?_) (fun h=> ?_) h
 refine⟨_,(o.at 0 rfl).cell rfl,?_⟩
 have sT:=(((st.trans st1).trans st2).trans st3).trans st4
 refine Aa (h _ w5 (o.mn hm) _ _ Av1 (Av2.st sT)) ?_
 rintro _ w8 ⟨x2,h,rfl,ke2⟩
 obtain⟨st7,o⟩:=o.dE ke2
 refine⟨_,rfl,?_⟩
 exact⟨h,o,st7⟩
 exact⟨h,o,Step.refl _ _⟩
 rintro _ x1 w7 ⟨hJ,o,st6⟩
 have h:=h2 x1 hJ
 refine Ad (fun h=> ?_) (fun h=> ?_) h
 refine⟨_,_,_,_,_,_,(o.at 0 rfl).whole,?_⟩
 have sT1:=(st3.trans st4).trans st6
 have sT2:=((((st.trans st1).trans st2).trans st3).trans st4).trans st6
 refine Aa (h _ w7 (o.mn hm) _ (Ac r ⟨le1,(f3.st sT1)⟩) _ _ Av1 (Av2.st sT2)) ?_
 rintro _ w9 ⟨x3,h,⟨cs2,rfl,f5⟩,ke3⟩
 obtain⟨st8,o⟩:=o.dE ke3
 obtain⟨a3,c3,rfl,⟨le3,f6⟩⟩:=Af f5
 refine⟨_,_,_,_,_,_,rfl,?_⟩
 have sT3:=sT2.trans st8
 refine Aa (h _ w9 (o.mn hm) _ (Ac x3 ⟨le3,f6⟩) _ _ Av1 (Av2.st sT3)) ?_
 rintro _ w10 ⟨x4,h,⟨cs3,rfl,f7⟩,ke4⟩
 obtain⟨st9,o⟩:=o.dE ke4
 obtain⟨a4,c4,rfl,⟨le4,f8⟩⟩:=Af f7
 refine⟨_,_,_,_,_,_,rfl,?_⟩
 have sT4:=sT3.trans st9
 refine Aa (h _ w10 (o.mn hm) _ (Ac x4 ⟨le4,f8⟩) _ _ Av1 (Av2.st sT4)) ?_
 rintro _ w11 ⟨x5,h,⟨cs4,rfl,f9⟩,ke5⟩
 obtain⟨Awf,o⟩:=o.dE ke5
 obtain⟨a5,c5,rfl,⟨le5,f10⟩⟩:=Af f9
 refine⟨_,_,_,_,_,_,rfl,?_⟩
 refine⟨o.wr 0 rfl rfl,fun w12 Axz=> ?_⟩
 obtain⟨Awi,o⟩:=o.dSs 0 Axz rfl
 have sT5:=(((st6.trans st8).trans st9).trans Awf).trans Awi
 exact⟨x5.l,x5.n,x5.at_,x5.e_,a5,c5,h,⟨le5,(f10.st Awi)⟩,o,sT5⟩
 have sT6:=(st3.trans st4).trans st6
 exact⟨r.l,r.n,r.at_,r.e_,a1,c1,h,⟨le1,(f3.st sT6)⟩,o,st6⟩
 rintro _ w6 ⟨l,n,Av7,ex,a2,c2,hJ,⟨le2,f4⟩,o,st5⟩
 have h:=h2 l n Av7 ex hJ
 intro w13 Ayn
 obtain⟨Awr,o⟩:=o.dD Ayn
 have ox:=o
 refine⟨fun u=>Am [] w13 u,Am.refl _ _,?_⟩
 refine⟨_,_,_,_,_,_,fun u hu=>((ox.at 0 rfl).Av8 hu (by simp)).whole,?_⟩
 have sT7:=(((((st.trans st1).trans st2).trans st3).trans st4).trans st5).trans Awr
 refine Aa (h _ w13 (o.mn hm) _ _ Av1 (Av2.st sT7)) ?_
 rintro _ w14 ⟨x6,h,⟨cs5,rfl,f11⟩,ke6⟩
 obtain⟨Awj,o⟩:=o.dE ke6
 obtain rfl:=Dk f11
 refine⟨_,_,_,_,rfl,?_⟩
 refine⟨(ke6.mono (by simp)),?_⟩
 refine Aa (h _ w14 (o.mn hm) _ (Ac (⟨l,n,Av7,ex⟩:Ai) ⟨le2,(f4.st (Awr.trans Awj))⟩) _ (Bu (⟨33,r1,0,0,x6.at_⟩:Aj))) ?_
 rintro _ w15 ⟨x7,h,⟨cs6,rfl,f12⟩,ke7⟩
 obtain⟨Aws,o⟩:=o.dE ke7
 obtain⟨a6,c6,rfl,⟨le6,f13⟩⟩:=Af f12
 refine⟨_,_,_,_,_,_,rfl,?_⟩
 refine⟨o.wr 1 rfl rfl,fun w16 Azr=> ?_⟩
 obtain⟨Awt,o⟩:=o.dSs 1 Azr rfl
 refine⟨_,_,_,_,_,_,(o.at 1 rfl).whole,?_⟩
 exact⟨x7,h,⟨_,rfl,(Ac x7 ⟨le6,(f13.st (Awt.trans Mem.Awg))⟩)⟩,o.done⟩
def Aav (toks:List Aq) (atx:Int) (deep:Int) (K:Ai->Prop):Prop:=
 D6 atx (fun x=>
 ∃(J:Bool->Prop),
 (Cm toks atx [123] (fun x2=>
 cond (x2)
 (J (decide (deep>24)))
 (J false)))/\
 ∀(x1:Bool),J x1->
 cond (x1)
 (K (⟨x.l,x.n,x.at_,5⟩:Ai))
 (Ak x toks [123] (fun x3=>
 ∃(I:(List Aj)->Int->Int->Int->Nat->Prop),(∃n1,I x3.l x3.n x3.at_ x3.e_ n1)/\
 ∀(l:List Aj) (n:Int) (Av7:Int) (ex:Int) (n1:Nat),I l n Av7 ex n1->
 ∃(J1:Bool->Prop),
 (cond (ex==0)
 (Cm toks Av7 [125] (fun x5=>
 J1 (!x5)))
 (J1 false))/\
 ∀(x4:Bool),J1 x4->
 cond (x4)
 (Ma toks Av7 deep (fun x6=>
 Dc (⟨l,n,Av7,ex⟩:Ai) x6 (fun x7=>
 ∃n2,n2<n1/\I x7.l x7.n x7.at_ x7.e_ n2)))
 (Ak (⟨l,n,Av7,ex⟩:Ai) toks [125] (fun x8=>
 Dp toks atx (fun x9=>
 Ay x8 (⟨32,[],0,0,x9.at_⟩:Aj) (fun x10=>
 K x10)))))))
theorem Qe (toks:List Aq) (atx:Int) (deep:Int) (K:Ai->Prop) (h:Aav toks atx deep K):K5 toks atx deep K:=by
 intro m w hm Av4 Av5 Av1 Av2
 have o:=Mem.start hm.lt
 refine Ac5 Av4 toks.length Av5 atx deep _ _ ?_
 intro b w1 hb hw1
 obtain⟨st,o⟩:=o.dB hb hw1
 refine Aa (h _ w1 (o.mn hm)) ?_
 rintro _ w2 ⟨x,h,⟨cs,rfl,f⟩,ke⟩
 obtain⟨st1,o⟩:=o.dE ke
 obtain⟨a,c,rfl,⟨le,f1⟩⟩:=Af f
 refine⟨_,_,_,_,_,_,rfl,?_⟩
 intro b1 w3 hb1 hw3
 obtain⟨st2,o⟩:=o.dB hb1 hw3
 refine⟨o.wr 0 rfl rfl,fun w4 hw4=> ?_⟩
 obtain⟨st3,o⟩:=o.dSs 0 hw4 rfl
 obtain⟨J,h,h2⟩:=h
 refine⟨fun x1 w5=>J x1/\MT w m w4 w5 [.box b1 [.slice a x.l.length c,.q x.n,.q x.at_,.q x.e_],.box b [.slice none 0 0,.q 0,.q 0,.q 0]],?_,?_⟩
 have sT:=((st.trans st1).trans st2).trans st3
 refine Aa (h _ w4 (o.mn hm) _ _ Av1 (Av2.st sT)) ?_
 rintro _ w6 ⟨x2,h,rfl,ke1⟩
 obtain⟨st5,o⟩:=o.dE ke1
 refine⟨_,rfl,?_⟩
 refine Ad (fun h=> ?_) (fun h=> ?_) h
 exact⟨h,o,st5⟩
 exact⟨h,o,st5⟩
 rintro _ x1 w5 ⟨hJ,o,st4⟩
 have h:=h2 x1 hJ
 refine Ad (fun h=> ?_) (fun h=> ?_) h
 refine⟨o.wr 0 rfl rfl,fun w7 hw7=> ?_⟩
 obtain⟨st6,o⟩:=o.dS 0 hw7 rfl
 refine⟨_,_,_,_,_,_,(o.at 0 rfl).whole,?_⟩
 refine⟨o.wr 1 rfl rfl,fun w8 hw8=> ?_⟩
 obtain⟨st7,o⟩:=o.dSs 1 hw8 rfl
 refine⟨_,_,_,_,_,_,(o.at 1 rfl).whole,?_⟩
 exact⟨(⟨x.l,x.n,x.at_,5⟩:Ai),h,⟨_,rfl,(Ac (⟨x.l,x.n,x.at_,5⟩:Ai) ⟨le,(f1.st (st2.trans (st3.trans (st4.trans (st6.trans (st7.trans Mem.Awg))))))⟩)⟩,o.done⟩
 refine⟨_,_,_,_,_,_,(o.at 0 rfl).whole,?_⟩
 have sT1:=(st2.trans st3).trans st4
 have sT2:=(((st.trans st1).trans st2).trans st3).trans st4
 refine Aa (h _ w5 (o.mn hm) _ (Ac x ⟨le,(f1.st sT1)⟩) _ _ Av1 (Av2.st sT2)) ?_
 rintro _ w9 ⟨x3,h,⟨cs1,rfl,f2⟩,ke2⟩
 obtain⟨st8,o⟩:=o.dE ke2
 obtain⟨a1,c1,rfl,⟨le1,f3⟩⟩:=Af f2
 refine⟨_,_,_,_,_,_,rfl,?_⟩
 refine⟨o.wr 0 rfl rfl,fun w10 Azs=> ?_⟩
 obtain⟨st9,o⟩:=o.dSs 0 Azs rfl
 obtain⟨I,⟨n3,h⟩,h2⟩:=h
 obtain⟨Z,hZ⟩:∃Z:World->Nat->Prop,Z=fun w11 n1=>∃(l:List Aj) (n:Int) (Av7:Int) (ex:Int) (a2:Option Addr) (c2:Nat),I l n Av7 ex n1/\(l.length<=c2/\SlR A4 (ms [.box b1 [.slice a2 l.length c2,.q n,.q Av7,.q ex],.box b [.slice none 0 0,.q 0,.q 0,.q 0]] m) w11 a2 l)/\MS w m w10 [.box b1 [.slice a1 x3.l.length c1,.q x3.n,.q x3.at_,.q x3.e_],.box b [.slice none 0 0,.q 0,.q 0,.q 0]] w11 [.box b1 [.slice a2 l.length c2,.q n,.q Av7,.q ex],.box b [.slice none 0 0,.q 0,.q 0,.q 0]]:=⟨_,rfl⟩
 refine⟨fun w11=>∃n1,Z w11 n1,fun w11=>Awb (Z w11),⟨n3,?_⟩,?_⟩
 rw [hZ];exact⟨x3.l,x3.n,x3.at_,x3.e_,a1,c1,h,⟨le1,(f3.st st9)⟩,o,Step.refl _ _⟩
 intro _ w11 hIZ
 obtain⟨n1,Bct⟩:∃n1,n1=Awb (Z w11):=⟨_,rfl⟩
 have hIZ:=C2 hIZ
 rw [←Bct,hZ]at hIZ
 obtain⟨l,n,Av7,ex,a2,c2,h,⟨le2,f4⟩,o,Awf⟩:=hIZ
 have h:=h2 l n Av7 ex n1 h
 obtain⟨J1,h,h2⟩:=h
 refine⟨fun x4 w12=>J1 x4/\MT w m w11 w12 [.box b1 [.slice a2 l.length c2,.q n,.q Av7,.q ex],.box b [.slice none 0 0,.q 0,.q 0,.q 0]],?_,?_⟩
 refine⟨_,(o.at 0 rfl).cell rfl,?_⟩
 refine Ad (fun h=> ?_) (fun h=> ?_) h
 refine⟨_,(o.at 0 rfl).cell rfl,?_⟩
 have sT3:=((sT2.trans st8).trans st9).trans Awf
 refine Aa (h _ w11 (o.mn hm) _ _ Av1 (Av2.st sT3)) ?_
 rintro _ w13 ⟨x5,h,rfl,ke3⟩
 obtain⟨Awr,o⟩:=o.dE ke3
 refine⟨_,rfl,?_⟩
 exact⟨h,o,Awr⟩
 exact⟨h,o,Step.refl _ _⟩
 rintro _ x4 w12 ⟨hJ,o,Awi⟩
 have h:=h2 x4 hJ
 refine Ad (fun h=> ?_) (fun h=> ?_) h
 intro w14 Azq
 obtain⟨Awj,o⟩:=o.dD Azq
 have ox:=o
 refine⟨fun u=>Am [] w14 u,Am.refl _ _,?_⟩
 refine⟨_,_,_,_,_,_,fun u hu=>((ox.at 0 rfl).Av8 hu (by simp)).whole,?_⟩
 refine⟨_,fun u hu=>((ox.at 0 rfl).Av8 hu (by simp)).cell rfl,?_⟩
 have sT4:=((((sT2.trans st8).trans st9).trans Awf).trans Awi).trans Awj
 refine Aa (h _ w14 (o.mn hm) _ _ Av1 (Av2.st sT4)) ?_
 rintro _ w15 ⟨x6,h,⟨cs2,rfl,f5⟩,ke4⟩
 obtain⟨Aws,o⟩:=o.dE ke4
 obtain⟨a3,c3,rfl,⟨le3,f6⟩⟩:=Af f5
 refine⟨_,_,_,_,_,_,rfl,?_⟩
 refine⟨(ke4.mono (by simp)),?_⟩
 have sT5:=(Awi.trans Awj).trans Aws
 refine Aa (h _ w15 (o.mn hm) _ (Ac (⟨l,n,Av7,ex⟩:Ai) ⟨le2,(f4.st sT5)⟩) _ (Ac x6 ⟨le3,f6⟩)) ?_
 rintro _ w16 ⟨x7,h,⟨cs3,rfl,f7⟩,ke5⟩
 obtain⟨Awt,o⟩:=o.dE ke5
 obtain⟨a4,c4,rfl,⟨le4,f8⟩⟩:=Af f7
 refine⟨_,_,_,_,_,_,rfl,?_⟩
 refine⟨o.wr 0 rfl rfl,fun w17 Ayo=> ?_⟩
 obtain⟨Awu,o⟩:=o.dSs 0 Ayo rfl
 obtain⟨n2,hl,h⟩:=h
 have sT6:=((((Awf.trans Awi).trans Awj).trans Aws).trans Awt).trans Awu
 exact B8 Bct (show Z w17 n2 from(by rw [hZ];exact⟨x7.l,x7.n,x7.at_,x7.e_,a4,c4,h,⟨le4,(f8.st Awu)⟩,o,sT6⟩)) hl
 refine⟨_,_,_,_,_,_,(o.at 0 rfl).whole,?_⟩
 have sT7:=(((sT2.trans st8).trans st9).trans Awf).trans Awi
 refine Aa (h _ w12 (o.mn hm) _ (Ac (⟨l,n,Av7,ex⟩:Ai) ⟨le2,(f4.st Awi)⟩) _ _ Av1 (Av2.st sT7)) ?_
 rintro _ w18 ⟨x8,h,⟨cs4,rfl,f9⟩,ke6⟩
 obtain⟨Aw7,o⟩:=o.dE ke6
 obtain⟨a5,c5,rfl,⟨le5,f10⟩⟩:=Af f9
 refine⟨_,_,_,_,_,_,rfl,?_⟩
 refine⟨o.wr 0 rfl rfl,fun w19 Bcu=> ?_⟩
 obtain⟨Axf,o⟩:=o.dSs 0 Bcu rfl
 intro w20 Bdq
 obtain⟨Axe,o⟩:=o.dD Bdq
 have ox1:=o
 refine⟨fun u=>Am [] w20 u,Am.refl _ _,?_⟩
 refine⟨_,_,_,_,_,_,fun u hu=>((ox1.at 0 rfl).Av8 hu (by simp)).whole,?_⟩
 have sT8:=((sT7.trans Aw7).trans Axf).trans Axe
 refine Aa (h _ w20 (o.mn hm) _ _ Av1 (Av2.st sT8)) ?_
 rintro _ w21 ⟨x9,h,⟨cs5,rfl,f11⟩,ke7⟩
 obtain⟨Axg,o⟩:=o.dE ke7
 obtain rfl:=Dk f11
 refine⟨_,_,_,_,rfl,?_⟩
 refine⟨(ke7.mono (by simp)),?_⟩
 have sT9:=(Axf.trans Axe).trans Axg
 refine Aa (h _ w21 (o.mn hm) _ (Ac x8 ⟨le5,(f10.st sT9)⟩) _ (Bu (⟨32,[],0,0,x9.at_⟩:Aj))) ?_
 rintro _ w22 ⟨x10,h,⟨cs6,rfl,f12⟩,ke8⟩
 obtain⟨Axu,o⟩:=o.dE ke8
 obtain⟨a6,c6,rfl,⟨le6,f13⟩⟩:=Af f12
 refine⟨_,_,_,_,_,_,rfl,?_⟩
 refine⟨o.wr 1 rfl rfl,fun w23 Bip=> ?_⟩
 obtain⟨Axv,o⟩:=o.dSs 1 Bip rfl
 refine⟨_,_,_,_,_,_,(o.at 1 rfl).whole,?_⟩
 exact⟨x10,h,⟨_,rfl,(Ac x10 ⟨le6,(f13.st (Axv.trans Mem.Awg))⟩)⟩,o.done⟩
def Y4 (toks:List Aq) (atx:Int) (deep:Int) (K:Ai->Prop):Prop:=
 Dp toks atx (fun x=>
 Cm toks atx [101,108,115,101] (fun x1=>
 cond (x1)
 (D6 atx (fun x2=>
 Ak x2 toks [101,108,115,101] (fun x3=>
 Es x3 toks (IntKind.i64.wrap (deep+1)) (fun x4=>
 Ay x4 (⟨37,[],0,0,x.at_⟩:Aj) (fun x5=>
 K x5)))))
 (D6 atx (fun x6=>
 Ak x6 toks [99,97,115,101] (fun x7=>
 ∃(J:(List Aj)->Int->Int->Int->Int->(List UInt8)->Int->Int->Int->Prop),
 (∃(J1:Bool->Prop),
 (cond (x7.e_==0)
 (Cm toks x7.at_ [119,104,101,110] (fun x9=>
 J1 x9))
 (J1 false))/\
 ∀(x8:Bool),J1 x8->
 cond (x8)
 (Ak x7 toks [119,104,101,110] (fun x10=>
 Bj x10 toks (fun x11=>
 Ak x11 toks [58] (fun x12=>
 J x12.l x12.n x12.at_ x12.e_ 0 [] 1 0 x.at_))))
 (J x7.l x7.n x7.at_ x7.e_ 0 [] 0 0 x.at_))/\
 ∀(l:List Aj) (n:Int) (Av7:Int) (ex:Int) (Op:Int) (Na:List UInt8) (N:Int) (Ki:Int) (At:Int),J l n Av7 ex Op Na N Ki At->
 ∃(J2:(List Aj)->Int->Int->Int->Int->(List UInt8)->Int->Int->Int->Prop),
 (∃(J3:Bool->Prop),
 (cond (ex==0)
 (Cm toks Av7 [97,102,116,101,114] (fun x14=>
 J3 x14))
 (J3 false))/\
 ∀(x13:Bool),J3 x13->
 cond (x13)
 (Ak (⟨l,n,Av7,ex⟩:Ai) toks [97,102,116,101,114] (fun x15=>
 Bj x15 toks (fun x16=>
 J2 x16.l x16.n x16.at_ x16.e_ 36 Na N Ki At)))
 (J7 (⟨l,n,Av7,ex⟩:Ai) toks 35 34 (fun r r1 r2=>
 J2 r.l r.n r.at_ r.e_ r1 r2 N Ki At)))/\
 ∀(l1:List Aj) (n1:Int) (Aw5:Int) (ex1:Int) (Op1:Int) (Na1:List UInt8) (N1:Int) (Ki1:Int) (At1:Int),J2 l1 n1 Aw5 ex1 Op1 Na1 N1 Ki1 At1->
 Es (⟨l1,n1,Aw5,ex1⟩:Ai) toks (IntKind.i64.wrap (deep+1)) (fun x17=>
 Ay x17 (⟨Op1,Na1,N1,Ki1,At1⟩:Aj) (fun x18=>
 K x18)))))))
set_option maxHeartbeats 4000000 in
theorem Xc (toks:List Aq) (atx:Int) (deep:Int) (K:Ai->Prop) (h:Y4 toks atx deep K):Lw toks atx deep K:=by
 intro m w hm Av4 Av5 Av1 Av2
 have o:=Mem.start hm.lt
 refine Aah Av4 toks.length Av5 atx deep _ _ ?_
 intro b w1 hb hw1
 obtain⟨st,o⟩:=o.dB hb hw1
 refine Aa (h _ w1 (o.mn hm) _ _ Av1 (Av2.st st)) ?_
 rintro _ w2 ⟨x,h,⟨cs,rfl,f⟩,ke⟩
 obtain⟨st1,o⟩:=o.dE ke
 obtain rfl:=Dk f
 refine⟨_,_,_,_,rfl,?_⟩
 intro b1 w3 hb1 hw3
 obtain⟨st2,o⟩:=o.dB hb1 hw3
 refine⟨o.wr 0 rfl rfl,fun w4 hw4=> ?_⟩
 obtain⟨st3,o⟩:=o.dSs 0 hw4 rfl
 have sT:=((st.trans st1).trans st2).trans st3
 refine Aa (h _ w4 (o.mn hm) _ _ Av1 (Av2.st sT)) ?_
 rintro _ w5 ⟨x1,h,rfl,ke1⟩
 obtain⟨st4,o⟩:=o.dE ke1
 refine⟨_,rfl,?_⟩
 refine Ad (fun h=> ?_) (fun h=> ?_) h
 refine⟨o.wr 0 rfl rfl,fun w6 hw6=> ?_⟩
 obtain⟨st5,o⟩:=o.dS 0 hw6 rfl
 intro w7 hw7
 obtain⟨st6,o⟩:=o.dD hw7
 have ox:=o
 refine⟨fun u=>Am [] w7 u,Am.refl _ _,?_⟩
 refine⟨_,_,_,_,_,fun u hu=>((ox.at 0 rfl).Av8 hu (by simp)).whole,?_⟩
 refine Aa (h _ w7 (o.mn hm)) ?_
 rintro _ w8 ⟨x2,h,⟨cs1,rfl,f1⟩,ke2⟩
 obtain⟨st7,o⟩:=o.dE ke2
 obtain⟨a,c,rfl,⟨le,f2⟩⟩:=Af f1
 refine⟨_,_,_,_,_,_,rfl,?_⟩
 refine⟨(ke2.mono (by simp)),?_⟩
 have sT1:=(((sT.trans st4).trans st5).trans st6).trans st7
 refine Aa (h _ w8 (o.mn hm) _ (Ac x2 ⟨le,f2⟩) _ _ Av1 (Av2.st sT1)) ?_
 rintro _ w9 ⟨x3,h,⟨cs2,rfl,f3⟩,ke3⟩
 obtain⟨st8,o⟩:=o.dE ke3
 obtain⟨a1,c1,rfl,⟨le1,f4⟩⟩:=Af f3
 refine⟨_,_,_,_,_,_,rfl,?_⟩
 refine⟨((ke2.mono (by simp)).trans (ke3.mono (by simp))),?_⟩
 have sT2:=sT1.trans st8
 refine Aa (h _ w9 (o.mn hm) _ (Ac x3 ⟨le1,f4⟩) _ _ Av1 (Av2.st sT2)) ?_
 rintro _ w10 ⟨x4,h,⟨cs3,rfl,f5⟩,ke4⟩
 obtain⟨st9,o⟩:=o.dE ke4
 obtain⟨a2,c2,rfl,⟨le2,f6⟩⟩:=Af f5
 refine⟨_,_,_,_,_,_,rfl,?_⟩
 refine⟨(((ke2.mono (by simp)).trans (ke3.mono (by simp))).trans (ke4.mono (by simp))),?_⟩
 refine Aa (h _ w10 (o.mn hm) _ (Ac x4 ⟨le2,f6⟩) _ (Bu (⟨37,[],0,0,x.at_⟩:Aj))) ?_
 rintro _ w11 ⟨x5,h,⟨cs4,rfl,f7⟩,ke5⟩
 obtain⟨Awf,o⟩:=o.dE ke5
 obtain⟨a3,c3,rfl,⟨le3,f8⟩⟩:=Af f7
 refine⟨_,_,_,_,_,_,rfl,?_⟩
 refine⟨o.wr 1 rfl rfl,fun w12 Axz=> ?_⟩
 obtain⟨Awi,o⟩:=o.dSs 1 Axz rfl
 refine⟨_,_,_,_,_,_,(o.at 1 rfl).whole,?_⟩
 exact⟨x5,h,⟨_,rfl,(Ac x5 ⟨le3,(f8.st (Awi.trans Mem.Awg))⟩)⟩,o.done⟩
 refine Aa (h _ w5 (o.mn hm)) ?_
 rintro _ w13 ⟨x6,h,⟨cs5,rfl,f9⟩,ke6⟩
 obtain⟨Awr,o⟩:=o.dE ke6
 obtain⟨a4,c4,rfl,⟨le4,f10⟩⟩:=Af f9
 refine⟨_,_,_,_,_,_,rfl,?_⟩
 have sT3:=(sT.trans st4).trans Awr
 refine Aa (h _ w13 (o.mn hm) _ (Ac x6 ⟨le4,f10⟩) _ _ Av1 (Av2.st sT3)) ?_
 rintro _ w14 ⟨x7,h,⟨cs6,rfl,f11⟩,ke7⟩
 obtain⟨Awj,o⟩:=o.dE ke7
 obtain⟨a5,c5,rfl,⟨le5,f12⟩⟩:=Af f11
 refine⟨_,_,_,_,_,_,rfl,?_⟩
 intro b2 w15 hb2 Ax7
 obtain⟨Aws,o⟩:=o.dB hb2 Ax7
 refine⟨o.wr 0 rfl rfl,fun w16 Azr=> ?_⟩
 obtain⟨Awt,o⟩:=o.dSs 0 Azr rfl
 obtain⟨J,h,h2⟩:=h
 refine⟨fun w17=>∃(l:List Aj) (n:Int) (Av7:Int) (ex:Int) (Op:Int) (Na:List UInt8) (N:Int) (Ki:Int) (At:Int) (a6:Option Addr) (c6:Nat),J l n Av7 ex Op Na N Ki At/\(l.length<=c6/\SlR A4 (ms [.box b2 [.slice a6 l.length c6,.q n,.q Av7,.q ex],.box b1 [.q Op,.s Na,.q N,.q Ki,.q At],.box b [.slice none 0 0,.q 0,.q 0,.q 0]] m) w17 a6 l)/\MS w m w16 [.box b2 [.slice a5 x7.l.length c5,.q x7.n,.q x7.at_,.q x7.e_],.box b1 [.q 0,.s [],.q 0,.q 0,.q x.at_],.box b [.slice none 0 0,.q 0,.q 0,.q 0]] w17 [.box b2 [.slice a6 l.length c6,.q n,.q Av7,.q ex],.box b1 [.q Op,.s Na,.q N,.q Ki,.q At],.box b [.slice none 0 0,.q 0,.q 0,.q 0]],?_,?_⟩
 obtain⟨J1,h,h2⟩:=h
 refine⟨fun x8 w18=>J1 x8/\MT w m w16 w18 [.box b2 [.slice a5 x7.l.length c5,.q x7.n,.q x7.at_,.q x7.e_],.box b1 [.q 0,.s [],.q 0,.q 0,.q x.at_],.box b [.slice none 0 0,.q 0,.q 0,.q 0]],?_,?_⟩
 refine⟨_,(o.at 0 rfl).cell rfl,?_⟩
 refine Ad (fun h=> ?_) (fun h=> ?_) h
 refine⟨_,(o.at 0 rfl).cell rfl,?_⟩
 have sT4:=((sT3.trans Awj).trans Aws).trans Awt
 refine Aa (h _ w16 (o.mn hm) _ _ Av1 (Av2.st sT4)) ?_
 rintro _ w19 ⟨x9,h,rfl,ke8⟩
 obtain⟨Axf,o⟩:=o.dE ke8
 refine⟨_,rfl,?_⟩
 exact⟨h,o,Axf⟩
 exact⟨h,o,Step.refl _ _⟩
 rintro _ x8 w18 ⟨hJ,o,Aw7⟩
 have h:=h2 x8 hJ
 refine Ad (fun h=> ?_) (fun h=> ?_) h
 refine⟨o.wr 1 rfl rfl,fun w20 Bdq=> ?_⟩
 obtain⟨Axe,o⟩:=o.dS 1 Bdq rfl
 refine⟨_,_,_,_,_,_,(o.at 0 rfl).whole,?_⟩
 have sT5:=((Aws.trans Awt).trans Aw7).trans Axe
 have sT6:=((((sT3.trans Awj).trans Aws).trans Awt).trans Aw7).trans Axe
 refine Aa (h _ w20 (o.mn hm) _ (Ac x7 ⟨le5,(f12.st sT5)⟩) _ _ Av1 (Av2.st sT6)) ?_
 rintro _ w21 ⟨x10,h,⟨cs7,rfl,f14⟩,ke9⟩
 obtain⟨Axg,o⟩:=o.dE ke9
 obtain⟨a7,c7,rfl,⟨le7,f15⟩⟩:=Af f14
 refine⟨_,_,_,_,_,_,rfl,?_⟩
 have sT7:=sT6.trans Axg
 refine Aa (h _ w21 (o.mn hm) _ (Ac x10 ⟨le7,f15⟩) _ _ Av1 (Av2.st sT7)) ?_
 rintro _ w22 ⟨x11,h,⟨cs8,rfl,f16⟩,Bad⟩
 obtain⟨Axu,o⟩:=o.dE Bad
 obtain⟨a8,c8,rfl,⟨le8,f17⟩⟩:=Af f16
 refine⟨_,_,_,_,_,_,rfl,?_⟩
 have sT8:=sT7.trans Axu
 refine Aa (h _ w22 (o.mn hm) _ (Ac x11 ⟨le8,f17⟩) _ _ Av1 (Av2.st sT8)) ?_
 rintro _ w23 ⟨x12,h,⟨cs9,rfl,f18⟩,Bcj⟩
 obtain⟨Axv,o⟩:=o.dE Bcj
 obtain⟨a9,c9,rfl,⟨le9,f19⟩⟩:=Af f18
 refine⟨_,_,_,_,_,_,rfl,?_⟩
 refine⟨o.wr 0 rfl rfl,fun w24 Bea=> ?_⟩
 obtain⟨Ayp,o⟩:=o.dSs 0 Bea rfl
 have sT9:=((((Aw7.trans Axe).trans Axg).trans Axu).trans Axv).trans Ayp
 exact⟨x12.l,x12.n,x12.at_,x12.e_,0,[],1,0,x.at_,a9,c9,h,⟨le9,(f19.st Ayp)⟩,o,sT9⟩
 have Ay7:=(Aws.trans Awt).trans Aw7
 exact⟨x7.l,x7.n,x7.at_,x7.e_,0,[],0,0,x.at_,a5,c5,h,⟨le5,(f12.st Ay7)⟩,o,Aw7⟩
 rintro _ w17 ⟨l,n,Av7,ex,Op,Na,N,Ki,At,a6,c6,hJ,⟨le6,f13⟩,o,Awu⟩
 have h:=h2 l n Av7 ex Op Na N Ki At hJ
 obtain⟨J2,h,h2⟩:=h
 refine⟨fun w25=>∃(l1:List Aj) (n1:Int) (Aw5:Int) (ex1:Int) (Op1:Int) (Na1:List UInt8) (N1:Int) (Ki1:Int) (At1:Int) (a10:Option Addr) (c10:Nat),J2 l1 n1 Aw5 ex1 Op1 Na1 N1 Ki1 At1/\(l1.length<=c10/\SlR A4 (ms [.box b2 [.slice a10 l1.length c10,.q n1,.q Aw5,.q ex1],.box b1 [.q Op1,.s Na1,.q N1,.q Ki1,.q At1],.box b [.slice none 0 0,.q 0,.q 0,.q 0]] m) w25 a10 l1)/\MS w m w17 [.box b2 [.slice a6 l.length c6,.q n,.q Av7,.q ex],.box b1 [.q Op,.s Na,.q N,.q Ki,.q At],.box b [.slice none 0 0,.q 0,.q 0,.q 0]] w25 [.box b2 [.slice a10 l1.length c10,.q n1,.q Aw5,.q ex1],.box b1 [.q Op1,.s Na1,.q N1,.q Ki1,.q At1],.box b [.slice none 0 0,.q 0,.q 0,.q 0]],?_,?_⟩
 obtain⟨J3,h,h2⟩:=h
 refine⟨fun x13 w26=>J3 x13/\MT w m w17 w26 [.box b2 [.slice a6 l.length c6,.q n,.q Av7,.q ex],.box b1 [.q Op,.s Na,.q N,.q Ki,.q At],.box b [.slice none 0 0,.q 0,.q 0,.q 0]],?_,?_⟩
 refine⟨_,(o.at 0 rfl).cell rfl,?_⟩
 refine Ad (fun h=> ?_) (fun h=> ?_) h
 refine⟨_,(o.at 0 rfl).cell rfl,?_⟩
 have Azn:=(((sT3.trans Awj).trans Aws).trans Awt).trans Awu
 refine Aa (h _ w17 (o.mn hm) _ _ Av1 (Av2.st Azn)) ?_
 rintro _ w27 ⟨x14,h,rfl,Bdr⟩
 obtain⟨Azo,o⟩:=o.dE Bdr
 refine⟨_,rfl,?_⟩
 exact⟨h,o,Azo⟩
 exact⟨h,o,Step.refl _ _⟩
 rintro _ x13 w26 ⟨hJ,o,Ax8⟩
 have h:=h2 x13 hJ
 refine Ad (fun h=> ?_) (fun h=> ?_) h
 refine⟨o.wr 1 rfl rfl,fun w28 Bcv=> ?_⟩
 obtain⟨Ayd,o⟩:=o.dS 1 Bcv rfl
 refine⟨_,_,_,_,_,_,(o.at 0 rfl).whole,?_⟩
 have Azw:=(((((sT3.trans Awj).trans Aws).trans Awt).trans Awu).trans Ax8).trans Ayd
 refine Aa (h _ w28 (o.mn hm) _ (Ac (⟨l,n,Av7,ex⟩:Ai) ⟨le6,(f13.st (Ax8.trans Ayd))⟩) _ _ Av1 (Av2.st Azw)) ?_
 rintro _ w29 ⟨x15,h,⟨Bl1,rfl,f21⟩,Bds⟩
 obtain⟨Ay8,o⟩:=o.dE Bds
 obtain⟨a11,c11,rfl,⟨Be3,f22⟩⟩:=Af f21
 refine⟨_,_,_,_,_,_,rfl,?_⟩
 have Ba5:=Azw.trans Ay8
 refine Aa (h _ w29 (o.mn hm) _ (Ac x15 ⟨Be3,f22⟩) _ _ Av1 (Av2.st Ba5)) ?_
 rintro _ w30 ⟨x16,h,⟨Bl2,rfl,f23⟩,Bdt⟩
 obtain⟨Ayv,o⟩:=o.dE Bdt
 obtain⟨a12,c12,rfl,⟨Bcr,f24⟩⟩:=Af f23
 refine⟨_,_,_,_,_,_,rfl,?_⟩
 refine⟨o.wr 0 rfl rfl,fun w31 Bmn=> ?_⟩
 obtain⟨Ayw,o⟩:=o.dSs 0 Bmn rfl
 have Bas:=(((Ax8.trans Ayd).trans Ay8).trans Ayv).trans Ayw
 exact⟨x16.l,x16.n,x16.at_,x16.e_,36,Na,N,Ki,At,a12,c12,h,⟨Bcr,(f24.st Ayw)⟩,o,Bas⟩
 refine⟨_,_,_,_,_,_,(o.at 0 rfl).whole,?_⟩
 have Azy:=((((sT3.trans Awj).trans Aws).trans Awt).trans Awu).trans Ax8
 refine Aa (h _ w26 (o.mn hm) _ (Ac (⟨l,n,Av7,ex⟩:Ai) ⟨le6,(f13.st Ax8)⟩) _ _ Av1 (Av2.st Azy)) ?_
 rintro _ w32 ⟨r,r1,r2,h,⟨Bl7,rfl,f25⟩,Ba6⟩
 obtain⟨Bae,o⟩:=o.dE Ba6
 obtain⟨a13,c13,rfl,⟨Bd4,f26⟩⟩:=Af f25
 refine⟨_,_,_,_,_,_,_,_,rfl,?_⟩
 refine⟨o.wr 0 rfl rfl,fun w33 Bmo=> ?_⟩
 obtain⟨Baf,o⟩:=o.dSs 0 Bmo rfl
 refine⟨o.wr 1 rfl rfl,fun w34 Be0=> ?_⟩
 obtain⟨Azz,o⟩:=o.dS 1 Be0 rfl
 refine⟨o.wr 1 rfl rfl,fun w35 Biq=> ?_⟩
 obtain⟨Ayx,o⟩:=o.dS 1 Biq rfl
 have Bck:=(Baf.trans Azz).trans Ayx
 have Az0:=(((Ax8.trans Bae).trans Baf).trans Azz).trans Ayx
 exact⟨r.l,r.n,r.at_,r.e_,r1,r2,N,Ki,At,a13,c13,h,⟨Bd4,(f26.st Bck)⟩,o,Az0⟩
 rintro _ w25 ⟨l1,n1,Aw5,ex1,Op1,Na1,N1,Ki1,At1,a10,c10,hJ,⟨Ba8,f20⟩,o,Ayc⟩
 have h:=h2 l1 n1 Aw5 ex1 Op1 Na1 N1 Ki1 At1 hJ
 intro w36 Bl0
 obtain⟨Bcn,o⟩:=o.dD Bl0
 have ox1:=o
 refine⟨fun u=>Am [] w36 u,Am.refl _ _,?_⟩
 refine⟨_,_,_,_,_,_,fun u hu=>((ox1.at 0 rfl).Av8 hu (by simp)).whole,?_⟩
 refine⟨_,_,_,_,_,fun u hu=>((ox1.at 1 rfl).Av8 hu (by simp)).whole,?_⟩
 have Bcl:=(((((sT3.trans Awj).trans Aws).trans Awt).trans Awu).trans Ayc).trans Bcn
 refine Aa (h _ w36 (o.mn hm) _ (Ac (⟨l1,n1,Aw5,ex1⟩:Ai) ⟨Ba8,(f20.st Bcn)⟩) _ _ Av1 (Av2.st Bcl)) ?_
 rintro _ w37 ⟨x17,h,⟨Bmc,rfl,f27⟩,Ba7⟩
 obtain⟨Ay9,o⟩:=o.dE Ba7
 obtain⟨a14,c14,rfl,⟨Bd7,f28⟩⟩:=Af f27
 refine⟨_,_,_,_,_,_,rfl,?_⟩
 refine⟨(Ba7.mono (by simp)),?_⟩
 refine Aa (h _ w37 (o.mn hm) _ (Ac x17 ⟨Bd7,f28⟩) _ (Bu (⟨Op1,Na1,N1,Ki1,At1⟩:Aj))) ?_
 rintro _ w38 ⟨x18,h,⟨Bmf,rfl,f29⟩,Bdv⟩
 obtain⟨Bag,o⟩:=o.dE Bdv
 obtain⟨a15,c15,rfl,⟨Bcs,f30⟩⟩:=Af f29
 refine⟨_,_,_,_,_,_,rfl,?_⟩
 refine⟨o.wr 2 rfl rfl,fun w39 Bmp=> ?_⟩
 obtain⟨Az1,o⟩:=o.dSs 2 Bmp rfl
 refine⟨_,_,_,_,_,_,(o.at 2 rfl).whole,?_⟩
 exact⟨x18,h,⟨_,rfl,(Ac x18 ⟨Bcs,(f30.st (Az1.trans Mem.Awg))⟩)⟩,o.done⟩
def Agh (toks:List Aq) (atx:Int) (xq:Aj) (K:Ai->Prop):Prop:=
 D6 atx (fun x=>
 Db x toks (fun r r1=>
 Ak r toks [61] (fun x1=>
 ∃(J:(List Aj)->Int->Int->Int->Int->(List UInt8)->Int->Int->Int->Prop),
 (∃(J1:Bool->Prop),
 (cond (x1.e_==0)
 (Cm toks x1.at_ [114,97,110,100,111,109] (fun x3=>
 J1 x3))
 (J1 false))/\
 ∀(x2:Bool),J1 x2->
 cond (x2)
 (Ak x1 toks [114,97,110,100,111,109] (fun x4=>
 Ak x4 toks [40] (fun x5=>
 Bj x5 toks (fun x6=>
 Ak x6 toks [41] (fun x7=>
 J x7.l x7.n x7.at_ x7.e_ 20 r1 xq.n xq.kids xq.at_)))))
 (Bj x1 toks (fun x8=>
 J x8.l x8.n x8.at_ x8.e_ 19 r1 xq.n xq.kids xq.at_)))/\
 ∀(l:List Aj) (n:Int) (Av7:Int) (ex:Int) (Op:Int) (Na:List UInt8) (N:Int) (Ki:Int) (At:Int),J l n Av7 ex Op Na N Ki At->
 Ak (⟨l,n,Av7,ex⟩:Ai) toks [59] (fun x9=>
 Ay x9 (⟨Op,Na,N,Ki,At⟩:Aj) (fun x10=>
 K x10)))))
set_option maxHeartbeats 4000000 in
theorem Adi (toks:List Aq) (atx:Int) (xq:Aj) (K:Ai->Prop) (h:Agh toks atx xq K):U0 toks atx xq K:=by
 intro m w hm Av4 Av5 Av1 Av2 Axs Ayy
 obtain rfl:=Bv Ayy
 have o:=Mem.start hm.lt
 refine Aic Av4 toks.length Av5 atx _ _ _ _ _ _ _ ?_
 intro b w1 hb hw1
 obtain⟨st,o⟩:=o.dB hb hw1
 intro b1 w2 hb1 hw2
 obtain⟨st1,o⟩:=o.dB hb1 hw2
 refine Aa (h _ w2 (o.mn hm)) ?_
 rintro _ w3 ⟨x,h,⟨cs,rfl,f⟩,ke⟩
 obtain⟨st2,o⟩:=o.dE ke
 obtain⟨a,c,rfl,⟨le,f1⟩⟩:=Af f
 refine⟨_,_,_,_,_,_,rfl,?_⟩
 have sT:=(st.trans st1).trans st2
 refine Aa (h _ w3 (o.mn hm) _ (Ac x ⟨le,f1⟩) _ _ Av1 (Av2.st sT)) ?_
 rintro _ w4 ⟨r,r1,h,⟨cs1,rfl,f2⟩,ke1⟩
 obtain⟨st3,o⟩:=o.dE ke1
 obtain⟨a1,c1,rfl,⟨le1,f3⟩⟩:=Af f2
 refine⟨_,_,_,_,_,_,_,rfl,?_⟩
 intro b2 w5 hb2 hw5
 obtain⟨st4,o⟩:=o.dB hb2 hw5
 refine⟨o.wr 0 rfl rfl,fun w6 hw6=> ?_⟩
 obtain⟨st5,o⟩:=o.dSs 0 hw6 rfl
 refine⟨_,_,_,_,_,_,(o.at 0 rfl).whole,?_⟩
 have sT1:=((sT.trans st3).trans st4).trans st5
 refine Aa (h _ w6 (o.mn hm) _ (Ac r ⟨le1,(f3.st (st4.trans st5))⟩) _ _ Av1 (Av2.st sT1)) ?_
 rintro _ w7 ⟨x1,h,⟨cs2,rfl,f4⟩,ke2⟩
 obtain⟨st6,o⟩:=o.dE ke2
 obtain⟨a2,c2,rfl,⟨le2,f5⟩⟩:=Af f4
 refine⟨_,_,_,_,_,_,rfl,?_⟩
 refine⟨o.wr 0 rfl rfl,fun w8 hw8=> ?_⟩
 obtain⟨st7,o⟩:=o.dSs 0 hw8 rfl
 refine⟨o.wr 2 rfl rfl,fun w9 hw9=> ?_⟩
 obtain⟨st8,o⟩:=o.dS 2 hw9 rfl
 refine⟨o.wr 2 rfl rfl,fun w10 Azs=> ?_⟩
 obtain⟨st9,o⟩:=o.dS 2 Azs rfl
 obtain⟨J,h,h2⟩:=h
 refine⟨fun w11=>∃(l:List Aj) (n:Int) (Av7:Int) (ex:Int) (Op:Int) (Na:List UInt8) (N:Int) (Ki:Int) (At:Int) (a3:Option Addr) (c3:Nat),J l n Av7 ex Op Na N Ki At/\(l.length<=c3/\SlR A4 (ms [.box b2 [.slice a3 l.length c3,.q n,.q Av7,.q ex],.box b1 [.slice none 0 0,.q 0,.q 0,.q 0],.box b [.q Op,.s Na,.q N,.q Ki,.q At]] m) w11 a3 l)/\MS w m w10 [.box b2 [.slice a2 x1.l.length c2,.q x1.n,.q x1.at_,.q x1.e_],.box b1 [.slice none 0 0,.q 0,.q 0,.q 0],.box b [.q 19,.s r1,.q xq.n,.q xq.kids,.q xq.at_]] w11 [.box b2 [.slice a3 l.length c3,.q n,.q Av7,.q ex],.box b1 [.slice none 0 0,.q 0,.q 0,.q 0],.box b [.q Op,.s Na,.q N,.q Ki,.q At]],?_,?_⟩
 obtain⟨J1,h,h2⟩:=h
 refine⟨fun x2 w12=>J1 x2/\MT w m w10 w12 [.box b2 [.slice a2 x1.l.length c2,.q x1.n,.q x1.at_,.q x1.e_],.box b1 [.slice none 0 0,.q 0,.q 0,.q 0],.box b [.q 19,.s r1,.q xq.n,.q xq.kids,.q xq.at_]],?_,?_⟩
 refine⟨_,(o.at 0 rfl).cell rfl,?_⟩
 refine Ad (fun h=> ?_) (fun h=> ?_) h
 refine⟨_,(o.at 0 rfl).cell rfl,?_⟩
 have sT2:=(((sT1.trans st6).trans st7).trans st8).trans st9
 refine Aa (h _ w10 (o.mn hm) _ _ Av1 (Av2.st sT2)) ?_
 rintro _ w13 ⟨x3,h,rfl,ke3⟩
 obtain⟨Awr,o⟩:=o.dE ke3
 refine⟨_,rfl,?_⟩
 exact⟨h,o,Awr⟩
 exact⟨h,o,Step.refl _ _⟩
 rintro _ x2 w12 ⟨hJ,o,Awi⟩
 have h:=h2 x2 hJ
 refine Ad (fun h=> ?_) (fun h=> ?_) h
 refine⟨o.wr 2 rfl rfl,fun w14 Azq=> ?_⟩
 obtain⟨Awj,o⟩:=o.dS 2 Azq rfl
 refine⟨_,_,_,_,_,_,(o.at 0 rfl).whole,?_⟩
 have sT3:=(((st7.trans st8).trans st9).trans Awi).trans Awj
 have sT4:=(((((sT1.trans st6).trans st7).trans st8).trans st9).trans Awi).trans Awj
 refine Aa (h _ w14 (o.mn hm) _ (Ac x1 ⟨le2,(f5.st sT3)⟩) _ _ Av1 (Av2.st sT4)) ?_
 rintro _ w15 ⟨x4,h,⟨cs3,rfl,f7⟩,ke4⟩
 obtain⟨Aws,o⟩:=o.dE ke4
 obtain⟨a4,c4,rfl,⟨le4,f8⟩⟩:=Af f7
 refine⟨_,_,_,_,_,_,rfl,?_⟩
 have sT5:=sT4.trans Aws
 refine Aa (h _ w15 (o.mn hm) _ (Ac x4 ⟨le4,f8⟩) _ _ Av1 (Av2.st sT5)) ?_
 rintro _ w16 ⟨x5,h,⟨cs4,rfl,f9⟩,ke5⟩
 obtain⟨Awt,o⟩:=o.dE ke5
 obtain⟨a5,c5,rfl,⟨le5,f10⟩⟩:=Af f9
 refine⟨_,_,_,_,_,_,rfl,?_⟩
 have sT6:=sT5.trans Awt
 refine Aa (h _ w16 (o.mn hm) _ (Ac x5 ⟨le5,f10⟩) _ _ Av1 (Av2.st sT6)) ?_
 rintro _ w17 ⟨x6,h,⟨cs5,rfl,f11⟩,ke6⟩
 obtain⟨Awu,o⟩:=o.dE ke6
 obtain⟨a6,c6,rfl,⟨le6,f12⟩⟩:=Af f11
 refine⟨_,_,_,_,_,_,rfl,?_⟩
 have sT7:=sT6.trans Awu
 refine Aa (h _ w17 (o.mn hm) _ (Ac x6 ⟨le6,f12⟩) _ _ Av1 (Av2.st sT7)) ?_
 rintro _ w18 ⟨x7,h,⟨cs6,rfl,f13⟩,ke7⟩
 obtain⟨Aw7,o⟩:=o.dE ke7
 obtain⟨a7,c7,rfl,⟨le7,f14⟩⟩:=Af f13
 refine⟨_,_,_,_,_,_,rfl,?_⟩
 refine⟨o.wr 0 rfl rfl,fun w19 Bcu=> ?_⟩
 obtain⟨Axf,o⟩:=o.dSs 0 Bcu rfl
 have sT8:=(((((Awi.trans Awj).trans Aws).trans Awt).trans Awu).trans Aw7).trans Axf
 exact⟨x7.l,x7.n,x7.at_,x7.e_,20,r1,xq.n,xq.kids,xq.at_,a7,c7,h,⟨le7,(f14.st Axf)⟩,o,sT8⟩
 refine⟨_,_,_,_,_,_,(o.at 0 rfl).whole,?_⟩
 have sT9:=((st7.trans st8).trans st9).trans Awi
 have Ay7:=((((sT1.trans st6).trans st7).trans st8).trans st9).trans Awi
 refine Aa (h _ w12 (o.mn hm) _ (Ac x1 ⟨le2,(f5.st sT9)⟩) _ _ Av1 (Av2.st Ay7)) ?_
 rintro _ w20 ⟨x8,h,⟨cs7,rfl,f15⟩,ke8⟩
 obtain⟨Axe,o⟩:=o.dE ke8
 obtain⟨a8,c8,rfl,⟨le8,f16⟩⟩:=Af f15
 refine⟨_,_,_,_,_,_,rfl,?_⟩
 refine⟨o.wr 0 rfl rfl,fun w21 Beb=> ?_⟩
 obtain⟨Axg,o⟩:=o.dSs 0 Beb rfl
 have Azn:=(Awi.trans Axe).trans Axg
 exact⟨x8.l,x8.n,x8.at_,x8.e_,19,r1,xq.n,xq.kids,xq.at_,a8,c8,h,⟨le8,(f16.st Axg)⟩,o,Azn⟩
 rintro _ w11 ⟨l,n,Av7,ex,Op,Na,N,Ki,At,a3,c3,hJ,⟨le3,f6⟩,o,Awf⟩
 have h:=h2 l n Av7 ex Op Na N Ki At hJ
 intro w22 Azx
 obtain⟨Axu,o⟩:=o.dD Azx
 have ox:=o
 refine⟨fun u=>Am [] w22 u,Am.refl _ _,?_⟩
 refine⟨_,_,_,_,_,_,fun u hu=>((ox.at 0 rfl).Av8 hu (by simp)).whole,?_⟩
 refine⟨_,_,_,_,_,fun u hu=>((ox.at 2 rfl).Av8 hu (by simp)).whole,?_⟩
 have Azw:=(((((sT1.trans st6).trans st7).trans st8).trans st9).trans Awf).trans Axu
 refine Aa (h _ w22 (o.mn hm) _ (Ac (⟨l,n,Av7,ex⟩:Ai) ⟨le3,(f6.st Axu)⟩) _ _ Av1 (Av2.st Azw)) ?_
 rintro _ w23 ⟨x9,h,⟨cs8,rfl,f17⟩,ke9⟩
 obtain⟨Axv,o⟩:=o.dE ke9
 obtain⟨a9,c9,rfl,⟨le9,f18⟩⟩:=Af f17
 refine⟨_,_,_,_,_,_,rfl,?_⟩
 refine⟨(ke9.mono (by simp)),?_⟩
 refine Aa (h _ w23 (o.mn hm) _ (Ac x9 ⟨le9,f18⟩) _ (Bu (⟨Op,Na,N,Ki,At⟩:Aj))) ?_
 rintro _ w24 ⟨x10,h,⟨cs9,rfl,f19⟩,Bad⟩
 obtain⟨Ayp,o⟩:=o.dE Bad
 obtain⟨a10,c10,rfl,⟨Ba8,f20⟩⟩:=Af f19
 refine⟨_,_,_,_,_,_,rfl,?_⟩
 refine⟨o.wr 1 rfl rfl,fun w25 Azp=> ?_⟩
 obtain⟨Ayc,o⟩:=o.dSs 1 Azp rfl
 refine⟨_,_,_,_,_,_,(o.at 1 rfl).whole,?_⟩
 exact⟨x10,h,⟨_,rfl,(Ac x10 ⟨Ba8,(f20.st (Ayc.trans Mem.Awg))⟩)⟩,o.done⟩
end Go.Proofs.YtcakelelfklhdaaGreatDoor
