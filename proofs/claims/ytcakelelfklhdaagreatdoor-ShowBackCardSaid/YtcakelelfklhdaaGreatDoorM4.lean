/- A part of the proof: conditions of the code, contracts, the plain law. -/
import Derived.Test.YtcakelelfklhdaaGreatDoorM2
import Derived.Test.YtcakelelfklhdaaGreatDoorMapL
namespace Go.Proofs.YtcakelelfklhdaaGreatDoor
open Go.Vc Go.Lv Go.Ty
set_option maxRecDepth 10000
def Zl (sx:List UInt8) (K:Bool->Prop):Prop:=
 R1 (fun x=>
 Cx x sx (fun r r1=>
 K r1))
theorem Xo (sx:List UInt8) (K:Bool->Prop) (h:Zl sx K):Oi sx K:=by
 intro m w hm
 have o:=Mem.start hm.lt
 refine Aaq sx _ _ ?_
 refine Aa (h _ w (o.mn hm)) ?_
 rintro _ w1 ⟨x,h,⟨a,c,rfl,le,f⟩,ke⟩
 obtain⟨st,o⟩:=o.dE ke
 refine⟨_,_,_,rfl,?_⟩
 refine Aa (h _ w1 (o.mn hm) _ _ le f) ?_
 rintro _ w2 ⟨r,r1,h,rfl,ke1⟩
 obtain⟨st1,o⟩:=o.dE ke1
 refine⟨_,_,rfl,?_⟩
 exact⟨r1,h,rfl,o.done⟩
def Nt (cq:Int) (K:Bool->Prop):Prop:=
 K ((cq==95)||((decide ((Px .u8 cq 32)>=97))&&(decide ((Px .u8 cq 32)<=122))))
theorem T8 (cq:Int) (K:Bool->Prop) (h:Nt cq K):Jv cq K:=by
 intro m w hm
 have o:=Mem.start hm.lt
 refine Wx cq _ _ ?_
 intro _
 exact⟨((cq==95)||((decide ((Px .u8 cq 32)>=97))&&(decide ((Px .u8 cq 32)<=122)))),h,rfl,o.done⟩
def O7 (cq:Int) (K:Bool->Prop):Prop:=
 K ((decide (cq>=48))&&(decide (cq<=57)))
theorem Vi (cq:Int) (K:Bool->Prop) (h:O7 cq K):M4 cq K:=by
 intro m w hm
 have o:=Mem.start hm.lt
 refine Yx cq _ _ ?_
 intro _
 exact⟨((decide (cq>=48))&&(decide (cq<=57))),h,rfl,o.done⟩
def Vj (cq:Int) (K:Bool->Prop):Prop:=
 Jv cq (fun x=>
 cond (x)
 (K true)
 (M4 cq (fun x1=>
 K x1)))
theorem T9 (cq:Int) (K:Bool->Prop) (h:Vj cq K):L6 cq K:=by
 intro m w hm
 have o:=Mem.start hm.lt
 refine Wz cq _ _ ?_
 refine Aa (h _ w (o.mn hm)) ?_
 rintro _ w1 ⟨x,h,rfl,ke⟩
 obtain⟨st,o⟩:=o.dE ke
 refine⟨_,rfl,?_⟩
 refine Ac (fun h=> ?_) (fun h=> ?_) h
 exact⟨true,h,rfl,o.done⟩
 refine Aa (h _ w1 (o.mn hm)) ?_
 rintro _ w2 ⟨x1,h,rfl,ke1⟩
 obtain⟨st1,o⟩:=o.dE ke1
 refine⟨_,rfl,?_⟩
 exact⟨x1,h,rfl,o.done⟩
def Xp (K:(List (List UInt8))->Prop):Prop:=
 K ([[97,102,116,101,114],[97,115,115,101,114,116],[99,97,115,101],[99,104,97,110],[101,108,115,101],[105,102],[109,97,105,110],[112,114,105,110,116],[112,114,111,99],[114,97,110,100,111,109],[115,101,108,101,99,116],[115,107,105,112],[115,108,101,101,112],[115,116,97,114,116],[115,116,111,112],[118,97,114],[119,104,101,110],[119,104,105,108,101]]:List (List UInt8))
theorem Vk (K:(List (List UInt8))->Prop) (h:Xp K):R1 K:=by
 intro m w hm
 have o:=Mem.start hm.lt
 refine Yz _ _ ?_
 intro b w1 hb hw1
 have el:El Cs (ms [] m) w ([[97,102,116,101,114],[97,115,115,101,114,116],[99,97,115,101],[99,104,97,110],[101,108,115,101],[105,102],[109,97,105,110],[112,114,105,110,116],[112,114,111,99],[114,97,110,100,111,109],[115,101,108,101,99,116],[115,107,105,112],[115,108,101,101,112],[115,116,97,114,116],[115,116,111,112],[118,97,114],[119,104,101,110],[119,104,105,108,101]]:List (List UInt8)) ([.s [97,102,116,101,114],.s [97,115,115,101,114,116],.s [99,97,115,101],.s [99,104,97,110],.s [101,108,115,101],.s [105,102],.s [109,97,105,110],.s [112,114,105,110,116],.s [112,114,111,99],.s [114,97,110,100,111,109],.s [115,101,108,101,99,116],.s [115,107,105,112],.s [115,108,101,101,112],.s [115,116,97,114,116],.s [115,116,111,112],.s [118,97,114],.s [119,104,101,110],.s [119,104,105,108,101]]:List Value):=(El.cons (cs:=[.s [97,102,116,101,114]]) rfl (El.cons (cs:=[.s [97,115,115,101,114,116]]) rfl (El.cons (cs:=[.s [99,97,115,101]]) rfl (El.cons (cs:=[.s [99,104,97,110]]) rfl (El.cons (cs:=[.s [101,108,115,101]]) rfl (El.cons (cs:=[.s [105,102]]) rfl (El.cons (cs:=[.s [109,97,105,110]]) rfl (El.cons (cs:=[.s [112,114,105,110,116]]) rfl (El.cons (cs:=[.s [112,114,111,99]]) rfl (El.cons (cs:=[.s [114,97,110,100,111,109]]) rfl (El.cons (cs:=[.s [115,101,108,101,99,116]]) rfl (El.cons (cs:=[.s [115,107,105,112]]) rfl (El.cons (cs:=[.s [115,108,101,101,112]]) rfl (El.cons (cs:=[.s [115,116,97,114,116]]) rfl (El.cons (cs:=[.s [115,116,111,112]]) rfl (El.cons (cs:=[.s [118,97,114]]) rfl (El.cons (cs:=[.s [119,104,101,110]]) rfl (El.cons (cs:=[.s [119,104,105,108,101]]) rfl (El.nil _ _ _)))))))))))))))))))
 have st:=o.xL hb hw1 1 18
 have o:=o.lit hb hw1 1 18 (by decide) rfl
 have le:=(o.rowAt 0 rfl).cap
 have st1:=o.xX 0
 have f:=o.freeze (c:=Cs) (l:=([[97,102,116,101,114],[97,115,115,101,114,116],[99,97,115,101],[99,104,97,110],[101,108,115,101],[105,102],[109,97,105,110],[112,114,105,110,116],[112,114,111,99],[114,97,110,100,111,109],[115,101,108,101,99,116],[115,107,105,112],[115,108,101,101,112],[115,116,97,114,116],[115,116,111,112],[118,97,114],[119,104,101,110],[119,104,105,108,101]]:List (List UInt8))) 0 rfl (fun b hb=>by simp at hb) (el.st (st.trans st1))
 have o:=o.erase 0
 exact⟨([[97,102,116,101,114],[97,115,115,101,114,116],[99,97,115,101],[99,104,97,110],[101,108,115,101],[105,102],[109,97,105,110],[112,114,105,110,116],[112,114,111,99],[114,97,110,100,111,109],[115,101,108,101,99,116],[115,107,105,112],[115,108,101,101,112],[115,116,97,114,116],[115,116,111,112],[118,97,114],[119,104,101,110],[119,104,105,108,101]]:List (List UInt8)),h,⟨_,_,rfl,le,(f.st (Mem.Aw9 (ps:=[]) (m0:=m)))⟩,o.done⟩
def G7 (xq:List (List UInt8)) (target:List UInt8) (K:Int->Bool->Prop):Prop:=
 ∃(I:Int->Int->Nat->Prop),(∃n,I 0 (xq.length:Int) n)/\
 ∀(i:Int) (j:Int) (n:Nat),I i j n->
 cond (decide (i<j))
 ((0:Int)<=1/\
 ((0:Int)<=(IntKind.i64.wrap ((IntKind.u64.wrap (IntKind.i64.wrap (i+j))).fdiv (2^(min 1 IntKind.u64.bits))))/\(IntKind.i64.wrap ((IntKind.u64.wrap (IntKind.i64.wrap (i+j))).fdiv (2^(min 1 IntKind.u64.bits))))<(xq.length:Int))/\
 ∀x,xq[(IntKind.i64.wrap ((IntKind.u64.wrap (IntKind.i64.wrap (i+j))).fdiv (2^(min 1 IntKind.u64.bits)))).toNat]? =some x->
 Jw x target (fun x1=>
 cond (x1)
 (∃n1,n1<n/\I (IntKind.i64.wrap ((IntKind.i64.wrap ((IntKind.u64.wrap (IntKind.i64.wrap (i+j))).fdiv (2^(min 1 IntKind.u64.bits))))+1)) j n1)
 (∃n2,n2<n/\I i (IntKind.i64.wrap ((IntKind.u64.wrap (IntKind.i64.wrap (i+j))).fdiv (2^(min 1 IntKind.u64.bits)))) n2)))
 (cond (decide (i<(xq.length:Int)))
 (((0:Int)<=i/\i<(xq.length:Int))/\
 ∀x2,xq[i.toNat]? =some x2->
 cond (x2==target)
 (K i true)
 (((0:Int)<=i/\i<(xq.length:Int))/\
 ∀x3,xq[i.toNat]? =some x3->
 E6 x3 (fun x4=>
 cond (x4)
 (E6 target (fun x5=>
 K i x5))
 (K i false))))
 (K i false))
theorem Gx (xq:List (List UInt8)) (target:List UInt8) (K:Int->Bool->Prop) (h:G7 xq target K):Cx xq target K:=by
 intro m w hm xqA xqC Ci9 Ayu
 have o:=Mem.start hm.lt
 refine Hc xqA xq.length xqC target _ _ ?_
 obtain⟨I,⟨n3,h⟩,h2⟩:=h
 obtain⟨Z,hZ⟩:∃Z:Int->Int->World->Nat->Prop,Z=fun i j w1 n=>I i j n/\MT w m w w1 []:=⟨_,rfl⟩
 refine⟨fun i j w1=>∃n,Z i j w1 n,fun i j w1=>Aw0 (Z i j w1),⟨n3,?_⟩,?_⟩
 rw [hZ];exact⟨h,o,Step.refl _ _⟩
 intro _ i j w1 hIZ
 obtain⟨n,hnn⟩:∃n,n=Aw0 (Z i j w1):=⟨_,rfl⟩
 have hIZ:=Bz hIZ
 rw [←hnn,hZ]at hIZ
 obtain⟨h,o,st⟩:=hIZ
 have h:=h2 i j n h
 refine Ac (fun h=> ?_) (fun h=> ?_) h
 refine⟨h.1,?_⟩
 have h:=And.right h
 obtain⟨hi,h⟩:=h
 obtain⟨p,x,cs,hp,he,hc,hr⟩:=(Ayu.st st).elem hi
 obtain rfl:=hr
 have h:=h x he
 refine⟨hi,Ap hp ?_⟩
 refine⟨_,(Ad.head hc.2),?_⟩
 refine Aa (h _ w1 (o.mn hm)) ?_
 rintro _ w2 ⟨x1,h,rfl,ke⟩
 obtain⟨st1,o⟩:=o.dE ke
 refine⟨_,rfl,?_⟩
 refine Ac (fun h=> ?_) (fun h=> ?_) h
 obtain⟨n1,hl,h⟩:=h
 exact Bh hnn (show Z _ _ w2 n1 from(by rw [hZ];exact⟨h,o,(st.trans st1)⟩)) hl
 obtain⟨n2,hl1,h⟩:=h
 exact Bh hnn (show Z _ _ w2 n2 from(by rw [hZ];exact⟨h,o,(st.trans st1)⟩)) hl1
 refine Ac (fun h=> ?_) (fun h=> ?_) h
 obtain⟨hi1,h⟩:=h
 obtain⟨p1,x2,cs1,hp1,he1,hc1,hr1⟩:=(Ayu.st st).elem hi1
 obtain rfl:=hr1
 have h:=h x2 he1
 refine⟨hi1,Ap hp1 ?_⟩
 refine⟨_,(Ad.head hc1.2),?_⟩
 refine Ac (fun h=> ?_) (fun h=> ?_) h
 exact⟨i,true,h,rfl,o.done⟩
 obtain⟨hi2,h⟩:=h
 obtain⟨p2,x3,cs2,hp2,he2,hc2,hr2⟩:=(Ayu.st st).elem hi2
 obtain rfl:=hr2
 have h:=h x3 he2
 refine⟨hi2,Ap hp2 ?_⟩
 refine⟨_,(Ad.head hc2.2),?_⟩
 refine Aa (h _ w1 (o.mn hm)) ?_
 rintro _ w3 ⟨x4,h,rfl,ke1⟩
 obtain⟨st2,o⟩:=o.dE ke1
 refine⟨_,rfl,?_⟩
 refine Ac (fun h=> ?_) (fun h=> ?_) h
 refine Aa (h _ w3 (o.mn hm)) ?_
 rintro _ w4 ⟨x5,h,rfl,ke2⟩
 obtain⟨st3,o⟩:=o.dE ke2
 refine⟨_,rfl,?_⟩
 exact⟨i,x5,h,rfl,o.done⟩
 exact⟨i,false,h,rfl,o.done⟩
 exact⟨i,false,h,rfl,o.done⟩
def Rr (xq:List UInt8) (y:List UInt8) (K:Bool->Prop):Prop:=
 Gj xq (fun x=>
 cond (x)
 (Gj y (fun x1=>
 cond (!x1)
 (K true)
 (K (Op.bytesLess xq y))))
 (K (Op.bytesLess xq y)))
theorem Qk (xq:List UInt8) (y:List UInt8) (K:Bool->Prop) (h:Rr xq y K):Jw xq y K:=by
 intro m w hm
 have o:=Mem.start hm.lt
 refine Sg xq y _ _ ?_
 refine Aa (h _ w (o.mn hm)) ?_
 rintro _ w1 ⟨x,h,rfl,ke⟩
 obtain⟨st,o⟩:=o.dE ke
 refine⟨_,rfl,?_⟩
 refine Ac (fun h=> ?_) (fun h=> ?_) h
 refine Aa (h _ w1 (o.mn hm)) ?_
 rintro _ w2 ⟨x1,h,rfl,ke1⟩
 obtain⟨st1,o⟩:=o.dE ke1
 refine⟨_,rfl,?_⟩
 refine Ac (fun h=> ?_) (fun h=> ?_) h
 exact⟨true,h,rfl,o.done⟩
 exact⟨(Op.bytesLess xq y),h,rfl,o.done⟩
 exact⟨(Op.bytesLess xq y),h,rfl,o.done⟩
def Ji (xq:List UInt8) (K:Bool->Prop):Prop:=
 K (!(xq==xq))
theorem M5 (xq:List UInt8) (K:Bool->Prop) (h:Ji xq K):E6 xq K:=by
 intro m w hm
 have o:=Mem.start hm.lt
 refine Oc xq _ _ ?_
 exact⟨(!(xq==xq)),h,rfl,o.done⟩
def K7 (xq:List UInt8) (K:Bool->Prop):Prop:=
 K (!(xq==xq))
theorem Pk (xq:List UInt8) (K:Bool->Prop) (h:K7 xq K):Gj xq K:=by
 intro m w hm
 have o:=Mem.start hm.lt
 refine Rq xq _ _ ?_
 exact⟨(!(xq==xq)),h,rfl,o.done⟩
def Ql (op:Int) (K:Int->Prop):Prop:=
 cond (op==17)
 (K 1)
 (cond (op==16)
 (K 2)
 (cond (((decide (op>=10))&&(decide (op<=15))))
 (K 3)
 (cond (((op==5)||(op==6)))
 (K 4)
 (cond (((decide (op>=7))&&(decide (op<=9))))
 (K 5)
 (cond (((op==3)||(op==4)))
 (K 6)
 (cond (((op==1)||(op==2)))
 (K 7)
 (K 0)))))))
theorem Xq (op:Int) (K:Int->Prop) (h:Ql op K):Js op K:=by
 intro m w hm
 have o:=Mem.start hm.lt
 refine Aas op _ _ ?_
 refine Ac (fun h=> ?_) (fun h=> ?_) h
 exact⟨1,h,rfl,o.done⟩
 refine Ac (fun h=> ?_) (fun h=> ?_) h
 exact⟨2,h,rfl,o.done⟩
 intro _
 refine Ac (fun h=> ?_) (fun h=> ?_) h
 exact⟨3,h,rfl,o.done⟩
 intro _
 refine Ac (fun h=> ?_) (fun h=> ?_) h
 exact⟨4,h,rfl,o.done⟩
 intro _
 refine Ac (fun h=> ?_) (fun h=> ?_) h
 exact⟨5,h,rfl,o.done⟩
 intro _
 refine Ac (fun h=> ?_) (fun h=> ?_) h
 exact⟨6,h,rfl,o.done⟩
 intro _
 refine Ac (fun h=> ?_) (fun h=> ?_) h
 exact⟨7,h,rfl,o.done⟩
 exact⟨0,h,rfl,o.done⟩
def Ah0 (l:List Ai) (i:Int) (K:Int->Prop):Prop:=
 cond (((decide (i<0))||(decide (i>=(l.length:Int)))))
 (K (l.length:Int))
 (∃(I:Int->Int->Nat->Prop),(∃n,I (IntKind.i64.wrap (i+1)) 0 n)/\
 ∀(atx:Int) (k:Int) (n:Nat),I atx k n->
 ∃(J:Bool->Prop),
 (((0:Int)<=i/\i<(l.length:Int))/\
 ∀x1,l[i.toNat]? =some x1->
 cond (decide (k<x1.kids))
 (J (decide (atx<(l.length:Int))))
 (J false))/\
 ∀(x:Bool),J x->
 cond (x)
 (Nr l atx (fun Awx=>
 ∃n1,n1<n/\I Awx (IntKind.i64.wrap (k+1)) n1))
 (K atx))
theorem Ua (l:List Ai) (i:Int) (K:Int->Prop) (h:Ah0 l i K):Nr l i K:=by
 intro m w hm lA lC Axc f_l
 have o:=Mem.start hm.lt
 refine Ajl lA l.length lC i _ _ ?_
 intro _
 refine Ac (fun h=> ?_) (fun h=> ?_) h
 exact⟨(l.length:Int),h,rfl,o.done⟩
 obtain⟨I,⟨n2,h⟩,h2⟩:=h
 obtain⟨Z,hZ⟩:∃Z:Int->Int->World->Nat->Prop,Z=fun atx k w1 n=>I atx k n/\MT w m w w1 []:=⟨_,rfl⟩
 refine⟨fun atx k w1=>∃n,Z atx k w1 n,fun atx k w1=>Aw0 (Z atx k w1),⟨n2,?_⟩,?_⟩
 rw [hZ];exact⟨h,o,Step.refl _ _⟩
 intro _ atx k w1 hIZ
 obtain⟨n,hnn⟩:∃n,n=Aw0 (Z atx k w1):=⟨_,rfl⟩
 have hIZ:=Bz hIZ
 rw [←hnn,hZ]at hIZ
 obtain⟨h,o,st⟩:=hIZ
 have h:=h2 atx k n h
 obtain⟨J,h,h2⟩:=h
 refine⟨fun x w2=>J x/\MT w m w1 w2 [],?_,?_⟩
 obtain⟨hi,h⟩:=h
 obtain⟨p,x1,cs,hp,he,hc,hr⟩:=(f_l.st st).elem hi
 obtain rfl:=Bg hr
 have h:=h x1 he
 refine⟨hi,Ap hp ?_⟩
 refine⟨_,hc.2 3 (Nat.le_of_ble_eq_true rfl),?_⟩
 refine Ac (fun h=> ?_) (fun h=> ?_) h
 exact⟨h,o,Step.refl _ _⟩
 exact⟨h,o,Step.refl _ _⟩
 rintro _ x w2 ⟨hJ,o,st1⟩
 have h:=h2 x hJ
 refine Ac (fun h=> ?_) (fun h=> ?_) h
 refine Aa (h _ w2 (o.mn hm) _ _ Axc (f_l.st (st.trans st1))) ?_
 rintro _ w3 ⟨Awx,h,rfl,ke⟩
 obtain⟨st2,o⟩:=o.dE ke
 refine⟨_,rfl,?_⟩
 obtain⟨n1,hl,h⟩:=h
 have sT:=(st.trans st1).trans st2
 exact Bh hnn (show Z _ _ w3 n1 from(by rw [hZ];exact⟨h,o,sT⟩)) hl
 exact⟨atx,h,rfl,o.done⟩
def Aen (l:List Ai) (i:Int) (K:(List Int)->Prop):Prop:=
 cond (((decide (i<0))||(decide (i>=(l.length:Int)))))
 (K [])
 (∃(I:(List Int)->Int->Int->Nat->Prop),(∃n,I [] (IntKind.i64.wrap (i+1)) 0 n)/\
 ∀(out:List Int) (atx:Int) (k:Int) (n:Nat),I out atx k n->
 ∃(J:Bool->Prop),
 (((0:Int)<=i/\i<(l.length:Int))/\
 ∀x1,l[i.toNat]? =some x1->
 cond (decide (k<x1.kids))
 (J (decide (atx<(l.length:Int))))
 (J false))/\
 ∀(x:Bool),J x->
 cond (x)
 (out.length+[atx].length<2^32/\
 Nr l atx (fun Awx=>
 ∃n1,n1<n/\I (out++[atx]) Awx (IntKind.i64.wrap (k+1)) n1))
 (K out))
theorem Abc (l:List Ai) (i:Int) (K:(List Int)->Prop) (h:Aen l i K):Sl l i K:=by
 intro m w hm lA lC Axc f_l
 have o:=Mem.start hm.lt
 refine Agm lA l.length lC i _ _ ?_
 intro _
 refine Ac (fun h=> ?_) (fun h=> ?_) h
 exact⟨[],h,⟨_,_,rfl,(Nat.le_refl _),(SlR.nil _ _ _ _)⟩,o.done⟩
 have st:=o.xN 3 1
 have o:=o.Bbu 3 1
 obtain⟨I,⟨n2,h⟩,h2⟩:=h
 obtain⟨Z,hZ⟩:∃Z:(Option Addr)->Nat->Nat->Int->Int->World->Nat->Prop,Z=fun ou ou1 ou2 atx k w1 n=>∃(out:List Int) (xs:List Value),I out atx k n/\El (Cb .i64) (ms [.row 3 1 ou out.length ou2 xs] m) w1 out xs/\ou1=out.length/\MS w m w [.row 3 1 none 0 0 []] w1 [.row 3 1 ou out.length ou2 xs]:=⟨_,rfl⟩
 refine⟨fun ou ou1 ou2 atx k w1=>∃n,Z ou ou1 ou2 atx k w1 n,fun ou ou1 ou2 atx k w1=>Aw0 (Z ou ou1 ou2 atx k w1),⟨n2,?_⟩,?_⟩
 rw [hZ];exact⟨[],[],h,(El.nil _ _ _),rfl,o,Step.refl _ _⟩
 intro _ ou ou1 ou2 atx k w1 hIZ
 obtain⟨n,hnn⟩:∃n,n=Aw0 (Z ou ou1 ou2 atx k w1):=⟨_,rfl⟩
 have hIZ:=Bz hIZ
 rw [←hnn,hZ]at hIZ
 obtain⟨out,xs,h,el,rfl,o,st1⟩:=hIZ
 have h:=h2 out atx k n h
 obtain⟨J,h,h2⟩:=h
 refine⟨fun x w2=>J x/\MT w m w1 w2 [.row 3 1 ou out.length ou2 xs],?_,?_⟩
 obtain⟨hi,h⟩:=h
 obtain⟨p,x1,cs,hp,he,hc,hr⟩:=(f_l.st (st.trans st1)).elem hi
 obtain rfl:=Bg hr
 have h:=h x1 he
 refine⟨hi,Ap hp ?_⟩
 refine⟨_,hc.2 3 (Nat.le_of_ble_eq_true rfl),?_⟩
 refine Ac (fun h=> ?_) (fun h=> ?_) h
 exact⟨h,o,Step.refl _ _⟩
 exact⟨h,o,Step.refl _ _⟩
 rintro _ x w2 ⟨hJ,o,st2⟩
 have h:=h2 x hJ
 refine Ac (fun h=> ?_) (fun h=> ?_) h
 intro b w3 hb hw3
 have el1:El (Cb .i64) (ms [.row 3 1 ou out.length ou2 xs] m) w2 [atx] ([.q atx]:List Value):=(El.cons (cs:=[.q atx]) rfl (El.nil _ _ _))
 have st3:=o.xL hb hw3 1 1
 have o:=o.lit hb hw3 1 1 (by decide) rfl
 obtain⟨lt,h⟩:=h
 have el3:=((el.st (st2.trans st3))).app (el1.st st3)
 refine Eu Avu (o.rowAt 1 rfl) (o.rowAt 0 rfl).sl (el1.st st3).len (el1.st st3).one (by first|(simp;done)|simpa using lt) (by decide) (Nat.zero_le _) fun a c w4 hr1 hg hat=> ?_
 have ln:out.length+1=(out++[atx]).length:=(by first|(simp;done)|(simp;omega))
 rw [ln]at hr1⊢
 refine⟨_,_,_,rfl,?_⟩
 have st4:=o.xA 1 rfl hr1 hg hat
 have o:=o.app 1 rfl hr1 hg hat
 have sT:=(((st.trans st1).trans st2).trans st3).trans st4
 refine Aa (h _ w4 (o.mn hm) _ _ Axc (f_l.st sT)) ?_
 rintro _ w5 ⟨Awx,h,rfl,ke⟩
 obtain⟨st5,o⟩:=o.dE ke
 refine⟨_,rfl,?_⟩
 obtain⟨st6,o⟩:=o.dX 0
 obtain⟨n1,hl,h⟩:=h
 have sT1:=(st4.trans st5).trans st6
 have sT2:=((((st1.trans st2).trans st3).trans st4).trans st5).trans st6
 exact Bh hnn (show Z _ _ _ _ _ w5 n1 from(by rw [hZ];exact⟨(out++[atx]),(xs++([.q atx]:List Value)),h,(el3.st sT1),rfl,o,sT2⟩)) hl
 have le:=(o.rowAt 0 rfl).cap
 have st7:=o.xX 0
 have f:=o.freeze (c:=(Cb .i64)) (l:=out) 0 rfl (fun b hb=>by simp at hb) (el.st (st2.trans st7))
 have o:=o.erase 0
 exact⟨out,h,⟨_,_,rfl,le,(f.st (Mem.Aw9 (ps:=[]) (m0:=m)))⟩,o.done⟩
def Akd (l:List Ai) (i:Int) (K:Int->Prop):Prop:=
 ∃(I:Int->Nat->Prop),(∃n,I 0 n)/\
 ∀(k:Int) (n:Nat),I k n->
 cond (((decide (k<i))&&(decide (k<(l.length:Int)))))
 (Sl l k (fun all=>
 ∃(I1:Int->Nat->Prop),(∃n1,I1 0 n1)/\
 ∀(j:Int) (n1:Nat),I1 j n1->
 cond (decide (j<(all.length:Int)))
 (((0:Int)<=j/\j<(all.length:Int))/\
 ∀x,all[j.toNat]? =some x->
 cond (x==i)
 (K k)
 (∃n2,n2<n1/\I1 (IntKind.i64.wrap (j+1)) n2))
 (∃n3,n3<n/\I (IntKind.i64.wrap (k+1)) n3)))
 (K (-1))
theorem Ah1 (l:List Ai) (i:Int) (K:Int->Prop) (h:Akd l i K):T0 l i K:=by
 intro m w hm lA lC Axc f_l
 have o:=Mem.start hm.lt
 refine Ami lA l.length lC i _ _ ?_
 obtain⟨I,⟨n5,h⟩,h2⟩:=h
 obtain⟨Z,hZ⟩:∃Z:Int->World->Nat->Prop,Z=fun k w1 n=>I k n/\MT w m w w1 []:=⟨_,rfl⟩
 refine⟨fun k w1=>∃n,Z k w1 n,fun k w1=>Aw0 (Z k w1),⟨n5,?_⟩,?_⟩
 rw [hZ];exact⟨h,o,Step.refl _ _⟩
 intro _ k w1 hIZ
 obtain⟨n,hnn⟩:∃n,n=Aw0 (Z k w1):=⟨_,rfl⟩
 have hIZ:=Bz hIZ
 rw [←hnn,hZ]at hIZ
 obtain⟨h,o,st⟩:=hIZ
 have h:=h2 k n h
 intro _
 refine Ac (fun h=> ?_) (fun h=> ?_) h
 refine Aa (h _ w1 (o.mn hm) _ _ Axc (f_l.st st)) ?_
 rintro _ w2 ⟨all,h,⟨a,c,rfl,le,f⟩,ke⟩
 obtain⟨st1,o⟩:=o.dE ke
 refine⟨_,_,_,rfl,?_⟩
 obtain⟨I1,⟨n4,h⟩,h2⟩:=h
 obtain⟨Z1,hZ1⟩:∃Z1:Int->World->Nat->Prop,Z1=fun j w3 n1=>I1 j n1/\MT w m w2 w3 []:=⟨_,rfl⟩
 refine⟨fun j w3=>∃n1,Z1 j w3 n1,fun j w3=>Aw0 (Z1 j w3),⟨n4,?_⟩,?_⟩
 rw [hZ1];exact⟨h,o,Step.refl _ _⟩
 intro _ j w3 Blr
 obtain⟨n1,Az0⟩:∃n1,n1=Aw0 (Z1 j w3):=⟨_,rfl⟩
 have Blr:=Bz Blr
 rw [←Az0,hZ1]at Blr
 obtain⟨h,o,st2⟩:=Blr
 have h:=h2 j n1 h
 refine Ac (fun h=> ?_) (fun h=> ?_) h
 obtain⟨hi,h⟩:=h
 obtain⟨p,x,cs,hp,he,hc,hr⟩:=(f.st st2).elem hi
 obtain rfl:=hr
 have h:=h x he
 refine⟨hi,Ap hp ?_⟩
 refine⟨_,(Ad.head hc.2),?_⟩
 refine Ac (fun h=> ?_) (fun h=> ?_) h
 exact⟨k,h,rfl,o.done⟩
 obtain⟨n2,hl,h⟩:=h
 exact Bh Az0 (show Z1 _ w3 n2 from(by rw [hZ1];exact⟨h,o,st2⟩)) hl
 obtain⟨n3,hl1,h⟩:=h
 have sT:=(st.trans st1).trans st2
 exact Bh hnn (show Z _ w3 n3 from(by rw [hZ];exact⟨h,o,sT⟩)) hl1
 exact⟨(-1),h,rfl,o.done⟩
def Aeo (aq:List Ai) (bq:List Ai) (K:Bool->Prop):Prop:=
 cond ((aq.length:Int) !=(bq.length:Int))
 (K false)
 (∃(I:Int->Nat->Prop),(∃n,I 0 n)/\
 ∀(i:Int) (n:Nat),I i n->
 cond (decide (i<(aq.length:Int)))
 (∃(J:Bool->Prop),
 (((0:Int)<=i/\i<(aq.length:Int))/\
 ∀x1,aq[i.toNat]? =some x1->
 ((0:Int)<=i/\i<(bq.length:Int))/\
 ∀x2,bq[i.toNat]? =some x2->
 cond (x1.op !=x2.op)
 (J true)
 (((0:Int)<=i/\i<(aq.length:Int))/\
 ∀x3,aq[i.toNat]? =some x3->
 ((0:Int)<=i/\i<(bq.length:Int))/\
 ∀x4,bq[i.toNat]? =some x4->
 cond (!(x3.name==x4.name))
 (J true)
 (((0:Int)<=i/\i<(aq.length:Int))/\
 ∀x5,aq[i.toNat]? =some x5->
 ((0:Int)<=i/\i<(bq.length:Int))/\
 ∀x6,bq[i.toNat]? =some x6->
 cond (x5.n !=x6.n)
 (J true)
 (((0:Int)<=i/\i<(aq.length:Int))/\
 ∀x7,aq[i.toNat]? =some x7->
 ((0:Int)<=i/\i<(bq.length:Int))/\
 ∀x8,bq[i.toNat]? =some x8->
 J (x7.kids !=x8.kids)))))/\
 ∀(x:Bool),J x->
 cond (x)
 (K false)
 (∃n1,n1<n/\I (IntKind.i64.wrap (i+1)) n1))
 (K true))
theorem Abd (aq:List Ai) (bq:List Ai) (K:Bool->Prop) (h:Aeo aq bq K):Sm aq bq K:=by
 intro m w hm aqA aqC Cja Bls bqA bqC Cjb Blt
 have o:=Mem.start hm.lt
 refine Ago aqA aq.length aqC bqA bq.length bqC _ _ ?_
 refine Ac (fun h=> ?_) (fun h=> ?_) h
 exact⟨false,h,rfl,o.done⟩
 obtain⟨I,⟨n2,h⟩,h2⟩:=h
 obtain⟨Z,hZ⟩:∃Z:Int->World->Nat->Prop,Z=fun i w1 n=>I i n/\MT w m w w1 []:=⟨_,rfl⟩
 refine⟨fun i w1=>∃n,Z i w1 n,fun i w1=>Aw0 (Z i w1),⟨n2,?_⟩,?_⟩
 rw [hZ];exact⟨h,o,Step.refl _ _⟩
 intro _ i w1 hIZ
 obtain⟨n,hnn⟩:∃n,n=Aw0 (Z i w1):=⟨_,rfl⟩
 have hIZ:=Bz hIZ
 rw [←hnn,hZ]at hIZ
 obtain⟨h,o,st⟩:=hIZ
 have h:=h2 i n h
 refine Ac (fun h=> ?_) (fun h=> ?_) h
 obtain⟨J,h,h2⟩:=h
 refine⟨fun x w2=>J x/\MT w m w1 w2 [],?_,?_⟩
 intro w3 hw3
 obtain⟨st2,o⟩:=o.dD hw3
 obtain⟨hi,h⟩:=h
 obtain⟨p,x1,cs,hp,he,hc,hr⟩:=(Bls.st (st.trans st2)).elem hi
 obtain rfl:=Bg hr
 have h:=h x1 he
 refine⟨hi,Ap hp ?_⟩
 refine⟨_,(Ad.head hc.2),?_⟩
 obtain⟨hi1,h⟩:=h
 obtain⟨p1,x2,cs1,hp1,he1,hc1,hr1⟩:=(Blt.st (st.trans st2)).elem hi1
 obtain rfl:=Bg hr1
 have h:=h x2 he1
 refine⟨hi1,Ap hp1 ?_⟩
 refine⟨_,(Ad.head hc1.2),?_⟩
 refine Ac (fun h=> ?_) (fun h=> ?_) h
 exact⟨h,o,st2⟩
 obtain⟨hi2,h⟩:=h
 obtain⟨p2,x3,cs2,hp2,he2,hc2,hr2⟩:=(Bls.st (st.trans st2)).elem hi2
 obtain rfl:=Bg hr2
 have h:=h x3 he2
 refine⟨hi2,Ap hp2 ?_⟩
 refine⟨_,hc2.2 1 (Nat.le_of_ble_eq_true rfl),?_⟩
 obtain⟨hi3,h⟩:=h
 obtain⟨p3,x4,cs3,hp3,he3,hc3,hr3⟩:=(Blt.st (st.trans st2)).elem hi3
 obtain rfl:=Bg hr3
 have h:=h x4 he3
 refine⟨hi3,Ap hp3 ?_⟩
 refine⟨_,hc3.2 1 (Nat.le_of_ble_eq_true rfl),?_⟩
 refine Ac (fun h=> ?_) (fun h=> ?_) h
 exact⟨h,o,st2⟩
 obtain⟨hi4,h⟩:=h
 obtain⟨p4,x5,cs4,hp4,he4,hc4,hr4⟩:=(Bls.st (st.trans st2)).elem hi4
 obtain rfl:=Bg hr4
 have h:=h x5 he4
 refine⟨hi4,Ap hp4 ?_⟩
 refine⟨_,hc4.2 2 (Nat.le_of_ble_eq_true rfl),?_⟩
 obtain⟨hi5,h⟩:=h
 obtain⟨p5,x6,cs5,hp5,he5,hc5,hr5⟩:=(Blt.st (st.trans st2)).elem hi5
 obtain rfl:=Bg hr5
 have h:=h x6 he5
 refine⟨hi5,Ap hp5 ?_⟩
 refine⟨_,hc5.2 2 (Nat.le_of_ble_eq_true rfl),?_⟩
 refine Ac (fun h=> ?_) (fun h=> ?_) h
 exact⟨h,o,st2⟩
 obtain⟨hi6,h⟩:=h
 obtain⟨p6,x7,cs6,hp6,he6,hc6,hr6⟩:=(Bls.st (st.trans st2)).elem hi6
 obtain rfl:=Bg hr6
 have h:=h x7 he6
 refine⟨hi6,Ap hp6 ?_⟩
 refine⟨_,hc6.2 3 (Nat.le_of_ble_eq_true rfl),?_⟩
 obtain⟨hi7,h⟩:=h
 obtain⟨p7,x8,cs7,hp7,he7,hc7,hr7⟩:=(Blt.st (st.trans st2)).elem hi7
 obtain rfl:=Bg hr7
 have h:=h x8 he7
 refine⟨hi7,Ap hp7 ?_⟩
 refine⟨_,hc7.2 3 (Nat.le_of_ble_eq_true rfl),?_⟩
 exact⟨h,o,st2⟩
 rintro _ x w2 ⟨hJ,o,st1⟩
 have h:=h2 x hJ
 refine Ac (fun h=> ?_) (fun h=> ?_) h
 exact⟨false,h,rfl,o.done⟩
 obtain⟨n1,hl,h⟩:=h
 exact Bh hnn (show Z _ w2 n1 from(by rw [hZ];exact⟨h,o,(st.trans st1)⟩)) hl
 exact⟨true,h,rfl,o.done⟩
def Aep (l:List Ai) (i:Int) (K:Int->Prop):Prop:=
 T0 l i (fun i1=>
 ∃(I:Int->Int->Nat->Prop),(∃n1,I i1 0 n1)/\
 ∀(i2:Int) (n:Int) (n1:Nat),I i2 n n1->
 cond (decide (i2>=0))
 (T0 l i2 (fun i3=>
 ∃n2,n2<n1/\I i3 (IntKind.i64.wrap (n+1)) n2))
 (K n))
theorem Abe (l:List Ai) (i:Int) (K:Int->Prop) (h:Aep l i K):Sn l i K:=by
 intro m w hm lA lC Axc f_l
 have o:=Mem.start hm.lt
 refine Agq lA l.length lC i _ _ ?_
 refine Aa (h _ w (o.mn hm) _ _ Axc f_l) ?_
 rintro _ w1 ⟨i1,h,rfl,ke⟩
 obtain⟨st,o⟩:=o.dE ke
 refine⟨_,rfl,?_⟩
 obtain⟨I,⟨n3,h⟩,h2⟩:=h
 obtain⟨Z,hZ⟩:∃Z:Int->Int->World->Nat->Prop,Z=fun i2 n w2 n1=>I i2 n n1/\MT w m w1 w2 []:=⟨_,rfl⟩
 refine⟨fun i2 n w2=>∃n1,Z i2 n w2 n1,fun i2 n w2=>Aw0 (Z i2 n w2),⟨n3,?_⟩,?_⟩
 rw [hZ];exact⟨h,o,Step.refl _ _⟩
 intro _ i2 n w2 hIZ
 obtain⟨n1,Az0⟩:∃n1,n1=Aw0 (Z i2 n w2):=⟨_,rfl⟩
 have hIZ:=Bz hIZ
 rw [←Az0,hZ]at hIZ
 obtain⟨h,o,st1⟩:=hIZ
 have h:=h2 i2 n n1 h
 refine Ac (fun h=> ?_) (fun h=> ?_) h
 refine Aa (h _ w2 (o.mn hm) _ _ Axc (f_l.st (st.trans st1))) ?_
 rintro _ w3 ⟨i3,h,rfl,ke1⟩
 obtain⟨st2,o⟩:=o.dE ke1
 refine⟨_,rfl,?_⟩
 obtain⟨n2,hl,h⟩:=h
 exact Bh Az0 (show Z _ _ w3 n2 from(by rw [hZ];exact⟨h,o,(st1.trans st2)⟩)) hl
 exact⟨n,h,rfl,o.done⟩
def Ake (l:List Ai) (K:Bool->Prop):Prop:=
 Wi l (fun x=>
 K ((x.x0==0)&&(x.x1==0)))
theorem Ah2 (l:List Ai) (K:Bool->Prop) (h:Ake l K):Y8 l K:=by
 intro m w hm lA lC Axc f_l
 have o:=Mem.start hm.lt
 refine Amk lA l.length lC _ _ ?_
 refine Aa (h _ w (o.mn hm) _ _ Axc f_l) ?_
 rintro _ w1 ⟨x,h,⟨cs,rfl,f⟩,ke⟩
 obtain⟨st,o⟩:=o.dE ke
 obtain rfl:=Aa1 f
 refine⟨_,_,rfl,?_⟩
 refine Aol Tryz.underlying34 Tryz.underlying3 (by kernel_rfl) (by kernel_rfl) (i:=Tryz.t3) (by kernel_rfl) ⟨_,rfl,?_⟩
 exact⟨((x.x0==0)&&(x.x1==0)),h,rfl,o.done⟩
def Abf (l:List Ai) (K:Ev->Prop):Prop:=
 K1 l 0 [85] (fun x=>
 ∃(J:Bool->Prop),
 (cond (x.ok)
 (J (x.at_==(l.length:Int)))
 (J false))/\
 ∀(x1:Bool),J x1->
 cond (x1)
 (K (⟨0,0⟩:Ev))
 (K (⟨x.at_,3⟩:Ev)))
theorem Zm (l:List Ai) (K:Ev->Prop) (h:Abf l K):Wi l K:=by
 intro m w hm lA lC Axc f_l
 have o:=Mem.start hm.lt
 refine Adt lA l.length lC _ _ ?_
 intro b w1 hb hw1
 obtain⟨st,o⟩:=o.dB hb hw1
 refine Aa (h _ w1 (o.mn hm) _ _ Axc (f_l.st st)) ?_
 rintro _ w2 ⟨x,h,⟨cs,rfl,f⟩,ke⟩
 obtain⟨st1,o⟩:=o.dE ke
 obtain rfl:=A4 f
 refine⟨_,_,rfl,?_⟩
 intro b1 w3 hb1 hw3
 obtain⟨st2,o⟩:=o.dB hb1 hw3
 refine⟨o.wr 0 rfl rfl,fun w4 hw4=> ?_⟩
 obtain⟨st3,o⟩:=o.dSs 0 hw4 rfl
 obtain⟨J,h,h2⟩:=h
 refine⟨fun x1 w5=>J x1/\MT w m w4 w5 [.box b1 [.q x.at_,.bool x.ok],.box b [.q 0,.q 0]],?_,?_⟩
 refine⟨_,(o.at 0 rfl).cell rfl,?_⟩
 refine Ac (fun h=> ?_) (fun h=> ?_) h
 refine⟨_,(o.at 0 rfl).cell rfl,?_⟩
 exact⟨h,o,Step.refl _ _⟩
 exact⟨h,o,Step.refl _ _⟩
 rintro _ x1 w5 ⟨hJ,o,st4⟩
 have h:=h2 x1 hJ
 refine Ac (fun h=> ?_) (fun h=> ?_) h
 refine⟨o.wr 1 rfl rfl,fun w6 hw6=> ?_⟩
 obtain⟨st5,o⟩:=o.dSs 1 hw6 rfl
 refine⟨_,_,(o.at 1 rfl).whole,?_⟩
 exact⟨(⟨0,0⟩:Ev),h,⟨_,rfl,(Tz (⟨0,0⟩:Ev))⟩,o.done⟩
 refine⟨_,(o.at 0 rfl).cell rfl,?_⟩
 refine⟨o.wr 1 rfl rfl,fun w7 hw7=> ?_⟩
 obtain⟨st6,o⟩:=o.dSs 1 hw7 rfl
 refine⟨_,_,(o.at 1 rfl).whole,?_⟩
 exact⟨(⟨x.at_,3⟩:Ev),h,⟨_,rfl,(Tz (⟨x.at_,3⟩:Ev))⟩,o.done⟩
def Abg (l:List Ai) (atx:Int) (Axp:List UInt8) (K:Am->Prop):Prop:=
 cond (decide (atx>=(l.length:Int)))
 (K (⟨(l.length:Int),false⟩:Am))
 (((0:Int)<=atx/\atx<(l.length:Int))/\
 ∀x,l[atx.toNat]? =some x->
 ∃(J:Int->Bool->Prop),
 (cond (Axp==[69])
 (So l x (⟨atx,false⟩:Am) (⟨IntKind.i64.wrap (atx+1),true⟩:Am) (fun x1=>
 K x1))
 (cond (Axp==[83])
 (Sp l x (⟨atx,false⟩:Am) (⟨IntKind.i64.wrap (atx+1),true⟩:Am) (fun x2=>
 K x2))
 (cond (Axp==[67])
 (Oj l x (⟨atx,false⟩:Am) (⟨IntKind.i64.wrap (atx+1),true⟩:Am) (fun x3=>
 K x3))
 (cond (Axp==[82])
 (∃(J1:Bool->Prop),
 (cond (x.op==33)
 (Ft x 0 (fun x5=>
 cond (x5)
 (J1 true)
 (Ft x 1 (fun x6=>
 J1 x6))))
 (J1 false))/\
 ∀(x4:Bool),J1 x4->
 cond (x4)
 (F6 l (⟨IntKind.i64.wrap (atx+1),true⟩:Am) [69] x.kids (fun x7=>
 K x7))
 (J 0 false))
 (cond (Axp==[66])
 (∃(J2:Bool->Prop),
 (cond (x.op==32)
 (cond (decide (x.kids>=0))
 (C6 x x.kids (fun x9=>
 J2 x9))
 (J2 false))
 (J2 false))/\
 ∀(x8:Bool),J2 x8->
 cond (x8)
 (F6 l (⟨IntKind.i64.wrap (atx+1),true⟩:Am) [83] x.kids (fun x10=>
 K x10))
 (J 0 false))
 (cond (Axp==[80])
 (∃(J3:Bool->Prop),
 (cond (x.op==39)
 (Ft x 0 (fun x12=>
 J3 x12))
 (J3 false))/\
 ∀(x11:Bool),J3 x11->
 cond (x11)
 (K (⟨IntKind.i64.wrap (atx+1),true⟩:Am))
 (J 0 false))
 (cond (Axp==[85])
 (∃(J4:Bool->Prop),
 (cond (x.op==42)
 (cond (decide (x.kids>=0))
 (C6 x x.kids (fun x14=>
 J4 x14))
 (J4 false))
 (J4 false))/\
 ∀(x13:Bool),J4 x13->
 cond (x13)
 (F6 l (⟨IntKind.i64.wrap (atx+1),true⟩:Am) [68] x.kids (fun x15=>
 K x15))
 (J 0 false))
 (cond (Axp==[68])
 (cond (x.op==38)
 (∃(J5:Bool->Prop),
 (Ol x.name (fun x17=>
 cond (x17)
 (cond (x.kids==0)
 (cond (decide (x.n>=0))
 (J5 (decide (x.n<=16)))
 (J5 false))
 (J5 false))
 (J5 false)))/\
 ∀(x16:Bool),J5 x16->
 cond (x16)
 (K (⟨IntKind.i64.wrap (atx+1),true⟩:Am))
 (J 0 false))
 (cond (x.op==41)
 (C6 x 1 (fun x18=>
 cond (x18)
 (Cy l (⟨IntKind.i64.wrap (atx+1),true⟩:Am) [66] (fun x19=>
 K x19))
 (J 0 false)))
 (cond (x.op==40)
 (∃(J6:Bool->Prop),
 (cond (decide (x.kids>=1))
 (Ft x x.kids (fun x21=>
 J6 x21))
 (J6 false))/\
 ∀(x20:Bool),J6 x20->
 cond (x20)
 (F6 l (⟨IntKind.i64.wrap (atx+1),true⟩:Am) [80] (IntKind.i64.wrap (x.kids-1)) (fun x22=>
 Cy l x22 [66] (fun x23=>
 K x23)))
 (J 0 false))
 (J 0 false))))
 (J 0 false)))))))))/\
 ∀(At:Int) (Ok:Bool),J At Ok->
 K (⟨atx,false⟩:Am))
set_option maxHeartbeats 4000000 in
theorem Me (l:List Ai) (atx:Int) (Axp:List UInt8) (K:Am->Prop) (h:Abg l atx Axp K):K1 l atx Axp K:=by
 intro m w hm lA lC Axc f_l
 have o:=Mem.start hm.lt
 refine Adv lA l.length lC atx Axp _ _ ?_
 intro b w1 hb hw1
 obtain⟨st,o⟩:=o.dB hb hw1
 refine Ac (fun h=> ?_) (fun h=> ?_) h
 refine⟨o.wr 0 rfl rfl,fun w2 hw2=> ?_⟩
 obtain⟨st1,o⟩:=o.dSs 0 hw2 rfl
 refine⟨_,_,(o.at 0 rfl).whole,?_⟩
 exact⟨(⟨(l.length:Int),false⟩:Am),h,⟨_,rfl,(Aq (⟨(l.length:Int),false⟩:Am))⟩,o.done⟩
 obtain⟨hi,h⟩:=h
 obtain⟨p,x,cs,hp,he,hc,hr⟩:=(f_l.st st).elem hi
 obtain rfl:=Bg hr
 have h:=h x he
 refine⟨hi,Ap hp ?_⟩
 refine⟨_,_,_,_,_,hc.2,?_⟩
 intro b1 w3 hb1 hw3
 obtain⟨st2,o⟩:=o.dB hb1 hw3
 intro b2 w4 hb2 hw4
 obtain⟨st3,o⟩:=o.dB hb2 hw4
 intro b3 w5 hb3 hw5
 obtain⟨st4,o⟩:=o.dB hb3 hw5
 refine⟨o.wr 2 rfl rfl,fun w6 hw6=> ?_⟩
 obtain⟨st5,o⟩:=o.dSs 2 hw6 rfl
 refine⟨o.wr 1 rfl rfl,fun w7 hw7=> ?_⟩
 obtain⟨st6,o⟩:=o.dSs 1 hw7 rfl
 refine⟨o.wr 0 rfl rfl,fun w8 hw8=> ?_⟩
 obtain⟨st7,o⟩:=o.dSs 0 hw8 rfl
 obtain⟨J,h,h2⟩:=h
 refine⟨fun w9=>∃(At:Int) (Ok:Bool),J At Ok/\MS w m w8 [.box b3 [.q (IntKind.i64.wrap (atx+1)),.bool true],.box b2 [.q atx,.bool false],.box b1 [.q x.op,.s x.name,.q x.n,.q x.kids,.q x.at_],.box b [.q 0,.bool false]] w9 [.box b3 [.q (IntKind.i64.wrap (atx+1)),.bool true],.box b2 [.q atx,.bool false],.box b1 [.q x.op,.s x.name,.q x.n,.q x.kids,.q x.at_],.box b [.q At,.bool Ok]],?_,?_⟩
 refine Ac (fun h=> ?_) (fun h=> ?_) h
 refine⟨_,_,_,_,_,(o.at 2 rfl).whole,?_⟩
 refine⟨_,_,(o.at 1 rfl).whole,?_⟩
 refine⟨_,_,(o.at 0 rfl).whole,?_⟩
 have sT:=(((((st.trans st2).trans st3).trans st4).trans st5).trans st6).trans st7
 refine Aa (h _ w8 (o.mn hm) _ _ Axc (f_l.st sT) _ (A3 x) _ (Aq (⟨atx,false⟩:Am)) _ (Aq (⟨IntKind.i64.wrap (atx+1),true⟩:Am))) ?_
 rintro _ w10 ⟨x1,h,⟨cs1,rfl,f⟩,ke⟩
 obtain⟨st9,o⟩:=o.dE ke
 obtain rfl:=A4 f
 refine⟨_,_,rfl,?_⟩
 refine⟨o.wr 3 rfl rfl,fun w11 Azc=> ?_⟩
 obtain⟨Aw6,o⟩:=o.dSs 3 Azc rfl
 refine⟨_,_,(o.at 3 rfl).whole,?_⟩
 exact⟨x1,h,⟨_,rfl,(Aq x1)⟩,o.done⟩
 refine Ac (fun h=> ?_) (fun h=> ?_) h
 refine⟨_,_,_,_,_,(o.at 2 rfl).whole,?_⟩
 refine⟨_,_,(o.at 1 rfl).whole,?_⟩
 refine⟨_,_,(o.at 0 rfl).whole,?_⟩
 have sT1:=(((((st.trans st2).trans st3).trans st4).trans st5).trans st6).trans st7
 refine Aa (h _ w8 (o.mn hm) _ _ Axc (f_l.st sT1) _ (A3 x) _ (Aq (⟨atx,false⟩:Am)) _ (Aq (⟨IntKind.i64.wrap (atx+1),true⟩:Am))) ?_
 rintro _ w12 ⟨x2,h,⟨cs2,rfl,f1⟩,ke1⟩
 obtain⟨Aw8,o⟩:=o.dE ke1
 obtain rfl:=A4 f1
 refine⟨_,_,rfl,?_⟩
 refine⟨o.wr 3 rfl rfl,fun w13 Azd=> ?_⟩
 obtain⟨Axd,o⟩:=o.dSs 3 Azd rfl
 refine⟨_,_,(o.at 3 rfl).whole,?_⟩
 exact⟨x2,h,⟨_,rfl,(Aq x2)⟩,o.done⟩
 refine Ac (fun h=> ?_) (fun h=> ?_) h
 refine⟨_,_,_,_,_,(o.at 2 rfl).whole,?_⟩
 refine⟨_,_,(o.at 1 rfl).whole,?_⟩
 refine⟨_,_,(o.at 0 rfl).whole,?_⟩
 have sT2:=(((((st.trans st2).trans st3).trans st4).trans st5).trans st6).trans st7
 refine Aa (h _ w8 (o.mn hm) _ _ Axc (f_l.st sT2) _ (A3 x) _ (Aq (⟨atx,false⟩:Am)) _ (Aq (⟨IntKind.i64.wrap (atx+1),true⟩:Am))) ?_
 rintro _ w14 ⟨x3,h,⟨cs3,rfl,f2⟩,ke2⟩
 obtain⟨Axb,o⟩:=o.dE ke2
 obtain rfl:=A4 f2
 refine⟨_,_,rfl,?_⟩
 refine⟨o.wr 3 rfl rfl,fun w15 Ayn=> ?_⟩
 obtain⟨Axl,o⟩:=o.dSs 3 Ayn rfl
 refine⟨_,_,(o.at 3 rfl).whole,?_⟩
 exact⟨x3,h,⟨_,rfl,(Aq x3)⟩,o.done⟩
 refine Ac (fun h=> ?_) (fun h=> ?_) h
 obtain⟨J1,h,h2⟩:=h
 refine⟨fun x4 w16=>J1 x4/\MT w m w8 w16 [.box b3 [.q (IntKind.i64.wrap (atx+1)),.bool true],.box b2 [.q atx,.bool false],.box b1 [.q x.op,.s x.name,.q x.n,.q x.kids,.q x.at_],.box b [.q 0,.bool false]],?_,?_⟩
 refine⟨_,(o.at 2 rfl).cell rfl,?_⟩
 refine Ac (fun h=> ?_) (fun h=> ?_) h
 refine⟨_,_,_,_,_,(o.at 2 rfl).whole,?_⟩
 refine Aa (h _ w8 (o.mn hm) _ (A3 x)) ?_
 rintro _ w17 ⟨x5,h,rfl,ke3⟩
 obtain⟨Axn,o⟩:=o.dE ke3
 refine⟨_,rfl,?_⟩
 refine Ac (fun h=> ?_) (fun h=> ?_) h
 exact⟨h,o,Axn⟩
 refine⟨_,_,_,_,_,(o.at 2 rfl).whole,?_⟩
 refine Aa (h _ w17 (o.mn hm) _ (A3 x)) ?_
 rintro _ w18 ⟨x6,h,rfl,ke4⟩
 obtain⟨Axx,o⟩:=o.dE ke4
 refine⟨_,rfl,?_⟩
 exact⟨h,o,(Axn.trans Axx)⟩
 exact⟨h,o,Step.refl _ _⟩
 rintro _ x4 w16 ⟨hJ,o,Axh⟩
 have h:=h2 x4 hJ
 refine Ac (fun h=> ?_) (fun h=> ?_) h
 refine⟨_,_,(o.at 0 rfl).whole,?_⟩
 refine⟨_,(o.at 2 rfl).cell rfl,?_⟩
 have sT3:=((((((st.trans st2).trans st3).trans st4).trans st5).trans st6).trans st7).trans Axh
 refine Aa (h _ w16 (o.mn hm) _ _ Axc (f_l.st sT3) _ (Aq (⟨IntKind.i64.wrap (atx+1),true⟩:Am))) ?_
 rintro _ w19 ⟨x7,h,⟨cs4,rfl,f3⟩,ke5⟩
 obtain⟨Ax4,o⟩:=o.dE ke5
 obtain rfl:=A4 f3
 refine⟨_,_,rfl,?_⟩
 refine⟨o.wr 3 rfl rfl,fun w20 Bdo=> ?_⟩
 obtain⟨Aye,o⟩:=o.dSs 3 Bdo rfl
 refine⟨_,_,(o.at 3 rfl).whole,?_⟩
 exact⟨x7,h,⟨_,rfl,(Aq x7)⟩,o.done⟩
 exact⟨0,false,h,o,Axh⟩
 refine Ac (fun h=> ?_) (fun h=> ?_) h
 obtain⟨J2,h,h2⟩:=h
 refine⟨fun x8 w21=>J2 x8/\MT w m w8 w21 [.box b3 [.q (IntKind.i64.wrap (atx+1)),.bool true],.box b2 [.q atx,.bool false],.box b1 [.q x.op,.s x.name,.q x.n,.q x.kids,.q x.at_],.box b [.q 0,.bool false]],?_,?_⟩
 refine⟨_,(o.at 2 rfl).cell rfl,?_⟩
 refine Ac (fun h=> ?_) (fun h=> ?_) h
 refine⟨_,(o.at 2 rfl).cell rfl,?_⟩
 refine Ac (fun h=> ?_) (fun h=> ?_) h
 refine⟨_,_,_,_,_,(o.at 2 rfl).whole,?_⟩
 refine⟨_,(o.at 2 rfl).cell rfl,?_⟩
 refine Aa (h _ w8 (o.mn hm) _ (A3 x)) ?_
 rintro _ w22 ⟨x9,h,rfl,ke6⟩
 obtain⟨Ayi,o⟩:=o.dE ke6
 refine⟨_,rfl,?_⟩
 exact⟨h,o,Ayi⟩
 exact⟨h,o,Step.refl _ _⟩
 exact⟨h,o,Step.refl _ _⟩
 rintro _ x8 w21 ⟨hJ,o,Ayc⟩
 have h:=h2 x8 hJ
 refine Ac (fun h=> ?_) (fun h=> ?_) h
 refine⟨_,_,(o.at 0 rfl).whole,?_⟩
 refine⟨_,(o.at 2 rfl).cell rfl,?_⟩
 have sT4:=((((((st.trans st2).trans st3).trans st4).trans st5).trans st6).trans st7).trans Ayc
 refine Aa (h _ w21 (o.mn hm) _ _ Axc (f_l.st sT4) _ (Aq (⟨IntKind.i64.wrap (atx+1),true⟩:Am))) ?_
 rintro _ w23 ⟨x10,h,⟨cs5,rfl,f4⟩,ke7⟩
 obtain⟨Ayo,o⟩:=o.dE ke7
 obtain rfl:=A4 f4
 refine⟨_,_,rfl,?_⟩
 refine⟨o.wr 3 rfl rfl,fun w24 Bcy=> ?_⟩
 obtain⟨Azp,o⟩:=o.dSs 3 Bcy rfl
 refine⟨_,_,(o.at 3 rfl).whole,?_⟩
 exact⟨x10,h,⟨_,rfl,(Aq x10)⟩,o.done⟩
 exact⟨0,false,h,o,Ayc⟩
 refine Ac (fun h=> ?_) (fun h=> ?_) h
 obtain⟨J3,h,h2⟩:=h
 refine⟨fun x11 w25=>J3 x11/\MT w m w8 w25 [.box b3 [.q (IntKind.i64.wrap (atx+1)),.bool true],.box b2 [.q atx,.bool false],.box b1 [.q x.op,.s x.name,.q x.n,.q x.kids,.q x.at_],.box b [.q 0,.bool false]],?_,?_⟩
 refine⟨_,(o.at 2 rfl).cell rfl,?_⟩
 refine Ac (fun h=> ?_) (fun h=> ?_) h
 refine⟨_,_,_,_,_,(o.at 2 rfl).whole,?_⟩
 refine Aa (h _ w8 (o.mn hm) _ (A3 x)) ?_
 rintro _ w26 ⟨x12,h,rfl,ke8⟩
 obtain⟨Ay3,o⟩:=o.dE ke8
 refine⟨_,rfl,?_⟩
 exact⟨h,o,Ay3⟩
 exact⟨h,o,Step.refl _ _⟩
 rintro _ x11 w25 ⟨hJ,o,Ay2⟩
 have h:=h2 x11 hJ
 refine Ac (fun h=> ?_) (fun h=> ?_) h
 refine⟨_,_,(o.at 0 rfl).whole,?_⟩
 refine⟨o.wr 3 rfl rfl,fun w27 Bfw=> ?_⟩
 obtain⟨Bad,o⟩:=o.dSs 3 Bfw rfl
 refine⟨_,_,(o.at 3 rfl).whole,?_⟩
 exact⟨(⟨IntKind.i64.wrap (atx+1),true⟩:Am),h,⟨_,rfl,(Aq (⟨IntKind.i64.wrap (atx+1),true⟩:Am))⟩,o.done⟩
 exact⟨0,false,h,o,Ay2⟩
 refine Ac (fun h=> ?_) (fun h=> ?_) h
 obtain⟨J4,h,h2⟩:=h
 refine⟨fun x13 w28=>J4 x13/\MT w m w8 w28 [.box b3 [.q (IntKind.i64.wrap (atx+1)),.bool true],.box b2 [.q atx,.bool false],.box b1 [.q x.op,.s x.name,.q x.n,.q x.kids,.q x.at_],.box b [.q 0,.bool false]],?_,?_⟩
 refine⟨_,(o.at 2 rfl).cell rfl,?_⟩
 refine Ac (fun h=> ?_) (fun h=> ?_) h
 refine⟨_,(o.at 2 rfl).cell rfl,?_⟩
 refine Ac (fun h=> ?_) (fun h=> ?_) h
 refine⟨_,_,_,_,_,(o.at 2 rfl).whole,?_⟩
 refine⟨_,(o.at 2 rfl).cell rfl,?_⟩
 refine Aa (h _ w8 (o.mn hm) _ (A3 x)) ?_
 rintro _ w29 ⟨x14,h,rfl,ke9⟩
 obtain⟨Azj,o⟩:=o.dE ke9
 refine⟨_,rfl,?_⟩
 exact⟨h,o,Azj⟩
 exact⟨h,o,Step.refl _ _⟩
 exact⟨h,o,Step.refl _ _⟩
 rintro _ x13 w28 ⟨hJ,o,Ay7⟩
 have h:=h2 x13 hJ
 refine Ac (fun h=> ?_) (fun h=> ?_) h
 refine⟨_,_,(o.at 0 rfl).whole,?_⟩
 refine⟨_,(o.at 2 rfl).cell rfl,?_⟩
 have sT5:=((((((st.trans st2).trans st3).trans st4).trans st5).trans st6).trans st7).trans Ay7
 refine Aa (h _ w28 (o.mn hm) _ _ Axc (f_l.st sT5) _ (Aq (⟨IntKind.i64.wrap (atx+1),true⟩:Am))) ?_
 rintro _ w30 ⟨x15,h,⟨cs6,rfl,f5⟩,Bae⟩
 obtain⟨Azq,o⟩:=o.dE Bae
 obtain rfl:=A4 f5
 refine⟨_,_,rfl,?_⟩
 refine⟨o.wr 3 rfl rfl,fun w31 Bj2=> ?_⟩
 obtain⟨Azz,o⟩:=o.dSs 3 Bj2 rfl
 refine⟨_,_,(o.at 3 rfl).whole,?_⟩
 exact⟨x15,h,⟨_,rfl,(Aq x15)⟩,o.done⟩
 exact⟨0,false,h,o,Ay7⟩
 refine Ac (fun h=> ?_) (fun h=> ?_) h
 refine⟨_,(o.at 2 rfl).cell rfl,?_⟩
 refine Ac (fun h=> ?_) (fun h=> ?_) h
 obtain⟨J5,h,h2⟩:=h
 refine⟨fun x16 w32=>J5 x16/\MT w m w8 w32 [.box b3 [.q (IntKind.i64.wrap (atx+1)),.bool true],.box b2 [.q atx,.bool false],.box b1 [.q x.op,.s x.name,.q x.n,.q x.kids,.q x.at_],.box b [.q 0,.bool false]],?_,?_⟩
 refine⟨_,(o.at 2 rfl).cell rfl,?_⟩
 refine Aa (h _ w8 (o.mn hm)) ?_
 rintro _ w33 ⟨x17,h,rfl,Bb6⟩
 obtain⟨Ay8,o⟩:=o.dE Bb6
 refine⟨_,rfl,?_⟩
 refine Ac (fun h=> ?_) (fun h=> ?_) h
 refine⟨_,(o.at 2 rfl).cell rfl,?_⟩
 refine Ac (fun h=> ?_) (fun h=> ?_) h
 refine⟨_,(o.at 2 rfl).cell rfl,?_⟩
 refine Ac (fun h=> ?_) (fun h=> ?_) h
 refine⟨_,(o.at 2 rfl).cell rfl,?_⟩
 exact⟨h,o,Ay8⟩
 exact⟨h,o,Ay8⟩
 exact⟨h,o,Ay8⟩
 exact⟨h,o,Ay8⟩
 rintro _ x16 w32 ⟨hJ,o,Bbb⟩
 have h:=h2 x16 hJ
 refine Ac (fun h=> ?_) (fun h=> ?_) h
 refine⟨_,_,(o.at 0 rfl).whole,?_⟩
 refine⟨o.wr 3 rfl rfl,fun w34 Ber=> ?_⟩
 obtain⟨Az6,o⟩:=o.dSs 3 Ber rfl
 refine⟨_,_,(o.at 3 rfl).whole,?_⟩
 exact⟨(⟨IntKind.i64.wrap (atx+1),true⟩:Am),h,⟨_,rfl,(Aq (⟨IntKind.i64.wrap (atx+1),true⟩:Am))⟩,o.done⟩
 exact⟨0,false,h,o,Bbb⟩
 refine Ac (fun h=> ?_) (fun h=> ?_) h
 refine⟨_,_,_,_,_,(o.at 2 rfl).whole,?_⟩
 refine Aa (h _ w8 (o.mn hm) _ (A3 x)) ?_
 rintro _ w35 ⟨x18,h,rfl,Bcu⟩
 obtain⟨Azk,o⟩:=o.dE Bcu
 refine⟨_,rfl,?_⟩
 refine Ac (fun h=> ?_) (fun h=> ?_) h
 refine⟨_,_,(o.at 0 rfl).whole,?_⟩
 have sT6:=((((((st.trans st2).trans st3).trans st4).trans st5).trans st6).trans st7).trans Azk
 refine Aa (h _ w35 (o.mn hm) _ _ Axc (f_l.st sT6) _ (Aq (⟨IntKind.i64.wrap (atx+1),true⟩:Am))) ?_
 rintro _ w36 ⟨x19,h,⟨cs7,rfl,f6⟩,Bcv⟩
 obtain⟨Bc4,o⟩:=o.dE Bcv
 obtain rfl:=A4 f6
 refine⟨_,_,rfl,?_⟩
 refine⟨o.wr 3 rfl rfl,fun w37 Cf9=> ?_⟩
 obtain⟨Azr,o⟩:=o.dSs 3 Cf9 rfl
 refine⟨_,_,(o.at 3 rfl).whole,?_⟩
 exact⟨x19,h,⟨_,rfl,(Aq x19)⟩,o.done⟩
 exact⟨0,false,h,o,Azk⟩
 refine Ac (fun h=> ?_) (fun h=> ?_) h
 obtain⟨J6,h,h2⟩:=h
 refine⟨fun x20 w38=>J6 x20/\MT w m w8 w38 [.box b3 [.q (IntKind.i64.wrap (atx+1)),.bool true],.box b2 [.q atx,.bool false],.box b1 [.q x.op,.s x.name,.q x.n,.q x.kids,.q x.at_],.box b [.q 0,.bool false]],?_,?_⟩
 refine⟨_,(o.at 2 rfl).cell rfl,?_⟩
 refine Ac (fun h=> ?_) (fun h=> ?_) h
 refine⟨_,_,_,_,_,(o.at 2 rfl).whole,?_⟩
 refine⟨_,(o.at 2 rfl).cell rfl,?_⟩
 refine Aa (h _ w8 (o.mn hm) _ (A3 x)) ?_
 rintro _ w39 ⟨x21,h,rfl,Bcw⟩
 obtain⟨Baf,o⟩:=o.dE Bcw
 refine⟨_,rfl,?_⟩
 exact⟨h,o,Baf⟩
 exact⟨h,o,Step.refl _ _⟩
 rintro _ x20 w38 ⟨hJ,o,Az7⟩
 have h:=h2 x20 hJ
 refine Ac (fun h=> ?_) (fun h=> ?_) h
 refine⟨_,_,(o.at 0 rfl).whole,?_⟩
 refine⟨_,(o.at 2 rfl).cell rfl,?_⟩
 have sT7:=((((((st.trans st2).trans st3).trans st4).trans st5).trans st6).trans st7).trans Az7
 refine Aa (h _ w38 (o.mn hm) _ _ Axc (f_l.st sT7) _ (Aq (⟨IntKind.i64.wrap (atx+1),true⟩:Am))) ?_
 rintro _ w40 ⟨x22,h,⟨cs8,rfl,f7⟩,Bbx⟩
 obtain⟨Bbc,o⟩:=o.dE Bbx
 obtain rfl:=A4 f7
 refine⟨_,_,rfl,?_⟩
 have sT8:=sT7.trans Bbc
 refine Aa (h _ w40 (o.mn hm) _ _ Axc (f_l.st sT8) _ (Aq x22)) ?_
 rintro _ w41 ⟨x23,h,⟨cs9,rfl,f8⟩,Bby⟩
 obtain⟨Bdr,o⟩:=o.dE Bby
 obtain rfl:=A4 f8
 refine⟨_,_,rfl,?_⟩
 refine⟨o.wr 3 rfl rfl,fun w42 Cga=> ?_⟩
 obtain⟨Bcx,o⟩:=o.dSs 3 Cga rfl
 refine⟨_,_,(o.at 3 rfl).whole,?_⟩
 exact⟨x23,h,⟨_,rfl,(Aq x23)⟩,o.done⟩
 exact⟨0,false,h,o,Az7⟩
 exact⟨0,false,h,o,Step.refl _ _⟩
 exact⟨0,false,h,o,Step.refl _ _⟩
 rintro _ w9 ⟨At,Ok,hJ,o,st8⟩
 have h:=h2 At Ok hJ
 refine⟨_,_,(o.at 1 rfl).whole,?_⟩
 refine⟨o.wr 3 rfl rfl,fun w43 Bk9=> ?_⟩
 obtain⟨Bfh,o⟩:=o.dSs 3 Bk9 rfl
 refine⟨_,_,(o.at 3 rfl).whole,?_⟩
 exact⟨(⟨atx,false⟩:Am),h,⟨_,rfl,(Aq (⟨atx,false⟩:Am))⟩,o.done⟩
def Ah3 (l:List Ai) (cq:Am) (Axp:List UInt8) (n:Int) (K:Am->Prop):Prop:=
 ∃(I:Int->Int->Bool->Nat->Prop),(∃n1,I 0 cq.at_ cq.ok n1)/\
 ∀(k:Int) (At:Int) (Ok:Bool) (n1:Nat),I k At Ok n1->
 ∃(J:Bool->Prop),
 (cond (decide (k<n))
 (J Ok)
 (J false))/\
 ∀(x:Bool),J x->
 cond (x)
 (K1 l At Axp (fun x1=>
 ∃n2,n2<n1/\I (IntKind.i64.wrap (k+1)) x1.at_ x1.ok n2))
 (K (⟨At,Ok⟩:Am))
theorem Aeq (l:List Ai) (cq:Am) (Axp:List UInt8) (n:Int) (K:Am->Prop) (h:Ah3 l cq Axp n K):F6 l cq Axp n K:=by
 intro m w hm lA lC Axc f_l Axm Ayv
 obtain rfl:=A4 Ayv
 have o:=Mem.start hm.lt
 refine Ajn lA l.length lC _ _ Axp n _ _ ?_
 intro b w1 hb hw1
 obtain⟨st,o⟩:=o.dB hb hw1
 intro b1 w2 hb1 hw2
 obtain⟨st1,o⟩:=o.dB hb1 hw2
 obtain⟨I,⟨n3,h⟩,h2⟩:=h
 obtain⟨Z,hZ⟩:∃Z:Int->World->Nat->Prop,Z=fun k w3 n1=>∃(At:Int) (Ok:Bool),I k At Ok n1/\MS w m w2 [.box b1 [.q 0,.bool false],.box b [.q cq.at_,.bool cq.ok]] w3 [.box b1 [.q 0,.bool false],.box b [.q At,.bool Ok]]:=⟨_,rfl⟩
 refine⟨fun k w3=>∃n1,Z k w3 n1,fun k w3=>Aw0 (Z k w3),⟨n3,?_⟩,?_⟩
 rw [hZ];exact⟨cq.at_,cq.ok,h,o,Step.refl _ _⟩
 intro _ k w3 hIZ
 obtain⟨n1,Az0⟩:∃n1,n1=Aw0 (Z k w3):=⟨_,rfl⟩
 have hIZ:=Bz hIZ
 rw [←Az0,hZ]at hIZ
 obtain⟨At,Ok,h,o,st2⟩:=hIZ
 have h:=h2 k At Ok n1 h
 obtain⟨J,h,h2⟩:=h
 refine⟨fun x w4=>J x/\MT w m w3 w4 [.box b1 [.q 0,.bool false],.box b [.q At,.bool Ok]],?_,?_⟩
 refine Ac (fun h=> ?_) (fun h=> ?_) h
 refine⟨_,(o.at 1 rfl).cell rfl,?_⟩
 exact⟨h,o,Step.refl _ _⟩
 exact⟨h,o,Step.refl _ _⟩
 rintro _ x w4 ⟨hJ,o,st3⟩
 have h:=h2 x hJ
 refine Ac (fun h=> ?_) (fun h=> ?_) h
 refine⟨_,(o.at 1 rfl).cell rfl,?_⟩
 have sT:=((st.trans st1).trans st2).trans st3
 refine Aa (h _ w4 (o.mn hm) _ _ Axc (f_l.st sT)) ?_
 rintro _ w5 ⟨x1,h,⟨cs,rfl,f⟩,ke⟩
 obtain⟨st4,o⟩:=o.dE ke
 obtain rfl:=A4 f
 refine⟨_,_,rfl,?_⟩
 refine⟨o.wr 1 rfl rfl,fun w6 hw6=> ?_⟩
 obtain⟨st5,o⟩:=o.dSs 1 hw6 rfl
 obtain⟨n2,hl,h⟩:=h
 have sT1:=((st2.trans st3).trans st4).trans st5
 exact Bh Az0 (show Z _ w6 n2 from(by rw [hZ];exact⟨x1.at_,x1.ok,h,o,sT1⟩)) hl
 refine⟨_,_,(o.at 1 rfl).whole,?_⟩
 refine⟨o.wr 0 rfl rfl,fun w7 hw7=> ?_⟩
 obtain⟨st6,o⟩:=o.dSs 0 hw7 rfl
 refine⟨_,_,(o.at 0 rfl).whole,?_⟩
 exact⟨(⟨At,Ok⟩:Am),h,⟨_,rfl,(Aq (⟨At,Ok⟩:Am))⟩,o.done⟩
def Ah4 (l:List Ai) (cq:Am) (Aym:List UInt8) (K:Am->Prop):Prop:=
 ∃(I:Int->Int->Bool->Nat->Prop),(∃n,I 0 cq.at_ cq.ok n)/\
 ∀(k:Int) (At:Int) (Ok:Bool) (n:Nat),I k At Ok n->
 ∃(J:Bool->Prop),
 (cond (decide (k<(Aym.length:Int)))
 (J Ok)
 (J false))/\
 ∀(x:Bool),J x->
 cond (x)
 (∃(J1:Int->Bool->Prop),
 ((((0:Int)<=(IntKind.i64.wrap (k+1))/\(IntKind.i64.wrap (k+1))<=(Aym.length:Int))/\(0:Int)<=k/\k<=((IntKind.i64.wrap (k+1)).toNat:Int))/\
 K1 l At ((Aym.take (IntKind.i64.wrap (k+1)).toNat).drop k.toNat) (fun x1=>
 J1 x1.at_ x1.ok))/\
 ∀(At1:Int) (Ok1:Bool),J1 At1 Ok1->
 ∃n1,n1<n/\I (IntKind.i64.wrap (k+1)) At1 Ok1 n1)
 (K (⟨At,Ok⟩:Am))
theorem Aer (l:List Ai) (cq:Am) (Aym:List UInt8) (K:Am->Prop) (h:Ah4 l cq Aym K):Cy l cq Aym K:=by
 intro m w hm lA lC Axc f_l Axm Ayv
 obtain rfl:=A4 Ayv
 have o:=Mem.start hm.lt
 refine Ajp lA l.length lC _ _ Aym _ _ ?_
 intro b w1 hb hw1
 obtain⟨st,o⟩:=o.dB hb hw1
 intro b1 w2 hb1 hw2
 obtain⟨st1,o⟩:=o.dB hb1 hw2
 obtain⟨I,⟨n2,h⟩,h2⟩:=h
 obtain⟨Z,hZ⟩:∃Z:Int->World->Nat->Prop,Z=fun k w3 n=>∃(At:Int) (Ok:Bool),I k At Ok n/\MS w m w2 [.box b1 [.q 0,.bool false],.box b [.q cq.at_,.bool cq.ok]] w3 [.box b1 [.q 0,.bool false],.box b [.q At,.bool Ok]]:=⟨_,rfl⟩
 refine⟨fun k w3=>∃n,Z k w3 n,fun k w3=>Aw0 (Z k w3),⟨n2,?_⟩,?_⟩
 rw [hZ];exact⟨cq.at_,cq.ok,h,o,Step.refl _ _⟩
 intro _ k w3 hIZ
 obtain⟨n,hnn⟩:∃n,n=Aw0 (Z k w3):=⟨_,rfl⟩
 have hIZ:=Bz hIZ
 rw [←hnn,hZ]at hIZ
 obtain⟨At,Ok,h,o,st2⟩:=hIZ
 have h:=h2 k At Ok n h
 obtain⟨J,h,h2⟩:=h
 refine⟨fun x w4=>J x/\MT w m w3 w4 [.box b1 [.q 0,.bool false],.box b [.q At,.bool Ok]],?_,?_⟩
 refine Ac (fun h=> ?_) (fun h=> ?_) h
 refine⟨_,(o.at 1 rfl).cell rfl,?_⟩
 exact⟨h,o,Step.refl _ _⟩
 exact⟨h,o,Step.refl _ _⟩
 rintro _ x w4 ⟨hJ,o,st3⟩
 have h:=h2 x hJ
 refine Ac (fun h=> ?_) (fun h=> ?_) h
 obtain⟨J1,h,h2⟩:=h
 refine⟨fun w5=>∃(At1:Int) (Ok1:Bool),J1 At1 Ok1/\MS w m w4 [.box b1 [.q 0,.bool false],.box b [.q At,.bool Ok]] w5 [.box b1 [.q 0,.bool false],.box b [.q At1,.bool Ok1]],?_,?_⟩
 intro w6 hw6
 obtain⟨st5,o⟩:=o.dD hw6
 refine⟨_,(o.at 1 rfl).cell rfl,?_⟩
 refine⟨h.1,?_⟩
 have h:=And.right h
 have sT:=(((st.trans st1).trans st2).trans st3).trans st5
 refine Aa (h _ w6 (o.mn hm) _ _ Axc (f_l.st sT)) ?_
 rintro _ w7 ⟨x1,h,⟨cs,rfl,f⟩,ke⟩
 obtain⟨st6,o⟩:=o.dE ke
 obtain rfl:=A4 f
 refine⟨_,_,rfl,?_⟩
 refine⟨o.wr 1 rfl rfl,fun w8 hw8=> ?_⟩
 obtain⟨st7,o⟩:=o.dSs 1 hw8 rfl
 have sT1:=(st5.trans st6).trans st7
 exact⟨x1.at_,x1.ok,h,o,sT1⟩
 rintro _ w5 ⟨At1,Ok1,hJ,o,st4⟩
 have h:=h2 At1 Ok1 hJ
 obtain⟨n1,hl,h⟩:=h
 have sT2:=(st2.trans st3).trans st4
 exact Bh hnn (show Z _ w5 n1 from(by rw [hZ];exact⟨At1,Ok1,h,o,sT2⟩)) hl
 refine⟨_,_,(o.at 1 rfl).whole,?_⟩
 refine⟨o.wr 0 rfl rfl,fun w9 hw9=> ?_⟩
 obtain⟨st8,o⟩:=o.dSs 0 hw9 rfl
 refine⟨_,_,(o.at 0 rfl).whole,?_⟩
 exact⟨(⟨At,Ok⟩:Am),h,⟨_,rfl,(Aq (⟨At,Ok⟩:Am))⟩,o.done⟩
def Aes (l:List Ai) (xq:Ai) (no:Am) (inx:Am) (K:Am->Prop):Prop:=
 ∃(J:Bool->Prop),
 (cond (xq.op==1)
 (cond (xq.name==[])
 (cond (xq.kids==0)
 (cond (decide (xq.n>=0))
 (J (decide (xq.n<=999999999999999999)))
 (J false))
 (J false))
 (J false))
 (J false))/\
 ∀(x:Bool),J x->
 cond (x)
 (K inx)
 (∃(J1:Bool->Prop),
 (cond (xq.op==2)
 (Ft xq 0 (fun x2=>
 J1 x2))
 (J1 false))/\
 ∀(x1:Bool),J1 x1->
 cond (x1)
 (K inx)
 (∃(J2:Bool->Prop),
 (cond (xq.op==3)
 (C6 xq 1 (fun x4=>
 J2 x4))
 (cond (xq.op==4)
 (C6 xq 1 (fun x5=>
 J2 x5))
 (J2 false)))/\
 ∀(x3:Bool),J2 x3->
 cond (x3)
 (Cy l inx [69] (fun x6=>
 K x6))
 (∃(J3:Bool->Prop),
 (cond (decide (xq.op>=5))
 (cond (decide (xq.op<=17))
 (C6 xq 2 (fun x8=>
 J3 x8))
 (J3 false))
 (J3 false))/\
 ∀(x7:Bool),J3 x7->
 cond (x7)
 (Cy l inx [69,69] (fun x9=>
 K x9))
 (K no))))
set_option maxHeartbeats 4000000 in
theorem Abh (l:List Ai) (xq:Ai) (no:Am) (inx:Am) (K:Am->Prop) (h:Aes l xq no inx K):So l xq no inx K:=by
 intro m w hm lA lC Axc f_l Axq Ayu Bco Bj3 Azx Bex
 obtain rfl:=Bg Ayu
 obtain rfl:=A4 Bj3
 obtain rfl:=A4 Bex
 have o:=Mem.start hm.lt
 refine Ags lA l.length lC _ _ _ _ _ _ _ _ _ _ _ ?_
 intro b w1 hb hw1
 obtain⟨st,o⟩:=o.dB hb hw1
 intro b1 w2 hb1 hw2
 obtain⟨st1,o⟩:=o.dB hb1 hw2
 intro b2 w3 hb2 hw3
 obtain⟨st2,o⟩:=o.dB hb2 hw3
 intro b3 w4 hb3 hw4
 obtain⟨st3,o⟩:=o.dB hb3 hw4
 obtain⟨J,h,h2⟩:=h
 refine⟨fun x w5=>J x/\MT w m w4 w5 [.box b3 [.q 0,.bool false],.box b2 [.q inx.at_,.bool inx.ok],.box b1 [.q no.at_,.bool no.ok],.box b [.q xq.op,.s xq.name,.q xq.n,.q xq.kids,.q xq.at_]],?_,?_⟩
 refine⟨_,(o.at 3 rfl).cell rfl,?_⟩
 refine Ac (fun h=> ?_) (fun h=> ?_) h
 refine⟨_,(o.at 3 rfl).cell rfl,?_⟩
 refine Ac (fun h=> ?_) (fun h=> ?_) h
 refine⟨_,(o.at 3 rfl).cell rfl,?_⟩
 refine Ac (fun h=> ?_) (fun h=> ?_) h
 refine⟨_,(o.at 3 rfl).cell rfl,?_⟩
 refine Ac (fun h=> ?_) (fun h=> ?_) h
 refine⟨_,(o.at 3 rfl).cell rfl,?_⟩
 exact⟨h,o,Step.refl _ _⟩
 exact⟨h,o,Step.refl _ _⟩
 exact⟨h,o,Step.refl _ _⟩
 exact⟨h,o,Step.refl _ _⟩
 exact⟨h,o,Step.refl _ _⟩
 rintro _ x w5 ⟨hJ,o,st4⟩
 have h:=h2 x hJ
 refine Ac (fun h=> ?_) (fun h=> ?_) h
 refine⟨_,_,(o.at 1 rfl).whole,?_⟩
 refine⟨o.wr 0 rfl rfl,fun w6 hw6=> ?_⟩
 obtain⟨st5,o⟩:=o.dSs 0 hw6 rfl
 refine⟨_,_,(o.at 0 rfl).whole,?_⟩
 exact⟨inx,h,⟨_,rfl,(Aq inx)⟩,o.done⟩
 obtain⟨J1,h,h2⟩:=h
 refine⟨fun x1 w7=>J1 x1/\MT w m w5 w7 [.box b3 [.q 0,.bool false],.box b2 [.q inx.at_,.bool inx.ok],.box b1 [.q no.at_,.bool no.ok],.box b [.q xq.op,.s xq.name,.q xq.n,.q xq.kids,.q xq.at_]],?_,?_⟩
 refine⟨_,(o.at 3 rfl).cell rfl,?_⟩
 refine Ac (fun h=> ?_) (fun h=> ?_) h
 refine⟨_,_,_,_,_,(o.at 3 rfl).whole,?_⟩
 refine Aa (h _ w5 (o.mn hm) _ (A3 xq)) ?_
 rintro _ w8 ⟨x2,h,rfl,ke⟩
 obtain⟨st7,o⟩:=o.dE ke
 refine⟨_,rfl,?_⟩
 exact⟨h,o,st7⟩
 exact⟨h,o,Step.refl _ _⟩
 rintro _ x1 w7 ⟨hJ,o,st6⟩
 have h:=h2 x1 hJ
 refine Ac (fun h=> ?_) (fun h=> ?_) h
 refine⟨_,_,(o.at 1 rfl).whole,?_⟩
 refine⟨o.wr 0 rfl rfl,fun w9 hw9=> ?_⟩
 obtain⟨st8,o⟩:=o.dSs 0 hw9 rfl
 refine⟨_,_,(o.at 0 rfl).whole,?_⟩
 exact⟨inx,h,⟨_,rfl,(Aq inx)⟩,o.done⟩
 obtain⟨J2,h,h2⟩:=h
 refine⟨fun x3 w10=>J2 x3/\MT w m w7 w10 [.box b3 [.q 0,.bool false],.box b2 [.q inx.at_,.bool inx.ok],.box b1 [.q no.at_,.bool no.ok],.box b [.q xq.op,.s xq.name,.q xq.n,.q xq.kids,.q xq.at_]],?_,?_⟩
 refine⟨_,(o.at 3 rfl).cell rfl,?_⟩
 refine Ac (fun h=> ?_) (fun h=> ?_) h
 refine⟨_,_,_,_,_,(o.at 3 rfl).whole,?_⟩
 refine Aa (h _ w7 (o.mn hm) _ (A3 xq)) ?_
 rintro _ w11 ⟨x4,h,rfl,ke1⟩
 obtain⟨Aw6,o⟩:=o.dE ke1
 refine⟨_,rfl,?_⟩
 exact⟨h,o,Aw6⟩
 refine⟨_,(o.at 3 rfl).cell rfl,?_⟩
 refine Ac (fun h=> ?_) (fun h=> ?_) h
 refine⟨_,_,_,_,_,(o.at 3 rfl).whole,?_⟩
 refine Aa (h _ w7 (o.mn hm) _ (A3 xq)) ?_
 rintro _ w12 ⟨x5,h,rfl,ke2⟩
 obtain⟨Aw8,o⟩:=o.dE ke2
 refine⟨_,rfl,?_⟩
 exact⟨h,o,Aw8⟩
 exact⟨h,o,Step.refl _ _⟩
 rintro _ x3 w10 ⟨hJ,o,st9⟩
 have h:=h2 x3 hJ
 refine Ac (fun h=> ?_) (fun h=> ?_) h
 refine⟨_,_,(o.at 1 rfl).whole,?_⟩
 have sT:=(((((st.trans st1).trans st2).trans st3).trans st4).trans st6).trans st9
 refine Aa (h _ w10 (o.mn hm) _ _ Axc (f_l.st sT) _ (Aq inx)) ?_
 rintro _ w13 ⟨x6,h,⟨cs,rfl,f⟩,ke3⟩
 obtain⟨Axd,o⟩:=o.dE ke3
 obtain rfl:=A4 f
 refine⟨_,_,rfl,?_⟩
 refine⟨o.wr 0 rfl rfl,fun w14 Bag=> ?_⟩
 obtain⟨Axb,o⟩:=o.dSs 0 Bag rfl
 refine⟨_,_,(o.at 0 rfl).whole,?_⟩
 exact⟨x6,h,⟨_,rfl,(Aq x6)⟩,o.done⟩
 obtain⟨J3,h,h2⟩:=h
 refine⟨fun x7 w15=>J3 x7/\MT w m w10 w15 [.box b3 [.q 0,.bool false],.box b2 [.q inx.at_,.bool inx.ok],.box b1 [.q no.at_,.bool no.ok],.box b [.q xq.op,.s xq.name,.q xq.n,.q xq.kids,.q xq.at_]],?_,?_⟩
 refine⟨_,(o.at 3 rfl).cell rfl,?_⟩
 refine Ac (fun h=> ?_) (fun h=> ?_) h
 refine⟨_,(o.at 3 rfl).cell rfl,?_⟩
 refine Ac (fun h=> ?_) (fun h=> ?_) h
 refine⟨_,_,_,_,_,(o.at 3 rfl).whole,?_⟩
 refine Aa (h _ w10 (o.mn hm) _ (A3 xq)) ?_
 rintro _ w16 ⟨x8,h,rfl,ke4⟩
 obtain⟨Axh,o⟩:=o.dE ke4
 refine⟨_,rfl,?_⟩
 exact⟨h,o,Axh⟩
 exact⟨h,o,Step.refl _ _⟩
 exact⟨h,o,Step.refl _ _⟩
 rintro _ x7 w15 ⟨hJ,o,Axl⟩
 have h:=h2 x7 hJ
 refine Ac (fun h=> ?_) (fun h=> ?_) h
 refine⟨_,_,(o.at 1 rfl).whole,?_⟩
 have sT1:=((((((st.trans st1).trans st2).trans st3).trans st4).trans st6).trans st9).trans Axl
 refine Aa (h _ w15 (o.mn hm) _ _ Axc (f_l.st sT1) _ (Aq inx)) ?_
 rintro _ w17 ⟨x9,h,⟨cs1,rfl,f1⟩,ke5⟩
 obtain⟨Axn,o⟩:=o.dE ke5
 obtain rfl:=A4 f1
 refine⟨_,_,rfl,?_⟩
 refine⟨o.wr 0 rfl rfl,fun w18 Azy=> ?_⟩
 obtain⟨Axx,o⟩:=o.dSs 0 Azy rfl
 refine⟨_,_,(o.at 0 rfl).whole,?_⟩
 exact⟨x9,h,⟨_,rfl,(Aq x9)⟩,o.done⟩
 refine⟨_,_,(o.at 2 rfl).whole,?_⟩
 refine⟨o.wr 0 rfl rfl,fun w19 Bc7=> ?_⟩
 obtain⟨Ax4,o⟩:=o.dSs 0 Bc7 rfl
 refine⟨_,_,(o.at 0 rfl).whole,?_⟩
 exact⟨no,h,⟨_,rfl,(Aq no)⟩,o.done⟩
def Aet (l:List Ai) (xq:Ai) (no:Am) (inx:Am) (K:Am->Prop):Prop:=
 ∃(J:Int->Bool->Prop),
 (∃(J1:Bool->Prop),
 (cond (xq.op==18)
 (J1 (xq.op==18))
 (cond (xq.op==19)
 (J1 (xq.op==19))
 (J1 (xq.op==20))))/\
 ∀(x:Bool),J1 x->
 cond (x)
 (Ft xq 1 (fun x1=>
 cond (x1)
 (Cy l inx [69] (fun x2=>
 K x2))
 (J 0 false)))
 (cond (xq.op==21)
 (C6 xq 2 (fun x3=>
 cond (x3)
 (Cy l inx [82,69] (fun x4=>
 K x4))
 (J 0 false)))
 (cond (xq.op==22)
 (Ft xq 1 (fun x5=>
 cond (x5)
 (Cy l inx [82] (fun x6=>
 K x6))
 (J 0 false)))
 (cond (xq.op==23)
 (C6 xq 2 (fun x7=>
 cond (x7)
 (Cy l inx [69,66] (fun x8=>
 K x8))
 (C6 xq 3 (fun x9=>
 cond (x9)
 (Cy l inx [69,66,66] (fun x10=>
 K x10))
 (J 0 false)))))
 (cond (xq.op==24)
 (C6 xq 2 (fun x11=>
 cond (x11)
 (Cy l inx [69,66] (fun x12=>
 K x12))
 (J 0 false)))
 (cond (xq.op==25)
 (∃(J2:Bool->Prop),
 (cond (decide (xq.kids>=1))
 (C6 xq xq.kids (fun x14=>
 J2 x14))
 (J2 false))/\
 ∀(x13:Bool),J2 x13->
 cond (x13)
 (F6 l inx [67] xq.kids (fun x15=>
 K x15))
 (J 0 false))
 (cond (xq.op==26)
 (∃(J3:Bool->Prop),
 (cond (decide (xq.kids>=0))
 (Ft xq xq.kids (fun x17=>
 J3 x17))
 (J3 false))/\
 ∀(x16:Bool),J3 x16->
 cond (x16)
 (F6 l inx [69] xq.kids (fun x18=>
 K x18))
 (J 0 false))
 (∃(J4:Bool->Prop),
 (cond (xq.op==27)
 (J4 (xq.op==27))
 (cond (xq.op==28)
 (J4 (xq.op==28))
 (J4 (xq.op==29))))/\
 ∀(x19:Bool),J4 x19->
 cond (x19)
 (C6 xq 1 (fun x20=>
 cond (x20)
 (Cy l inx [69] (fun x21=>
 K x21))
 (J 0 false)))
 (∃(J5:Bool->Prop),
 (cond (xq.op==30)
 (J5 (xq.op==30))
 (J5 (xq.op==31)))/\
 ∀(x22:Bool),J5 x22->
 cond (x22)
 (C6 xq 0 (fun x23=>
 cond (x23)
 (K inx)
 (J 0 false)))
 (J 0 false))))))))))/\
 ∀(At:Int) (Ok:Bool),J At Ok->
 K no
set_option maxHeartbeats 4000000 in
theorem Abi (l:List Ai) (xq:Ai) (no:Am) (inx:Am) (K:Am->Prop) (h:Aet l xq no inx K):Sp l xq no inx K:=by
 intro m w hm lA lC Axc f_l Axq Ayu Bco Bj3 Azx Bex
 obtain rfl:=Bg Ayu
 obtain rfl:=A4 Bj3
 obtain rfl:=A4 Bex
 have o:=Mem.start hm.lt
 refine Agu lA l.length lC _ _ _ _ _ _ _ _ _ _ _ ?_
 intro b w1 hb hw1
 obtain⟨st,o⟩:=o.dB hb hw1
 intro b1 w2 hb1 hw2
 obtain⟨st1,o⟩:=o.dB hb1 hw2
 intro b2 w3 hb2 hw3
 obtain⟨st2,o⟩:=o.dB hb2 hw3
 intro b3 w4 hb3 hw4
 obtain⟨st3,o⟩:=o.dB hb3 hw4
 obtain⟨J,h,h2⟩:=h
 refine⟨fun w5=>∃(At:Int) (Ok:Bool),J At Ok/\MS w m w4 [.box b3 [.q 0,.bool false],.box b2 [.q inx.at_,.bool inx.ok],.box b1 [.q no.at_,.bool no.ok],.box b [.q xq.op,.s xq.name,.q xq.n,.q xq.kids,.q xq.at_]] w5 [.box b3 [.q At,.bool Ok],.box b2 [.q inx.at_,.bool inx.ok],.box b1 [.q no.at_,.bool no.ok],.box b [.q xq.op,.s xq.name,.q xq.n,.q xq.kids,.q xq.at_]],?_,?_⟩
 refine⟨_,(o.at 3 rfl).cell rfl,?_⟩
 obtain⟨J1,h,h2⟩:=h
 refine⟨fun x w6=>J1 x/\MT w m w4 w6 [.box b3 [.q 0,.bool false],.box b2 [.q inx.at_,.bool inx.ok],.box b1 [.q no.at_,.bool no.ok],.box b [.q xq.op,.s xq.name,.q xq.n,.q xq.kids,.q xq.at_]],?_,?_⟩
 refine Ac (fun h=> ?_) (fun h=> ?_) h
 exact⟨h,o,Step.refl _ _⟩
 refine Ac (fun h=> ?_) (fun h=> ?_) h
 exact⟨h,o,Step.refl _ _⟩
 exact⟨h,o,Step.refl _ _⟩
 rintro _ x w6 ⟨hJ,o,st5⟩
 have h:=h2 x hJ
 refine Ac (fun h=> ?_) (fun h=> ?_) h
 refine⟨_,_,_,_,_,(o.at 3 rfl).whole,?_⟩
 refine Aa (h _ w6 (o.mn hm) _ (A3 xq)) ?_
 rintro _ w7 ⟨x1,h,rfl,ke⟩
 obtain⟨st6,o⟩:=o.dE ke
 refine⟨_,rfl,?_⟩
 refine Ac (fun h=> ?_) (fun h=> ?_) h
 refine⟨_,_,(o.at 1 rfl).whole,?_⟩
 have sT:=((((st.trans st1).trans st2).trans st3).trans st5).trans st6
 refine Aa (h _ w7 (o.mn hm) _ _ Axc (f_l.st sT) _ (Aq inx)) ?_
 rintro _ w8 ⟨x2,h,⟨cs,rfl,f⟩,ke1⟩
 obtain⟨st7,o⟩:=o.dE ke1
 obtain rfl:=A4 f
 refine⟨_,_,rfl,?_⟩
 refine⟨o.wr 0 rfl rfl,fun w9 hw9=> ?_⟩
 obtain⟨st8,o⟩:=o.dSs 0 hw9 rfl
 refine⟨_,_,(o.at 0 rfl).whole,?_⟩
 exact⟨x2,h,⟨_,rfl,(Aq x2)⟩,o.done⟩
 exact⟨0,false,h,o,(st5.trans st6)⟩
 refine Ac (fun h=> ?_) (fun h=> ?_) h
 refine⟨_,_,_,_,_,(o.at 3 rfl).whole,?_⟩
 refine Aa (h _ w6 (o.mn hm) _ (A3 xq)) ?_
 rintro _ w10 ⟨x3,h,rfl,ke2⟩
 obtain⟨st9,o⟩:=o.dE ke2
 refine⟨_,rfl,?_⟩
 refine Ac (fun h=> ?_) (fun h=> ?_) h
 refine⟨_,_,(o.at 1 rfl).whole,?_⟩
 have sT1:=((((st.trans st1).trans st2).trans st3).trans st5).trans st9
 refine Aa (h _ w10 (o.mn hm) _ _ Axc (f_l.st sT1) _ (Aq inx)) ?_
 rintro _ w11 ⟨x4,h,⟨cs1,rfl,f1⟩,ke3⟩
 obtain⟨Aw6,o⟩:=o.dE ke3
 obtain rfl:=A4 f1
 refine⟨_,_,rfl,?_⟩
 refine⟨o.wr 0 rfl rfl,fun w12 Ay4=> ?_⟩
 obtain⟨Aw8,o⟩:=o.dSs 0 Ay4 rfl
 refine⟨_,_,(o.at 0 rfl).whole,?_⟩
 exact⟨x4,h,⟨_,rfl,(Aq x4)⟩,o.done⟩
 exact⟨0,false,h,o,(st5.trans st9)⟩
 refine Ac (fun h=> ?_) (fun h=> ?_) h
 refine⟨_,_,_,_,_,(o.at 3 rfl).whole,?_⟩
 refine Aa (h _ w6 (o.mn hm) _ (A3 xq)) ?_
 rintro _ w13 ⟨x5,h,rfl,ke4⟩
 obtain⟨Axd,o⟩:=o.dE ke4
 refine⟨_,rfl,?_⟩
 refine Ac (fun h=> ?_) (fun h=> ?_) h
 refine⟨_,_,(o.at 1 rfl).whole,?_⟩
 have sT2:=((((st.trans st1).trans st2).trans st3).trans st5).trans Axd
 refine Aa (h _ w13 (o.mn hm) _ _ Axc (f_l.st sT2) _ (Aq inx)) ?_
 rintro _ w14 ⟨x6,h,⟨cs2,rfl,f2⟩,ke5⟩
 obtain⟨Axb,o⟩:=o.dE ke5
 obtain rfl:=A4 f2
 refine⟨_,_,rfl,?_⟩
 refine⟨o.wr 0 rfl rfl,fun w15 Ayn=> ?_⟩
 obtain⟨Axl,o⟩:=o.dSs 0 Ayn rfl
 refine⟨_,_,(o.at 0 rfl).whole,?_⟩
 exact⟨x6,h,⟨_,rfl,(Aq x6)⟩,o.done⟩
 exact⟨0,false,h,o,(st5.trans Axd)⟩
 refine Ac (fun h=> ?_) (fun h=> ?_) h
 refine⟨_,_,_,_,_,(o.at 3 rfl).whole,?_⟩
 refine Aa (h _ w6 (o.mn hm) _ (A3 xq)) ?_
 rintro _ w16 ⟨x7,h,rfl,ke6⟩
 obtain⟨Axh,o⟩:=o.dE ke6
 refine⟨_,rfl,?_⟩
 refine Ac (fun h=> ?_) (fun h=> ?_) h
 refine⟨_,_,(o.at 1 rfl).whole,?_⟩
 have sT3:=((((st.trans st1).trans st2).trans st3).trans st5).trans Axh
 refine Aa (h _ w16 (o.mn hm) _ _ Axc (f_l.st sT3) _ (Aq inx)) ?_
 rintro _ w17 ⟨x8,h,⟨cs3,rfl,f3⟩,ke7⟩
 obtain⟨Axn,o⟩:=o.dE ke7
 obtain rfl:=A4 f3
 refine⟨_,_,rfl,?_⟩
 refine⟨o.wr 0 rfl rfl,fun w18 Azy=> ?_⟩
 obtain⟨Axx,o⟩:=o.dSs 0 Azy rfl
 refine⟨_,_,(o.at 0 rfl).whole,?_⟩
 exact⟨x8,h,⟨_,rfl,(Aq x8)⟩,o.done⟩
 refine⟨_,_,_,_,_,(o.at 3 rfl).whole,?_⟩
 refine Aa (h _ w16 (o.mn hm) _ (A3 xq)) ?_
 rintro _ w19 ⟨x9,h,rfl,ke8⟩
 obtain⟨Ax4,o⟩:=o.dE ke8
 refine⟨_,rfl,?_⟩
 refine Ac (fun h=> ?_) (fun h=> ?_) h
 refine⟨_,_,(o.at 1 rfl).whole,?_⟩
 have sT4:=(((((st.trans st1).trans st2).trans st3).trans st5).trans Axh).trans Ax4
 refine Aa (h _ w19 (o.mn hm) _ _ Axc (f_l.st sT4) _ (Aq inx)) ?_
 rintro _ w20 ⟨x10,h,⟨cs4,rfl,f4⟩,ke9⟩
 obtain⟨Aye,o⟩:=o.dE ke9
 obtain rfl:=A4 f4
 refine⟨_,_,rfl,?_⟩
 refine⟨o.wr 0 rfl rfl,fun w21 Bdw=> ?_⟩
 obtain⟨Ayc,o⟩:=o.dSs 0 Bdw rfl
 refine⟨_,_,(o.at 0 rfl).whole,?_⟩
 exact⟨x10,h,⟨_,rfl,(Aq x10)⟩,o.done⟩
 have sT5:=(st5.trans Axh).trans Ax4
 exact⟨0,false,h,o,sT5⟩
 refine Ac (fun h=> ?_) (fun h=> ?_) h
 refine⟨_,_,_,_,_,(o.at 3 rfl).whole,?_⟩
 refine Aa (h _ w6 (o.mn hm) _ (A3 xq)) ?_
 rintro _ w22 ⟨x11,h,rfl,Bae⟩
 obtain⟨Ayi,o⟩:=o.dE Bae
 refine⟨_,rfl,?_⟩
 refine Ac (fun h=> ?_) (fun h=> ?_) h
 refine⟨_,_,(o.at 1 rfl).whole,?_⟩
 have sT6:=((((st.trans st1).trans st2).trans st3).trans st5).trans Ayi
 refine Aa (h _ w22 (o.mn hm) _ _ Axc (f_l.st sT6) _ (Aq inx)) ?_
 rintro _ w23 ⟨x12,h,⟨cs5,rfl,f5⟩,Bb6⟩
 obtain⟨Ayo,o⟩:=o.dE Bb6
 obtain rfl:=A4 f5
 refine⟨_,_,rfl,?_⟩
 refine⟨o.wr 0 rfl rfl,fun w24 Bcy=> ?_⟩
 obtain⟨Azp,o⟩:=o.dSs 0 Bcy rfl
 refine⟨_,_,(o.at 0 rfl).whole,?_⟩
 exact⟨x12,h,⟨_,rfl,(Aq x12)⟩,o.done⟩
 exact⟨0,false,h,o,(st5.trans Ayi)⟩
 refine Ac (fun h=> ?_) (fun h=> ?_) h
 obtain⟨J2,h,h2⟩:=h
 refine⟨fun x13 w25=>J2 x13/\MT w m w6 w25 [.box b3 [.q 0,.bool false],.box b2 [.q inx.at_,.bool inx.ok],.box b1 [.q no.at_,.bool no.ok],.box b [.q xq.op,.s xq.name,.q xq.n,.q xq.kids,.q xq.at_]],?_,?_⟩
 refine⟨_,(o.at 3 rfl).cell rfl,?_⟩
 refine Ac (fun h=> ?_) (fun h=> ?_) h
 refine⟨_,_,_,_,_,(o.at 3 rfl).whole,?_⟩
 refine⟨_,(o.at 3 rfl).cell rfl,?_⟩
 refine Aa (h _ w6 (o.mn hm) _ (A3 xq)) ?_
 rintro _ w26 ⟨x14,h,rfl,Bcu⟩
 obtain⟨Ay3,o⟩:=o.dE Bcu
 refine⟨_,rfl,?_⟩
 exact⟨h,o,Ay3⟩
 exact⟨h,o,Step.refl _ _⟩
 rintro _ x13 w25 ⟨hJ,o,Ay2⟩
 have h:=h2 x13 hJ
 refine Ac (fun h=> ?_) (fun h=> ?_) h
 refine⟨_,_,(o.at 1 rfl).whole,?_⟩
 refine⟨_,(o.at 3 rfl).cell rfl,?_⟩
 have sT7:=((((st.trans st1).trans st2).trans st3).trans st5).trans Ay2
 refine Aa (h _ w25 (o.mn hm) _ _ Axc (f_l.st sT7) _ (Aq inx)) ?_
 rintro _ w27 ⟨x15,h,⟨cs6,rfl,f6⟩,Bcv⟩
 obtain⟨Bad,o⟩:=o.dE Bcv
 obtain rfl:=A4 f6
 refine⟨_,_,rfl,?_⟩
 refine⟨o.wr 0 rfl rfl,fun w28 Bc8=> ?_⟩
 obtain⟨Ay7,o⟩:=o.dSs 0 Bc8 rfl
 refine⟨_,_,(o.at 0 rfl).whole,?_⟩
 exact⟨x15,h,⟨_,rfl,(Aq x15)⟩,o.done⟩
 exact⟨0,false,h,o,(st5.trans Ay2)⟩
 refine Ac (fun h=> ?_) (fun h=> ?_) h
 obtain⟨J3,h,h2⟩:=h
 refine⟨fun x16 w29=>J3 x16/\MT w m w6 w29 [.box b3 [.q 0,.bool false],.box b2 [.q inx.at_,.bool inx.ok],.box b1 [.q no.at_,.bool no.ok],.box b [.q xq.op,.s xq.name,.q xq.n,.q xq.kids,.q xq.at_]],?_,?_⟩
 refine⟨_,(o.at 3 rfl).cell rfl,?_⟩
 refine Ac (fun h=> ?_) (fun h=> ?_) h
 refine⟨_,_,_,_,_,(o.at 3 rfl).whole,?_⟩
 refine⟨_,(o.at 3 rfl).cell rfl,?_⟩
 refine Aa (h _ w6 (o.mn hm) _ (A3 xq)) ?_
 rintro _ w30 ⟨x17,h,rfl,Bcw⟩
 obtain⟨Azq,o⟩:=o.dE Bcw
 refine⟨_,rfl,?_⟩
 exact⟨h,o,Azq⟩
 exact⟨h,o,Step.refl _ _⟩
 rintro _ x16 w29 ⟨hJ,o,Azj⟩
 have h:=h2 x16 hJ
 refine Ac (fun h=> ?_) (fun h=> ?_) h
 refine⟨_,_,(o.at 1 rfl).whole,?_⟩
 refine⟨_,(o.at 3 rfl).cell rfl,?_⟩
 have sT8:=((((st.trans st1).trans st2).trans st3).trans st5).trans Azj
 refine Aa (h _ w29 (o.mn hm) _ _ Axc (f_l.st sT8) _ (Aq inx)) ?_
 rintro _ w31 ⟨x18,h,⟨cs7,rfl,f7⟩,Bbx⟩
 obtain⟨Azz,o⟩:=o.dE Bbx
 obtain rfl:=A4 f7
 refine⟨_,_,rfl,?_⟩
 refine⟨o.wr 0 rfl rfl,fun w32 Bnu=> ?_⟩
 obtain⟨Bbb,o⟩:=o.dSs 0 Bnu rfl
 refine⟨_,_,(o.at 0 rfl).whole,?_⟩
 exact⟨x18,h,⟨_,rfl,(Aq x18)⟩,o.done⟩
 exact⟨0,false,h,o,(st5.trans Azj)⟩
 obtain⟨J4,h,h2⟩:=h
 refine⟨fun x19 w33=>J4 x19/\MT w m w6 w33 [.box b3 [.q 0,.bool false],.box b2 [.q inx.at_,.bool inx.ok],.box b1 [.q no.at_,.bool no.ok],.box b [.q xq.op,.s xq.name,.q xq.n,.q xq.kids,.q xq.at_]],?_,?_⟩
 refine Ac (fun h=> ?_) (fun h=> ?_) h
 exact⟨h,o,Step.refl _ _⟩
 refine Ac (fun h=> ?_) (fun h=> ?_) h
 exact⟨h,o,Step.refl _ _⟩
 exact⟨h,o,Step.refl _ _⟩
 rintro _ x19 w33 ⟨hJ,o,Ay8⟩
 have h:=h2 x19 hJ
 refine Ac (fun h=> ?_) (fun h=> ?_) h
 refine⟨_,_,_,_,_,(o.at 3 rfl).whole,?_⟩
 refine Aa (h _ w33 (o.mn hm) _ (A3 xq)) ?_
 rintro _ w34 ⟨x20,h,rfl,Bby⟩
 obtain⟨Az6,o⟩:=o.dE Bby
 refine⟨_,rfl,?_⟩
 refine Ac (fun h=> ?_) (fun h=> ?_) h
 refine⟨_,_,(o.at 1 rfl).whole,?_⟩
 have sT9:=(((((st.trans st1).trans st2).trans st3).trans st5).trans Ay8).trans Az6
 refine Aa (h _ w34 (o.mn hm) _ _ Axc (f_l.st sT9) _ (Aq inx)) ?_
 rintro _ w35 ⟨x21,h,⟨cs8,rfl,f8⟩,Bdq⟩
 obtain⟨Azk,o⟩:=o.dE Bdq
 obtain rfl:=A4 f8
 refine⟨_,_,rfl,?_⟩
 refine⟨o.wr 0 rfl rfl,fun w36 Bjk=> ?_⟩
 obtain⟨Bc4,o⟩:=o.dSs 0 Bjk rfl
 refine⟨_,_,(o.at 0 rfl).whole,?_⟩
 exact⟨x21,h,⟨_,rfl,(Aq x21)⟩,o.done⟩
 have Az5:=(st5.trans Ay8).trans Az6
 exact⟨0,false,h,o,Az5⟩
 obtain⟨J5,h,h2⟩:=h
 refine⟨fun x22 w37=>J5 x22/\MT w m w33 w37 [.box b3 [.q 0,.bool false],.box b2 [.q inx.at_,.bool inx.ok],.box b1 [.q no.at_,.bool no.ok],.box b [.q xq.op,.s xq.name,.q xq.n,.q xq.kids,.q xq.at_]],?_,?_⟩
 refine Ac (fun h=> ?_) (fun h=> ?_) h
 exact⟨h,o,Step.refl _ _⟩
 exact⟨h,o,Step.refl _ _⟩
 rintro _ x22 w37 ⟨hJ,o,Azr⟩
 have h:=h2 x22 hJ
 refine Ac (fun h=> ?_) (fun h=> ?_) h
 refine⟨_,_,_,_,_,(o.at 3 rfl).whole,?_⟩
 refine Aa (h _ w37 (o.mn hm) _ (A3 xq)) ?_
 rintro _ w38 ⟨x23,h,rfl,Bc5⟩
 obtain⟨Az7,o⟩:=o.dE Bc5
 refine⟨_,rfl,?_⟩
 refine Ac (fun h=> ?_) (fun h=> ?_) h
 refine⟨_,_,(o.at 1 rfl).whole,?_⟩
 refine⟨o.wr 0 rfl rfl,fun w39 Bj4=> ?_⟩
 obtain⟨Baf,o⟩:=o.dSs 0 Bj4 rfl
 refine⟨_,_,(o.at 0 rfl).whole,?_⟩
 exact⟨inx,h,⟨_,rfl,(Aq inx)⟩,o.done⟩
 have Bac:=((st5.trans Ay8).trans Azr).trans Az7
 exact⟨0,false,h,o,Bac⟩
 have Bba:=(st5.trans Ay8).trans Azr
 exact⟨0,false,h,o,Bba⟩
 rintro _ w5 ⟨At,Ok,hJ,o,st4⟩
 have h:=h2 At Ok hJ
 refine⟨_,_,(o.at 2 rfl).whole,?_⟩
 refine⟨o.wr 0 rfl rfl,fun w40 Beu=> ?_⟩
 obtain⟨Bbc,o⟩:=o.dSs 0 Beu rfl
 refine⟨_,_,(o.at 0 rfl).whole,?_⟩
 exact⟨no,h,⟨_,rfl,(Aq no)⟩,o.done⟩
def Zn (l:List Ai) (xq:Ai) (no:Am) (inx:Am) (K:Am->Prop):Prop:=
 cond (xq.op==37)
 (C6 xq 1 (fun x=>
 cond (x)
 (Cy l inx [66] (fun x1=>
 K x1))
 (K no)))
 (∃(J:(List UInt8)->Int->Bool->Prop),
 (cond (xq.op==34)
 (J [82,66] 0 false)
 (cond (xq.op==35)
 (J [82,69,66] 0 false)
 (cond (xq.op==36)
 (J [69,66] 0 false)
 (K no))))/\
 ∀(wa:List UInt8) (At:Int) (Ok:Bool),J wa At Ok->
 ∃(J1:(List UInt8)->Prop),
 (cond (xq.n==1)
 ((([69].length+wa.length:Nat):Int)<=IntKind.i64.max/\
 J1 ([69]++wa))
 (J1 wa))/\
 ∀(wa1:List UInt8),J1 wa1->
 ∃(J2:Bool->Prop),
 (cond (decide (xq.n<0))
 (J2 true)
 (cond (decide (xq.n>1))
 (J2 true)
 (cond (xq.kids !=(wa1.length:Int))
 (J2 true)
 (Ol xq.name (fun x3=>
 cond (!((xq.op==34)==x3))
 (J2 true)
 (cond (xq.op !=34)
 (J2 (!(xq.name==[])))
 (J2 false)))))))/\
 ∀(x2:Bool),J2 x2->
 cond (x2)
 (K no)
 (Cy l inx wa1 (fun x4=>
 K x4)))
theorem Xs (l:List Ai) (xq:Ai) (no:Am) (inx:Am) (K:Am->Prop) (h:Zn l xq no inx K):Oj l xq no inx K:=by
 intro m w hm lA lC Axc f_l Axq Ayu Bco Bj3 Azx Bex
 obtain rfl:=Bg Ayu
 obtain rfl:=A4 Bj3
 obtain rfl:=A4 Bex
 have o:=Mem.start hm.lt
 refine Aau lA l.length lC _ _ _ _ _ _ _ _ _ _ _ ?_
 intro b w1 hb hw1
 obtain⟨st,o⟩:=o.dB hb hw1
 intro b1 w2 hb1 hw2
 obtain⟨st1,o⟩:=o.dB hb1 hw2
 intro b2 w3 hb2 hw3
 obtain⟨st2,o⟩:=o.dB hb2 hw3
 intro b3 w4 hb3 hw4
 obtain⟨st3,o⟩:=o.dB hb3 hw4
 refine⟨_,(o.at 3 rfl).cell rfl,?_⟩
 refine Ac (fun h=> ?_) (fun h=> ?_) h
 refine⟨_,_,_,_,_,(o.at 3 rfl).whole,?_⟩
 refine Aa (h _ w4 (o.mn hm) _ (A3 xq)) ?_
 rintro _ w5 ⟨x,h,rfl,ke⟩
 obtain⟨st4,o⟩:=o.dE ke
 refine⟨_,rfl,?_⟩
 refine Ac (fun h=> ?_) (fun h=> ?_) h
 refine⟨_,_,(o.at 1 rfl).whole,?_⟩
 have sT:=(((st.trans st1).trans st2).trans st3).trans st4
 refine Aa (h _ w5 (o.mn hm) _ _ Axc (f_l.st sT) _ (Aq inx)) ?_
 rintro _ w6 ⟨x1,h,⟨cs,rfl,f⟩,ke1⟩
 obtain⟨st5,o⟩:=o.dE ke1
 obtain rfl:=A4 f
 refine⟨_,_,rfl,?_⟩
 refine⟨o.wr 0 rfl rfl,fun w7 hw7=> ?_⟩
 obtain⟨st6,o⟩:=o.dSs 0 hw7 rfl
 refine⟨_,_,(o.at 0 rfl).whole,?_⟩
 exact⟨x1,h,⟨_,rfl,(Aq x1)⟩,o.done⟩
 refine⟨_,_,(o.at 2 rfl).whole,?_⟩
 refine⟨o.wr 0 rfl rfl,fun w8 hw8=> ?_⟩
 obtain⟨st7,o⟩:=o.dSs 0 hw8 rfl
 refine⟨_,_,(o.at 0 rfl).whole,?_⟩
 exact⟨no,h,⟨_,rfl,(Aq no)⟩,o.done⟩
 obtain⟨J,h,h2⟩:=h
 refine⟨fun wa w9=>∃(At:Int) (Ok:Bool),J wa At Ok/\MS w m w4 [.box b3 [.q 0,.bool false],.box b2 [.q inx.at_,.bool inx.ok],.box b1 [.q no.at_,.bool no.ok],.box b [.q xq.op,.s xq.name,.q xq.n,.q xq.kids,.q xq.at_]] w9 [.box b3 [.q At,.bool Ok],.box b2 [.q inx.at_,.bool inx.ok],.box b1 [.q no.at_,.bool no.ok],.box b [.q xq.op,.s xq.name,.q xq.n,.q xq.kids,.q xq.at_]],?_,?_⟩
 refine⟨_,(o.at 3 rfl).cell rfl,?_⟩
 refine Ac (fun h=> ?_) (fun h=> ?_) h
 exact⟨0,false,h,o,Step.refl _ _⟩
 refine Ac (fun h=> ?_) (fun h=> ?_) h
 exact⟨0,false,h,o,Step.refl _ _⟩
 refine Ac (fun h=> ?_) (fun h=> ?_) h
 exact⟨0,false,h,o,Step.refl _ _⟩
 refine⟨_,_,(o.at 2 rfl).whole,?_⟩
 refine⟨o.wr 0 rfl rfl,fun w10 Bah=> ?_⟩
 obtain⟨st9,o⟩:=o.dSs 0 Bah rfl
 refine⟨_,_,(o.at 0 rfl).whole,?_⟩
 exact⟨no,h,⟨_,rfl,(Aq no)⟩,o.done⟩
 rintro _ wa w9 ⟨At,Ok,hJ,o,st8⟩
 have h:=h2 wa At Ok hJ
 obtain⟨J1,h,h2⟩:=h
 refine⟨fun wa1 w11=>J1 wa1/\MT w m w9 w11 [.box b3 [.q At,.bool Ok],.box b2 [.q inx.at_,.bool inx.ok],.box b1 [.q no.at_,.bool no.ok],.box b [.q xq.op,.s xq.name,.q xq.n,.q xq.kids,.q xq.at_]],?_,?_⟩
 refine⟨_,(o.at 3 rfl).cell rfl,?_⟩
 refine Ac (fun h=> ?_) (fun h=> ?_) h
 refine⟨h.1,?_⟩
 have h:=And.right h
 exact⟨h,o,Step.refl _ _⟩
 exact⟨h,o,Step.refl _ _⟩
 rintro _ wa1 w11 ⟨hJ,o,Aw6⟩
 have h:=h2 wa1 hJ
 obtain⟨J2,h,h2⟩:=h
 refine⟨fun x2 w12=>J2 x2/\MT w m w11 w12 [.box b3 [.q At,.bool Ok],.box b2 [.q inx.at_,.bool inx.ok],.box b1 [.q no.at_,.bool no.ok],.box b [.q xq.op,.s xq.name,.q xq.n,.q xq.kids,.q xq.at_]],?_,?_⟩
 intro w13 Azd
 obtain⟨Axd,o⟩:=o.dD Azd
 have ox:=o
 refine⟨fun u=>An [] w13 u,An.refl _ _,?_⟩
 refine⟨_,fun u hu=>((ox.at 3 rfl).Awz hu (by simp)).cell rfl,?_⟩
 refine Ac (fun h=> ?_) (fun h=> ?_) h
 exact⟨h,o,Axd⟩
 refine⟨_,fun u hu=>((ox.at 3 rfl).Awz hu (by simp)).cell rfl,?_⟩
 refine Ac (fun h=> ?_) (fun h=> ?_) h
 exact⟨h,o,Axd⟩
 refine⟨_,fun u hu=>((ox.at 3 rfl).Awz hu (by simp)).cell rfl,?_⟩
 refine Ac (fun h=> ?_) (fun h=> ?_) h
 exact⟨h,o,Axd⟩
 refine⟨_,fun u hu=>((ox.at 3 rfl).Awz hu (by simp)).cell rfl,?_⟩
 refine⟨_,fun u hu=>((ox.at 3 rfl).Awz hu (by simp)).cell rfl,?_⟩
 refine Aa (h _ w13 (o.mn hm)) ?_
 rintro _ w14 ⟨x3,h,rfl,ke2⟩
 obtain⟨Axb,o⟩:=o.dE ke2
 refine⟨_,rfl,?_⟩
 refine⟨(ke2.mono (by simp)),?_⟩
 refine Ac (fun h=> ?_) (fun h=> ?_) h
 exact⟨h,o,(Axd.trans Axb)⟩
 refine⟨_,Ale ((o.at 3 rfl).cell rfl),?_⟩
 refine Ac (fun h=> ?_) (fun h=> ?_) h
 refine⟨_,Ale ((o.at 3 rfl).cell rfl),?_⟩
 exact⟨h,o,(Axd.trans Axb)⟩
 exact⟨h,o,(Axd.trans Axb)⟩
 rintro _ x2 w12 ⟨hJ,o,Aw8⟩
 have h:=h2 x2 hJ
 refine Ac (fun h=> ?_) (fun h=> ?_) h
 refine⟨_,_,(o.at 2 rfl).whole,?_⟩
 refine⟨o.wr 0 rfl rfl,fun w15 Ayn=> ?_⟩
 obtain⟨Axl,o⟩:=o.dSs 0 Ayn rfl
 refine⟨_,_,(o.at 0 rfl).whole,?_⟩
 exact⟨no,h,⟨_,rfl,(Aq no)⟩,o.done⟩
 refine⟨_,_,(o.at 1 rfl).whole,?_⟩
 have sT1:=(((((st.trans st1).trans st2).trans st3).trans st8).trans Aw6).trans Aw8
 refine Aa (h _ w12 (o.mn hm) _ _ Axc (f_l.st sT1) _ (Aq inx)) ?_
 rintro _ w16 ⟨x4,h,⟨cs1,rfl,f1⟩,ke3⟩
 obtain⟨Axh,o⟩:=o.dE ke3
 obtain rfl:=A4 f1
 refine⟨_,_,rfl,?_⟩
 refine⟨o.wr 0 rfl rfl,fun w17 Azo=> ?_⟩
 obtain⟨Axn,o⟩:=o.dSs 0 Azo rfl
 refine⟨_,_,(o.at 0 rfl).whole,?_⟩
 exact⟨x4,h,⟨_,rfl,(Aq x4)⟩,o.done⟩
def Aeu (xq:Ai) (kids:Int) (K:Bool->Prop):Prop:=
 Ol xq.name (fun x=>
 cond (x)
 (cond (xq.n==0)
 (K (xq.kids==kids))
 (K false))
 (K false))
theorem Abj (xq:Ai) (kids:Int) (K:Bool->Prop) (h:Aeu xq kids K):Ft xq kids K:=by
 intro m w hm Axq Ayu
 obtain rfl:=Bg Ayu
 have o:=Mem.start hm.lt
 refine Agw _ _ _ _ _ kids _ _ ?_
 intro b w1 hb hw1
 obtain⟨st,o⟩:=o.dB hb hw1
 refine⟨_,(o.at 0 rfl).cell rfl,?_⟩
 refine Aa (h _ w1 (o.mn hm)) ?_
 rintro _ w2 ⟨x,h,rfl,ke⟩
 obtain⟨st1,o⟩:=o.dE ke
 refine⟨_,rfl,?_⟩
 refine Ac (fun h=> ?_) (fun h=> ?_) h
 refine⟨_,(o.at 0 rfl).cell rfl,?_⟩
 refine Ac (fun h=> ?_) (fun h=> ?_) h
 refine⟨_,(o.at 0 rfl).cell rfl,?_⟩
 exact⟨(xq.kids==kids),h,rfl,o.done⟩
 exact⟨false,h,rfl,o.done⟩
 exact⟨false,h,rfl,o.done⟩
def Aev (xq:Ai) (kids:Int) (K:Bool->Prop):Prop:=
 cond (xq.name==[])
 (cond (xq.n==0)
 (K (xq.kids==kids))
 (K false))
 (K false)
theorem Abk (xq:Ai) (kids:Int) (K:Bool->Prop) (h:Aev xq kids K):C6 xq kids K:=by
 intro m w hm Axq Ayu
 obtain rfl:=Bg Ayu
 have o:=Mem.start hm.lt
 refine Agy _ _ _ _ _ kids _ _ ?_
 intro b w1 hb hw1
 obtain⟨st,o⟩:=o.dB hb hw1
 refine⟨_,(o.at 0 rfl).cell rfl,?_⟩
 refine Ac (fun h=> ?_) (fun h=> ?_) h
 refine⟨_,(o.at 0 rfl).cell rfl,?_⟩
 refine Ac (fun h=> ?_) (fun h=> ?_) h
 refine⟨_,(o.at 0 rfl).cell rfl,?_⟩
 exact⟨(xq.kids==kids),h,rfl,o.done⟩
 exact⟨false,h,rfl,o.done⟩
 exact⟨false,h,rfl,o.done⟩
def Akf (toks:List Au) (atx:Int) (sx:List UInt8) (K:Bool->Prop):Prop:=
 Dm toks atx (fun x=>
 cond (x.kind==3)
 (K (x.text==sx))
 (cond (x.kind==4)
 (K (x.text==sx))
 (K false)))
theorem Ah5 (toks:List Au) (atx:Int) (sx:List UInt8) (K:Bool->Prop) (h:Akf toks atx sx K):Cn toks atx sx K:=by
 intro m w hm Awv Aww Aws Awt
 have o:=Mem.start hm.lt
 refine Amm Awv toks.length Aww atx sx _ _ ?_
 refine Aa (h _ w (o.mn hm) _ _ Aws Awt) ?_
 rintro _ w1 ⟨x,h,⟨cs,rfl,f⟩,ke⟩
 obtain⟨st,o⟩:=o.dE ke
 obtain rfl:=Dj f
 refine⟨_,_,_,_,rfl,?_⟩
 intro b w2 hb hw2
 obtain⟨st1,o⟩:=o.dB hb hw2
 refine⟨o.wr 0 rfl rfl,fun w3 hw3=> ?_⟩
 obtain⟨st2,o⟩:=o.dSs 0 hw3 rfl
 refine⟨_,(o.at 0 rfl).cell rfl,?_⟩
 refine Ac (fun h=> ?_) (fun h=> ?_) h
 refine⟨_,(o.at 0 rfl).cell rfl,?_⟩
 exact⟨(x.text==sx),h,rfl,o.done⟩
 refine⟨_,(o.at 0 rfl).cell rfl,?_⟩
 refine Ac (fun h=> ?_) (fun h=> ?_) h
 refine⟨_,(o.at 0 rfl).cell rfl,?_⟩
 exact⟨(x.text==sx),h,rfl,o.done⟩
 exact⟨false,h,rfl,o.done⟩
def Aew (atx:Int) (K:Aj->Prop):Prop:=
 K (⟨[],0,atx,0⟩:Aj)
theorem Abl (atx:Int) (K:Aj->Prop) (h:Aew atx K):D0 atx K:=by
 intro m w hm
 have o:=Mem.start hm.lt
 refine Ag0 atx _ _ ?_
 intro b w1 hb hw1
 obtain⟨st,o⟩:=o.dB hb hw1
 refine⟨o.wr 0 rfl rfl,fun w2 hw2=> ?_⟩
 obtain⟨st1,o⟩:=o.dSs 0 hw2 rfl
 refine⟨_,_,_,_,_,_,(o.at 0 rfl).whole,?_⟩
 exact⟨(⟨[],0,atx,0⟩:Aj),h,⟨_,rfl,(Ag (⟨[],0,atx,0⟩:Aj) ⟨(Nat.le_refl _),(SlR.nil _ _ _ _)⟩)⟩,o.done⟩
def Ah6 (toks:List Au) (atx:Int) (K:Aj->Prop):Prop:=
 D0 atx (fun x=>
 C9 x toks (fun r r1=>
 ∃(J:(List Ai)->Int->Int->Int->Prop),
 (∃(J1:Bool->Prop),
 (cond (r.e_==0)
 (Cn toks r.at_ [91] (fun x2=>
 J1 x2))
 (J1 false))/\
 ∀(x1:Bool),J1 x1->
 cond (x1)
 (Ak r toks [91] (fun x3=>
 Bp x3 toks (fun x4=>
 Ak x4 toks [93] (fun x5=>
 J x5.l x5.n x5.at_ x5.e_))))
 (J r.l r.n r.at_ r.e_))/\
 ∀(l:List Ai) (n:Int) (Awx:Int) (ex:Int),J l n Awx ex->
 Dm toks atx (fun x6=>
 A2 (⟨l,n,Awx,ex⟩:Aj) (⟨33,r1,0,0,x6.at_⟩:Ai) (fun x7=>
 K x7))))
theorem Aex (toks:List Au) (atx:Int) (K:Aj->Prop) (h:Ah6 toks atx K):Vd toks atx K:=by
 intro m w hm Awv Aww Aws Awt
 have o:=Mem.start hm.lt
 refine Ajr Awv toks.length Aww atx _ _ ?_
 intro b w1 hb hw1
 obtain⟨st,o⟩:=o.dB hb hw1
 refine Aa (h _ w1 (o.mn hm)) ?_
 rintro _ w2 ⟨x,h,⟨cs,rfl,f⟩,ke⟩
 obtain⟨st1,o⟩:=o.dE ke
 obtain⟨a,c,rfl,⟨le,f1⟩⟩:=Ah f
 refine⟨_,_,_,_,_,_,rfl,?_⟩
 refine Aa (h _ w2 (o.mn hm) _ (Ag x ⟨le,f1⟩) _ _ Aws (Awt.st (st.trans st1))) ?_
 rintro _ w3 ⟨r,r1,h,⟨cs1,rfl,f2⟩,ke1⟩
 obtain⟨st2,o⟩:=o.dE ke1
 obtain⟨a1,c1,rfl,⟨le1,f3⟩⟩:=Ah f2
 refine⟨_,_,_,_,_,_,_,rfl,?_⟩
 intro b1 w4 hb1 hw4
 obtain⟨st3,o⟩:=o.dB hb1 hw4
 refine⟨o.wr 0 rfl rfl,fun w5 hw5=> ?_⟩
 obtain⟨st4,o⟩:=o.dSs 0 hw5 rfl
 obtain⟨J,h,h2⟩:=h
 refine⟨fun w6=>∃(l:List Ai) (n:Int) (Awx:Int) (ex:Int) (a2:Option Addr) (c2:Nat),J l n Awx ex/\(l.length<=c2/\SlR Ay (ms [.box b1 [.slice a2 l.length c2,.q n,.q Awx,.q ex],.box b [.slice none 0 0,.q 0,.q 0,.q 0]] m) w6 a2 l)/\MS w m w5 [.box b1 [.slice a1 r.l.length c1,.q r.n,.q r.at_,.q r.e_],.box b [.slice none 0 0,.q 0,.q 0,.q 0]] w6 [.box b1 [.slice a2 l.length c2,.q n,.q Awx,.q ex],.box b [.slice none 0 0,.q 0,.q 0,.q 0]],?_,?_⟩
 obtain⟨J1,h,h2⟩:=h
 refine⟨fun x1 w7=>J1 x1/\MT w m w5 w7 [.box b1 [.slice a1 r.l.length c1,.q r.n,.q r.at_,.q r.e_],.box b [.slice none 0 0,.q 0,.q 0,.q 0]],?_,?_⟩
 refine⟨_,(o.at 0 rfl).cell rfl,?_⟩
 refine Ac (fun h=> ?_) (fun h=> ?_) h
 refine⟨_,(o.at 0 rfl).cell rfl,?_⟩
 have sT:=(((st.trans st1).trans st2).trans st3).trans st4
 refine Aa (h _ w5 (o.mn hm) _ _ Aws (Awt.st sT)) ?_
 rintro _ w8 ⟨x2,h,rfl,ke2⟩
 obtain⟨st7,o⟩:=o.dE ke2
 refine⟨_,rfl,?_⟩
 exact⟨h,o,st7⟩
 exact⟨h,o,Step.refl _ _⟩
 rintro _ x1 w7 ⟨hJ,o,st6⟩
 have h:=h2 x1 hJ
 refine Ac (fun h=> ?_) (fun h=> ?_) h
 refine⟨_,_,_,_,_,_,(o.at 0 rfl).whole,?_⟩
 have sT1:=(st3.trans st4).trans st6
 have sT2:=((((st.trans st1).trans st2).trans st3).trans st4).trans st6
 refine Aa (h _ w7 (o.mn hm) _ (Ag r ⟨le1,(f3.st sT1)⟩) _ _ Aws (Awt.st sT2)) ?_
 rintro _ w9 ⟨x3,h,⟨cs2,rfl,f5⟩,ke3⟩
 obtain⟨st8,o⟩:=o.dE ke3
 obtain⟨a3,c3,rfl,⟨le3,f6⟩⟩:=Ah f5
 refine⟨_,_,_,_,_,_,rfl,?_⟩
 have sT3:=sT2.trans st8
 refine Aa (h _ w9 (o.mn hm) _ (Ag x3 ⟨le3,f6⟩) _ _ Aws (Awt.st sT3)) ?_
 rintro _ w10 ⟨x4,h,⟨cs3,rfl,f7⟩,ke4⟩
 obtain⟨st9,o⟩:=o.dE ke4
 obtain⟨a4,c4,rfl,⟨le4,f8⟩⟩:=Ah f7
 refine⟨_,_,_,_,_,_,rfl,?_⟩
 have sT4:=sT3.trans st9
 refine Aa (h _ w10 (o.mn hm) _ (Ag x4 ⟨le4,f8⟩) _ _ Aws (Awt.st sT4)) ?_
 rintro _ w11 ⟨x5,h,⟨cs4,rfl,f9⟩,ke5⟩
 obtain⟨Aw6,o⟩:=o.dE ke5
 obtain⟨a5,c5,rfl,⟨le5,f10⟩⟩:=Ah f9
 refine⟨_,_,_,_,_,_,rfl,?_⟩
 refine⟨o.wr 0 rfl rfl,fun w12 Ay4=> ?_⟩
 obtain⟨Aw8,o⟩:=o.dSs 0 Ay4 rfl
 have sT5:=(((st6.trans st8).trans st9).trans Aw6).trans Aw8
 exact⟨x5.l,x5.n,x5.at_,x5.e_,a5,c5,h,⟨le5,(f10.st Aw8)⟩,o,sT5⟩
 have sT6:=(st3.trans st4).trans st6
 exact⟨r.l,r.n,r.at_,r.e_,a1,c1,h,⟨le1,(f3.st sT6)⟩,o,st6⟩
 rintro _ w6 ⟨l,n,Awx,ex,a2,c2,hJ,⟨le2,f4⟩,o,st5⟩
 have h:=h2 l n Awx ex hJ
 intro w13 Azd
 obtain⟨Axd,o⟩:=o.dD Azd
 have ox:=o
 refine⟨fun u=>An [] w13 u,An.refl _ _,?_⟩
 refine⟨_,_,_,_,_,_,fun u hu=>((ox.at 0 rfl).Awz hu (by simp)).whole,?_⟩
 have sT7:=(((((st.trans st1).trans st2).trans st3).trans st4).trans st5).trans Axd
 refine Aa (h _ w13 (o.mn hm) _ _ Aws (Awt.st sT7)) ?_
 rintro _ w14 ⟨x6,h,⟨cs5,rfl,f11⟩,ke6⟩
 obtain⟨Axb,o⟩:=o.dE ke6
 obtain rfl:=Dj f11
 refine⟨_,_,_,_,rfl,?_⟩
 refine⟨(ke6.mono (by simp)),?_⟩
 refine Aa (h _ w14 (o.mn hm) _ (Ag (⟨l,n,Awx,ex⟩:Aj) ⟨le2,(f4.st (Axd.trans Axb))⟩) _ (A3 (⟨33,r1,0,0,x6.at_⟩:Ai))) ?_
 rintro _ w15 ⟨x7,h,⟨cs6,rfl,f12⟩,ke7⟩
 obtain⟨Axl,o⟩:=o.dE ke7
 obtain⟨a6,c6,rfl,⟨le6,f13⟩⟩:=Ah f12
 refine⟨_,_,_,_,_,_,rfl,?_⟩
 refine⟨o.wr 1 rfl rfl,fun w16 Bbz=> ?_⟩
 obtain⟨Axh,o⟩:=o.dSs 1 Bbz rfl
 refine⟨_,_,_,_,_,_,(o.at 1 rfl).whole,?_⟩
 exact⟨x7,h,⟨_,rfl,(Ag x7 ⟨le6,(f13.st (Axh.trans Mem.Aw9))⟩)⟩,o.done⟩
def Abm (toks:List Au) (atx:Int) (deep:Int) (K:Aj->Prop):Prop:=
 D0 atx (fun x=>
 ∃(J:Bool->Prop),
 (Cn toks atx [123] (fun x2=>
 cond (x2)
 (J (decide (deep>24)))
 (J false)))/\
 ∀(x1:Bool),J x1->
 cond (x1)
 (K (⟨x.l,x.n,x.at_,5⟩:Aj))
 (Ak x toks [123] (fun x3=>
 ∃(I:(List Ai)->Int->Int->Int->Nat->Prop),(∃n1,I x3.l x3.n x3.at_ x3.e_ n1)/\
 ∀(l:List Ai) (n:Int) (Awx:Int) (ex:Int) (n1:Nat),I l n Awx ex n1->
 ∃(J1:Bool->Prop),
 (cond (ex==0)
 (Cn toks Awx [125] (fun x5=>
 J1 (!x5)))
 (J1 false))/\
 ∀(x4:Bool),J1 x4->
 cond (x4)
 (L7 toks Awx deep (fun x6=>
 Da (⟨l,n,Awx,ex⟩:Aj) x6 (fun x7=>
 ∃n2,n2<n1/\I x7.l x7.n x7.at_ x7.e_ n2)))
 (Ak (⟨l,n,Awx,ex⟩:Aj) toks [125] (fun x8=>
 Dm toks atx (fun x9=>
 A2 x8 (⟨32,[],0,0,x9.at_⟩:Ai) (fun x10=>
 K x10)))))))
theorem Qm (toks:List Au) (atx:Int) (deep:Int) (K:Aj->Prop) (h:Abm toks atx deep K):K2 toks atx deep K:=by
 intro m w hm Awv Aww Aws Awt
 have o:=Mem.start hm.lt
 refine Adx Awv toks.length Aww atx deep _ _ ?_
 intro b w1 hb hw1
 obtain⟨st,o⟩:=o.dB hb hw1
 refine Aa (h _ w1 (o.mn hm)) ?_
 rintro _ w2 ⟨x,h,⟨cs,rfl,f⟩,ke⟩
 obtain⟨st1,o⟩:=o.dE ke
 obtain⟨a,c,rfl,⟨le,f1⟩⟩:=Ah f
 refine⟨_,_,_,_,_,_,rfl,?_⟩
 intro b1 w3 hb1 hw3
 obtain⟨st2,o⟩:=o.dB hb1 hw3
 refine⟨o.wr 0 rfl rfl,fun w4 hw4=> ?_⟩
 obtain⟨st3,o⟩:=o.dSs 0 hw4 rfl
 obtain⟨J,h,h2⟩:=h
 refine⟨fun x1 w5=>J x1/\MT w m w4 w5 [.box b1 [.slice a x.l.length c,.q x.n,.q x.at_,.q x.e_],.box b [.slice none 0 0,.q 0,.q 0,.q 0]],?_,?_⟩
 have sT:=((st.trans st1).trans st2).trans st3
 refine Aa (h _ w4 (o.mn hm) _ _ Aws (Awt.st sT)) ?_
 rintro _ w6 ⟨x2,h,rfl,ke1⟩
 obtain⟨st5,o⟩:=o.dE ke1
 refine⟨_,rfl,?_⟩
 refine Ac (fun h=> ?_) (fun h=> ?_) h
 exact⟨h,o,st5⟩
 exact⟨h,o,st5⟩
 rintro _ x1 w5 ⟨hJ,o,st4⟩
 have h:=h2 x1 hJ
 refine Ac (fun h=> ?_) (fun h=> ?_) h
 refine⟨o.wr 0 rfl rfl,fun w7 hw7=> ?_⟩
 obtain⟨st6,o⟩:=o.dS 0 hw7 rfl
 refine⟨_,_,_,_,_,_,(o.at 0 rfl).whole,?_⟩
 refine⟨o.wr 1 rfl rfl,fun w8 hw8=> ?_⟩
 obtain⟨st7,o⟩:=o.dSs 1 hw8 rfl
 refine⟨_,_,_,_,_,_,(o.at 1 rfl).whole,?_⟩
 exact⟨(⟨x.l,x.n,x.at_,5⟩:Aj),h,⟨_,rfl,(Ag (⟨x.l,x.n,x.at_,5⟩:Aj) ⟨le,(f1.st (st2.trans (st3.trans (st4.trans (st6.trans (st7.trans Mem.Aw9))))))⟩)⟩,o.done⟩
 refine⟨_,_,_,_,_,_,(o.at 0 rfl).whole,?_⟩
 have sT1:=(st2.trans st3).trans st4
 have sT2:=(((st.trans st1).trans st2).trans st3).trans st4
 refine Aa (h _ w5 (o.mn hm) _ (Ag x ⟨le,(f1.st sT1)⟩) _ _ Aws (Awt.st sT2)) ?_
 rintro _ w9 ⟨x3,h,⟨cs1,rfl,f2⟩,ke2⟩
 obtain⟨st8,o⟩:=o.dE ke2
 obtain⟨a1,c1,rfl,⟨le1,f3⟩⟩:=Ah f2
 refine⟨_,_,_,_,_,_,rfl,?_⟩
 refine⟨o.wr 0 rfl rfl,fun w10 Bah=> ?_⟩
 obtain⟨st9,o⟩:=o.dSs 0 Bah rfl
 obtain⟨I,⟨n3,h⟩,h2⟩:=h
 obtain⟨Z,hZ⟩:∃Z:World->Nat->Prop,Z=fun w11 n1=>∃(l:List Ai) (n:Int) (Awx:Int) (ex:Int) (a2:Option Addr) (c2:Nat),I l n Awx ex n1/\(l.length<=c2/\SlR Ay (ms [.box b1 [.slice a2 l.length c2,.q n,.q Awx,.q ex],.box b [.slice none 0 0,.q 0,.q 0,.q 0]] m) w11 a2 l)/\MS w m w10 [.box b1 [.slice a1 x3.l.length c1,.q x3.n,.q x3.at_,.q x3.e_],.box b [.slice none 0 0,.q 0,.q 0,.q 0]] w11 [.box b1 [.slice a2 l.length c2,.q n,.q Awx,.q ex],.box b [.slice none 0 0,.q 0,.q 0,.q 0]]:=⟨_,rfl⟩
 refine⟨fun w11=>∃n1,Z w11 n1,fun w11=>Aw0 (Z w11),⟨n3,?_⟩,?_⟩
 rw [hZ];exact⟨x3.l,x3.n,x3.at_,x3.e_,a1,c1,h,⟨le1,(f3.st st9)⟩,o,Step.refl _ _⟩
 intro _ w11 hIZ
 obtain⟨n1,Az0⟩:∃n1,n1=Aw0 (Z w11):=⟨_,rfl⟩
 have hIZ:=Bz hIZ
 rw [←Az0,hZ]at hIZ
 obtain⟨l,n,Awx,ex,a2,c2,h,⟨le2,f4⟩,o,Aw6⟩:=hIZ
 have h:=h2 l n Awx ex n1 h
 obtain⟨J1,h,h2⟩:=h
 refine⟨fun x4 w12=>J1 x4/\MT w m w11 w12 [.box b1 [.slice a2 l.length c2,.q n,.q Awx,.q ex],.box b [.slice none 0 0,.q 0,.q 0,.q 0]],?_,?_⟩
 refine⟨_,(o.at 0 rfl).cell rfl,?_⟩
 refine Ac (fun h=> ?_) (fun h=> ?_) h
 refine⟨_,(o.at 0 rfl).cell rfl,?_⟩
 have sT3:=((sT2.trans st8).trans st9).trans Aw6
 refine Aa (h _ w11 (o.mn hm) _ _ Aws (Awt.st sT3)) ?_
 rintro _ w13 ⟨x5,h,rfl,ke3⟩
 obtain⟨Axd,o⟩:=o.dE ke3
 refine⟨_,rfl,?_⟩
 exact⟨h,o,Axd⟩
 exact⟨h,o,Step.refl _ _⟩
 rintro _ x4 w12 ⟨hJ,o,Aw8⟩
 have h:=h2 x4 hJ
 refine Ac (fun h=> ?_) (fun h=> ?_) h
 intro w14 Bag
 obtain⟨Axb,o⟩:=o.dD Bag
 have ox:=o
 refine⟨fun u=>An [] w14 u,An.refl _ _,?_⟩
 refine⟨_,_,_,_,_,_,fun u hu=>((ox.at 0 rfl).Awz hu (by simp)).whole,?_⟩
 refine⟨_,fun u hu=>((ox.at 0 rfl).Awz hu (by simp)).cell rfl,?_⟩
 have sT4:=((((sT2.trans st8).trans st9).trans Aw6).trans Aw8).trans Axb
 refine Aa (h _ w14 (o.mn hm) _ _ Aws (Awt.st sT4)) ?_
 rintro _ w15 ⟨x6,h,⟨cs2,rfl,f5⟩,ke4⟩
 obtain⟨Axl,o⟩:=o.dE ke4
 obtain⟨a3,c3,rfl,⟨le3,f6⟩⟩:=Ah f5
 refine⟨_,_,_,_,_,_,rfl,?_⟩
 refine⟨(ke4.mono (by simp)),?_⟩
 have sT5:=(Aw8.trans Axb).trans Axl
 refine Aa (h _ w15 (o.mn hm) _ (Ag (⟨l,n,Awx,ex⟩:Aj) ⟨le2,(f4.st sT5)⟩) _ (Ag x6 ⟨le3,f6⟩)) ?_
 rintro _ w16 ⟨x7,h,⟨cs3,rfl,f7⟩,ke5⟩
 obtain⟨Axh,o⟩:=o.dE ke5
 obtain⟨a4,c4,rfl,⟨le4,f8⟩⟩:=Ah f7
 refine⟨_,_,_,_,_,_,rfl,?_⟩
 refine⟨o.wr 0 rfl rfl,fun w17 Azo=> ?_⟩
 obtain⟨Axn,o⟩:=o.dSs 0 Azo rfl
 obtain⟨n2,hl,h⟩:=h
 have sT6:=((((Aw6.trans Aw8).trans Axb).trans Axl).trans Axh).trans Axn
 exact Bh Az0 (show Z w17 n2 from(by rw [hZ];exact⟨x7.l,x7.n,x7.at_,x7.e_,a4,c4,h,⟨le4,(f8.st Axn)⟩,o,sT6⟩)) hl
 refine⟨_,_,_,_,_,_,(o.at 0 rfl).whole,?_⟩
 have sT7:=(((sT2.trans st8).trans st9).trans Aw6).trans Aw8
 refine Aa (h _ w12 (o.mn hm) _ (Ag (⟨l,n,Awx,ex⟩:Aj) ⟨le2,(f4.st Aw8)⟩) _ _ Aws (Awt.st sT7)) ?_
 rintro _ w18 ⟨x8,h,⟨cs4,rfl,f9⟩,ke6⟩
 obtain⟨Axx,o⟩:=o.dE ke6
 obtain⟨a5,c5,rfl,⟨le5,f10⟩⟩:=Ah f9
 refine⟨_,_,_,_,_,_,rfl,?_⟩
 refine⟨o.wr 0 rfl rfl,fun w19 Bc7=> ?_⟩
 obtain⟨Ax4,o⟩:=o.dSs 0 Bc7 rfl
 intro w20 Bdo
 obtain⟨Aye,o⟩:=o.dD Bdo
 have ox1:=o
 refine⟨fun u=>An [] w20 u,An.refl _ _,?_⟩
 refine⟨_,_,_,_,_,_,fun u hu=>((ox1.at 0 rfl).Awz hu (by simp)).whole,?_⟩
 have sT8:=((sT7.trans Axx).trans Ax4).trans Aye
 refine Aa (h _ w20 (o.mn hm) _ _ Aws (Awt.st sT8)) ?_
 rintro _ w21 ⟨x9,h,⟨cs5,rfl,f11⟩,ke7⟩
 obtain⟨Ayc,o⟩:=o.dE ke7
 obtain rfl:=Dj f11
 refine⟨_,_,_,_,rfl,?_⟩
 refine⟨(ke7.mono (by simp)),?_⟩
 have sT9:=(Ax4.trans Aye).trans Ayc
 refine Aa (h _ w21 (o.mn hm) _ (Ag x8 ⟨le5,(f10.st sT9)⟩) _ (A3 (⟨32,[],0,0,x9.at_⟩:Ai))) ?_
 rintro _ w22 ⟨x10,h,⟨cs6,rfl,f12⟩,ke8⟩
 obtain⟨Ayi,o⟩:=o.dE ke8
 obtain⟨a6,c6,rfl,⟨le6,f13⟩⟩:=Ah f12
 refine⟨_,_,_,_,_,_,rfl,?_⟩
 refine⟨o.wr 1 rfl rfl,fun w23 Bj5=> ?_⟩
 obtain⟨Ayo,o⟩:=o.dSs 1 Bj5 rfl
 refine⟨_,_,_,_,_,_,(o.at 1 rfl).whole,?_⟩
 exact⟨x10,h,⟨_,rfl,(Ag x10 ⟨le6,(f13.st (Ayo.trans Mem.Aw9))⟩)⟩,o.done⟩
def Zo (toks:List Au) (atx:Int) (deep:Int) (K:Aj->Prop):Prop:=
 Dm toks atx (fun x=>
 Cn toks atx [101,108,115,101] (fun x1=>
 cond (x1)
 (D0 atx (fun x2=>
 Ak x2 toks [101,108,115,101] (fun x3=>
 Ei x3 toks (IntKind.i64.wrap (deep+1)) (fun x4=>
 A2 x4 (⟨37,[],0,0,x.at_⟩:Ai) (fun x5=>
 K x5)))))
 (D0 atx (fun x6=>
 Ak x6 toks [99,97,115,101] (fun x7=>
 ∃(J:(List Ai)->Int->Int->Int->Int->(List UInt8)->Int->Int->Int->Prop),
 (∃(J1:Bool->Prop),
 (cond (x7.e_==0)
 (Cn toks x7.at_ [119,104,101,110] (fun x9=>
 J1 x9))
 (J1 false))/\
 ∀(x8:Bool),J1 x8->
 cond (x8)
 (Ak x7 toks [119,104,101,110] (fun x10=>
 Bp x10 toks (fun x11=>
 Ak x11 toks [58] (fun x12=>
 J x12.l x12.n x12.at_ x12.e_ 0 [] 1 0 x.at_))))
 (J x7.l x7.n x7.at_ x7.e_ 0 [] 0 0 x.at_))/\
 ∀(l:List Ai) (n:Int) (Awx:Int) (ex:Int) (Op:Int) (Na:List UInt8) (N:Int) (Ki:Int) (At:Int),J l n Awx ex Op Na N Ki At->
 ∃(J2:(List Ai)->Int->Int->Int->Int->(List UInt8)->Int->Int->Int->Prop),
 (∃(J3:Bool->Prop),
 (cond (ex==0)
 (Cn toks Awx [97,102,116,101,114] (fun x14=>
 J3 x14))
 (J3 false))/\
 ∀(x13:Bool),J3 x13->
 cond (x13)
 (Ak (⟨l,n,Awx,ex⟩:Aj) toks [97,102,116,101,114] (fun x15=>
 Bp x15 toks (fun x16=>
 J2 x16.l x16.n x16.at_ x16.e_ 36 Na N Ki At)))
 (Jy (⟨l,n,Awx,ex⟩:Aj) toks 35 34 (fun r r1 r2=>
 J2 r.l r.n r.at_ r.e_ r1 r2 N Ki At)))/\
 ∀(l1:List Ai) (n1:Int) (Ax5:Int) (ex1:Int) (Op1:Int) (Na1:List UInt8) (N1:Int) (Ki1:Int) (At1:Int),J2 l1 n1 Ax5 ex1 Op1 Na1 N1 Ki1 At1->
 Ei (⟨l1,n1,Ax5,ex1⟩:Aj) toks (IntKind.i64.wrap (deep+1)) (fun x17=>
 A2 x17 (⟨Op1,Na1,N1,Ki1,At1⟩:Ai) (fun x18=>
 K x18)))))))
set_option maxHeartbeats 4000000 in
theorem Xt (toks:List Au) (atx:Int) (deep:Int) (K:Aj->Prop) (h:Zo toks atx deep K):Lt toks atx deep K:=by
 intro m w hm Awv Aww Aws Awt
 have o:=Mem.start hm.lt
 refine Aaw Awv toks.length Aww atx deep _ _ ?_
 intro b w1 hb hw1
 obtain⟨st,o⟩:=o.dB hb hw1
 refine Aa (h _ w1 (o.mn hm) _ _ Aws (Awt.st st)) ?_
 rintro _ w2 ⟨x,h,⟨cs,rfl,f⟩,ke⟩
 obtain⟨st1,o⟩:=o.dE ke
 obtain rfl:=Dj f
 refine⟨_,_,_,_,rfl,?_⟩
 intro b1 w3 hb1 hw3
 obtain⟨st2,o⟩:=o.dB hb1 hw3
 refine⟨o.wr 0 rfl rfl,fun w4 hw4=> ?_⟩
 obtain⟨st3,o⟩:=o.dSs 0 hw4 rfl
 have sT:=((st.trans st1).trans st2).trans st3
 refine Aa (h _ w4 (o.mn hm) _ _ Aws (Awt.st sT)) ?_
 rintro _ w5 ⟨x1,h,rfl,ke1⟩
 obtain⟨st4,o⟩:=o.dE ke1
 refine⟨_,rfl,?_⟩
 refine Ac (fun h=> ?_) (fun h=> ?_) h
 refine⟨o.wr 0 rfl rfl,fun w6 hw6=> ?_⟩
 obtain⟨st5,o⟩:=o.dS 0 hw6 rfl
 intro w7 hw7
 obtain⟨st6,o⟩:=o.dD hw7
 have ox:=o
 refine⟨fun u=>An [] w7 u,An.refl _ _,?_⟩
 refine⟨_,_,_,_,_,fun u hu=>((ox.at 0 rfl).Awz hu (by simp)).whole,?_⟩
 refine Aa (h _ w7 (o.mn hm)) ?_
 rintro _ w8 ⟨x2,h,⟨cs1,rfl,f1⟩,ke2⟩
 obtain⟨st7,o⟩:=o.dE ke2
 obtain⟨a,c,rfl,⟨le,f2⟩⟩:=Ah f1
 refine⟨_,_,_,_,_,_,rfl,?_⟩
 refine⟨(ke2.mono (by simp)),?_⟩
 have sT1:=(((sT.trans st4).trans st5).trans st6).trans st7
 refine Aa (h _ w8 (o.mn hm) _ (Ag x2 ⟨le,f2⟩) _ _ Aws (Awt.st sT1)) ?_
 rintro _ w9 ⟨x3,h,⟨cs2,rfl,f3⟩,ke3⟩
 obtain⟨st8,o⟩:=o.dE ke3
 obtain⟨a1,c1,rfl,⟨le1,f4⟩⟩:=Ah f3
 refine⟨_,_,_,_,_,_,rfl,?_⟩
 refine⟨((ke2.mono (by simp)).trans (ke3.mono (by simp))),?_⟩
 have sT2:=sT1.trans st8
 refine Aa (h _ w9 (o.mn hm) _ (Ag x3 ⟨le1,f4⟩) _ _ Aws (Awt.st sT2)) ?_
 rintro _ w10 ⟨x4,h,⟨cs3,rfl,f5⟩,ke4⟩
 obtain⟨st9,o⟩:=o.dE ke4
 obtain⟨a2,c2,rfl,⟨le2,f6⟩⟩:=Ah f5
 refine⟨_,_,_,_,_,_,rfl,?_⟩
 refine⟨(((ke2.mono (by simp)).trans (ke3.mono (by simp))).trans (ke4.mono (by simp))),?_⟩
 refine Aa (h _ w10 (o.mn hm) _ (Ag x4 ⟨le2,f6⟩) _ (A3 (⟨37,[],0,0,x.at_⟩:Ai))) ?_
 rintro _ w11 ⟨x5,h,⟨cs4,rfl,f7⟩,ke5⟩
 obtain⟨Aw6,o⟩:=o.dE ke5
 obtain⟨a3,c3,rfl,⟨le3,f8⟩⟩:=Ah f7
 refine⟨_,_,_,_,_,_,rfl,?_⟩
 refine⟨o.wr 1 rfl rfl,fun w12 Ay4=> ?_⟩
 obtain⟨Aw8,o⟩:=o.dSs 1 Ay4 rfl
 refine⟨_,_,_,_,_,_,(o.at 1 rfl).whole,?_⟩
 exact⟨x5,h,⟨_,rfl,(Ag x5 ⟨le3,(f8.st (Aw8.trans Mem.Aw9))⟩)⟩,o.done⟩
 refine Aa (h _ w5 (o.mn hm)) ?_
 rintro _ w13 ⟨x6,h,⟨cs5,rfl,f9⟩,ke6⟩
 obtain⟨Axd,o⟩:=o.dE ke6
 obtain⟨a4,c4,rfl,⟨le4,f10⟩⟩:=Ah f9
 refine⟨_,_,_,_,_,_,rfl,?_⟩
 have sT3:=(sT.trans st4).trans Axd
 refine Aa (h _ w13 (o.mn hm) _ (Ag x6 ⟨le4,f10⟩) _ _ Aws (Awt.st sT3)) ?_
 rintro _ w14 ⟨x7,h,⟨cs6,rfl,f11⟩,ke7⟩
 obtain⟨Axb,o⟩:=o.dE ke7
 obtain⟨a5,c5,rfl,⟨le5,f12⟩⟩:=Ah f11
 refine⟨_,_,_,_,_,_,rfl,?_⟩
 intro b2 w15 hb2 Ayn
 obtain⟨Axl,o⟩:=o.dB hb2 Ayn
 refine⟨o.wr 0 rfl rfl,fun w16 Bbz=> ?_⟩
 obtain⟨Axh,o⟩:=o.dSs 0 Bbz rfl
 obtain⟨J,h,h2⟩:=h
 refine⟨fun w17=>∃(l:List Ai) (n:Int) (Awx:Int) (ex:Int) (Op:Int) (Na:List UInt8) (N:Int) (Ki:Int) (At:Int) (a6:Option Addr) (c6:Nat),J l n Awx ex Op Na N Ki At/\(l.length<=c6/\SlR Ay (ms [.box b2 [.slice a6 l.length c6,.q n,.q Awx,.q ex],.box b1 [.q Op,.s Na,.q N,.q Ki,.q At],.box b [.slice none 0 0,.q 0,.q 0,.q 0]] m) w17 a6 l)/\MS w m w16 [.box b2 [.slice a5 x7.l.length c5,.q x7.n,.q x7.at_,.q x7.e_],.box b1 [.q 0,.s [],.q 0,.q 0,.q x.at_],.box b [.slice none 0 0,.q 0,.q 0,.q 0]] w17 [.box b2 [.slice a6 l.length c6,.q n,.q Awx,.q ex],.box b1 [.q Op,.s Na,.q N,.q Ki,.q At],.box b [.slice none 0 0,.q 0,.q 0,.q 0]],?_,?_⟩
 obtain⟨J1,h,h2⟩:=h
 refine⟨fun x8 w18=>J1 x8/\MT w m w16 w18 [.box b2 [.slice a5 x7.l.length c5,.q x7.n,.q x7.at_,.q x7.e_],.box b1 [.q 0,.s [],.q 0,.q 0,.q x.at_],.box b [.slice none 0 0,.q 0,.q 0,.q 0]],?_,?_⟩
 refine⟨_,(o.at 0 rfl).cell rfl,?_⟩
 refine Ac (fun h=> ?_) (fun h=> ?_) h
 refine⟨_,(o.at 0 rfl).cell rfl,?_⟩
 have sT4:=((sT3.trans Axb).trans Axl).trans Axh
 refine Aa (h _ w16 (o.mn hm) _ _ Aws (Awt.st sT4)) ?_
 rintro _ w19 ⟨x9,h,rfl,ke8⟩
 obtain⟨Ax4,o⟩:=o.dE ke8
 refine⟨_,rfl,?_⟩
 exact⟨h,o,Ax4⟩
 exact⟨h,o,Step.refl _ _⟩
 rintro _ x8 w18 ⟨hJ,o,Axx⟩
 have h:=h2 x8 hJ
 refine Ac (fun h=> ?_) (fun h=> ?_) h
 refine⟨o.wr 1 rfl rfl,fun w20 Bdo=> ?_⟩
 obtain⟨Aye,o⟩:=o.dS 1 Bdo rfl
 refine⟨_,_,_,_,_,_,(o.at 0 rfl).whole,?_⟩
 have sT5:=((Axl.trans Axh).trans Axx).trans Aye
 have sT6:=((((sT3.trans Axb).trans Axl).trans Axh).trans Axx).trans Aye
 refine Aa (h _ w20 (o.mn hm) _ (Ag x7 ⟨le5,(f12.st sT5)⟩) _ _ Aws (Awt.st sT6)) ?_
 rintro _ w21 ⟨x10,h,⟨cs7,rfl,f14⟩,ke9⟩
 obtain⟨Ayc,o⟩:=o.dE ke9
 obtain⟨a7,c7,rfl,⟨le7,f15⟩⟩:=Ah f14
 refine⟨_,_,_,_,_,_,rfl,?_⟩
 have sT7:=sT6.trans Ayc
 refine Aa (h _ w21 (o.mn hm) _ (Ag x10 ⟨le7,f15⟩) _ _ Aws (Awt.st sT7)) ?_
 rintro _ w22 ⟨x11,h,⟨cs8,rfl,f16⟩,Bae⟩
 obtain⟨Ayi,o⟩:=o.dE Bae
 obtain⟨a8,c8,rfl,⟨le8,f17⟩⟩:=Ah f16
 refine⟨_,_,_,_,_,_,rfl,?_⟩
 have sT8:=sT7.trans Ayi
 refine Aa (h _ w22 (o.mn hm) _ (Ag x11 ⟨le8,f17⟩) _ _ Aws (Awt.st sT8)) ?_
 rintro _ w23 ⟨x12,h,⟨cs9,rfl,f18⟩,Bb6⟩
 obtain⟨Ayo,o⟩:=o.dE Bb6
 obtain⟨a9,c9,rfl,⟨le9,f19⟩⟩:=Ah f18
 refine⟨_,_,_,_,_,_,rfl,?_⟩
 refine⟨o.wr 0 rfl rfl,fun w24 Bcy=> ?_⟩
 obtain⟨Azp,o⟩:=o.dSs 0 Bcy rfl
 have sT9:=((((Axx.trans Aye).trans Ayc).trans Ayi).trans Ayo).trans Azp
 exact⟨x12.l,x12.n,x12.at_,x12.e_,0,[],1,0,x.at_,a9,c9,h,⟨le9,(f19.st Azp)⟩,o,sT9⟩
 have Az5:=(Axl.trans Axh).trans Axx
 exact⟨x7.l,x7.n,x7.at_,x7.e_,0,[],0,0,x.at_,a5,c5,h,⟨le5,(f12.st Az5)⟩,o,Axx⟩
 rintro _ w17 ⟨l,n,Awx,ex,Op,Na,N,Ki,At,a6,c6,hJ,⟨le6,f13⟩,o,Axn⟩
 have h:=h2 l n Awx ex Op Na N Ki At hJ
 obtain⟨J2,h,h2⟩:=h
 refine⟨fun w25=>∃(l1:List Ai) (n1:Int) (Ax5:Int) (ex1:Int) (Op1:Int) (Na1:List UInt8) (N1:Int) (Ki1:Int) (At1:Int) (a10:Option Addr) (c10:Nat),J2 l1 n1 Ax5 ex1 Op1 Na1 N1 Ki1 At1/\(l1.length<=c10/\SlR Ay (ms [.box b2 [.slice a10 l1.length c10,.q n1,.q Ax5,.q ex1],.box b1 [.q Op1,.s Na1,.q N1,.q Ki1,.q At1],.box b [.slice none 0 0,.q 0,.q 0,.q 0]] m) w25 a10 l1)/\MS w m w17 [.box b2 [.slice a6 l.length c6,.q n,.q Awx,.q ex],.box b1 [.q Op,.s Na,.q N,.q Ki,.q At],.box b [.slice none 0 0,.q 0,.q 0,.q 0]] w25 [.box b2 [.slice a10 l1.length c10,.q n1,.q Ax5,.q ex1],.box b1 [.q Op1,.s Na1,.q N1,.q Ki1,.q At1],.box b [.slice none 0 0,.q 0,.q 0,.q 0]],?_,?_⟩
 obtain⟨J3,h,h2⟩:=h
 refine⟨fun x13 w26=>J3 x13/\MT w m w17 w26 [.box b2 [.slice a6 l.length c6,.q n,.q Awx,.q ex],.box b1 [.q Op,.s Na,.q N,.q Ki,.q At],.box b [.slice none 0 0,.q 0,.q 0,.q 0]],?_,?_⟩
 refine⟨_,(o.at 0 rfl).cell rfl,?_⟩
 refine Ac (fun h=> ?_) (fun h=> ?_) h
 refine⟨_,(o.at 0 rfl).cell rfl,?_⟩
 have Bac:=(((sT3.trans Axb).trans Axl).trans Axh).trans Axn
 refine Aa (h _ w17 (o.mn hm) _ _ Aws (Awt.st Bac)) ?_
 rintro _ w27 ⟨x14,h,rfl,Bcu⟩
 obtain⟨Bad,o⟩:=o.dE Bcu
 refine⟨_,rfl,?_⟩
 exact⟨h,o,Bad⟩
 exact⟨h,o,Step.refl _ _⟩
 rintro _ x13 w26 ⟨hJ,o,Ay3⟩
 have h:=h2 x13 hJ
 refine Ac (fun h=> ?_) (fun h=> ?_) h
 refine⟨o.wr 1 rfl rfl,fun w28 Bc8=> ?_⟩
 obtain⟨Ay7,o⟩:=o.dS 1 Bc8 rfl
 refine⟨_,_,_,_,_,_,(o.at 0 rfl).whole,?_⟩
 have Bba:=(((((sT3.trans Axb).trans Axl).trans Axh).trans Axn).trans Ay3).trans Ay7
 refine Aa (h _ w28 (o.mn hm) _ (Ag (⟨l,n,Awx,ex⟩:Aj) ⟨le6,(f13.st (Ay3.trans Ay7))⟩) _ _ Aws (Awt.st Bba)) ?_
 rintro _ w29 ⟨x15,h,⟨Bm8,rfl,f21⟩,Bcv⟩
 obtain⟨Azj,o⟩:=o.dE Bcv
 obtain⟨a11,c11,rfl,⟨Bgp,f22⟩⟩:=Ah f21
 refine⟨_,_,_,_,_,_,rfl,?_⟩
 have Bdp:=Bba.trans Azj
 refine Aa (h _ w29 (o.mn hm) _ (Ag x15 ⟨Bgp,f22⟩) _ _ Aws (Awt.st Bdp)) ?_
 rintro _ w30 ⟨x16,h,⟨Bm9,rfl,f23⟩,Bcw⟩
 obtain⟨Azq,o⟩:=o.dE Bcw
 obtain⟨a12,c12,rfl,⟨Bev,f24⟩⟩:=Ah f23
 refine⟨_,_,_,_,_,_,rfl,?_⟩
 refine⟨o.wr 0 rfl rfl,fun w31 Bj2=> ?_⟩
 obtain⟨Azz,o⟩:=o.dSs 0 Bj2 rfl
 have Bc3:=(((Ay3.trans Ay7).trans Azj).trans Azq).trans Azz
 exact⟨x16.l,x16.n,x16.at_,x16.e_,36,Na,N,Ki,At,a12,c12,h,⟨Bev,(f24.st Azz)⟩,o,Bc3⟩
 refine⟨_,_,_,_,_,_,(o.at 0 rfl).whole,?_⟩
 have Bb7:=((((sT3.trans Axb).trans Axl).trans Axh).trans Axn).trans Ay3
 refine Aa (h _ w26 (o.mn hm) _ (Ag (⟨l,n,Awx,ex⟩:Aj) ⟨le6,(f13.st Ay3)⟩) _ _ Aws (Awt.st Bb7)) ?_
 rintro _ w32 ⟨r,r1,r2,h,⟨Bne,rfl,f25⟩,Bbx⟩
 obtain⟨Bbb,o⟩:=o.dE Bbx
 obtain⟨a13,c13,rfl,⟨Bfq,f26⟩⟩:=Ah f25
 refine⟨_,_,_,_,_,_,_,_,rfl,?_⟩
 refine⟨o.wr 0 rfl rfl,fun w33 Bnv=> ?_⟩
 obtain⟨Ay8,o⟩:=o.dSs 0 Bnv rfl
 refine⟨o.wr 1 rfl rfl,fun w34 Ber=> ?_⟩
 obtain⟨Az6,o⟩:=o.dS 1 Ber rfl
 refine⟨o.wr 1 rfl rfl,fun w35 Bj6=> ?_⟩
 obtain⟨Azk,o⟩:=o.dS 1 Bj6 rfl
 have Bep:=(Ay8.trans Az6).trans Azk
 have Bb8:=(((Ay3.trans Bbb).trans Ay8).trans Az6).trans Azk
 exact⟨r.l,r.n,r.at_,r.e_,r1,r2,N,Ki,At,a13,c13,h,⟨Bfq,(f26.st Bep)⟩,o,Bb8⟩
 rintro _ w25 ⟨l1,n1,Ax5,ex1,Op1,Na1,N1,Ki1,At1,a10,c10,hJ,⟨Bds,f20⟩,o,Ay2⟩
 have h:=h2 l1 n1 Ax5 ex1 Op1 Na1 N1 Ki1 At1 hJ
 intro w36 Bjk
 obtain⟨Bc4,o⟩:=o.dD Bjk
 have ox1:=o
 refine⟨fun u=>An [] w36 u,An.refl _ _,?_⟩
 refine⟨_,_,_,_,_,_,fun u hu=>((ox1.at 0 rfl).Awz hu (by simp)).whole,?_⟩
 refine⟨_,_,_,_,_,fun u hu=>((ox1.at 1 rfl).Awz hu (by simp)).whole,?_⟩
 have Beq:=(((((sT3.trans Axb).trans Axl).trans Axh).trans Axn).trans Ay2).trans Bc4
 refine Aa (h _ w36 (o.mn hm) _ (Ag (⟨l1,n1,Ax5,ex1⟩:Aj) ⟨Bds,(f20.st Bc4)⟩) _ _ Aws (Awt.st Beq)) ?_
 rintro _ w37 ⟨x17,h,⟨Bnj,rfl,f27⟩,Bby⟩
 obtain⟨Azr,o⟩:=o.dE Bby
 obtain⟨a14,c14,rfl,⟨Bft,f28⟩⟩:=Ah f27
 refine⟨_,_,_,_,_,_,rfl,?_⟩
 refine⟨(Bby.mono (by simp)),?_⟩
 refine Aa (h _ w37 (o.mn hm) _ (Ag x17 ⟨Bft,f28⟩) _ (A3 (⟨Op1,Na1,N1,Ki1,At1⟩:Ai))) ?_
 rintro _ w38 ⟨x18,h,⟨Bnm,rfl,f29⟩,Bdq⟩
 obtain⟨Az7,o⟩:=o.dE Bdq
 obtain⟨a15,c15,rfl,⟨Bew,f30⟩⟩:=Ah f29
 refine⟨_,_,_,_,_,_,rfl,?_⟩
 refine⟨o.wr 2 rfl rfl,fun w39 Bj4=> ?_⟩
 obtain⟨Baf,o⟩:=o.dSs 2 Bj4 rfl
 refine⟨_,_,_,_,_,_,(o.at 2 rfl).whole,?_⟩
 exact⟨x18,h,⟨_,rfl,(Ag x18 ⟨Bew,(f30.st (Baf.trans Mem.Aw9))⟩)⟩,o.done⟩
def Ah7 (toks:List Au) (atx:Int) (xq:Ai) (K:Aj->Prop):Prop:=
 D0 atx (fun x=>
 C9 x toks (fun r r1=>
 Ak r toks [61] (fun x1=>
 ∃(J:(List Ai)->Int->Int->Int->Int->(List UInt8)->Int->Int->Int->Prop),
 (∃(J1:Bool->Prop),
 (cond (x1.e_==0)
 (Cn toks x1.at_ [114,97,110,100,111,109] (fun x3=>
 J1 x3))
 (J1 false))/\
 ∀(x2:Bool),J1 x2->
 cond (x2)
 (Ak x1 toks [114,97,110,100,111,109] (fun x4=>
 Ak x4 toks [40] (fun x5=>
 Bp x5 toks (fun x6=>
 Ak x6 toks [41] (fun x7=>
 J x7.l x7.n x7.at_ x7.e_ 20 r1 xq.n xq.kids xq.at_)))))
 (Bp x1 toks (fun x8=>
 J x8.l x8.n x8.at_ x8.e_ 19 r1 xq.n xq.kids xq.at_)))/\
 ∀(l:List Ai) (n:Int) (Awx:Int) (ex:Int) (Op:Int) (Na:List UInt8) (N:Int) (Ki:Int) (At:Int),J l n Awx ex Op Na N Ki At->
 Ak (⟨l,n,Awx,ex⟩:Aj) toks [59] (fun x9=>
 A2 x9 (⟨Op,Na,N,Ki,At⟩:Ai) (fun x10=>
 K x10)))))
set_option maxHeartbeats 4000000 in
theorem Aey (toks:List Au) (atx:Int) (xq:Ai) (K:Aj->Prop) (h:Ah7 toks atx xq K):Ve toks atx xq K:=by
 intro m w hm Awv Aww Aws Awt Axq Ayu
 obtain rfl:=Bg Ayu
 have o:=Mem.start hm.lt
 refine Ajt Awv toks.length Aww atx _ _ _ _ _ _ _ ?_
 intro b w1 hb hw1
 obtain⟨st,o⟩:=o.dB hb hw1
 intro b1 w2 hb1 hw2
 obtain⟨st1,o⟩:=o.dB hb1 hw2
 refine Aa (h _ w2 (o.mn hm)) ?_
 rintro _ w3 ⟨x,h,⟨cs,rfl,f⟩,ke⟩
 obtain⟨st2,o⟩:=o.dE ke
 obtain⟨a,c,rfl,⟨le,f1⟩⟩:=Ah f
 refine⟨_,_,_,_,_,_,rfl,?_⟩
 have sT:=(st.trans st1).trans st2
 refine Aa (h _ w3 (o.mn hm) _ (Ag x ⟨le,f1⟩) _ _ Aws (Awt.st sT)) ?_
 rintro _ w4 ⟨r,r1,h,⟨cs1,rfl,f2⟩,ke1⟩
 obtain⟨st3,o⟩:=o.dE ke1
 obtain⟨a1,c1,rfl,⟨le1,f3⟩⟩:=Ah f2
 refine⟨_,_,_,_,_,_,_,rfl,?_⟩
 intro b2 w5 hb2 hw5
 obtain⟨st4,o⟩:=o.dB hb2 hw5
 refine⟨o.wr 0 rfl rfl,fun w6 hw6=> ?_⟩
 obtain⟨st5,o⟩:=o.dSs 0 hw6 rfl
 refine⟨_,_,_,_,_,_,(o.at 0 rfl).whole,?_⟩
 have sT1:=((sT.trans st3).trans st4).trans st5
 refine Aa (h _ w6 (o.mn hm) _ (Ag r ⟨le1,(f3.st (st4.trans st5))⟩) _ _ Aws (Awt.st sT1)) ?_
 rintro _ w7 ⟨x1,h,⟨cs2,rfl,f4⟩,ke2⟩
 obtain⟨st6,o⟩:=o.dE ke2
 obtain⟨a2,c2,rfl,⟨le2,f5⟩⟩:=Ah f4
 refine⟨_,_,_,_,_,_,rfl,?_⟩
 refine⟨o.wr 0 rfl rfl,fun w8 hw8=> ?_⟩
 obtain⟨st7,o⟩:=o.dSs 0 hw8 rfl
 refine⟨o.wr 2 rfl rfl,fun w9 hw9=> ?_⟩
 obtain⟨st8,o⟩:=o.dS 2 hw9 rfl
 refine⟨o.wr 2 rfl rfl,fun w10 Bah=> ?_⟩
 obtain⟨st9,o⟩:=o.dS 2 Bah rfl
 obtain⟨J,h,h2⟩:=h
 refine⟨fun w11=>∃(l:List Ai) (n:Int) (Awx:Int) (ex:Int) (Op:Int) (Na:List UInt8) (N:Int) (Ki:Int) (At:Int) (a3:Option Addr) (c3:Nat),J l n Awx ex Op Na N Ki At/\(l.length<=c3/\SlR Ay (ms [.box b2 [.slice a3 l.length c3,.q n,.q Awx,.q ex],.box b1 [.slice none 0 0,.q 0,.q 0,.q 0],.box b [.q Op,.s Na,.q N,.q Ki,.q At]] m) w11 a3 l)/\MS w m w10 [.box b2 [.slice a2 x1.l.length c2,.q x1.n,.q x1.at_,.q x1.e_],.box b1 [.slice none 0 0,.q 0,.q 0,.q 0],.box b [.q 19,.s r1,.q xq.n,.q xq.kids,.q xq.at_]] w11 [.box b2 [.slice a3 l.length c3,.q n,.q Awx,.q ex],.box b1 [.slice none 0 0,.q 0,.q 0,.q 0],.box b [.q Op,.s Na,.q N,.q Ki,.q At]],?_,?_⟩
 obtain⟨J1,h,h2⟩:=h
 refine⟨fun x2 w12=>J1 x2/\MT w m w10 w12 [.box b2 [.slice a2 x1.l.length c2,.q x1.n,.q x1.at_,.q x1.e_],.box b1 [.slice none 0 0,.q 0,.q 0,.q 0],.box b [.q 19,.s r1,.q xq.n,.q xq.kids,.q xq.at_]],?_,?_⟩
 refine⟨_,(o.at 0 rfl).cell rfl,?_⟩
 refine Ac (fun h=> ?_) (fun h=> ?_) h
 refine⟨_,(o.at 0 rfl).cell rfl,?_⟩
 have sT2:=(((sT1.trans st6).trans st7).trans st8).trans st9
 refine Aa (h _ w10 (o.mn hm) _ _ Aws (Awt.st sT2)) ?_
 rintro _ w13 ⟨x3,h,rfl,ke3⟩
 obtain⟨Axd,o⟩:=o.dE ke3
 refine⟨_,rfl,?_⟩
 exact⟨h,o,Axd⟩
 exact⟨h,o,Step.refl _ _⟩
 rintro _ x2 w12 ⟨hJ,o,Aw8⟩
 have h:=h2 x2 hJ
 refine Ac (fun h=> ?_) (fun h=> ?_) h
 refine⟨o.wr 2 rfl rfl,fun w14 Bag=> ?_⟩
 obtain⟨Axb,o⟩:=o.dS 2 Bag rfl
 refine⟨_,_,_,_,_,_,(o.at 0 rfl).whole,?_⟩
 have sT3:=(((st7.trans st8).trans st9).trans Aw8).trans Axb
 have sT4:=(((((sT1.trans st6).trans st7).trans st8).trans st9).trans Aw8).trans Axb
 refine Aa (h _ w14 (o.mn hm) _ (Ag x1 ⟨le2,(f5.st sT3)⟩) _ _ Aws (Awt.st sT4)) ?_
 rintro _ w15 ⟨x4,h,⟨cs3,rfl,f7⟩,ke4⟩
 obtain⟨Axl,o⟩:=o.dE ke4
 obtain⟨a4,c4,rfl,⟨le4,f8⟩⟩:=Ah f7
 refine⟨_,_,_,_,_,_,rfl,?_⟩
 have sT5:=sT4.trans Axl
 refine Aa (h _ w15 (o.mn hm) _ (Ag x4 ⟨le4,f8⟩) _ _ Aws (Awt.st sT5)) ?_
 rintro _ w16 ⟨x5,h,⟨cs4,rfl,f9⟩,ke5⟩
 obtain⟨Axh,o⟩:=o.dE ke5
 obtain⟨a5,c5,rfl,⟨le5,f10⟩⟩:=Ah f9
 refine⟨_,_,_,_,_,_,rfl,?_⟩
 have sT6:=sT5.trans Axh
 refine Aa (h _ w16 (o.mn hm) _ (Ag x5 ⟨le5,f10⟩) _ _ Aws (Awt.st sT6)) ?_
 rintro _ w17 ⟨x6,h,⟨cs5,rfl,f11⟩,ke6⟩
 obtain⟨Axn,o⟩:=o.dE ke6
 obtain⟨a6,c6,rfl,⟨le6,f12⟩⟩:=Ah f11
 refine⟨_,_,_,_,_,_,rfl,?_⟩
 have sT7:=sT6.trans Axn
 refine Aa (h _ w17 (o.mn hm) _ (Ag x6 ⟨le6,f12⟩) _ _ Aws (Awt.st sT7)) ?_
 rintro _ w18 ⟨x7,h,⟨cs6,rfl,f13⟩,ke7⟩
 obtain⟨Axx,o⟩:=o.dE ke7
 obtain⟨a7,c7,rfl,⟨le7,f14⟩⟩:=Ah f13
 refine⟨_,_,_,_,_,_,rfl,?_⟩
 refine⟨o.wr 0 rfl rfl,fun w19 Bc7=> ?_⟩
 obtain⟨Ax4,o⟩:=o.dSs 0 Bc7 rfl
 have sT8:=(((((Aw8.trans Axb).trans Axl).trans Axh).trans Axn).trans Axx).trans Ax4
 exact⟨x7.l,x7.n,x7.at_,x7.e_,20,r1,xq.n,xq.kids,xq.at_,a7,c7,h,⟨le7,(f14.st Ax4)⟩,o,sT8⟩
 refine⟨_,_,_,_,_,_,(o.at 0 rfl).whole,?_⟩
 have sT9:=((st7.trans st8).trans st9).trans Aw8
 have Az5:=((((sT1.trans st6).trans st7).trans st8).trans st9).trans Aw8
 refine Aa (h _ w12 (o.mn hm) _ (Ag x1 ⟨le2,(f5.st sT9)⟩) _ _ Aws (Awt.st Az5)) ?_
 rintro _ w20 ⟨x8,h,⟨cs7,rfl,f15⟩,ke8⟩
 obtain⟨Aye,o⟩:=o.dE ke8
 obtain⟨a8,c8,rfl,⟨le8,f16⟩⟩:=Ah f15
 refine⟨_,_,_,_,_,_,rfl,?_⟩
 refine⟨o.wr 0 rfl rfl,fun w21 Bdw=> ?_⟩
 obtain⟨Ayc,o⟩:=o.dSs 0 Bdw rfl
 have Bac:=(Aw8.trans Aye).trans Ayc
 exact⟨x8.l,x8.n,x8.at_,x8.e_,19,r1,xq.n,xq.kids,xq.at_,a8,c8,h,⟨le8,(f16.st Ayc)⟩,o,Bac⟩
 rintro _ w11 ⟨l,n,Awx,ex,Op,Na,N,Ki,At,a3,c3,hJ,⟨le3,f6⟩,o,Aw6⟩
 have h:=h2 l n Awx ex Op Na N Ki At hJ
 intro w22 Bb5
 obtain⟨Ayi,o⟩:=o.dD Bb5
 have ox:=o
 refine⟨fun u=>An [] w22 u,An.refl _ _,?_⟩
 refine⟨_,_,_,_,_,_,fun u hu=>((ox.at 0 rfl).Awz hu (by simp)).whole,?_⟩
 refine⟨_,_,_,_,_,fun u hu=>((ox.at 2 rfl).Awz hu (by simp)).whole,?_⟩
 have Bba:=(((((sT1.trans st6).trans st7).trans st8).trans st9).trans Aw6).trans Ayi
 refine Aa (h _ w22 (o.mn hm) _ (Ag (⟨l,n,Awx,ex⟩:Aj) ⟨le3,(f6.st Ayi)⟩) _ _ Aws (Awt.st Bba)) ?_
 rintro _ w23 ⟨x9,h,⟨cs8,rfl,f17⟩,ke9⟩
 obtain⟨Ayo,o⟩:=o.dE ke9
 obtain⟨a9,c9,rfl,⟨le9,f18⟩⟩:=Ah f17
 refine⟨_,_,_,_,_,_,rfl,?_⟩
 refine⟨(ke9.mono (by simp)),?_⟩
 refine Aa (h _ w23 (o.mn hm) _ (Ag x9 ⟨le9,f18⟩) _ (A3 (⟨Op,Na,N,Ki,At⟩:Ai))) ?_
 rintro _ w24 ⟨x10,h,⟨cs9,rfl,f19⟩,Bae⟩
 obtain⟨Azp,o⟩:=o.dE Bae
 obtain⟨a10,c10,rfl,⟨Bds,f20⟩⟩:=Ah f19
 refine⟨_,_,_,_,_,_,rfl,?_⟩
 refine⟨o.wr 1 rfl rfl,fun w25 Bbw=> ?_⟩
 obtain⟨Ay2,o⟩:=o.dSs 1 Bbw rfl
 refine⟨_,_,_,_,_,_,(o.at 1 rfl).whole,?_⟩
 exact⟨x10,h,⟨_,rfl,(Ag x10 ⟨Bds,(f20.st (Ay2.trans Mem.Aw9))⟩)⟩,o.done⟩
end Go.Proofs.YtcakelelfklhdaaGreatDoor
