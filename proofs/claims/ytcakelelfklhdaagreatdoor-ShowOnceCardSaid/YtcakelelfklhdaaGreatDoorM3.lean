/- A part of the proof: conditions of the code, contracts, the plain law. -/
import Derived.Test.YtcakelelfklhdaaGreatDoorM2
import Derived.Test.YtcakelelfklhdaaGreatDoorMapL
namespace Go.Proofs.YtcakelelfklhdaaGreatDoor
open Go.Vc Go.Lv Go.Ty
set_option maxRecDepth 10000
def Aan (l:List Aj) (K:(List UInt8)->Int->Prop):Prop:=
 Ju l (fun r r1=>
 cond (r1 !=0)
 (K [] r1)
 (Bp (⟨l,(⟨.pointer none,[]⟩:B1),0⟩:Ab) 0 (fun x=>
 ∃(I:Int->Value->(List Int)->Int->Nat->Prop),(∃n,I 0 (.pointer none) [] 0 n)/\
 ∀(x1:Int) (ba:Value) (bb:List Int) (de:Int) (n:Nat),I x1 ba bb de n->
 cond (decide (x1<(x.length:Int)))
 (((0:Int)<=x1/\x1<(x.length:Int))/\
 ∀x2,x[x1.toNat]? =some x2->
 D4 (⟨l,(⟨ba,bb⟩:B1),de⟩:Ab) x2 (fun r2=>
 ∃n1,n1<n/\I (IntKind.i64.wrap (x1+1)) r2.b.addr r2.b.buf r2.deep n1))
 (G8 (⟨l,(⟨ba,bb⟩:B1),de⟩:Ab) (fun x3=>
 K x3 0)))))
theorem Yw (l:List Aj) (K:(List UInt8)->Int->Prop) (h:Aan l K):K4 l K:=by
 intro m w hm lA lC Ay6 f_l
 have o:=Mem.start hm.lt
 refine Acv lA l.length lC _ _ ?_
 refine Aa (h _ w (o.mn hm) _ _ Ay6 f_l) ?_
 rintro _ w1 ⟨r,r1,h,rfl,ke⟩
 obtain⟨st,o⟩:=o.dE ke
 refine⟨_,_,rfl,?_⟩
 refine Ad (fun h=> ?_) (fun h=> ?_) h
 exact⟨[],r1,h,rfl,o.done⟩
 intro b w2 hb hw2
 obtain⟨st1,o⟩:=o.dB hb hw2
 refine Aa (h _ w2 (o.mn hm) _ _ _ _ _ (o.at 0 rfl) Ay6 (f_l.st (st.trans st1))) ?_
 rintro _ w3 ⟨x,h,⟨a,c,rfl,le,f⟩,ke1⟩
 obtain⟨st2,o⟩:=o.dE ke1
 refine⟨_,_,_,rfl,?_⟩
 have st3:=o.xN 5 1
 have o:=o.Bac 5 1
 obtain⟨I,⟨n2,h⟩,h2⟩:=h
 obtain⟨Z,hZ⟩:∃Z:Int->World->Nat->Prop,Z=fun x1 w4 n=>∃(ba:Value) (bb:List Int) (de:Int) (xs:List Value) (a1:Option Addr) (c1:Nat),I x1 ba bb de n/\Hv 1 b ba/\El (Cu .u8) (ms [.row 5 1 a1 bb.length c1 xs,.box b [.slice lA l.length lC,ba,.slice a1 bb.length c1,.q de]] m) w4 bb xs/\MS w m w3 [.row 5 1 none 0 0 [],.box b [.slice lA l.length lC,.pointer none,.slice none 0 0,.q 0]] w4 [.row 5 1 a1 bb.length c1 xs,.box b [.slice lA l.length lC,ba,.slice a1 bb.length c1,.q de]]:=⟨_,rfl⟩
 refine⟨fun x1 w4=>∃n,Z x1 w4 n,fun x1 w4=>Awb (Z x1 w4),⟨n2,?_⟩,?_⟩
 rw [hZ];exact⟨(.pointer none),[],0,[],none,0,h,(.inl rfl),(El.nil _ _ _),o,Step.refl _ _⟩
 intro _ x1 w4 hIZ
 obtain⟨n,hnn⟩:∃n,n=Awb (Z x1 w4):=⟨_,rfl⟩
 have hIZ:=C2 hIZ
 rw [←hnn,hZ]at hIZ
 obtain⟨ba,bb,de,xs,a1,c1,h,sp,el,o,st4⟩:=hIZ
 have h:=h2 x1 ba bb de n h
 refine Ad (fun h=> ?_) (fun h=> ?_) h
 obtain⟨hi,h⟩:=h
 obtain⟨p,x2,cs,hp,he,hc,hr⟩:=(f.st (st3.trans st4)).elem hi
 obtain rfl:=hr
 have h:=h x2 he
 refine⟨hi,An hp ?_⟩
 refine⟨_,(Ae.head hc.2),?_⟩
 have sT:=(((st.trans st1).trans st2).trans st3).trans st4
 refine Aa (h _ w4 (o.mn hm) _ _ _ _ _ _ (Mem.Awx 1 rfl) (o.Awl 1 0 rfl rfl (by decide)) (o.at 1 rfl) (o.rowAt 0 rfl) el Ay6 (f_l.st sT) sp) ?_
 rintro _ w5 ⟨r2,h,-,⟨a2,c2,xs1,bx,hr1,el1,fr,sp1⟩,ke2⟩
 obtain⟨st5,el2,o⟩:=o.y2 1 0 rfl rfl (by decide) ke2 bx hr1 fr el1
 obtain⟨n1,hl,h⟩:=h
 exact B8 hnn (show Z _ w5 n1 from(by rw [hZ];exact⟨r2.b.addr,r2.b.buf,r2.deep,xs1,a2,c2,h,sp1,el2,o,(st4.trans st5)⟩)) hl
 have sT1:=(((st.trans st1).trans st2).trans st3).trans st4
 refine Aa (h _ w4 (o.mn hm) _ _ _ _ _ _ (Mem.Awx 1 rfl) (o.Awl 1 0 rfl rfl (by decide)) (o.at 1 rfl) (o.rowAt 0 rfl) el Ay6 (f_l.st sT1) sp) ?_
 rintro _ w6 ⟨x3,h,rfl,ke3⟩
 have st6:=Mem.Bxw (ps:=[.row 5 1 a1 bb.length c1 xs,.box b [.slice lA l.length lC,ba,.slice a1 bb.length c1,.q de]]) (m0:=m) 1 0 rfl rfl ke3
 have o:=o.lost 1 0 rfl rfl ke3
 refine⟨_,rfl,?_⟩
 exact⟨x3,0,h,rfl,o.done⟩
def Aao (l:List Aj) (i:Int) (K:(List UInt8)->Bool->Prop):Prop:=
 Ju l (fun r r1=>
 ∃(J:Bool->Prop),
 (cond (r1 !=0)
 (J true)
 (cond (decide (i<0))
 (J true)
 (cond (decide (i>=(l.length:Int)))
 (J true)
 (((0:Int)<=i/\i<(l.length:Int))/\
 ∀x1,l[i.toNat]? =some x1->
 Jv x1.op (fun x2=>
 J (x2==0))))))/\
 ∀(x:Bool),J x->
 cond (x)
 (K [] false)
 (Ax (⟨l,(⟨.pointer none,[]⟩:B1),0⟩:Ab) i (fun x3=>
 K x3 true)))
theorem Yx (l:List Aj) (i:Int) (K:(List UInt8)->Bool->Prop) (h:Aao l i K):V7 l i K:=by
 intro m w hm lA lC Ay6 f_l
 have o:=Mem.start hm.lt
 refine Acx lA l.length lC i _ _ ?_
 refine Aa (h _ w (o.mn hm) _ _ Ay6 f_l) ?_
 rintro _ w1 ⟨r,r1,h,rfl,ke⟩
 obtain⟨st,o⟩:=o.dE ke
 refine⟨_,_,rfl,?_⟩
 obtain⟨J,h,h2⟩:=h
 refine⟨fun x w2=>J x/\MT w m w1 w2 [],?_,?_⟩
 refine Ad (fun h=> ?_) (fun h=> ?_) h
 exact⟨h,o,Step.refl _ _⟩
 refine Ad (fun h=> ?_) (fun h=> ?_) h
 exact⟨h,o,Step.refl _ _⟩
 refine Ad (fun h=> ?_) (fun h=> ?_) h
 exact⟨h,o,Step.refl _ _⟩
 obtain⟨hi,h⟩:=h
 obtain⟨p,x1,cs,hp,he,hc,hr⟩:=(f_l.st st).elem hi
 obtain rfl:=Bv hr
 have h:=h x1 he
 refine⟨hi,An hp ?_⟩
 refine⟨_,(Ae.head hc.2),?_⟩
 refine Aa (h _ w1 (o.mn hm)) ?_
 rintro _ w3 ⟨x2,h,rfl,ke1⟩
 obtain⟨st2,o⟩:=o.dE ke1
 refine⟨_,rfl,?_⟩
 exact⟨h,o,st2⟩
 rintro _ x w2 ⟨hJ,o,st1⟩
 have h:=h2 x hJ
 refine Ad (fun h=> ?_) (fun h=> ?_) h
 exact⟨[],false,h,rfl,o.done⟩
 intro b w4 hb hw4
 obtain⟨st3,o⟩:=o.dB hb hw4
 have sT:=(st.trans st1).trans st3
 refine Aa (h _ w4 (o.mn hm) _ _ _ _ _ (o.at 0 rfl) Ay6 (f_l.st sT)) ?_
 rintro _ w5 ⟨x3,h,rfl,ke2⟩
 obtain⟨st4,o⟩:=o.dE ke2
 refine⟨_,rfl,?_⟩
 exact⟨x3,true,h,rfl,o.done⟩
def P8 (wx:Ab) (i:Int) (K:(List Int)->Prop):Prop:=
 P4 wx.l i (fun v v1=>
 Fj v v1 (fun x=>
 K x))
theorem O9 (wx:Ab) (i:Int) (K:(List Int)->Prop) (h:P8 wx i K):Bp wx i K:=by
 intro m w hm wxb wxA wxC Av9 Awa Awq Av3 Av6
 have o:=Mem.start hm.lt
 refine Ra wxb i _ _ ?_
 refine⟨_,_,_,(Awq.Av8 o.done (by simp)).cell rfl,?_⟩
 refine Aa (h _ w (o.mn hm) _ _ Av3 Av6) ?_
 rintro _ w1 ⟨v,v1,h,⟨b,cs,b1,cs1,rfl,⟨el,f⟩,⟨el1,f1⟩⟩,ke⟩
 obtain⟨st,o⟩:=o.dE ke
 obtain rfl:=f
 obtain⟨a,c,rfl,le,f2⟩:=f1
 refine Aa (h _ w1 (o.mn hm) _ _ el rfl _ _ el1 ⟨_,_,rfl,le,f2⟩) ?_
 rintro _ w2 ⟨x,h,⟨a1,c1,rfl,le1,f3⟩,ke1⟩
 obtain⟨st1,o⟩:=o.dE ke1
 refine⟨_,_,_,rfl,?_⟩
 exact⟨x,h,⟨_,_,rfl,le1,(f3.st (Mem.Awg (ps:=[]) (m0:=m)))⟩,o.done⟩
def Fm (wx:Ab) (i:Int) (K:Ab->Prop):Prop:=
 ∃(J:(List Int)->Int->(List UInt8)->Int->Int->Int->Prop),
 (((0:Int)<=i/\i<(wx.l.length:Int))/\
 ∀x1,wx.l[i.toNat]? =some x1->
 Bp wx i (fun k1=>
 J k1 x1.op x1.name x1.n x1.kids x1.at_))/\
 ∀(k:List Int) (Op:Int) (Na:List UInt8) (N:Int) (Ki:Int) (At:Int),J k Op Na N Ki At->
 cond (Op==38)
 (cond (decide (N>0))
 (L8 N (fun x2=>
 Au wx ([[99,104,97,110,32],Na,[91],x2,[93,59]]:List (List UInt8)) (fun r=>
 K (⟨wx.l,r.b,r.deep⟩:Ab))))
 (Au wx ([[99,104,97,110,32],Na,[59]]:List (List UInt8)) (fun r1=>
 K (⟨wx.l,r1.b,r1.deep⟩:Ab))))
 (cond (Op==40)
 ((0<=(k.length:Int)/\(k.length:Int)<4294967296)/\
 ((0:Int)<=(IntKind.i64.wrap ((k.length:Int)-1))/\(IntKind.i64.wrap ((k.length:Int)-1))<=(k.length:Int))/\
 ∃(I:(List (List UInt8))->Int->Nat->Prop),(∃n,I [] 0 n)/\
 ∀(na3:List (List UInt8)) (x3:Int) (n:Nat),I na3 x3 n->
 cond (decide (x3<(((k.take ((IntKind.i64.wrap ((k.length:Int)-1)).toNat)).length:Nat):Int)))
 (((0:Int)<=x3/\x3<((k.take ((IntKind.i64.wrap ((k.length:Int)-1)).toNat)).length:Int))/\
 ∀x4,(k.take ((IntKind.i64.wrap ((k.length:Int)-1)).toNat))[x3.toNat]? =some x4->
 ((0:Int)<=x4/\x4<(wx.l.length:Int))/\
 ∀x5,wx.l[x4.toNat]? =some x5->
 na3.length+([x5.name]:List (List UInt8)).length<2^32/\
 ∃n1,n1<n/\I (na3++([x5.name]:List (List UInt8))) (IntKind.i64.wrap (x3+1)) n1)
 (((0:Int)<=(IntKind.i64.wrap ((k.length:Int)-1))/\(IntKind.i64.wrap ((k.length:Int)-1))<(k.length:Int))/\
 ∀x6,k[(IntKind.i64.wrap ((k.length:Int)-1)).toNat]? =some x6->
 Jw na3 [44,32] (fun x7=>
 A9 wx x6 ([[112,114,111,99,32],Na,[40],x7,[41]]:List (List UInt8)) (fun r2=>
 K (⟨wx.l,r2.b,r2.deep⟩:Ab)))))
 (((0:Int)<=0/\0<(k.length:Int))/\
 ∀x8,k[0]? =some x8->
 A9 wx x8 ([[109,97,105,110]]:List (List UInt8)) (fun r3=>
 K (⟨wx.l,r3.b,r3.deep⟩:Ab))))
set_option maxHeartbeats 4000000 in
theorem G0 (wx:Ab) (i:Int) (K:Ab->Prop) (h:Fm wx i K):D4 wx i K:=by
 intro m w hm wxb wxA wxC Awc Av9 Awa Awm Awe Awq Axy Aw0 Av3 Av6 Awp
 have Awz:=Mem.Bab hm.lt Awm Awe
 have o:=Mem.obj hm.lt Awm Awe Awq Axy
 have st:=Mem.Bdn (w:=w) (l:=[.slice Av9 wx.l.length Awa,wx.b.addr,.slice wxA wx.b.buf.length wxC,.q wx.deep]) (e:=5) (size:=1) (n:=wx.b.buf.length) (c:=wxC) (xs:=Awc) Awm Awe
 have hrm:∀b∈(wxb::(Vc.blk wxA).toList),b∈m:=fun b hb=>(List.mem_cons.1 hb).elim (fun e=>e▸Awm) (fun h=>(Awe b (Option.mem_toList.1 h)).1)
 refine Rc wxb i _ _ ?_
 obtain⟨J,h,h2⟩:=h
 refine⟨fun x kA kN kC w1=>∃(k:List Int) (Op:Int) (Na:List UInt8) (N:Int) (Ki:Int) (At:Int) (b:Nat),J k Op Na N Ki At/\x=some ⟨b,0,none⟩/\(k.length<=kC/\SlR (Cu .i64) (ms [.box b [.q Op,.s Na,.q N,.q Ki,.q At],.box wxb [.slice Av9 wx.l.length Awa,wx.b.addr,.slice wxA wx.b.buf.length wxC,.q wx.deep],.row 5 1 wxA wx.b.buf.length wxC Awc] m) w1 kA k)/\kN=k.length/\Mem w.heap.size (wxb::(Vc.blk wxA).toList) m [((wxb::(Vc.blk wxA).toList),w.heap.size,w)] [] w1 [.box b [.q Op,.s Na,.q N,.q Ki,.q At],.box wxb [.slice Av9 wx.l.length Awa,wx.b.addr,.slice wxA wx.b.buf.length wxC,.q wx.deep],.row 5 1 wxA wx.b.buf.length wxC Awc]/\Step (ms [.box wxb [.slice Av9 wx.l.length Awa,wx.b.addr,.slice wxA wx.b.buf.length wxC,.q wx.deep],.row 5 1 wxA wx.b.buf.length wxC Awc] m) w (ms [.box b [.q Op,.s Na,.q N,.q Ki,.q At],.box wxb [.slice Av9 wx.l.length Awa,wx.b.addr,.slice wxA wx.b.buf.length wxC,.q wx.deep],.row 5 1 wxA wx.b.buf.length wxC Awc] m) w1,?_,?_⟩
 intro w2 hw2
 obtain⟨st2,o⟩:=o.dD hw2
 have ox:=o
 refine⟨fun u=>Am [] w2 u,Am.refl _ _,?_⟩
 refine⟨_,_,_,fun u hu=>((ox.at 0 rfl).Av8 hu (by simp)).cell rfl,?_⟩
 obtain⟨hi,h⟩:=h
 obtain⟨p,x1,cs,hp,he,hc,hr⟩:=(Av6.st (st.trans st2)).elem hi
 obtain rfl:=Bv hr
 have h:=h x1 he
 refine⟨hi,An hp ?_⟩
 refine⟨_,_,_,_,_,fun u hu=>(Ge.held hc hu (by simp)),?_⟩
 refine⟨?_,?_⟩
 refine Aa (h _ w2 (o.mp hm hrm) _ _ _ _ _ (o.at 0 rfl) Av3 (Av6.st (st.trans st2))) ?_
 rintro _ w3 ⟨k1,h,⟨a,c,rfl,le1,f1⟩,ke⟩
 obtain⟨st3,o⟩:=o.dE ke
 refine⟨_,_,_,rfl,?_⟩
 refine⟨(ke.mono (by simp)),?_⟩
 intro b1 w4 hb1 hw4
 obtain⟨st4,o⟩:=o.dB hb1 hw4
 refine⟨((ke.mono (by simp)).trans ((Be hw4).mono (by simp))),?_⟩
 refine⟨o.wr 0 rfl rfl,fun w5 hw5=> ?_⟩
 obtain⟨st5,o⟩:=o.dSs 0 hw5 rfl
 have sT:=((st2.trans st3).trans st4).trans st5
 exact⟨k1,x1.op,x1.name,x1.n,x1.kids,x1.at_,b1,h,rfl,⟨le1,(f1.st (st4.trans st5))⟩,rfl,o,sT⟩
 intro b1 w3 hb1 hw3
 obtain⟨st3,o⟩:=o.dB hb1 hw3
 refine⟨((Be hw3).mono (by simp)),?_⟩
 have sT1:=(st.trans st2).trans st3
 refine Aa (h _ w3 (o.mp hm hrm) _ _ _ _ _ (o.at 1 rfl) Av3 (Av6.st sT1)) ?_
 rintro _ w4 ⟨k1,h,⟨a,c,rfl,le1,f1⟩,ke⟩
 obtain⟨st4,o⟩:=o.dE ke
 refine⟨_,_,_,rfl,?_⟩
 refine⟨(((Be hw3).mono (by simp)).trans (ke.mono (by simp))),?_⟩
 refine⟨o.wr 0 rfl rfl,fun w5 hw5=> ?_⟩
 obtain⟨st5,o⟩:=o.dSs 0 hw5 rfl
 have sT2:=((st2.trans st3).trans st4).trans st5
 exact⟨k1,x1.op,x1.name,x1.n,x1.kids,x1.at_,b1,h,rfl,⟨le1,(f1.st st5)⟩,rfl,o,sT2⟩
 rintro _ x kA kN kC w1 ⟨k,Op,Na,N,Ki,At,b,hJ,rfl,⟨le,f⟩,rfl,o,st1⟩
 have h:=h2 k Op Na N Ki At hJ
 refine⟨_,(o.at 0 rfl).cell rfl,?_⟩
 refine Ad (fun h=> ?_) (fun h=> ?_) h
 refine⟨_,(o.at 0 rfl).cell rfl,?_⟩
 refine Ad (fun h=> ?_) (fun h=> ?_) h
 intro w3 hw3
 obtain⟨st3,o⟩:=o.dD hw3
 have ox1:=o
 refine⟨fun u=>Am [] w3 u,Am.refl _ _,?_⟩
 refine⟨_,fun u hu=>((ox1.at 0 rfl).Av8 hu (by simp)).cell rfl,?_⟩
 refine⟨_,fun u hu=>((ox1.at 0 rfl).Av8 hu (by simp)).cell rfl,?_⟩
 refine Aa (h _ w3 (o.mp hm hrm)) ?_
 rintro _ w4 ⟨x2,h,rfl,ke⟩
 obtain⟨st4,o⟩:=o.dE ke
 refine⟨_,rfl,?_⟩
 refine⟨(ke.mono (by simp)),?_⟩
 intro b1 w5 hb1 hw5
 have el:El Cy (ms [.box b [.q Op,.s Na,.q N,.q Ki,.q At],.box wxb [.slice Av9 wx.l.length Awa,wx.b.addr,.slice wxA wx.b.buf.length wxC,.q wx.deep],.row 5 1 wxA wx.b.buf.length wxC Awc] m) w4 ([[99,104,97,110,32],Na,[91],x2,[93,59]]:List (List UInt8)) ([.s [99,104,97,110,32],.s Na,.s [91],.s x2,.s [93,59]]:List Value):=(El.cons (cs:=[.s [99,104,97,110,32]]) rfl (El.cons (cs:=[.s Na]) rfl (El.cons (cs:=[.s [91]]) rfl (El.cons (cs:=[.s x2]) rfl (El.cons (cs:=[.s [93,59]]) rfl (El.nil _ _ _))))))
 have fr:w.heap.size<=b1:=hb1▸o.le
 have st5:=o.xL hb1 hw5 1 5
 have o:=o.lit hb1 hw5 1 5 (by decide) rfl
 have le1:=(o.rowAt 0 rfl).cap
 have st6:=o.xX 0
 have f1:=o.freeze (c:=Cy) (l:=([[99,104,97,110,32],Na,[91],x2,[93,59]]:List (List UInt8))) 0 rfl (fun q hq h=>by have:=Awz q hq;have:=fr;simp [Vc.blk]at h;omega) (el.st (st5.trans st6))
 have o:=o.erase 0
 have sT3:=((((st.trans st1).trans st3).trans st4).trans st5).trans st6
 refine Aa (h _ w5 (o.mp hm hrm) _ _ _ _ _ _ (Mem.Awx 1 rfl) (o.Awl 1 2 rfl rfl (by decide)) (o.at 1 rfl) (o.rowAt 2 rfl) (Aw0.st sT3) Av3 (Av6.st sT3) Awp _ _ le1 f1) ?_
 rintro _ w6 ⟨r,h,-,⟨a,c,xs,bx,hr1,el1,fr1,sp⟩,ke1⟩
 obtain⟨st7,el2,o⟩:=o.y2 1 2 rfl rfl (by decide) ke1 bx hr1 fr1 el1
 exact⟨(⟨wx.l,r.b,r.deep⟩:Ab),h,trivial,⟨_,_,_,o.at 1 rfl,o.rowAt 2 rfl,(el2.st (o.eRS 2 rfl)),o.Awk 2 rfl 1 rfl (by decide),sp⟩,o.done⟩
 refine⟨_,(o.at 0 rfl).cell rfl,?_⟩
 intro b2 w7 hb2 hw7
 have el3:El Cy (ms [.box b [.q Op,.s Na,.q N,.q Ki,.q At],.box wxb [.slice Av9 wx.l.length Awa,wx.b.addr,.slice wxA wx.b.buf.length wxC,.q wx.deep],.row 5 1 wxA wx.b.buf.length wxC Awc] m) w1 ([[99,104,97,110,32],Na,[59]]:List (List UInt8)) ([.s [99,104,97,110,32],.s Na,.s [59]]:List Value):=(El.cons (cs:=[.s [99,104,97,110,32]]) rfl (El.cons (cs:=[.s Na]) rfl (El.cons (cs:=[.s [59]]) rfl (El.nil _ _ _))))
 have fr2:w.heap.size<=b2:=hb2▸o.le
 have st8:=o.xL hb2 hw7 1 3
 have o:=o.lit hb2 hw7 1 3 (by decide) rfl
 have le2:=(o.rowAt 0 rfl).cap
 have st9:=o.xX 0
 have f2:=o.freeze (c:=Cy) (l:=([[99,104,97,110,32],Na,[59]]:List (List UInt8))) 0 rfl (fun q hq h=>by have:=Awz q hq;have:=fr2;simp [Vc.blk]at h;omega) (el3.st (st8.trans st9))
 have o:=o.erase 0
 have sT4:=((st.trans st1).trans st8).trans st9
 refine Aa (h _ w7 (o.mp hm hrm) _ _ _ _ _ _ (Mem.Awx 1 rfl) (o.Awl 1 2 rfl rfl (by decide)) (o.at 1 rfl) (o.rowAt 2 rfl) (Aw0.st sT4) Av3 (Av6.st sT4) Awp _ _ le2 f2) ?_
 rintro _ w8 ⟨r1,h,-,⟨a1,c1,xs1,bx1,hr2,el4,fr3,sp1⟩,ke2⟩
 obtain⟨Awf,el5,o⟩:=o.y2 1 2 rfl rfl (by decide) ke2 bx1 hr2 fr3 el4
 exact⟨(⟨wx.l,r1.b,r1.deep⟩:Ab),h,trivial,⟨_,_,_,o.at 1 rfl,o.rowAt 2 rfl,(el5.st (o.eRS 2 rfl)),o.Awk 2 rfl 1 rfl (by decide),sp1⟩,o.done⟩
 refine Ad (fun h=> ?_) (fun h=> ?_) h
 obtain⟨hc1,h⟩:=h
 refine Aga Am6 Am5 rfl (k.length:Int) hc1.1 hc1.2 (by decide) fun w9 rw ke3=> ?_
 obtain⟨b3,hb⟩:∃b3:Nat,b3=w1.heap.size:=⟨_,rfl⟩
 rw [←hb]at rw⊢
 refine⟨_,_,_,rfl,?_⟩
 have fr4:=Am3 (hb▸o.le)
 have Awi:=Mem.Bli (ps:=[.box b [.q Op,.s Na,.q N,.q Ki,.q At],.box wxb [.slice Av9 wx.l.length Awa,wx.b.addr,.slice wxA wx.b.buf.length wxC,.q wx.deep],.row 5 1 wxA wx.b.buf.length wxC Awc]) (m0:=m) ke3 (.row 9 1 (some ⟨b3,0,none⟩) 0 ((k.length:Int).toNat) []) (by rw [hb];rfl)
 have o:=o.add ke3 (.row 9 1 (some ⟨b3,0,none⟩) 0 ((k.length:Int).toNat) []) (by rw [hb];rfl) rw
 obtain⟨hc2,h⟩:=h
 have f3:=SlR.sub (lo:=0) (hi:=(IntKind.i64.wrap ((k.length:Int)-1)).toNat) (cap:=kC) (f.st Awi) (by have:=hc2.2;omega) le
 rw [List.drop_zero]at f3
 have le3:(k.take ((IntKind.i64.wrap ((k.length:Int)-1)).toNat)).length<=kC:=(by have:=le;have:=hc2;first|omega|(simp only [List.length_drop,List.length_take];omega)|simp)
 have ln:(IntKind.i64.wrap ((k.length:Int)-1)).toNat=(k.take ((IntKind.i64.wrap ((k.length:Int)-1)).toNat)).length:=(by have:=hc2;first|omega|(simp only [List.length_drop,List.length_take];omega)|simp)
 refine⟨⟨hc2.1,by have:=le;have:=hc2.2;omega⟩,?_⟩
 rw [ln]
 obtain⟨I,⟨n2,h⟩,h2⟩:=h
 obtain⟨Z,hZ⟩:∃Z:(Option Addr)->Nat->Nat->Int->World->Nat->Prop,Z=fun na na1 na2 x3 w10 n=>∃(na3:List (List UInt8)) (xs2:List Value),I na3 x3 n/\El Cy (ms [.row 9 1 na na3.length na2 xs2,.box b [.q Op,.s Na,.q N,.q Ki,.q At],.box wxb [.slice Av9 wx.l.length Awa,wx.b.addr,.slice wxA wx.b.buf.length wxC,.q wx.deep],.row 5 1 wxA wx.b.buf.length wxC Awc] m) w10 na3 xs2/\na1=na3.length/\(∀q,Vc.blk na=some q->w.heap.size<=q)/\Mem w.heap.size (wxb::(Vc.blk wxA).toList) m [((wxb::(Vc.blk wxA).toList),w.heap.size,w)] [] w10 [.row 9 1 na na3.length na2 xs2,.box b [.q Op,.s Na,.q N,.q Ki,.q At],.box wxb [.slice Av9 wx.l.length Awa,wx.b.addr,.slice wxA wx.b.buf.length wxC,.q wx.deep],.row 5 1 wxA wx.b.buf.length wxC Awc]/\Step (ms [.row 9 1 (some ⟨b3,0,none⟩) 0 ((k.length:Int).toNat) [],.box b [.q Op,.s Na,.q N,.q Ki,.q At],.box wxb [.slice Av9 wx.l.length Awa,wx.b.addr,.slice wxA wx.b.buf.length wxC,.q wx.deep],.row 5 1 wxA wx.b.buf.length wxC Awc] m) w9 (ms [.row 9 1 na na3.length na2 xs2,.box b [.q Op,.s Na,.q N,.q Ki,.q At],.box wxb [.slice Av9 wx.l.length Awa,wx.b.addr,.slice wxA wx.b.buf.length wxC,.q wx.deep],.row 5 1 wxA wx.b.buf.length wxC Awc] m) w10:=⟨_,rfl⟩
 refine⟨fun na na1 na2 x3 w10=>∃n,Z na na1 na2 x3 w10 n,fun na na1 na2 x3 w10=>Awb (Z na na1 na2 x3 w10),⟨n2,?_⟩,?_⟩
 rw [hZ];exact⟨[],[],h,(El.nil _ _ _),rfl,fr4,o,Step.refl _ _⟩
 intro _ na na1 na2 x3 w10 hIZ
 obtain⟨n,hnn⟩:∃n,n=Awb (Z na na1 na2 x3 w10):=⟨_,rfl⟩
 have hIZ:=C2 hIZ
 rw [←hnn,hZ]at hIZ
 obtain⟨na3,xs2,h,el7,rfl,fr5,o,Awr⟩:=hIZ
 have h:=h2 na3 x3 n h
 refine Ad (fun h=> ?_) (fun h=> ?_) h
 obtain⟨hi1,h⟩:=h
 obtain⟨p1,x4,cs1,hp1,he1,hc3,hr3⟩:=(f3.st Awr).elem hi1
 try rw [ln]at hc3
 obtain rfl:=hr3
 have h:=h x4 he1
 refine⟨hi1,An hp1 ?_⟩
 refine⟨_,(Ae.head hc3.2),?_⟩
 refine⟨_,_,_,(o.at 2 rfl).cell rfl,?_⟩
 obtain⟨hi2,h⟩:=h
 have sT5:=((st.trans st1).trans Awi).trans Awr
 obtain⟨p2,x5,cs2,hp2,he2,hc4,hr4⟩:=(Av6.st sT5).elem hi2
 try rw [ln]at hc4
 obtain rfl:=Bv hr4
 have h:=h x5 he2
 refine⟨hi2,An hp2 ?_⟩
 refine⟨_,hc4.2 1 (Nat.le_of_ble_eq_true rfl),?_⟩
 intro b4 w11 hb4 Ax6
 have el8:El Cy (ms [.row 9 1 na na3.length na2 xs2,.box b [.q Op,.s Na,.q N,.q Ki,.q At],.box wxb [.slice Av9 wx.l.length Awa,wx.b.addr,.slice wxA wx.b.buf.length wxC,.q wx.deep],.row 5 1 wxA wx.b.buf.length wxC Awc] m) w10 ([x5.name]:List (List UInt8)) ([.s x5.name]:List Value):=(El.cons (cs:=[.s x5.name]) rfl (El.nil _ _ _))
 have fr6:w.heap.size<=b4:=hb4▸o.le
 have Awj:=o.xL hb4 Ax6 1 1
 have o:=o.lit hb4 Ax6 1 1 (by decide) rfl
 obtain⟨lt,h⟩:=h
 have Bdp:=((el7.st Awj)).app (el8.st Awj)
 refine Fh Am6 (o.rowAt 1 rfl) (o.rowAt 0 rfl).sl (el8.st Awj).len (el8.st Awj).one (by first|(simp;done)|simpa using lt) (by decide) (Nat.zero_le _) fun a2 c2 w12 hr5 hg hat=> ?_
 have fr7:=Ald hat fr5 o.le
 have ln1:na3.length+1=(na3++([x5.name]:List (List UInt8))).length:=(by first|(simp;done)|(simp;omega))
 rw [ln1]at hr5⊢
 refine⟨_,_,_,rfl,?_⟩
 have Aws:=o.xA 1 rfl hr5 hg hat
 have o:=o.app 1 rfl hr5 hg hat
 obtain⟨Awt,o⟩:=o.dX 0
 obtain⟨n1,hl,h⟩:=h
 have sT6:=((Awr.trans Awj).trans Aws).trans Awt
 exact B8 hnn (show Z _ _ _ _ w12 n1 from(by rw [hZ];exact⟨(na3++([x5.name]:List (List UInt8))),(xs2++([.s x5.name]:List Value)),h,(Bdp.st (Aws.trans Awt)),rfl,fr7,o,sT6⟩)) hl
 intro w13 Ayn
 obtain⟨Awu,o⟩:=o.dD Ayn
 have ox2:=o
 refine⟨fun u=>Am [] w13 u,Am.refl _ _,?_⟩
 obtain⟨hi3,h⟩:=h
 have sT7:=(Awi.trans Awr).trans Awu
 obtain⟨p3,x6,cs3,hp3,he3,hc5,hr6⟩:=(f.st sT7).elem hi3
 try rw [ln]at hc5
 obtain rfl:=hr6
 have h:=h x6 he3
 refine⟨hi3,An hp3 ?_⟩
 refine⟨_,fun u hu=>Ae.head (Ge.held hc5 hu (by simp)),?_⟩
 refine⟨_,fun u hu=>((ox2.at 1 rfl).Av8 hu (by simp)).cell rfl,?_⟩
 have le4:=(o.rowAt 0 rfl).cap
 have Aw7:=o.xX 0
 have f4:=o.freeze (c:=Cy) (l:=na3) 0 rfl (fun q hq h=>by have:=Awz q hq;have:=fr5 q h;omega) (el7.st (Awu.trans Aw7))
 have o:=o.erase 0
 refine Aa (h _ w13 (o.mp hm hrm) _ _ le4 f4) ?_
 rintro _ w14 ⟨x7,h,rfl,ke4⟩
 obtain⟨Axf,o⟩:=o.dE ke4
 refine⟨_,rfl,?_⟩
 refine⟨(ke4.mono (by simp)),?_⟩
 intro b5 w15 hb5 Ax7
 have Bh4:El Cy (ms [.box b [.q Op,.s Na,.q N,.q Ki,.q At],.box wxb [.slice Av9 wx.l.length Awa,wx.b.addr,.slice wxA wx.b.buf.length wxC,.q wx.deep],.row 5 1 wxA wx.b.buf.length wxC Awc] m) w14 ([[112,114,111,99,32],Na,[40],x7,[41]]:List (List UInt8)) ([.s [112,114,111,99,32],.s Na,.s [40],.s x7,.s [41]]:List Value):=(El.cons (cs:=[.s [112,114,111,99,32]]) rfl (El.cons (cs:=[.s Na]) rfl (El.cons (cs:=[.s [40]]) rfl (El.cons (cs:=[.s x7]) rfl (El.cons (cs:=[.s [41]]) rfl (El.nil _ _ _))))))
 have fr8:w.heap.size<=b5:=hb5▸o.le
 have Axe:=o.xL hb5 Ax7 1 5
 have o:=o.lit hb5 Ax7 1 5 (by decide) rfl
 refine⟨((ke4.mono (by simp)).trans ((Be Ax7).mono (by simp))),?_⟩
 have le5:=(o.rowAt 0 rfl).cap
 have Axg:=o.xX 0
 have f5:=o.freeze (c:=Cy) (l:=([[112,114,111,99,32],Na,[40],x7,[41]]:List (List UInt8))) 0 rfl (fun q hq h=>by have:=Awz q hq;have:=fr8;simp [Vc.blk]at h;omega) (Bh4.st (Axe.trans Axg))
 have o:=o.erase 0
 have sT8:=(((((((st.trans st1).trans Awi).trans Awr).trans Awu).trans Aw7).trans Axf).trans Axe).trans Axg
 refine Aa (h _ w15 (o.mp hm hrm) _ _ _ _ _ _ (Mem.Awx 1 rfl) (o.Awl 1 2 rfl rfl (by decide)) (o.at 1 rfl) (o.rowAt 2 rfl) (Aw0.st sT8) Av3 (Av6.st sT8) Awp _ f5) ?_
 rintro _ w16 ⟨r2,h,-,⟨a3,c3,xs4,bx2,hr7,Blp,fr9,sp2⟩,ke5⟩
 obtain⟨Axu,Blq,o⟩:=o.y2 1 2 rfl rfl (by decide) ke5 bx2 hr7 fr9 Blp
 exact⟨(⟨wx.l,r2.b,r2.deep⟩:Ab),h,trivial,⟨_,_,_,o.at 1 rfl,o.rowAt 2 rfl,(Blq.st (o.eRS 2 rfl)),o.Awk 2 rfl 1 rfl (by decide),sp2⟩,o.done⟩
 obtain⟨hi4,h⟩:=h
 obtain⟨p4,x8,cs4,hp4,he4,hc6,hr8⟩:=SlR.elem f hi4
 try rw [ln]at hc6
 obtain rfl:=hr8
 have h:=h x8 he4
 refine⟨hi4,An hp4 ?_⟩
 refine⟨_,(Ae.head hc6.2),?_⟩
 intro b6 w17 hb6 Ayo
 have Blr:El Cy (ms [.box b [.q Op,.s Na,.q N,.q Ki,.q At],.box wxb [.slice Av9 wx.l.length Awa,wx.b.addr,.slice wxA wx.b.buf.length wxC,.q wx.deep],.row 5 1 wxA wx.b.buf.length wxC Awc] m) w1 ([[109,97,105,110]]:List (List UInt8)) ([.s [109,97,105,110]]:List Value):=(El.cons (cs:=[.s [109,97,105,110]]) rfl (El.nil _ _ _))
 have Bls:w.heap.size<=b6:=hb6▸o.le
 have Axv:=o.xL hb6 Ayo 1 1
 have o:=o.lit hb6 Ayo 1 1 (by decide) rfl
 have le6:=(o.rowAt 0 rfl).cap
 have Ayp:=o.xX 0
 have f6:=o.freeze (c:=Cy) (l:=([[109,97,105,110]]:List (List UInt8))) 0 rfl (fun q hq h=>by have:=Awz q hq;have:=Bls;simp [Vc.blk]at h;omega) (Blr.st (Axv.trans Ayp))
 have o:=o.erase 0
 have sT9:=((st.trans st1).trans Axv).trans Ayp
 refine Aa (h _ w17 (o.mp hm hrm) _ _ _ _ _ _ (Mem.Awx 1 rfl) (o.Awl 1 2 rfl rfl (by decide)) (o.at 1 rfl) (o.rowAt 2 rfl) (Aw0.st sT9) Av3 (Av6.st sT9) Awp _ f6) ?_
 rintro _ w18 ⟨r3,h,-,⟨a4,c4,xs5,bx3,hr9,Blt,Blu,sp3⟩,ke6⟩
 obtain⟨Ayc,Blv,o⟩:=o.y2 1 2 rfl rfl (by decide) ke6 bx3 hr9 Blu Blt
 exact⟨(⟨wx.l,r3.b,r3.deep⟩:Ab),h,trivial,⟨_,_,_,o.at 1 rfl,o.rowAt 2 rfl,(Blv.st (o.eRS 2 rfl)),o.Awk 2 rfl 1 rfl (by decide),sp3⟩,o.done⟩
def K6 (wx:Ab) (i:Int) (K:(List UInt8)->Prop):Prop:=
 ∃(J:(List Int)->Int->(List UInt8)->Int->Int->Int->Prop),
 (((0:Int)<=i/\i<(wx.l.length:Int))/\
 ∀x1,wx.l[i.toNat]? =some x1->
 Bp wx i (fun k1=>
 J k1 x1.op x1.name x1.n x1.kids x1.at_))/\
 ∀(k:List Int) (Op:Int) (Na:List UInt8) (N:Int) (Ki:Int) (At:Int),J k Op Na N Ki At->
 Jv Op (fun mi=>
 cond (Op==1)
 (L8 N (fun x2=>
 K x2))
 (cond (Op==2)
 (K Na)
 (cond ((k.length:Int)==1)
 (((0:Int)<=0/\0<(k.length:Int))/\
 ∀x3,k[0]? =some x3->
 P5 Op (fun x4=>
 D5 wx x3 mi (fun x5=>
 ((x4.length+x5.length:Nat):Int)<=IntKind.i64.max/\
 K (x4++x5))))
 (∃(J1:Int->Prop),
 (cond (mi==3)
 (J1 4)
 (J1 mi))/\
 ∀(le1:Int),J1 le1->
 ((0:Int)<=0/\0<(k.length:Int))/\
 ∀x6,k[0]? =some x6->
 ((0:Int)<=1/\1<(k.length:Int))/\
 ∀x7,k[1]? =some x7->
 D5 wx x6 le1 (fun x8=>
 ((x8.length+[32].length:Nat):Int)<=IntKind.i64.max/\
 P5 Op (fun x9=>
 (((x8++[32]).length+x9.length:Nat):Int)<=IntKind.i64.max/\
 ((((x8++[32])++x9).length+[32].length:Nat):Int)<=IntKind.i64.max/\
 D5 wx x7 (IntKind.i64.wrap (mi+1)) (fun x10=>
 (((((x8++[32])++x9)++[32]).length+x10.length:Nat):Int)<=IntKind.i64.max/\
 K ((((x8++[32])++x9)++[32])++x10))))))))
theorem Pa (wx:Ab) (i:Int) (K:(List UInt8)->Prop) (h:K6 wx i K):Ax wx i K:=by
 intro m w hm wxb wxA wxC Av9 Awa Awq Av3 Av6
 have o:=Mem.start hm.lt
 refine Re wxb i _ _ ?_
 obtain⟨J,h,h2⟩:=h
 refine⟨fun x kA kN kC w1=>∃(k:List Int) (Op:Int) (Na:List UInt8) (N:Int) (Ki:Int) (At:Int) (b:Nat),J k Op Na N Ki At/\x=some ⟨b,0,none⟩/\(k.length<=kC/\SlR (Cu .i64) (ms [.box b [.q Op,.s Na,.q N,.q Ki,.q At]] m) w1 kA k)/\kN=k.length/\MS w m w [] w1 [.box b [.q Op,.s Na,.q N,.q Ki,.q At]],?_,?_⟩
 intro w2 hw2
 obtain⟨st1,o⟩:=o.dD hw2
 have ox:=o
 refine⟨fun u=>Am [] w2 u,Am.refl _ _,?_⟩
 refine⟨_,_,_,fun u hu=>((Awq.Av8 ox.done (by simp)).Av8 hu (by simp)).cell rfl,?_⟩
 obtain⟨hi,h⟩:=h
 obtain⟨p,x1,cs,hp,he,hc,hr⟩:=(Av6.st st1).elem hi
 obtain rfl:=Bv hr
 have h:=h x1 he
 refine⟨hi,An hp ?_⟩
 refine⟨_,_,_,_,_,fun u hu=>(Ge.held hc hu (by simp)),?_⟩
 refine⟨?_,?_⟩
 refine Aa (h _ w2 (o.mn hm) _ _ _ _ _ (Awq.Av8 o.done (by simp)) Av3 (Av6.st st1)) ?_
 rintro _ w3 ⟨k1,h,⟨a,c,rfl,le1,f1⟩,ke⟩
 obtain⟨st2,o⟩:=o.dE ke
 refine⟨_,_,_,rfl,?_⟩
 refine⟨(ke.mono (by simp)),?_⟩
 intro b1 w4 hb1 hw4
 obtain⟨st3,o⟩:=o.dB hb1 hw4
 refine⟨((ke.mono (by simp)).trans ((Be hw4).mono (by simp))),?_⟩
 refine⟨o.wr 0 rfl rfl,fun w5 hw5=> ?_⟩
 obtain⟨st4,o⟩:=o.dSs 0 hw5 rfl
 have sT:=((st1.trans st2).trans st3).trans st4
 exact⟨k1,x1.op,x1.name,x1.n,x1.kids,x1.at_,b1,h,rfl,⟨le1,(f1.st (st3.trans st4))⟩,rfl,o,sT⟩
 intro b1 w3 hb1 hw3
 obtain⟨st2,o⟩:=o.dB hb1 hw3
 refine⟨((Be hw3).mono (by simp)),?_⟩
 refine Aa (h _ w3 (o.mn hm) _ _ _ _ _ (Awq.Av8 o.done (by simp)) Av3 (Av6.st (st1.trans st2))) ?_
 rintro _ w4 ⟨k1,h,⟨a,c,rfl,le1,f1⟩,ke⟩
 obtain⟨st3,o⟩:=o.dE ke
 refine⟨_,_,_,rfl,?_⟩
 refine⟨(((Be hw3).mono (by simp)).trans (ke.mono (by simp))),?_⟩
 refine⟨o.wr 0 rfl rfl,fun w5 hw5=> ?_⟩
 obtain⟨st4,o⟩:=o.dSs 0 hw5 rfl
 have sT1:=((st1.trans st2).trans st3).trans st4
 exact⟨k1,x1.op,x1.name,x1.n,x1.kids,x1.at_,b1,h,rfl,⟨le1,(f1.st st4)⟩,rfl,o,sT1⟩
 rintro _ x kA kN kC w1 ⟨k,Op,Na,N,Ki,At,b,hJ,rfl,⟨le,f⟩,rfl,o,st⟩
 have h:=h2 k Op Na N Ki At hJ
 refine⟨_,(o.at 0 rfl).cell rfl,?_⟩
 refine Aa (h _ w1 (o.mn hm)) ?_
 rintro _ w3 ⟨mi,h,rfl,ke⟩
 obtain⟨st2,o⟩:=o.dE ke
 refine⟨_,rfl,?_⟩
 refine⟨_,(o.at 0 rfl).cell rfl,?_⟩
 refine Ad (fun h=> ?_) (fun h=> ?_) h
 refine⟨_,(o.at 0 rfl).cell rfl,?_⟩
 refine Aa (h _ w3 (o.mn hm)) ?_
 rintro _ w4 ⟨x2,h,rfl,ke1⟩
 obtain⟨st3,o⟩:=o.dE ke1
 refine⟨_,rfl,?_⟩
 exact⟨x2,h,rfl,o.done⟩
 refine⟨_,(o.at 0 rfl).cell rfl,?_⟩
 refine Ad (fun h=> ?_) (fun h=> ?_) h
 refine⟨_,(o.at 0 rfl).cell rfl,?_⟩
 exact⟨Na,h,rfl,o.done⟩
 refine Ad (fun h=> ?_) (fun h=> ?_) h
 intro w5 hw5
 obtain⟨st4,o⟩:=o.dD hw5
 have ox1:=o
 refine⟨fun u=>Am [] w5 u,Am.refl _ _,?_⟩
 obtain⟨hi1,h⟩:=h
 obtain⟨p1,x3,cs1,hp1,he1,hc1,hr1⟩:=(f.st (st2.trans st4)).elem hi1
 obtain rfl:=hr1
 have h:=h x3 he1
 refine⟨hi1,An hp1 ?_⟩
 refine⟨_,fun u hu=>((ox1.at 0 rfl).Av8 hu (by simp)).cell rfl,?_⟩
 refine⟨_,fun u hu=>Ae.head (Ge.held hc1 hu (by simp)),?_⟩
 refine Aa (h _ w5 (o.mn hm)) ?_
 rintro _ w6 ⟨x4,h,rfl,ke2⟩
 obtain⟨st5,o⟩:=o.dE ke2
 refine⟨_,rfl,?_⟩
 refine⟨(ke2.mono (by simp)),?_⟩
 have sT2:=((st.trans st2).trans st4).trans st5
 refine Aa (h _ w6 (o.mn hm) _ _ _ _ _ (Awq.Av8 o.done (by simp)) Av3 (Av6.st sT2)) ?_
 rintro _ w7 ⟨x5,h,rfl,ke3⟩
 obtain⟨st6,o⟩:=o.dE ke3
 refine⟨_,rfl,?_⟩
 refine⟨h.1,?_⟩
 have h:=And.right h
 exact⟨(x4++x5),h,rfl,o.done⟩
 obtain⟨J1,h,h2⟩:=h
 refine⟨fun le1 w8=>J1 le1/\MT w m w3 w8 [.box b [.q Op,.s Na,.q N,.q Ki,.q At]],?_,?_⟩
 refine Ad (fun h=> ?_) (fun h=> ?_) h
 exact⟨h,o,Step.refl _ _⟩
 exact⟨h,o,Step.refl _ _⟩
 rintro _ le1 w8 ⟨hJ,o,st7⟩
 have h:=h2 le1 hJ
 intro w9 hw9
 obtain⟨st8,o⟩:=o.dD hw9
 have ox2:=o
 refine⟨fun u=>Am [] w9 u,Am.refl _ _,?_⟩
 obtain⟨hi2,h⟩:=h
 have sT3:=(st2.trans st7).trans st8
 obtain⟨p2,x6,cs2,hp2,he2,hc2,hr2⟩:=(f.st sT3).elem hi2
 obtain rfl:=hr2
 have h:=h x6 he2
 refine⟨hi2,An hp2 ?_⟩
 obtain⟨hi3,h⟩:=h
 obtain⟨p3,x7,cs3,hp3,he3,hc3,hr3⟩:=(f.st sT3).elem hi3
 obtain rfl:=hr3
 have h:=h x7 he3
 refine⟨hi3,An hp3 ?_⟩
 refine⟨_,fun u hu=>Ae.head (Ge.held hc2 hu (by simp)),?_⟩
 refine⟨_,fun u hu=>((ox2.at 0 rfl).Av8 hu (by simp)).cell rfl,?_⟩
 refine⟨_,fun u hu=>Ae.head (Ge.held hc3 hu (by simp)),?_⟩
 have sT4:=((st.trans st2).trans st7).trans st8
 refine Aa (h _ w9 (o.mn hm) _ _ _ _ _ (Awq.Av8 o.done (by simp)) Av3 (Av6.st sT4)) ?_
 rintro _ w10 ⟨x8,h,rfl,ke4⟩
 obtain⟨st9,o⟩:=o.dE ke4
 refine⟨_,rfl,?_⟩
 refine⟨(ke4.mono (by simp)),?_⟩
 refine⟨h.1,?_⟩
 have h:=And.right h
 refine Aa (h _ w10 (o.mn hm)) ?_
 rintro _ w11 ⟨x9,h,rfl,ke5⟩
 obtain⟨Awf,o⟩:=o.dE ke5
 refine⟨_,rfl,?_⟩
 refine⟨((ke4.mono (by simp)).trans (ke5.mono (by simp))),?_⟩
 refine⟨h.1,?_⟩
 have h:=And.right h
 refine⟨h.1,?_⟩
 have h:=And.right h
 have sT5:=(sT4.trans st9).trans Awf
 refine Aa (h _ w11 (o.mn hm) _ _ _ _ _ (Awq.Av8 o.done (by simp)) Av3 (Av6.st sT5)) ?_
 rintro _ w12 ⟨x10,h,rfl,ke6⟩
 obtain⟨Awi,o⟩:=o.dE ke6
 refine⟨_,rfl,?_⟩
 refine⟨h.1,?_⟩
 have h:=And.right h
 exact⟨((((x8++[32])++x9)++[32])++x10),h,rfl,o.done⟩
def K7 (wx:Ab) (parts:List (List UInt8)) (K:Ab->Prop):Prop:=
 Ny [9] wx.deep (fun x=>
 Jw parts [] (fun x1=>
 ((x.length+x1.length:Nat):Int)<=IntKind.i64.max/\
 (((x++x1).length+[10].length:Nat):Int)<=IntKind.i64.max/\
 Fk wx ((x++x1)++[10]) (fun r r1 r2=>
 K (⟨wx.l,r2.b,r2.deep⟩:Ab))))
theorem Pb (wx:Ab) (parts:List (List UInt8)) (K:Ab->Prop) (h:K7 wx parts K):Au wx parts K:=by
 intro m w hm wxb wxA wxC Awc Av9 Awa Awm Awe Awq Axy Aw0 Av3 Av6 Awp Ba2 Ba3 Bh5 Bj1
 have Awz:=Mem.Bab hm.lt Awm Awe
 have o:=Mem.obj hm.lt Awm Awe Awq Axy
 have st:=Mem.Bdn (w:=w) (l:=[.slice Av9 wx.l.length Awa,wx.b.addr,.slice wxA wx.b.buf.length wxC,.q wx.deep]) (e:=5) (size:=1) (n:=wx.b.buf.length) (c:=wxC) (xs:=Awc) Awm Awe
 have hrm:∀b∈(wxb::(Vc.blk wxA).toList),b∈m:=fun b hb=>(List.mem_cons.1 hb).elim (fun e=>e▸Awm) (fun h=>(Awe b (Option.mem_toList.1 h)).1)
 refine Rg wxb Ba2 parts.length Ba3 _ _ ?_
 intro w1 hw1
 obtain⟨st1,o⟩:=o.dD hw1
 have ox:=o
 refine⟨fun u=>Am [] w1 u,Am.refl _ _,?_⟩
 refine⟨_,fun u hu=>((ox.at 0 rfl).Av8 hu (by simp)).cell rfl,?_⟩
 refine Aa (h _ w1 (o.mp hm hrm)) ?_
 rintro _ w2 ⟨x,h,rfl,ke⟩
 obtain⟨st2,o⟩:=o.dE ke
 refine⟨_,rfl,?_⟩
 have sT:=(st.trans st1).trans st2
 refine Aa (h _ w2 (o.mp hm hrm) _ _ Bh5 (Bj1.st sT)) ?_
 rintro _ w3 ⟨x1,h,rfl,ke1⟩
 obtain⟨st3,o⟩:=o.dE ke1
 refine⟨_,rfl,?_⟩
 refine⟨h.1,?_⟩
 have h:=And.right h
 refine⟨h.1,?_⟩
 have h:=And.right h
 have sT1:=sT.trans st3
 refine Aa (h _ w3 (o.mp hm hrm) _ _ _ _ _ _ (Mem.Awx 0 rfl) (o.Awl 0 1 rfl rfl (by decide)) (o.at 0 rfl) (o.rowAt 1 rfl) (Aw0.st sT1) Av3 (Av6.st sT1) Awp) ?_
 rintro _ w4 ⟨r,r1,r2,h,rfl,⟨a,c,xs,bx,hr,el,fr,sp⟩,ke2⟩
 obtain⟨st4,el1,o⟩:=o.y2 0 1 rfl rfl (by decide) ke2 bx hr fr el
 refine⟨_,_,rfl,?_⟩
 exact⟨(⟨wx.l,r2.b,r2.deep⟩:Ab),h,trivial,⟨_,_,_,o.at 0 rfl,o.rowAt 1 rfl,(el1.st (o.eRS 1 rfl)),o.Awk 1 rfl 0 rfl (by decide),sp⟩,o.done⟩
def Pd (wx:Ab) (i:Int) (front:List (List UInt8)) (K:Ab->Prop):Prop:=
 front.length+([[32,123]]:List (List UInt8)).length<2^32/\
 Au wx (front++([[32,123]]:List (List UInt8))) (fun r1=>
 Bp (⟨wx.l,r1.b,r1.deep⟩:Ab) i (fun x=>
 Bb (⟨wx.l,r1.b,r1.deep⟩:Ab) x (fun r2=>
 Au (⟨wx.l,r2.b,r2.deep⟩:Ab) ([[125]]:List (List UInt8)) (fun r3=>
 K (⟨wx.l,r3.b,r3.deep⟩:Ab)))))
theorem Ot (wx:Ab) (i:Int) (front:List (List UInt8)) (K:Ab->Prop) (h:Pd wx i front K):A9 wx i front K:=by
 intro m w hm wxb wxA wxC Awc Av9 Awa Awm Awe Awq Axy Aw0 Av3 Av6 Awp Ba4 Bj2
 have Awz:=Mem.Bab hm.lt Awm Awe
 have o:=Mem.obj hm.lt Awm Awe Awq Axy
 have st:=Mem.Bdn (w:=w) (l:=[.slice Av9 wx.l.length Awa,wx.b.addr,.slice wxA wx.b.buf.length wxC,.q wx.deep]) (e:=5) (size:=1) (n:=wx.b.buf.length) (c:=wxC) (xs:=Awc) Awm Awe
 have hrm:∀b∈(wxb::(Vc.blk wxA).toList),b∈m:=fun b hb=>(List.mem_cons.1 hb).elim (fun e=>e▸Awm) (fun h=>(Awe b (Option.mem_toList.1 h)).1)
 refine Py wxb i Ba4 front.length front.length _ _ ?_
 intro b w1 hb hw1
 have el:El Cy (ms [.box wxb [.slice Av9 wx.l.length Awa,wx.b.addr,.slice wxA wx.b.buf.length wxC,.q wx.deep],.row 5 1 wxA wx.b.buf.length wxC Awc] m) w ([[32,123]]:List (List UInt8)) ([.s [32,123]]:List Value):=(El.cons (cs:=[.s [32,123]]) rfl (El.nil _ _ _))
 have fr:w.heap.size<=b:=hb▸o.le
 have st1:=o.xL hb hw1 1 1
 have o:=o.lit hb hw1 1 1 (by decide) rfl
 have st2:=o.xN 9 1
 have o:=o.Bac 9 1
 obtain⟨lt,h⟩:=h
 have sT:=(st.trans st1).trans st2
 obtain⟨xs1,hx,el2⟩:=SlR.cells (Bj2.st sT)
 have el3:=el2.app (el.st (st1.trans st2))
 refine Af2 Am6 hx el2.len (o.rowAt 1 rfl).sl (el.st (st1.trans st2)).len el2.one (el.st (st1.trans st2)).one (by simp) lt (by decide) fun a c w2 hr hg hat=> ?_
 have ln:front.length+1=(front++([[32,123]]:List (List UInt8))).length:=(by first|(simp;done)|(simp;omega))
 rw [ln]at hr
 try rw [ln]
 have fr1:=Am4 hat o.le
 refine⟨_,_,_,rfl,?_⟩
 have st3:=o.xA 0 rfl hr hg hat
 have o:=o.app 0 rfl hr hg hat
 have le:=(o.rowAt 0 rfl).cap
 have st4:=o.xX 0
 have f:=o.freeze (c:=Cy) (l:=(front++([[32,123]]:List (List UInt8)))) 0 rfl (fun q hq h=>by have:=Awz q hq;have:=fr1 q h;omega) (el3.st (st3.trans st4))
 have o:=o.erase 0
 have sT1:=(sT.trans st3).trans st4
 refine Aa (h _ w2 (o.mp hm hrm) _ _ _ _ _ _ (Mem.Awx 1 rfl) (o.Awl 1 2 rfl rfl (by decide)) (o.at 1 rfl) (o.rowAt 2 rfl) (Aw0.st sT1) Av3 (Av6.st sT1) Awp _ _ le f) ?_
 rintro _ w3 ⟨r1,h,-,⟨a1,c1,xs2,bx,hr1,el4,fr2,sp⟩,ke⟩
 obtain⟨st5,el5,o⟩:=o.y2 1 2 rfl rfl (by decide) ke bx hr1 fr2 el4
 have sT2:=sT1.trans st5
 refine Aa (h _ w3 (o.mp hm hrm) _ _ _ _ _ (o.at 1 rfl) Av3 (Av6.st sT2)) ?_
 rintro _ w4 ⟨x,h,⟨a2,c2,rfl,le1,f1⟩,ke1⟩
 obtain⟨st6,o⟩:=o.dE ke1
 refine⟨_,_,_,rfl,?_⟩
 have sT3:=sT2.trans st6
 refine Aa (h _ w4 (o.mp hm hrm) _ _ _ _ _ _ (Mem.Awx 1 rfl) (o.Awl 1 2 rfl rfl (by decide)) (o.at 1 rfl) (o.rowAt 2 rfl) (el5.st st6) Av3 (Av6.st sT3) sp _ _ le1 f1) ?_
 rintro _ w5 ⟨r2,h,-,⟨a3,c3,xs3,bx1,hr2,el6,fr3,sp1⟩,ke2⟩
 obtain⟨st7,el7,o⟩:=o.y2 1 2 rfl rfl (by decide) ke2 bx1 hr2 fr3 el6
 intro b1 w6 hb1 hw6
 have el8:El Cy (ms [.row 9 1 (some ⟨b,0,none⟩) 1 1 ([.s [32,123]]:List Value),.box wxb [.slice Av9 wx.l.length Awa,r2.b.addr,.slice a3 r2.b.buf.length c3,.q r2.deep],.row 5 1 a3 r2.b.buf.length c3 xs3] m) w5 ([[125]]:List (List UInt8)) ([.s [125]]:List Value):=(El.cons (cs:=[.s [125]]) rfl (El.nil _ _ _))
 have fr4:w.heap.size<=b1:=hb1▸o.le
 have st8:=o.xL hb1 hw6 1 1
 have o:=o.lit hb1 hw6 1 1 (by decide) rfl
 have le2:=(o.rowAt 0 rfl).cap
 have st9:=o.xX 0
 have f2:=o.freeze (c:=Cy) (l:=([[125]]:List (List UInt8))) 0 rfl (fun q hq h=>by have:=Awz q hq;have:=fr4;simp [Vc.blk]at h;omega) (el8.st (st8.trans st9))
 have o:=o.erase 0
 have sT4:=((sT3.trans st7).trans st8).trans st9
 refine Aa (h _ w6 (o.mp hm hrm) _ _ _ _ _ _ (Mem.Awx 1 rfl) (o.Awl 1 2 rfl rfl (by decide)) (o.at 1 rfl) (o.rowAt 2 rfl) (el7.st (st8.trans st9)) Av3 (Av6.st sT4) sp1 _ _ le2 f2) ?_
 rintro _ w7 ⟨r3,h,-,⟨a4,c4,xs4,bx2,hr3,el9,fr5,sp2⟩,ke3⟩
 obtain⟨Awf,Bdp,o⟩:=o.y2 1 2 rfl rfl (by decide) ke3 bx2 hr3 fr5 el9
 exact⟨(⟨wx.l,r3.b,r3.deep⟩:Ab),h,trivial,⟨_,_,_,o.at 1 rfl,o.rowAt 2 rfl,(Bdp.st (o.eRS 2 rfl)),o.Awk 2 rfl 1 rfl (by decide),sp2⟩,o.done⟩
def K8 (wx:Ab) (i:Int) (level:Int) (K:(List UInt8)->Prop):Prop:=
 Ax wx i (fun sx=>
 ((0:Int)<=i/\i<(wx.l.length:Int))/\
 ∀x,wx.l[i.toNat]? =some x->
 Jv x.op (fun x1=>
 cond (decide (x1<level))
 ((([40].length+sx.length:Nat):Int)<=IntKind.i64.max/\
 ((([40]++sx).length+[41].length:Nat):Int)<=IntKind.i64.max/\
 K (([40]++sx)++[41]))
 (K sx)))
theorem Pe (wx:Ab) (i:Int) (level:Int) (K:(List UInt8)->Prop) (h:K8 wx i level K):D5 wx i level K:=by
 intro m w hm wxb wxA wxC Av9 Awa Awq Av3 Av6
 have o:=Mem.start hm.lt
 refine Ri wxb i level _ _ ?_
 refine Aa (h _ w (o.mn hm) _ _ _ _ _ (Awq.Av8 o.done (by simp)) Av3 Av6) ?_
 rintro _ w1 ⟨sx,h,rfl,ke⟩
 obtain⟨st,o⟩:=o.dE ke
 refine⟨_,rfl,?_⟩
 refine⟨_,_,_,(Awq.Av8 o.done (by simp)).cell rfl,?_⟩
 obtain⟨hi,h⟩:=h
 obtain⟨p,x,cs,hp,he,hc,hr⟩:=(Av6.st st).elem hi
 obtain rfl:=Bv hr
 have h:=h x he
 refine⟨hi,An hp ?_⟩
 refine⟨_,(Ae.head hc.2),?_⟩
 refine Aa (h _ w1 (o.mn hm)) ?_
 rintro _ w2 ⟨x1,h,rfl,ke1⟩
 obtain⟨st1,o⟩:=o.dE ke1
 refine⟨_,rfl,?_⟩
 refine Ad (fun h=> ?_) (fun h=> ?_) h
 refine⟨h.1,?_⟩
 have h:=And.right h
 refine⟨h.1,?_⟩
 have h:=And.right h
 exact⟨(([40]++sx)++[41]),h,rfl,o.done⟩
 exact⟨sx,h,rfl,o.done⟩
def Bk (wx:Ab) (i:Int) (K:Ab->Prop):Prop:=
 ∃(J:(List Int)->Int->(List UInt8)->Int->Int->Int->Prop),
 (((0:Int)<=i/\i<(wx.l.length:Int))/\
 ∀x1,wx.l[i.toNat]? =some x1->
 Bp wx i (fun k1=>
 J k1 x1.op x1.name x1.n x1.kids x1.at_))/\
 ∀(k:List Int) (Op:Int) (Na:List UInt8) (N:Int) (Ki:Int) (At:Int),J k Op Na N Ki At->
 cond (Op==18)
 (((0:Int)<=0/\0<(k.length:Int))/\
 ∀x2,k[0]? =some x2->
 Ax wx x2 (fun x3=>
 Au wx ([[118,97,114,32],Na,[32,61,32],x3,[59]]:List (List UInt8)) (fun r=>
 K (⟨wx.l,r.b,r.deep⟩:Ab))))
 (cond (Op==19)
 (((0:Int)<=0/\0<(k.length:Int))/\
 ∀x4,k[0]? =some x4->
 Ax wx x4 (fun x5=>
 Au wx ([Na,[32,61,32],x5,[59]]:List (List UInt8)) (fun r1=>
 K (⟨wx.l,r1.b,r1.deep⟩:Ab))))
 (cond (Op==20)
 (((0:Int)<=0/\0<(k.length:Int))/\
 ∀x6,k[0]? =some x6->
 Ax wx x6 (fun x7=>
 Au wx ([Na,[32,61,32,114,97,110,100,111,109,40],x7,[41,59]]:List (List UInt8)) (fun r2=>
 K (⟨wx.l,r2.b,r2.deep⟩:Ab))))
 (cond (Op==21)
 (((0:Int)<=0/\0<(k.length:Int))/\
 ∀x8,k[0]? =some x8->
 ((0:Int)<=1/\1<(k.length:Int))/\
 ∀x9,k[1]? =some x9->
 Da wx x8 (fun x10=>
 Ax wx x9 (fun x11=>
 Au wx ([x10,[32,33,32],x11,[59]]:List (List UInt8)) (fun r3=>
 K (⟨wx.l,r3.b,r3.deep⟩:Ab)))))
 (cond (Op==22)
 (((0:Int)<=0/\0<(k.length:Int))/\
 ∀x12,k[0]? =some x12->
 Da wx x12 (fun x13=>
 Au wx ([x13,[32,63,32],Na,[59]]:List (List UInt8)) (fun r4=>
 K (⟨wx.l,r4.b,r4.deep⟩:Ab))))
 (cond (Op==23)
 (((0:Int)<=0/\0<(k.length:Int))/\
 ∀x14,k[0]? =some x14->
 Ax wx x14 (fun x15=>
 Au wx ([[105,102,32],x15,[32,123]]:List (List UInt8)) (fun r5=>
 ((0:Int)<=1/\1<(k.length:Int))/\
 ∀x16,k[1]? =some x16->
 Bp (⟨wx.l,r5.b,r5.deep⟩:Ab) x16 (fun x17=>
 Bb (⟨wx.l,r5.b,r5.deep⟩:Ab) x17 (fun r6=>
 ∃(J1:Value->(List Int)->Int->Prop),
 (cond ((k.length:Int)==3)
 (Au (⟨wx.l,r6.b,r6.deep⟩:Ab) ([[125,32,101,108,115,101,32,123]]:List (List UInt8)) (fun r7=>
 ((0:Int)<=2/\2<(k.length:Int))/\
 ∀x18,k[2]? =some x18->
 Bp (⟨wx.l,r7.b,r7.deep⟩:Ab) x18 (fun x19=>
 Bb (⟨wx.l,r7.b,r7.deep⟩:Ab) x19 (fun r8=>
 J1 r8.b.addr r8.b.buf r8.deep))))
 (J1 r6.b.addr r6.b.buf r6.deep))/\
 ∀(ba:Value) (bb:List Int) (de:Int),J1 ba bb de->
 Au (⟨wx.l,(⟨ba,bb⟩:B1),de⟩:Ab) ([[125]]:List (List UInt8)) (fun r9=>
 K (⟨wx.l,r9.b,r9.deep⟩:Ab)))))))
 (cond (Op==24)
 (((0:Int)<=1/\1<(k.length:Int))/\
 ∀x20,k[1]? =some x20->
 ((0:Int)<=0/\0<(k.length:Int))/\
 ∀x21,k[0]? =some x21->
 Ax wx x21 (fun x22=>
 A9 wx x20 ([[119,104,105,108,101,32],x22]:List (List UInt8)) (fun r10=>
 K (⟨wx.l,r10.b,r10.deep⟩:Ab))))
 (cond (Op==25)
 (Au wx ([[115,101,108,101,99,116,32,123]]:List (List UInt8)) (fun r11=>
 Co (⟨wx.l,r11.b,r11.deep⟩:Ab) k (fun r12=>
 Au (⟨wx.l,r12.b,r12.deep⟩:Ab) ([[125]]:List (List UInt8)) (fun r13=>
 K (⟨wx.l,r13.b,r13.deep⟩:Ab)))))
 (cond (Op==26)
 (Hy wx k (fun x23=>
 Au wx ([[115,116,97,114,116,32],Na,[40],x23,[41,59]]:List (List UInt8)) (fun r14=>
 K (⟨wx.l,r14.b,r14.deep⟩:Ab))))
 (cond (Op==27)
 (((0:Int)<=0/\0<(k.length:Int))/\
 ∀x24,k[0]? =some x24->
 Ax wx x24 (fun x25=>
 Au wx ([[115,108,101,101,112,32],x25,[59]]:List (List UInt8)) (fun r15=>
 K (⟨wx.l,r15.b,r15.deep⟩:Ab))))
 (cond (Op==28)
 (((0:Int)<=0/\0<(k.length:Int))/\
 ∀x26,k[0]? =some x26->
 Ax wx x26 (fun x27=>
 Au wx ([[112,114,105,110,116,32],x27,[59]]:List (List UInt8)) (fun r16=>
 K (⟨wx.l,r16.b,r16.deep⟩:Ab))))
 (cond (Op==29)
 (((0:Int)<=0/\0<(k.length:Int))/\
 ∀x28,k[0]? =some x28->
 Ax wx x28 (fun x29=>
 Au wx ([[97,115,115,101,114,116,32],x29,[59]]:List (List UInt8)) (fun r17=>
 K (⟨wx.l,r17.b,r17.deep⟩:Ab))))
 (cond (Op==30)
 (Au wx ([[115,107,105,112,59]]:List (List UInt8)) (fun r18=>
 K (⟨wx.l,r18.b,r18.deep⟩:Ab)))
 (cond (Op==31)
 (Au wx ([[115,116,111,112,59]]:List (List UInt8)) (fun r19=>
 K (⟨wx.l,r19.b,r19.deep⟩:Ab)))
 (K wx))))))))))))))
set_option maxHeartbeats 4000000 in
theorem Bo (wx:Ab) (i:Int) (K:Ab->Prop) (h:Bk wx i K):A5 wx i K:=by
 intro m w hm wxb wxA wxC Awc Av9 Awa Awm Awe Awq Axy Aw0 Av3 Av6 Awp
 have Awz:=Mem.Bab hm.lt Awm Awe
 have o:=Mem.obj hm.lt Awm Awe Awq Axy
 have st:=Mem.Bdn (w:=w) (l:=[.slice Av9 wx.l.length Awa,wx.b.addr,.slice wxA wx.b.buf.length wxC,.q wx.deep]) (e:=5) (size:=1) (n:=wx.b.buf.length) (c:=wxC) (xs:=Awc) Awm Awe
 have hrm:∀b∈(wxb::(Vc.blk wxA).toList),b∈m:=fun b hb=>(List.mem_cons.1 hb).elim (fun e=>e▸Awm) (fun h=>(Awe b (Option.mem_toList.1 h)).1)
 refine Rk wxb i _ _ ?_
 obtain⟨J,h,h2⟩:=h
 refine⟨fun x kA kN kC w1=>∃(k:List Int) (Op:Int) (Na:List UInt8) (N:Int) (Ki:Int) (At:Int) (b:Nat),J k Op Na N Ki At/\x=some ⟨b,0,none⟩/\(k.length<=kC/\SlR (Cu .i64) (ms [.box b [.q Op,.s Na,.q N,.q Ki,.q At],.box wxb [.slice Av9 wx.l.length Awa,wx.b.addr,.slice wxA wx.b.buf.length wxC,.q wx.deep],.row 5 1 wxA wx.b.buf.length wxC Awc] m) w1 kA k)/\kN=k.length/\Mem w.heap.size (wxb::(Vc.blk wxA).toList) m [((wxb::(Vc.blk wxA).toList),w.heap.size,w)] [] w1 [.box b [.q Op,.s Na,.q N,.q Ki,.q At],.box wxb [.slice Av9 wx.l.length Awa,wx.b.addr,.slice wxA wx.b.buf.length wxC,.q wx.deep],.row 5 1 wxA wx.b.buf.length wxC Awc]/\Step (ms [.box wxb [.slice Av9 wx.l.length Awa,wx.b.addr,.slice wxA wx.b.buf.length wxC,.q wx.deep],.row 5 1 wxA wx.b.buf.length wxC Awc] m) w (ms [.box b [.q Op,.s Na,.q N,.q Ki,.q At],.box wxb [.slice Av9 wx.l.length Awa,wx.b.addr,.slice wxA wx.b.buf.length wxC,.q wx.deep],.row 5 1 wxA wx.b.buf.length wxC Awc] m) w1,?_,?_⟩
 intro w2 hw2
 obtain⟨st2,o⟩:=o.dD hw2
 have ox:=o
 refine⟨fun u=>Am [] w2 u,Am.refl _ _,?_⟩
 refine⟨_,_,_,fun u hu=>((ox.at 0 rfl).Av8 hu (by simp)).cell rfl,?_⟩
 obtain⟨hi,h⟩:=h
 obtain⟨p,x1,cs,hp,he,hc,hr⟩:=(Av6.st (st.trans st2)).elem hi
 obtain rfl:=Bv hr
 have h:=h x1 he
 refine⟨hi,An hp ?_⟩
 refine⟨_,_,_,_,_,fun u hu=>(Ge.held hc hu (by simp)),?_⟩
 refine⟨?_,?_⟩
 refine Aa (h _ w2 (o.mp hm hrm) _ _ _ _ _ (o.at 0 rfl) Av3 (Av6.st (st.trans st2))) ?_
 rintro _ w3 ⟨k1,h,⟨a,c,rfl,le1,f1⟩,ke⟩
 obtain⟨st3,o⟩:=o.dE ke
 refine⟨_,_,_,rfl,?_⟩
 refine⟨(ke.mono (by simp)),?_⟩
 intro b1 w4 hb1 hw4
 obtain⟨st4,o⟩:=o.dB hb1 hw4
 refine⟨((ke.mono (by simp)).trans ((Be hw4).mono (by simp))),?_⟩
 refine⟨o.wr 0 rfl rfl,fun w5 hw5=> ?_⟩
 obtain⟨st5,o⟩:=o.dSs 0 hw5 rfl
 have sT:=((st2.trans st3).trans st4).trans st5
 exact⟨k1,x1.op,x1.name,x1.n,x1.kids,x1.at_,b1,h,rfl,⟨le1,(f1.st (st4.trans st5))⟩,rfl,o,sT⟩
 intro b1 w3 hb1 hw3
 obtain⟨st3,o⟩:=o.dB hb1 hw3
 refine⟨((Be hw3).mono (by simp)),?_⟩
 have sT1:=(st.trans st2).trans st3
 refine Aa (h _ w3 (o.mp hm hrm) _ _ _ _ _ (o.at 1 rfl) Av3 (Av6.st sT1)) ?_
 rintro _ w4 ⟨k1,h,⟨a,c,rfl,le1,f1⟩,ke⟩
 obtain⟨st4,o⟩:=o.dE ke
 refine⟨_,_,_,rfl,?_⟩
 refine⟨(((Be hw3).mono (by simp)).trans (ke.mono (by simp))),?_⟩
 refine⟨o.wr 0 rfl rfl,fun w5 hw5=> ?_⟩
 obtain⟨st5,o⟩:=o.dSs 0 hw5 rfl
 have sT2:=((st2.trans st3).trans st4).trans st5
 exact⟨k1,x1.op,x1.name,x1.n,x1.kids,x1.at_,b1,h,rfl,⟨le1,(f1.st st5)⟩,rfl,o,sT2⟩
 rintro _ x kA kN kC w1 ⟨k,Op,Na,N,Ki,At,b,hJ,rfl,⟨le,f⟩,rfl,o,st1⟩
 have h:=h2 k Op Na N Ki At hJ
 refine⟨_,(o.at 0 rfl).cell rfl,?_⟩
 refine Ad (fun h=> ?_) (fun h=> ?_) h
 intro w3 hw3
 obtain⟨st3,o⟩:=o.dD hw3
 have ox1:=o
 refine⟨fun u=>Am [] w3 u,Am.refl _ _,?_⟩
 obtain⟨hi1,h⟩:=h
 obtain⟨p1,x2,cs1,hp1,he1,hc1,hr1⟩:=(f.st st3).elem hi1
 obtain rfl:=hr1
 have h:=h x2 he1
 refine⟨hi1,An hp1 ?_⟩
 refine⟨_,fun u hu=>((ox1.at 0 rfl).Av8 hu (by simp)).cell rfl,?_⟩
 refine⟨_,fun u hu=>Ae.head (Ge.held hc1 hu (by simp)),?_⟩
 have sT3:=(st.trans st1).trans st3
 refine Aa (h _ w3 (o.mp hm hrm) _ _ _ _ _ (o.at 1 rfl) Av3 (Av6.st sT3)) ?_
 rintro _ w4 ⟨x3,h,rfl,ke⟩
 obtain⟨st4,o⟩:=o.dE ke
 refine⟨_,rfl,?_⟩
 refine⟨(ke.mono (by simp)),?_⟩
 intro b1 w5 hb1 hw5
 have el:El Cy (ms [.box b [.q Op,.s Na,.q N,.q Ki,.q At],.box wxb [.slice Av9 wx.l.length Awa,wx.b.addr,.slice wxA wx.b.buf.length wxC,.q wx.deep],.row 5 1 wxA wx.b.buf.length wxC Awc] m) w4 ([[118,97,114,32],Na,[32,61,32],x3,[59]]:List (List UInt8)) ([.s [118,97,114,32],.s Na,.s [32,61,32],.s x3,.s [59]]:List Value):=(El.cons (cs:=[.s [118,97,114,32]]) rfl (El.cons (cs:=[.s Na]) rfl (El.cons (cs:=[.s [32,61,32]]) rfl (El.cons (cs:=[.s x3]) rfl (El.cons (cs:=[.s [59]]) rfl (El.nil _ _ _))))))
 have fr:w.heap.size<=b1:=hb1▸o.le
 have st5:=o.xL hb1 hw5 1 5
 have o:=o.lit hb1 hw5 1 5 (by decide) rfl
 have le1:=(o.rowAt 0 rfl).cap
 have st6:=o.xX 0
 have f1:=o.freeze (c:=Cy) (l:=([[118,97,114,32],Na,[32,61,32],x3,[59]]:List (List UInt8))) 0 rfl (fun q hq h=>by have:=Awz q hq;have:=fr;simp [Vc.blk]at h;omega) (el.st (st5.trans st6))
 have o:=o.erase 0
 have sT4:=((sT3.trans st4).trans st5).trans st6
 refine Aa (h _ w5 (o.mp hm hrm) _ _ _ _ _ _ (Mem.Awx 1 rfl) (o.Awl 1 2 rfl rfl (by decide)) (o.at 1 rfl) (o.rowAt 2 rfl) (Aw0.st sT4) Av3 (Av6.st sT4) Awp _ _ le1 f1) ?_
 rintro _ w6 ⟨r,h,-,⟨a,c,xs,bx,hr2,el1,fr1,sp⟩,ke1⟩
 obtain⟨st7,el2,o⟩:=o.y2 1 2 rfl rfl (by decide) ke1 bx hr2 fr1 el1
 exact⟨(⟨wx.l,r.b,r.deep⟩:Ab),h,trivial,⟨_,_,_,o.at 1 rfl,o.rowAt 2 rfl,(el2.st (o.eRS 2 rfl)),o.Awk 2 rfl 1 rfl (by decide),sp⟩,o.done⟩
 refine Ad (fun h=> ?_) (fun h=> ?_) h
 intro w7 hw7
 obtain⟨st8,o⟩:=o.dD hw7
 have ox2:=o
 refine⟨fun u=>Am [] w7 u,Am.refl _ _,?_⟩
 obtain⟨hi2,h⟩:=h
 obtain⟨p2,x4,cs2,hp2,he2,hc2,hr3⟩:=(f.st st8).elem hi2
 obtain rfl:=hr3
 have h:=h x4 he2
 refine⟨hi2,An hp2 ?_⟩
 refine⟨_,fun u hu=>((ox2.at 0 rfl).Av8 hu (by simp)).cell rfl,?_⟩
 refine⟨_,fun u hu=>Ae.head (Ge.held hc2 hu (by simp)),?_⟩
 have sT5:=(st.trans st1).trans st8
 refine Aa (h _ w7 (o.mp hm hrm) _ _ _ _ _ (o.at 1 rfl) Av3 (Av6.st sT5)) ?_
 rintro _ w8 ⟨x5,h,rfl,ke2⟩
 obtain⟨st9,o⟩:=o.dE ke2
 refine⟨_,rfl,?_⟩
 refine⟨(ke2.mono (by simp)),?_⟩
 intro b2 w9 hb2 hw9
 have el3:El Cy (ms [.box b [.q Op,.s Na,.q N,.q Ki,.q At],.box wxb [.slice Av9 wx.l.length Awa,wx.b.addr,.slice wxA wx.b.buf.length wxC,.q wx.deep],.row 5 1 wxA wx.b.buf.length wxC Awc] m) w8 ([Na,[32,61,32],x5,[59]]:List (List UInt8)) ([.s Na,.s [32,61,32],.s x5,.s [59]]:List Value):=(El.cons (cs:=[.s Na]) rfl (El.cons (cs:=[.s [32,61,32]]) rfl (El.cons (cs:=[.s x5]) rfl (El.cons (cs:=[.s [59]]) rfl (El.nil _ _ _)))))
 have fr2:w.heap.size<=b2:=hb2▸o.le
 have Awf:=o.xL hb2 hw9 1 4
 have o:=o.lit hb2 hw9 1 4 (by decide) rfl
 have le2:=(o.rowAt 0 rfl).cap
 have Awi:=o.xX 0
 have f2:=o.freeze (c:=Cy) (l:=([Na,[32,61,32],x5,[59]]:List (List UInt8))) 0 rfl (fun q hq h=>by have:=Awz q hq;have:=fr2;simp [Vc.blk]at h;omega) (el3.st (Awf.trans Awi))
 have o:=o.erase 0
 have sT6:=((sT5.trans st9).trans Awf).trans Awi
 refine Aa (h _ w9 (o.mp hm hrm) _ _ _ _ _ _ (Mem.Awx 1 rfl) (o.Awl 1 2 rfl rfl (by decide)) (o.at 1 rfl) (o.rowAt 2 rfl) (Aw0.st sT6) Av3 (Av6.st sT6) Awp _ _ le2 f2) ?_
 rintro _ w10 ⟨r1,h,-,⟨a1,c1,xs1,bx1,hr4,el4,fr3,sp1⟩,ke3⟩
 obtain⟨Awr,el5,o⟩:=o.y2 1 2 rfl rfl (by decide) ke3 bx1 hr4 fr3 el4
 exact⟨(⟨wx.l,r1.b,r1.deep⟩:Ab),h,trivial,⟨_,_,_,o.at 1 rfl,o.rowAt 2 rfl,(el5.st (o.eRS 2 rfl)),o.Awk 2 rfl 1 rfl (by decide),sp1⟩,o.done⟩
 refine Ad (fun h=> ?_) (fun h=> ?_) h
 intro w11 Ax6
 obtain⟨Awj,o⟩:=o.dD Ax6
 have ox3:=o
 refine⟨fun u=>Am [] w11 u,Am.refl _ _,?_⟩
 obtain⟨hi3,h⟩:=h
 obtain⟨p3,x6,cs3,hp3,he3,hc3,hr5⟩:=(f.st Awj).elem hi3
 obtain rfl:=hr5
 have h:=h x6 he3
 refine⟨hi3,An hp3 ?_⟩
 refine⟨_,fun u hu=>((ox3.at 0 rfl).Av8 hu (by simp)).cell rfl,?_⟩
 refine⟨_,fun u hu=>Ae.head (Ge.held hc3 hu (by simp)),?_⟩
 have sT7:=(st.trans st1).trans Awj
 refine Aa (h _ w11 (o.mp hm hrm) _ _ _ _ _ (o.at 1 rfl) Av3 (Av6.st sT7)) ?_
 rintro _ w12 ⟨x7,h,rfl,ke4⟩
 obtain⟨Aws,o⟩:=o.dE ke4
 refine⟨_,rfl,?_⟩
 refine⟨(ke4.mono (by simp)),?_⟩
 intro b3 w13 hb3 Ayn
 have el6:El Cy (ms [.box b [.q Op,.s Na,.q N,.q Ki,.q At],.box wxb [.slice Av9 wx.l.length Awa,wx.b.addr,.slice wxA wx.b.buf.length wxC,.q wx.deep],.row 5 1 wxA wx.b.buf.length wxC Awc] m) w12 ([Na,[32,61,32,114,97,110,100,111,109,40],x7,[41,59]]:List (List UInt8)) ([.s Na,.s [32,61,32,114,97,110,100,111,109,40],.s x7,.s [41,59]]:List Value):=(El.cons (cs:=[.s Na]) rfl (El.cons (cs:=[.s [32,61,32,114,97,110,100,111,109,40]]) rfl (El.cons (cs:=[.s x7]) rfl (El.cons (cs:=[.s [41,59]]) rfl (El.nil _ _ _)))))
 have fr4:w.heap.size<=b3:=hb3▸o.le
 have Awt:=o.xL hb3 Ayn 1 4
 have o:=o.lit hb3 Ayn 1 4 (by decide) rfl
 have le3:=(o.rowAt 0 rfl).cap
 have Awu:=o.xX 0
 have f3:=o.freeze (c:=Cy) (l:=([Na,[32,61,32,114,97,110,100,111,109,40],x7,[41,59]]:List (List UInt8))) 0 rfl (fun q hq h=>by have:=Awz q hq;have:=fr4;simp [Vc.blk]at h;omega) (el6.st (Awt.trans Awu))
 have o:=o.erase 0
 have sT8:=((sT7.trans Aws).trans Awt).trans Awu
 refine Aa (h _ w13 (o.mp hm hrm) _ _ _ _ _ _ (Mem.Awx 1 rfl) (o.Awl 1 2 rfl rfl (by decide)) (o.at 1 rfl) (o.rowAt 2 rfl) (Aw0.st sT8) Av3 (Av6.st sT8) Awp _ _ le3 f3) ?_
 rintro _ w14 ⟨r2,h,-,⟨a2,c2,xs2,bx2,hr6,el7,fr5,sp2⟩,ke5⟩
 obtain⟨Aw7,el8,o⟩:=o.y2 1 2 rfl rfl (by decide) ke5 bx2 hr6 fr5 el7
 exact⟨(⟨wx.l,r2.b,r2.deep⟩:Ab),h,trivial,⟨_,_,_,o.at 1 rfl,o.rowAt 2 rfl,(el8.st (o.eRS 2 rfl)),o.Awk 2 rfl 1 rfl (by decide),sp2⟩,o.done⟩
 refine Ad (fun h=> ?_) (fun h=> ?_) h
 intro w15 Ax7
 obtain⟨Axf,o⟩:=o.dD Ax7
 have ox4:=o
 refine⟨fun u=>Am [] w15 u,Am.refl _ _,?_⟩
 obtain⟨hi4,h⟩:=h
 obtain⟨p4,x8,cs4,hp4,he4,hc4,hr7⟩:=(f.st Axf).elem hi4
 obtain rfl:=hr7
 have h:=h x8 he4
 refine⟨hi4,An hp4 ?_⟩
 obtain⟨hi5,h⟩:=h
 obtain⟨p5,x9,cs5,hp5,he5,hc5,hr8⟩:=(f.st Axf).elem hi5
 obtain rfl:=hr8
 have h:=h x9 he5
 refine⟨hi5,An hp5 ?_⟩
 refine⟨_,fun u hu=>Ae.head (Ge.held hc4 hu (by simp)),?_⟩
 refine⟨_,fun u hu=>Ae.head (Ge.held hc5 hu (by simp)),?_⟩
 have sT9:=(st.trans st1).trans Axf
 refine Aa (h _ w15 (o.mp hm hrm) _ _ _ _ _ (o.at 1 rfl) Av3 (Av6.st sT9)) ?_
 rintro _ w16 ⟨x10,h,rfl,ke6⟩
 obtain⟨Axe,o⟩:=o.dE ke6
 refine⟨_,rfl,?_⟩
 refine⟨(ke6.mono (by simp)),?_⟩
 have Ay7:=sT9.trans Axe
 refine Aa (h _ w16 (o.mp hm hrm) _ _ _ _ _ (o.at 1 rfl) Av3 (Av6.st Ay7)) ?_
 rintro _ w17 ⟨x11,h,rfl,ke7⟩
 obtain⟨Axg,o⟩:=o.dE ke7
 refine⟨_,rfl,?_⟩
 intro b4 w18 hb4 Azm
 have el9:El Cy (ms [.box b [.q Op,.s Na,.q N,.q Ki,.q At],.box wxb [.slice Av9 wx.l.length Awa,wx.b.addr,.slice wxA wx.b.buf.length wxC,.q wx.deep],.row 5 1 wxA wx.b.buf.length wxC Awc] m) w17 ([x10,[32,33,32],x11,[59]]:List (List UInt8)) ([.s x10,.s [32,33,32],.s x11,.s [59]]:List Value):=(El.cons (cs:=[.s x10]) rfl (El.cons (cs:=[.s [32,33,32]]) rfl (El.cons (cs:=[.s x11]) rfl (El.cons (cs:=[.s [59]]) rfl (El.nil _ _ _)))))
 have fr6:w.heap.size<=b4:=hb4▸o.le
 have Axu:=o.xL hb4 Azm 1 4
 have o:=o.lit hb4 Azm 1 4 (by decide) rfl
 have le4:=(o.rowAt 0 rfl).cap
 have Axv:=o.xX 0
 have f4:=o.freeze (c:=Cy) (l:=([x10,[32,33,32],x11,[59]]:List (List UInt8))) 0 rfl (fun q hq h=>by have:=Awz q hq;have:=fr6;simp [Vc.blk]at h;omega) (el9.st (Axu.trans Axv))
 have o:=o.erase 0
 have Azn:=((Ay7.trans Axg).trans Axu).trans Axv
 refine Aa (h _ w18 (o.mp hm hrm) _ _ _ _ _ _ (Mem.Awx 1 rfl) (o.Awl 1 2 rfl rfl (by decide)) (o.at 1 rfl) (o.rowAt 2 rfl) (Aw0.st Azn) Av3 (Av6.st Azn) Awp _ _ le4 f4) ?_
 rintro _ w19 ⟨r3,h,-,⟨a3,c3,xs3,bx3,hr9,Bdp,fr7,sp3⟩,ke8⟩
 obtain⟨Ayp,Bh4,o⟩:=o.y2 1 2 rfl rfl (by decide) ke8 bx3 hr9 fr7 Bdp
 exact⟨(⟨wx.l,r3.b,r3.deep⟩:Ab),h,trivial,⟨_,_,_,o.at 1 rfl,o.rowAt 2 rfl,(Bh4.st (o.eRS 2 rfl)),o.Awk 2 rfl 1 rfl (by decide),sp3⟩,o.done⟩
 refine Ad (fun h=> ?_) (fun h=> ?_) h
 intro w20 Bdq
 obtain⟨Ayc,o⟩:=o.dD Bdq
 have ox5:=o
 refine⟨fun u=>Am [] w20 u,Am.refl _ _,?_⟩
 obtain⟨hi6,h⟩:=h
 obtain⟨p6,x12,cs6,hp6,he6,hc6,Blw⟩:=(f.st Ayc).elem hi6
 obtain rfl:=Blw
 have h:=h x12 he6
 refine⟨hi6,An hp6 ?_⟩
 refine⟨_,fun u hu=>Ae.head (Ge.held hc6 hu (by simp)),?_⟩
 refine⟨_,fun u hu=>((ox5.at 0 rfl).Av8 hu (by simp)).cell rfl,?_⟩
 have Azw:=(st.trans st1).trans Ayc
 refine Aa (h _ w20 (o.mp hm hrm) _ _ _ _ _ (o.at 1 rfl) Av3 (Av6.st Azw)) ?_
 rintro _ w21 ⟨x13,h,rfl,ke9⟩
 obtain⟨Ax8,o⟩:=o.dE ke9
 refine⟨_,rfl,?_⟩
 refine⟨(ke9.mono (by simp)),?_⟩
 intro b5 w22 hb5 Azx
 have Blp:El Cy (ms [.box b [.q Op,.s Na,.q N,.q Ki,.q At],.box wxb [.slice Av9 wx.l.length Awa,wx.b.addr,.slice wxA wx.b.buf.length wxC,.q wx.deep],.row 5 1 wxA wx.b.buf.length wxC Awc] m) w21 ([x13,[32,63,32],Na,[59]]:List (List UInt8)) ([.s x13,.s [32,63,32],.s Na,.s [59]]:List Value):=(El.cons (cs:=[.s x13]) rfl (El.cons (cs:=[.s [32,63,32]]) rfl (El.cons (cs:=[.s Na]) rfl (El.cons (cs:=[.s [59]]) rfl (El.nil _ _ _)))))
 have fr8:w.heap.size<=b5:=hb5▸o.le
 have Azo:=o.xL hb5 Azx 1 4
 have o:=o.lit hb5 Azx 1 4 (by decide) rfl
 have le5:=(o.rowAt 0 rfl).cap
 have Ayd:=o.xX 0
 have f5:=o.freeze (c:=Cy) (l:=([x13,[32,63,32],Na,[59]]:List (List UInt8))) 0 rfl (fun q hq h=>by have:=Awz q hq;have:=fr8;simp [Vc.blk]at h;omega) (Blp.st (Azo.trans Ayd))
 have o:=o.erase 0
 have Ba5:=((Azw.trans Ax8).trans Azo).trans Ayd
 refine Aa (h _ w22 (o.mp hm hrm) _ _ _ _ _ _ (Mem.Awx 1 rfl) (o.Awl 1 2 rfl rfl (by decide)) (o.at 1 rfl) (o.rowAt 2 rfl) (Aw0.st Ba5) Av3 (Av6.st Ba5) Awp _ _ le5 f5) ?_
 rintro _ w23 ⟨r4,h,-,⟨a4,c4,xs4,bx4,Blx,Blq,fr9,sp4⟩,Bad⟩
 obtain⟨Ay8,Blr,o⟩:=o.y2 1 2 rfl rfl (by decide) Bad bx4 Blx fr9 Blq
 exact⟨(⟨wx.l,r4.b,r4.deep⟩:Ab),h,trivial,⟨_,_,_,o.at 1 rfl,o.rowAt 2 rfl,(Blr.st (o.eRS 2 rfl)),o.Awk 2 rfl 1 rfl (by decide),sp4⟩,o.done⟩
 refine Ad (fun h=> ?_) (fun h=> ?_) h
 obtain⟨hi7,h⟩:=h
 obtain⟨p7,x14,cs7,hp7,he7,hc7,Bly⟩:=SlR.elem f hi7
 obtain rfl:=Bly
 have h:=h x14 he7
 refine⟨hi7,An hp7 ?_⟩
 refine⟨_,(Ae.head hc7.2),?_⟩
 refine Aa (h _ w1 (o.mp hm hrm) _ _ _ _ _ (o.at 1 rfl) Av3 (Av6.st (st.trans st1))) ?_
 rintro _ w24 ⟨x15,h,rfl,Bcj⟩
 obtain⟨Ayv,o⟩:=o.dE Bcj
 refine⟨_,rfl,?_⟩
 intro b6 w25 hb6 Azp
 have Blt:El Cy (ms [.box b [.q Op,.s Na,.q N,.q Ki,.q At],.box wxb [.slice Av9 wx.l.length Awa,wx.b.addr,.slice wxA wx.b.buf.length wxC,.q wx.deep],.row 5 1 wxA wx.b.buf.length wxC Awc] m) w24 ([[105,102,32],x15,[32,123]]:List (List UInt8)) ([.s [105,102,32],.s x15,.s [32,123]]:List Value):=(El.cons (cs:=[.s [105,102,32]]) rfl (El.cons (cs:=[.s x15]) rfl (El.cons (cs:=[.s [32,123]]) rfl (El.nil _ _ _))))
 have Bls:w.heap.size<=b6:=hb6▸o.le
 have Ayw:=o.xL hb6 Azp 1 3
 have o:=o.lit hb6 Azp 1 3 (by decide) rfl
 have le6:=(o.rowAt 0 rfl).cap
 have Bae:=o.xX 0
 have f6:=o.freeze (c:=Cy) (l:=([[105,102,32],x15,[32,123]]:List (List UInt8))) 0 rfl (fun q hq h=>by have:=Awz q hq;have:=Bls;simp [Vc.blk]at h;omega) (Blt.st (Ayw.trans Bae))
 have o:=o.erase 0
 have Bas:=(((st.trans st1).trans Ayv).trans Ayw).trans Bae
 refine Aa (h _ w25 (o.mp hm hrm) _ _ _ _ _ _ (Mem.Awx 1 rfl) (o.Awl 1 2 rfl rfl (by decide)) (o.at 1 rfl) (o.rowAt 2 rfl) (Aw0.st Bas) Av3 (Av6.st Bas) Awp _ _ le6 f6) ?_
 rintro _ w26 ⟨r5,h,-,⟨a5,c5,xs5,bx5,Blz,Blv,Blu,sp5⟩,Bdr⟩
 obtain⟨Baf,Cbm,o⟩:=o.y2 1 2 rfl rfl (by decide) Bdr bx5 Blz Blu Blv
 obtain⟨hi8,h⟩:=h
 have Azy:=((Ayv.trans Ayw).trans Bae).trans Baf
 obtain⟨p8,x16,cs8,hp8,he8,hc8,Cbn⟩:=(f.st Azy).elem hi8
 obtain rfl:=Cbn
 have h:=h x16 he8
 refine⟨hi8,An hp8 ?_⟩
 refine⟨_,(Ae.head hc8.2),?_⟩
 have Bck:=Bas.trans Baf
 refine Aa (h _ w26 (o.mp hm hrm) _ _ _ _ _ (o.at 1 rfl) Av3 (Av6.st Bck)) ?_
 rintro _ w27 ⟨x17,h,⟨a6,c6,rfl,le7,f7⟩,Bds⟩
 obtain⟨Azz,o⟩:=o.dE Bds
 refine⟨_,_,_,rfl,?_⟩
 have Az0:=Bck.trans Azz
 refine Aa (h _ w27 (o.mp hm hrm) _ _ _ _ _ _ (Mem.Awx 1 rfl) (o.Awl 1 2 rfl rfl (by decide)) (o.at 1 rfl) (o.rowAt 2 rfl) (Cbm.st Azz) Av3 (Av6.st Az0) sp5 _ _ le7 f7) ?_
 rintro _ w28 ⟨r6,h,-,⟨a7,c7,xs6,bx6,Cbo,Cbp,Cbq,sp6⟩,Bdt⟩
 obtain⟨Ayx,Bx4,o⟩:=o.y2 1 2 rfl rfl (by decide) Bdt bx6 Cbo Cbq Cbp
 obtain⟨J1,h,h2⟩:=h
 refine⟨fun w29=>∃(ba:Value) (bb:List Int) (de:Int) (xs7:List Value) (a8:Option Addr) (c8:Nat),J1 ba bb de/\Hv 1 wxb ba/\El (Cu .u8) (ms [.box b [.q Op,.s Na,.q N,.q Ki,.q At],.box wxb [.slice Av9 wx.l.length Awa,ba,.slice a8 bb.length c8,.q de],.row 5 1 a8 bb.length c8 xs7] m) w29 bb xs7/\Mem w.heap.size (wxb::(Vc.blk wxA).toList) m [((wxb::(Vc.blk wxA).toList),w.heap.size,w)] [] w29 [.box b [.q Op,.s Na,.q N,.q Ki,.q At],.box wxb [.slice Av9 wx.l.length Awa,ba,.slice a8 bb.length c8,.q de],.row 5 1 a8 bb.length c8 xs7]/\Step (ms [.box b [.q Op,.s Na,.q N,.q Ki,.q At],.box wxb [.slice Av9 wx.l.length Awa,r6.b.addr,.slice a7 r6.b.buf.length c7,.q r6.deep],.row 5 1 a7 r6.b.buf.length c7 xs6] m) w28 (ms [.box b [.q Op,.s Na,.q N,.q Ki,.q At],.box wxb [.slice Av9 wx.l.length Awa,ba,.slice a8 bb.length c8,.q de],.row 5 1 a8 bb.length c8 xs7] m) w29,?_,?_⟩
 refine Ad (fun h=> ?_) (fun h=> ?_) h
 intro b7 w30 hb7 Bj3
 have Cbr:El Cy (ms [.box b [.q Op,.s Na,.q N,.q Ki,.q At],.box wxb [.slice Av9 wx.l.length Awa,r6.b.addr,.slice a7 r6.b.buf.length c7,.q r6.deep],.row 5 1 a7 r6.b.buf.length c7 xs6] m) w28 ([[125,32,101,108,115,101,32,123]]:List (List UInt8)) ([.s [125,32,101,108,115,101,32,123]]:List Value):=(El.cons (cs:=[.s [125,32,101,108,115,101,32,123]]) rfl (El.nil _ _ _))
 have Cbs:w.heap.size<=b7:=hb7▸o.le
 have Ay9:=o.xL hb7 Bj3 1 1
 have o:=o.lit hb7 Bj3 1 1 (by decide) rfl
 have le8:=(o.rowAt 0 rfl).cap
 have Bag:=o.xX 0
 have f8:=o.freeze (c:=Cy) (l:=([[125,32,101,108,115,101,32,123]]:List (List UInt8))) 0 rfl (fun q hq h=>by have:=Awz q hq;have:=Cbs;simp [Vc.blk]at h;omega) (Cbr.st (Ay9.trans Bag))
 have o:=o.erase 0
 have Bcl:=((Az0.trans Ayx).trans Ay9).trans Bag
 refine Aa (h _ w30 (o.mp hm hrm) _ _ _ _ _ _ (Mem.Awx 1 rfl) (o.Awl 1 2 rfl rfl (by decide)) (o.at 1 rfl) (o.rowAt 2 rfl) (Bx4.st (Ay9.trans Bag)) Av3 (Av6.st Bcl) sp6 _ _ le8 f8) ?_
 rintro _ w31 ⟨r7,h,-,⟨a9,c9,xs8,bx7,Cbt,Cbu,Cbw,sp8⟩,Ba6⟩
 obtain⟨Az1,Cbx,o⟩:=o.y2 1 2 rfl rfl (by decide) Ba6 bx7 Cbt Cbw Cbu
 obtain⟨hi9,h⟩:=h
 have Bey:=((((Azy.trans Azz).trans Ayx).trans Ay9).trans Bag).trans Az1
 obtain⟨p9,x18,cs9,hp9,he9,hc9,Cby⟩:=(f.st Bey).elem hi9
 obtain rfl:=Cby
 have h:=h x18 he9
 refine⟨hi9,An hp9 ?_⟩
 refine⟨_,(Ae.head hc9.2),?_⟩
 have Bdu:=Bcl.trans Az1
 refine Aa (h _ w31 (o.mp hm hrm) _ _ _ _ _ (o.at 1 rfl) Av3 (Av6.st Bdu)) ?_
 rintro _ w32 ⟨x19,h,⟨a10,c10,rfl,le9,f9⟩,Ba7⟩
 obtain⟨Bah,o⟩:=o.dE Ba7
 refine⟨_,_,_,rfl,?_⟩
 have Bez:=Bdu.trans Bah
 refine Aa (h _ w32 (o.mp hm hrm) _ _ _ _ _ _ (Mem.Awx 1 rfl) (o.Awl 1 2 rfl rfl (by decide)) (o.at 1 rfl) (o.rowAt 2 rfl) (Cbx.st Bah) Av3 (Av6.st Bez) sp8 _ _ le9 f9) ?_
 rintro _ w33 ⟨r8,h,-,⟨a11,c11,xs9,bx8,Cbz,Cb0,Cb1,sp9⟩,Bdv⟩
 obtain⟨Bcm,Cb2,o⟩:=o.y2 1 2 rfl rfl (by decide) Bdv bx8 Cbz Cb1 Cb0
 have Bh6:=(((Ay9.trans Bag).trans Az1).trans Bah).trans Bcm
 exact⟨r8.b.addr,r8.b.buf,r8.deep,xs9,a11,c11,h,sp9,Cb2,o,Bh6⟩
 exact⟨r6.b.addr,r6.b.buf,r6.deep,xs6,a7,c7,h,sp6,Bx4,o,Step.refl _ _⟩
 rintro _ w29 ⟨ba,bb,de,xs7,a8,c8,hJ,sp7,Cb3,o,Bcn⟩
 have h:=h2 ba bb de hJ
 intro b8 w34 hb8 Be0
 have Cb4:El Cy (ms [.box b [.q Op,.s Na,.q N,.q Ki,.q At],.box wxb [.slice Av9 wx.l.length Awa,ba,.slice a8 bb.length c8,.q de],.row 5 1 a8 bb.length c8 xs7] m) w29 ([[125]]:List (List UInt8)) ([.s [125]]:List Value):=(El.cons (cs:=[.s [125]]) rfl (El.nil _ _ _))
 have Cb5:w.heap.size<=b8:=hb8▸o.le
 have Bat:=o.xL hb8 Be0 1 1
 have o:=o.lit hb8 Be0 1 1 (by decide) rfl
 have Ba8:=(o.rowAt 0 rfl).cap
 have Be1:=o.xX 0
 have f10:=o.freeze (c:=Cy) (l:=([[125]]:List (List UInt8))) 0 rfl (fun q hq h=>by have:=Awz q hq;have:=Cb5;simp [Vc.blk]at h;omega) (Cb4.st (Bat.trans Be1))
 have o:=o.erase 0
 have Be2:=(((Az0.trans Ayx).trans Bcn).trans Bat).trans Be1
 refine Aa (h _ w34 (o.mp hm hrm) _ _ _ _ _ _ (Mem.Awx 1 rfl) (o.Awl 1 2 rfl rfl (by decide)) (o.at 1 rfl) (o.rowAt 2 rfl) (Cb3.st (Bat.trans Be1)) Av3 (Av6.st Be2) sp7 _ _ Ba8 f10) ?_
 rintro _ w35 ⟨r9,h,-,⟨a12,c12,Cih,bx9,Cb6,Cb7,Cb8,Cb9⟩,Bco⟩
 obtain⟨Bh7,Cca,o⟩:=o.y2 1 2 rfl rfl (by decide) Bco bx9 Cb6 Cb8 Cb7
 exact⟨(⟨wx.l,r9.b,r9.deep⟩:Ab),h,trivial,⟨_,_,_,o.at 1 rfl,o.rowAt 2 rfl,(Cca.st (o.eRS 2 rfl)),o.Awk 2 rfl 1 rfl (by decide),Cb9⟩,o.done⟩
 refine Ad (fun h=> ?_) (fun h=> ?_) h
 intro w36 Bl0
 obtain⟨Bcp,o⟩:=o.dD Bl0
 have ox6:=o
 refine⟨fun u=>Am [] w36 u,Am.refl _ _,?_⟩
 obtain⟨Bx5,h⟩:=h
 obtain⟨p10,x20,Bl1,Ccb,Ccc,Bh8,Ccd⟩:=(f.st Bcp).elem Bx5
 obtain rfl:=Ccd
 have h:=h x20 Ccc
 refine⟨Bx5,An Ccb ?_⟩
 obtain⟨Bx6,h⟩:=h
 obtain⟨p11,x21,Bl2,Cce,Ccf,Ccg,Cch⟩:=(f.st Bcp).elem Bx6
 obtain rfl:=Cch
 have h:=h x21 Ccf
 refine⟨Bx6,An Cce ?_⟩
 refine⟨_,fun u hu=>Ae.head (Ge.held Bh8 hu (by simp)),?_⟩
 refine⟨_,fun u hu=>Ae.head (Ge.held Ccg hu (by simp)),?_⟩
 have Bdw:=(st.trans st1).trans Bcp
 refine Aa (h _ w36 (o.mp hm hrm) _ _ _ _ _ (o.at 1 rfl) Av3 (Av6.st Bdw)) ?_
 rintro _ w37 ⟨x22,h,rfl,Ba9⟩
 obtain⟨Bdx,o⟩:=o.dE Ba9
 refine⟨_,rfl,?_⟩
 refine⟨(Ba9.mono (by simp)),?_⟩
 intro b9 w38 hb9 Bh9
 have Cci:El Cy (ms [.box b [.q Op,.s Na,.q N,.q Ki,.q At],.box wxb [.slice Av9 wx.l.length Awa,wx.b.addr,.slice wxA wx.b.buf.length wxC,.q wx.deep],.row 5 1 wxA wx.b.buf.length wxC Awc] m) w37 ([[119,104,105,108,101,32],x22]:List (List UInt8)) ([.s [119,104,105,108,101,32],.s x22]:List Value):=(El.cons (cs:=[.s [119,104,105,108,101,32]]) rfl (El.cons (cs:=[.s x22]) rfl (El.nil _ _ _)))
 have Ccj:w.heap.size<=b9:=hb9▸o.le
 have Bdy:=o.xL hb9 Bh9 1 2
 have o:=o.lit hb9 Bh9 1 2 (by decide) rfl
 refine⟨((Ba9.mono (by simp)).trans ((Be Bh9).mono (by simp))),?_⟩
 have Be3:=(o.rowAt 0 rfl).cap
 have Be4:=o.xX 0
 have f11:=o.freeze (c:=Cy) (l:=([[119,104,105,108,101,32],x22]:List (List UInt8))) 0 rfl (fun q hq h=>by have:=Awz q hq;have:=Ccj;simp [Vc.blk]at h;omega) (Cci.st (Bdy.trans Be4))
 have o:=o.erase 0
 have Bcq:=((Bdw.trans Bdx).trans Bdy).trans Be4
 refine Aa (h _ w38 (o.mp hm hrm) _ _ _ _ _ _ (Mem.Awx 1 rfl) (o.Awl 1 2 rfl rfl (by decide)) (o.at 1 rfl) (o.rowAt 2 rfl) (Aw0.st Bcq) Av3 (Av6.st Bcq) Awp _ f11) ?_
 rintro _ w39 ⟨r10,h,-,⟨a13,c13,Cii,Cck,Ccl,Ccm,Ccn,Cco⟩,Be5⟩
 obtain⟨Bx7,Ccp,o⟩:=o.y2 1 2 rfl rfl (by decide) Be5 Cck Ccl Ccn Ccm
 exact⟨(⟨wx.l,r10.b,r10.deep⟩:Ab),h,trivial,⟨_,_,_,o.at 1 rfl,o.rowAt 2 rfl,(Ccp.st (o.eRS 2 rfl)),o.Awk 2 rfl 1 rfl (by decide),Cco⟩,o.done⟩
 refine Ad (fun h=> ?_) (fun h=> ?_) h
 intro b10 w40 Bl3 Be6
 have Ccq:El Cy (ms [.box b [.q Op,.s Na,.q N,.q Ki,.q At],.box wxb [.slice Av9 wx.l.length Awa,wx.b.addr,.slice wxA wx.b.buf.length wxC,.q wx.deep],.row 5 1 wxA wx.b.buf.length wxC Awc] m) w1 ([[115,101,108,101,99,116,32,123]]:List (List UInt8)) ([.s [115,101,108,101,99,116,32,123]]:List Value):=(El.cons (cs:=[.s [115,101,108,101,99,116,32,123]]) rfl (El.nil _ _ _))
 have Ccr:w.heap.size<=b10:=Bl3▸o.le
 have Bia:=o.xL Bl3 Be6 1 1
 have o:=o.lit Bl3 Be6 1 1 (by decide) rfl
 have Bcr:=(o.rowAt 0 rfl).cap
 have Bdz:=o.xX 0
 have f12:=o.freeze (c:=Cy) (l:=([[115,101,108,101,99,116,32,123]]:List (List UInt8))) 0 rfl (fun q hq h=>by have:=Awz q hq;have:=Ccr;simp [Vc.blk]at h;omega) (Ccq.st (Bia.trans Bdz))
 have o:=o.erase 0
 have Bd0:=((st.trans st1).trans Bia).trans Bdz
 refine Aa (h _ w40 (o.mp hm hrm) _ _ _ _ _ _ (Mem.Awx 1 rfl) (o.Awl 1 2 rfl rfl (by decide)) (o.at 1 rfl) (o.rowAt 2 rfl) (Aw0.st Bd0) Av3 (Av6.st Bd0) Awp _ _ Bcr f12) ?_
 rintro _ w41 ⟨r11,h,-,⟨a14,c14,Cij,Ccs,Cct,Ccu,Ccv,Ccw⟩,Bd1⟩
 obtain⟨Bd2,Ccx,o⟩:=o.y2 1 2 rfl rfl (by decide) Bd1 Ccs Cct Ccv Ccu
 have Bj4:=Bd0.trans Bd2
 have Bj5:=(Bia.trans Bdz).trans Bd2
 refine Aa (h _ w41 (o.mp hm hrm) _ _ _ _ _ _ (Mem.Awx 1 rfl) (o.Awl 1 2 rfl rfl (by decide)) (o.at 1 rfl) (o.rowAt 2 rfl) Ccx Av3 (Av6.st Bj4) Ccw _ _ le (f.st Bj5)) ?_
 rintro _ w42 ⟨r12,h,-,⟨a15,c15,Ccy,Ccz,Cc0,Cc1,Cc2,Cc3⟩,Bba⟩
 obtain⟨Be7,Cc4,o⟩:=o.y2 1 2 rfl rfl (by decide) Bba Ccz Cc0 Cc2 Cc1
 intro b11 w43 Bl4 Bx8
 have Cc5:El Cy (ms [.box b [.q Op,.s Na,.q N,.q Ki,.q At],.box wxb [.slice Av9 wx.l.length Awa,r12.b.addr,.slice a15 r12.b.buf.length c15,.q r12.deep],.row 5 1 a15 r12.b.buf.length c15 Ccy] m) w42 ([[125]]:List (List UInt8)) ([.s [125]]:List Value):=(El.cons (cs:=[.s [125]]) rfl (El.nil _ _ _))
 have Cc6:w.heap.size<=b11:=Bl4▸o.le
 have Bd3:=o.xL Bl4 Bx8 1 1
 have o:=o.lit Bl4 Bx8 1 1 (by decide) rfl
 have Bd4:=(o.rowAt 0 rfl).cap
 have Bd5:=o.xX 0
 have f13:=o.freeze (c:=Cy) (l:=([[125]]:List (List UInt8))) 0 rfl (fun q hq h=>by have:=Awz q hq;have:=Cc6;simp [Vc.blk]at h;omega) (Cc5.st (Bd3.trans Bd5))
 have o:=o.erase 0
 have Bj6:=((Bj4.trans Be7).trans Bd3).trans Bd5
 refine Aa (h _ w43 (o.mp hm hrm) _ _ _ _ _ _ (Mem.Awx 1 rfl) (o.Awl 1 2 rfl rfl (by decide)) (o.at 1 rfl) (o.rowAt 2 rfl) (Cc4.st (Bd3.trans Bd5)) Av3 (Av6.st Bj6) Cc3 _ _ Bd4 f13) ?_
 rintro _ w44 ⟨r13,h,-,⟨a16,c16,Cik,Cc7,Cc8,Cc9,Cda,Cdb⟩,Bd6⟩
 obtain⟨Bx9,Cdc,o⟩:=o.y2 1 2 rfl rfl (by decide) Bd6 Cc7 Cc8 Cda Cc9
 exact⟨(⟨wx.l,r13.b,r13.deep⟩:Ab),h,trivial,⟨_,_,_,o.at 1 rfl,o.rowAt 2 rfl,(Cdc.st (o.eRS 2 rfl)),o.Awk 2 rfl 1 rfl (by decide),Cdb⟩,o.done⟩
 refine Ad (fun h=> ?_) (fun h=> ?_) h
 intro w45 Bl5
 obtain⟨Bj7,o⟩:=o.dD Bl5
 have ox7:=o
 refine⟨fun u=>Am [] w45 u,Am.refl _ _,?_⟩
 refine⟨_,fun u hu=>((ox7.at 0 rfl).Av8 hu (by simp)).cell rfl,?_⟩
 have Bj8:=(st.trans st1).trans Bj7
 refine Aa (h _ w45 (o.mp hm hrm) _ _ _ _ _ (o.at 1 rfl) Av3 (Av6.st Bj8) _ _ le (f.st Bj7)) ?_
 rintro _ w46 ⟨x23,h,rfl,Bau⟩
 obtain⟨Bib,o⟩:=o.dE Bau
 refine⟨_,rfl,?_⟩
 refine⟨(Bau.mono (by simp)),?_⟩
 intro b12 w47 Bl6 Bj9
 have Cdd:El Cy (ms [.box b [.q Op,.s Na,.q N,.q Ki,.q At],.box wxb [.slice Av9 wx.l.length Awa,wx.b.addr,.slice wxA wx.b.buf.length wxC,.q wx.deep],.row 5 1 wxA wx.b.buf.length wxC Awc] m) w46 ([[115,116,97,114,116,32],Na,[40],x23,[41,59]]:List (List UInt8)) ([.s [115,116,97,114,116,32],.s Na,.s [40],.s x23,.s [41,59]]:List Value):=(El.cons (cs:=[.s [115,116,97,114,116,32]]) rfl (El.cons (cs:=[.s Na]) rfl (El.cons (cs:=[.s [40]]) rfl (El.cons (cs:=[.s x23]) rfl (El.cons (cs:=[.s [41,59]]) rfl (El.nil _ _ _))))))
 have Cde:w.heap.size<=b12:=Bl6▸o.le
 have Bic:=o.xL Bl6 Bj9 1 5
 have o:=o.lit Bl6 Bj9 1 5 (by decide) rfl
 have Bd7:=(o.rowAt 0 rfl).cap
 have Bid:=o.xX 0
 have f14:=o.freeze (c:=Cy) (l:=([[115,116,97,114,116,32],Na,[40],x23,[41,59]]:List (List UInt8))) 0 rfl (fun q hq h=>by have:=Awz q hq;have:=Cde;simp [Vc.blk]at h;omega) (Cdd.st (Bic.trans Bid))
 have o:=o.erase 0
 have Bka:=((Bj8.trans Bib).trans Bic).trans Bid
 refine Aa (h _ w47 (o.mp hm hrm) _ _ _ _ _ _ (Mem.Awx 1 rfl) (o.Awl 1 2 rfl rfl (by decide)) (o.at 1 rfl) (o.rowAt 2 rfl) (Aw0.st Bka) Av3 (Av6.st Bka) Awp _ _ Bd7 f14) ?_
 rintro _ w48 ⟨r14,h,-,⟨a17,c17,Cil,Cdf,Cdg,Cdh,Cdi,Cdj⟩,Bd8⟩
 obtain⟨Bya,Cdk,o⟩:=o.y2 1 2 rfl rfl (by decide) Bd8 Cdf Cdg Cdi Cdh
 exact⟨(⟨wx.l,r14.b,r14.deep⟩:Ab),h,trivial,⟨_,_,_,o.at 1 rfl,o.rowAt 2 rfl,(Cdk.st (o.eRS 2 rfl)),o.Awk 2 rfl 1 rfl (by decide),Cdj⟩,o.done⟩
 refine Ad (fun h=> ?_) (fun h=> ?_) h
 obtain⟨Byb,h⟩:=h
 obtain⟨p12,x24,Bl7,Cdl,Cdm,Cdn,Cdo⟩:=SlR.elem f Byb
 obtain rfl:=Cdo
 have h:=h x24 Cdm
 refine⟨Byb,An Cdl ?_⟩
 refine⟨_,(Ae.head Cdn.2),?_⟩
 refine Aa (h _ w1 (o.mp hm hrm) _ _ _ _ _ (o.at 1 rfl) Av3 (Av6.st (st.trans st1))) ?_
 rintro _ w49 ⟨x25,h,rfl,Bbb⟩
 obtain⟨Bl8,o⟩:=o.dE Bbb
 refine⟨_,rfl,?_⟩
 intro b13 w50 Bl9 Byc
 have Cdp:El Cy (ms [.box b [.q Op,.s Na,.q N,.q Ki,.q At],.box wxb [.slice Av9 wx.l.length Awa,wx.b.addr,.slice wxA wx.b.buf.length wxC,.q wx.deep],.row 5 1 wxA wx.b.buf.length wxC Awc] m) w49 ([[115,108,101,101,112,32],x25,[59]]:List (List UInt8)) ([.s [115,108,101,101,112,32],.s x25,.s [59]]:List Value):=(El.cons (cs:=[.s [115,108,101,101,112,32]]) rfl (El.cons (cs:=[.s x25]) rfl (El.cons (cs:=[.s [59]]) rfl (El.nil _ _ _))))
 have Cdq:w.heap.size<=b13:=Bl9▸o.le
 have Bma:=o.xL Bl9 Byc 1 3
 have o:=o.lit Bl9 Byc 1 3 (by decide) rfl
 have Bcs:=(o.rowAt 0 rfl).cap
 have Bmb:=o.xX 0
 have f15:=o.freeze (c:=Cy) (l:=([[115,108,101,101,112,32],x25,[59]]:List (List UInt8))) 0 rfl (fun q hq h=>by have:=Awz q hq;have:=Cdq;simp [Vc.blk]at h;omega) (Cdp.st (Bma.trans Bmb))
 have o:=o.erase 0
 have Bie:=(((st.trans st1).trans Bl8).trans Bma).trans Bmb
 refine Aa (h _ w50 (o.mp hm hrm) _ _ _ _ _ _ (Mem.Awx 1 rfl) (o.Awl 1 2 rfl rfl (by decide)) (o.at 1 rfl) (o.rowAt 2 rfl) (Aw0.st Bie) Av3 (Av6.st Bie) Awp _ _ Bcs f15) ?_
 rintro _ w51 ⟨r15,h,-,⟨a18,c18,Cim,Cdr,Cds,Cdt,Cdu,Cdv⟩,Bd9⟩
 obtain⟨Byd,Cdw,o⟩:=o.y2 1 2 rfl rfl (by decide) Bd9 Cdr Cds Cdu Cdt
 exact⟨(⟨wx.l,r15.b,r15.deep⟩:Ab),h,trivial,⟨_,_,_,o.at 1 rfl,o.rowAt 2 rfl,(Cdw.st (o.eRS 2 rfl)),o.Awk 2 rfl 1 rfl (by decide),Cdv⟩,o.done⟩
 refine Ad (fun h=> ?_) (fun h=> ?_) h
 obtain⟨Bye,h⟩:=h
 obtain⟨p13,x26,Bmc,Cdx,Cdy,Cdz,Cd0⟩:=SlR.elem f Bye
 obtain rfl:=Cd0
 have h:=h x26 Cdy
 refine⟨Bye,An Cdx ?_⟩
 refine⟨_,(Ae.head Cdz.2),?_⟩
 refine Aa (h _ w1 (o.mp hm hrm) _ _ _ _ _ (o.at 1 rfl) Av3 (Av6.st (st.trans st1))) ?_
 rintro _ w52 ⟨x27,h,rfl,Bkb⟩
 obtain⟨Bkc,o⟩:=o.dE Bkb
 refine⟨_,rfl,?_⟩
 intro b14 w53 Bmd Be8
 have Cd1:El Cy (ms [.box b [.q Op,.s Na,.q N,.q Ki,.q At],.box wxb [.slice Av9 wx.l.length Awa,wx.b.addr,.slice wxA wx.b.buf.length wxC,.q wx.deep],.row 5 1 wxA wx.b.buf.length wxC Awc] m) w52 ([[112,114,105,110,116,32],x27,[59]]:List (List UInt8)) ([.s [112,114,105,110,116,32],.s x27,.s [59]]:List Value):=(El.cons (cs:=[.s [112,114,105,110,116,32]]) rfl (El.cons (cs:=[.s x27]) rfl (El.cons (cs:=[.s [59]]) rfl (El.nil _ _ _))))
 have Cd2:w.heap.size<=b14:=Bmd▸o.le
 have Bif:=o.xL Bmd Be8 1 3
 have o:=o.lit Bmd Be8 1 3 (by decide) rfl
 have Big:=(o.rowAt 0 rfl).cap
 have Bkd:=o.xX 0
 have f16:=o.freeze (c:=Cy) (l:=([[112,114,105,110,116,32],x27,[59]]:List (List UInt8))) 0 rfl (fun q hq h=>by have:=Awz q hq;have:=Cd2;simp [Vc.blk]at h;omega) (Cd1.st (Bif.trans Bkd))
 have o:=o.erase 0
 have Bke:=(((st.trans st1).trans Bkc).trans Bif).trans Bkd
 refine Aa (h _ w53 (o.mp hm hrm) _ _ _ _ _ _ (Mem.Awx 1 rfl) (o.Awl 1 2 rfl rfl (by decide)) (o.at 1 rfl) (o.rowAt 2 rfl) (Aw0.st Bke) Av3 (Av6.st Bke) Awp _ _ Big f16) ?_
 rintro _ w54 ⟨r16,h,-,⟨a19,c19,Cin,Cd3,Cd4,Cd5,Cd6,Cd7⟩,Bme⟩
 obtain⟨Cd8,Cd9,o⟩:=o.y2 1 2 rfl rfl (by decide) Bme Cd3 Cd4 Cd6 Cd5
 exact⟨(⟨wx.l,r16.b,r16.deep⟩:Ab),h,trivial,⟨_,_,_,o.at 1 rfl,o.rowAt 2 rfl,(Cd9.st (o.eRS 2 rfl)),o.Awk 2 rfl 1 rfl (by decide),Cd7⟩,o.done⟩
 refine Ad (fun h=> ?_) (fun h=> ?_) h
 obtain⟨Byf,h⟩:=h
 obtain⟨p14,x28,Bmf,Cea,Ceb,Cec,Ced⟩:=SlR.elem f Byf
 obtain rfl:=Ced
 have h:=h x28 Ceb
 refine⟨Byf,An Cea ?_⟩
 refine⟨_,(Ae.head Cec.2),?_⟩
 refine Aa (h _ w1 (o.mp hm hrm) _ _ _ _ _ (o.at 1 rfl) Av3 (Av6.st (st.trans st1))) ?_
 rintro _ w55 ⟨x29,h,rfl,Bih⟩
 obtain⟨Byg,o⟩:=o.dE Bih
 refine⟨_,rfl,?_⟩
 intro b15 w56 Bmg Byh
 have Cee:El Cy (ms [.box b [.q Op,.s Na,.q N,.q Ki,.q At],.box wxb [.slice Av9 wx.l.length Awa,wx.b.addr,.slice wxA wx.b.buf.length wxC,.q wx.deep],.row 5 1 wxA wx.b.buf.length wxC Awc] m) w55 ([[97,115,115,101,114,116,32],x29,[59]]:List (List UInt8)) ([.s [97,115,115,101,114,116,32],.s x29,.s [59]]:List Value):=(El.cons (cs:=[.s [97,115,115,101,114,116,32]]) rfl (El.cons (cs:=[.s x29]) rfl (El.cons (cs:=[.s [59]]) rfl (El.nil _ _ _))))
 have Cef:w.heap.size<=b15:=Bmg▸o.le
 have Bkf:=o.xL Bmg Byh 1 3
 have o:=o.lit Bmg Byh 1 3 (by decide) rfl
 have Bii:=(o.rowAt 0 rfl).cap
 have Bij:=o.xX 0
 have f17:=o.freeze (c:=Cy) (l:=([[97,115,115,101,114,116,32],x29,[59]]:List (List UInt8))) 0 rfl (fun q hq h=>by have:=Awz q hq;have:=Cef;simp [Vc.blk]at h;omega) (Cee.st (Bkf.trans Bij))
 have o:=o.erase 0
 have Bkg:=(((st.trans st1).trans Byg).trans Bkf).trans Bij
 refine Aa (h _ w56 (o.mp hm hrm) _ _ _ _ _ _ (Mem.Awx 1 rfl) (o.Awl 1 2 rfl rfl (by decide)) (o.at 1 rfl) (o.rowAt 2 rfl) (Aw0.st Bkg) Av3 (Av6.st Bkg) Awp _ _ Bii f17) ?_
 rintro _ w57 ⟨r17,h,-,⟨a20,c20,Cio,Ceg,Ceh,Cei,Cej,Cek⟩,Bkh⟩
 obtain⟨Bmh,Cel,o⟩:=o.y2 1 2 rfl rfl (by decide) Bkh Ceg Ceh Cej Cei
 exact⟨(⟨wx.l,r17.b,r17.deep⟩:Ab),h,trivial,⟨_,_,_,o.at 1 rfl,o.rowAt 2 rfl,(Cel.st (o.eRS 2 rfl)),o.Awk 2 rfl 1 rfl (by decide),Cek⟩,o.done⟩
 refine Ad (fun h=> ?_) (fun h=> ?_) h
 intro b16 w58 Bmi Be9
 have Cem:El Cy (ms [.box b [.q Op,.s Na,.q N,.q Ki,.q At],.box wxb [.slice Av9 wx.l.length Awa,wx.b.addr,.slice wxA wx.b.buf.length wxC,.q wx.deep],.row 5 1 wxA wx.b.buf.length wxC Awc] m) w1 ([[115,107,105,112,59]]:List (List UInt8)) ([.s [115,107,105,112,59]]:List Value):=(El.cons (cs:=[.s [115,107,105,112,59]]) rfl (El.nil _ _ _))
 have Cen:w.heap.size<=b16:=Bmi▸o.le
 have Bki:=o.xL Bmi Be9 1 1
 have o:=o.lit Bmi Be9 1 1 (by decide) rfl
 have Bik:=(o.rowAt 0 rfl).cap
 have Bmj:=o.xX 0
 have f18:=o.freeze (c:=Cy) (l:=([[115,107,105,112,59]]:List (List UInt8))) 0 rfl (fun q hq h=>by have:=Awz q hq;have:=Cen;simp [Vc.blk]at h;omega) (Cem.st (Bki.trans Bmj))
 have o:=o.erase 0
 have Bil:=((st.trans st1).trans Bki).trans Bmj
 refine Aa (h _ w58 (o.mp hm hrm) _ _ _ _ _ _ (Mem.Awx 1 rfl) (o.Awl 1 2 rfl rfl (by decide)) (o.at 1 rfl) (o.rowAt 2 rfl) (Aw0.st Bil) Av3 (Av6.st Bil) Awp _ _ Bik f18) ?_
 rintro _ w59 ⟨r18,h,-,⟨a21,c21,Cip,Ceo,Cep,Ceq,Cer,Ces⟩,Bmk⟩
 obtain⟨Cet,Ceu,o⟩:=o.y2 1 2 rfl rfl (by decide) Bmk Ceo Cep Cer Ceq
 exact⟨(⟨wx.l,r18.b,r18.deep⟩:Ab),h,trivial,⟨_,_,_,o.at 1 rfl,o.rowAt 2 rfl,(Ceu.st (o.eRS 2 rfl)),o.Awk 2 rfl 1 rfl (by decide),Ces⟩,o.done⟩
 refine Ad (fun h=> ?_) (fun h=> ?_) h
 intro b17 w60 Bml Bkj
 have Cev:El Cy (ms [.box b [.q Op,.s Na,.q N,.q Ki,.q At],.box wxb [.slice Av9 wx.l.length Awa,wx.b.addr,.slice wxA wx.b.buf.length wxC,.q wx.deep],.row 5 1 wxA wx.b.buf.length wxC Awc] m) w1 ([[115,116,111,112,59]]:List (List UInt8)) ([.s [115,116,111,112,59]]:List Value):=(El.cons (cs:=[.s [115,116,111,112,59]]) rfl (El.nil _ _ _))
 have Cew:w.heap.size<=b17:=Bml▸o.le
 have Bkk:=o.xL Bml Bkj 1 1
 have o:=o.lit Bml Bkj 1 1 (by decide) rfl
 have Bim:=(o.rowAt 0 rfl).cap
 have Bin:=o.xX 0
 have f19:=o.freeze (c:=Cy) (l:=([[115,116,111,112,59]]:List (List UInt8))) 0 rfl (fun q hq h=>by have:=Awz q hq;have:=Cew;simp [Vc.blk]at h;omega) (Cev.st (Bkk.trans Bin))
 have o:=o.erase 0
 have Bkl:=((st.trans st1).trans Bkk).trans Bin
 refine Aa (h _ w60 (o.mp hm hrm) _ _ _ _ _ _ (Mem.Awx 1 rfl) (o.Awl 1 2 rfl rfl (by decide)) (o.at 1 rfl) (o.rowAt 2 rfl) (Aw0.st Bkl) Av3 (Av6.st Bkl) Awp _ _ Bim f19) ?_
 rintro _ w61 ⟨r19,h,-,⟨a22,c22,Ciq,Cex,Cey,Cez,Ce0,Ce1⟩,Bio⟩
 obtain⟨Bmm,Ce2,o⟩:=o.y2 1 2 rfl rfl (by decide) Bio Cex Cey Ce0 Cez
 exact⟨(⟨wx.l,r19.b,r19.deep⟩:Ab),h,trivial,⟨_,_,_,o.at 1 rfl,o.rowAt 2 rfl,(Ce2.st (o.eRS 2 rfl)),o.Awk 2 rfl 1 rfl (by decide),Ce1⟩,o.done⟩
 exact⟨wx,h,trivial,⟨_,_,_,o.at 1 rfl,o.rowAt 2 rfl,(Aw0.st (st.trans (st1.trans (o.eRS 2 rfl)))),o.Awk 2 rfl 1 rfl (by decide),Awp⟩,o.done⟩
def Ll (wx:Ab) (i:Int) (K:(List UInt8)->Prop):Prop:=
 Bp wx i (fun k=>
 cond ((k.length:Int)==1)
 (((0:Int)<=0/\0<(k.length:Int))/\
 ∀x,k[0]? =some x->
 ((0:Int)<=i/\i<(wx.l.length:Int))/\
 ∀x1,wx.l[i.toNat]? =some x1->
 ((x1.name.length+[91].length:Nat):Int)<=IntKind.i64.max/\
 Ax wx x (fun x2=>
 (((x1.name++[91]).length+x2.length:Nat):Int)<=IntKind.i64.max/\
 ((((x1.name++[91])++x2).length+[93].length:Nat):Int)<=IntKind.i64.max/\
 K (((x1.name++[91])++x2)++[93])))
 (((0:Int)<=i/\i<(wx.l.length:Int))/\
 ∀x3,wx.l[i.toNat]? =some x3->
 K x3.name))
theorem P9 (wx:Ab) (i:Int) (K:(List UInt8)->Prop) (h:Ll wx i K):Da wx i K:=by
 intro m w hm wxb wxA wxC Av9 Awa Awq Av3 Av6
 have o:=Mem.start hm.lt
 refine Sc wxb i _ _ ?_
 refine Aa (h _ w (o.mn hm) _ _ _ _ _ (Awq.Av8 o.done (by simp)) Av3 Av6) ?_
 rintro _ w1 ⟨k,h,⟨a,c,rfl,le,f⟩,ke⟩
 obtain⟨st,o⟩:=o.dE ke
 refine⟨_,_,_,rfl,?_⟩
 refine Ad (fun h=> ?_) (fun h=> ?_) h
 intro w2 hw2
 obtain⟨st1,o⟩:=o.dD hw2
 have ox:=o
 refine⟨fun u=>Am [] w2 u,Am.refl _ _,?_⟩
 obtain⟨hi,h⟩:=h
 obtain⟨p,x,cs,hp,he,hc,hr⟩:=(f.st st1).elem hi
 obtain rfl:=hr
 have h:=h x he
 refine⟨hi,An hp ?_⟩
 refine⟨_,_,_,fun u hu=>((Awq.Av8 ox.done (by simp)).Av8 hu (by simp)).cell rfl,?_⟩
 obtain⟨hi1,h⟩:=h
 obtain⟨p1,x1,cs1,hp1,he1,hc1,hr1⟩:=(Av6.st (st.trans st1)).elem hi1
 obtain rfl:=Bv hr1
 have h:=h x1 he1
 refine⟨hi1,An hp1 ?_⟩
 refine⟨_,fun u hu=>(Ge.held hc1 hu (by simp)) 1 (Nat.le_of_ble_eq_true rfl),?_⟩
 refine⟨h.1,?_⟩
 have h:=And.right h
 refine⟨_,fun u hu=>Ae.head (Ge.held hc hu (by simp)),?_⟩
 refine Aa (h _ w2 (o.mn hm) _ _ _ _ _ (Awq.Av8 o.done (by simp)) Av3 (Av6.st (st.trans st1))) ?_
 rintro _ w3 ⟨x2,h,rfl,ke1⟩
 obtain⟨st2,o⟩:=o.dE ke1
 refine⟨_,rfl,?_⟩
 refine⟨(ke1.mono (by simp)),?_⟩
 refine⟨h.1,?_⟩
 have h:=And.right h
 refine⟨h.1,?_⟩
 have h:=And.right h
 exact⟨(((x1.name++[91])++x2)++[93]),h,rfl,o.done⟩
 refine⟨_,_,_,(Awq.Av8 o.done (by simp)).cell rfl,?_⟩
 obtain⟨hi2,h⟩:=h
 obtain⟨p2,x3,cs2,hp2,he2,hc2,hr2⟩:=(Av6.st st).elem hi2
 obtain rfl:=Bv hr2
 have h:=h x3 he2
 refine⟨hi2,An hp2 ?_⟩
 refine⟨_,hc2.2 1 (Nat.le_of_ble_eq_true rfl),?_⟩
 exact⟨x3.name,h,rfl,o.done⟩
def Gm (wx:Ab) (i:Int) (K:Ab->Prop):Prop:=
 ∃(J:(List Int)->Int->(List UInt8)->Int->Int->Int->Prop),
 (((0:Int)<=i/\i<(wx.l.length:Int))/\
 ∀x1,wx.l[i.toNat]? =some x1->
 Bp wx i (fun k1=>
 J k1 x1.op x1.name x1.n x1.kids x1.at_))/\
 ∀(k:List Int) (Op:Int) (Na:List UInt8) (N:Int) (Ki:Int) (At:Int),J k Op Na N Ki At->
 ∃(J1:(List Int)->(List UInt8)->Prop),
 (cond (N==1)
 (((0:Int)<=0/\0<(k.length:Int))/\
 ∀x2,k[0]? =some x2->
 Ax wx x2 (fun x3=>
 (([119,104,101,110,32].length+x3.length:Nat):Int)<=IntKind.i64.max/\
 ((([119,104,101,110,32]++x3).length+[58,32].length:Nat):Int)<=IntKind.i64.max/\
 (([99,97,115,101,32].length+(([119,104,101,110,32]++x3)++[58,32]).length:Nat):Int)<=IntKind.i64.max/\
 ((0:Int)<=1/\1<=(k.length:Int))/\
 J1 (k.drop 1) ([99,97,115,101,32]++(([119,104,101,110,32]++x3)++[58,32]))))
 (J1 k [99,97,115,101,32]))/\
 ∀(k1:List Int) (fr:List UInt8),J1 k1 fr->
 cond (Op==34)
 (((0:Int)<=1/\1<(k1.length:Int))/\
 ∀x4,k1[1]? =some x4->
 ((0:Int)<=0/\0<(k1.length:Int))/\
 ∀x5,k1[0]? =some x5->
 Da wx x5 (fun x6=>
 A9 wx x4 ([fr,x6,[32,63,32],Na]:List (List UInt8)) (fun r=>
 K (⟨wx.l,r.b,r.deep⟩:Ab))))
 (cond (Op==35)
 (((0:Int)<=2/\2<(k1.length:Int))/\
 ∀x7,k1[2]? =some x7->
 ((0:Int)<=0/\0<(k1.length:Int))/\
 ∀x8,k1[0]? =some x8->
 ((0:Int)<=1/\1<(k1.length:Int))/\
 ∀x9,k1[1]? =some x9->
 Da wx x8 (fun x10=>
 Ax wx x9 (fun x11=>
 A9 wx x7 ([fr,x10,[32,33,32],x11]:List (List UInt8)) (fun r1=>
 K (⟨wx.l,r1.b,r1.deep⟩:Ab)))))
 (cond (Op==36)
 (((0:Int)<=1/\1<(k1.length:Int))/\
 ∀x12,k1[1]? =some x12->
 ((0:Int)<=0/\0<(k1.length:Int))/\
 ∀x13,k1[0]? =some x13->
 Ax wx x13 (fun x14=>
 A9 wx x12 ([fr,[97,102,116,101,114,32],x14]:List (List UInt8)) (fun r2=>
 K (⟨wx.l,r2.b,r2.deep⟩:Ab))))
 (((0:Int)<=0/\0<(k1.length:Int))/\
 ∀x15,k1[0]? =some x15->
 A9 wx x15 ([[101,108,115,101]]:List (List UInt8)) (fun r3=>
 K (⟨wx.l,r3.b,r3.deep⟩:Ab)))))
set_option maxHeartbeats 4000000 in
theorem Jj (wx:Ab) (i:Int) (K:Ab->Prop) (h:Gm wx i K):Cv wx i K:=by
 intro m w hm wxb wxA wxC Awc Av9 Awa Awm Awe Awq Axy Aw0 Av3 Av6 Awp
 have Awz:=Mem.Bab hm.lt Awm Awe
 have o:=Mem.obj hm.lt Awm Awe Awq Axy
 have st:=Mem.Bdn (w:=w) (l:=[.slice Av9 wx.l.length Awa,wx.b.addr,.slice wxA wx.b.buf.length wxC,.q wx.deep]) (e:=5) (size:=1) (n:=wx.b.buf.length) (c:=wxC) (xs:=Awc) Awm Awe
 have hrm:∀b∈(wxb::(Vc.blk wxA).toList),b∈m:=fun b hb=>(List.mem_cons.1 hb).elim (fun e=>e▸Awm) (fun h=>(Awe b (Option.mem_toList.1 h)).1)
 refine O8 wxb i _ _ ?_
 obtain⟨J,h,h2⟩:=h
 refine⟨fun x kA kN kC w1=>∃(k:List Int) (Op:Int) (Na:List UInt8) (N:Int) (Ki:Int) (At:Int) (b:Nat),J k Op Na N Ki At/\x=some ⟨b,0,none⟩/\(k.length<=kC/\SlR (Cu .i64) (ms [.box b [.q Op,.s Na,.q N,.q Ki,.q At],.box wxb [.slice Av9 wx.l.length Awa,wx.b.addr,.slice wxA wx.b.buf.length wxC,.q wx.deep],.row 5 1 wxA wx.b.buf.length wxC Awc] m) w1 kA k)/\kN=k.length/\Mem w.heap.size (wxb::(Vc.blk wxA).toList) m [((wxb::(Vc.blk wxA).toList),w.heap.size,w)] [] w1 [.box b [.q Op,.s Na,.q N,.q Ki,.q At],.box wxb [.slice Av9 wx.l.length Awa,wx.b.addr,.slice wxA wx.b.buf.length wxC,.q wx.deep],.row 5 1 wxA wx.b.buf.length wxC Awc]/\Step (ms [.box wxb [.slice Av9 wx.l.length Awa,wx.b.addr,.slice wxA wx.b.buf.length wxC,.q wx.deep],.row 5 1 wxA wx.b.buf.length wxC Awc] m) w (ms [.box b [.q Op,.s Na,.q N,.q Ki,.q At],.box wxb [.slice Av9 wx.l.length Awa,wx.b.addr,.slice wxA wx.b.buf.length wxC,.q wx.deep],.row 5 1 wxA wx.b.buf.length wxC Awc] m) w1,?_,?_⟩
 intro w2 hw2
 obtain⟨st2,o⟩:=o.dD hw2
 have ox:=o
 refine⟨fun u=>Am [] w2 u,Am.refl _ _,?_⟩
 refine⟨_,_,_,fun u hu=>((ox.at 0 rfl).Av8 hu (by simp)).cell rfl,?_⟩
 obtain⟨hi,h⟩:=h
 obtain⟨p,x1,cs,hp,he,hc,hr⟩:=(Av6.st (st.trans st2)).elem hi
 obtain rfl:=Bv hr
 have h:=h x1 he
 refine⟨hi,An hp ?_⟩
 refine⟨_,_,_,_,_,fun u hu=>(Ge.held hc hu (by simp)),?_⟩
 refine⟨?_,?_⟩
 refine Aa (h _ w2 (o.mp hm hrm) _ _ _ _ _ (o.at 0 rfl) Av3 (Av6.st (st.trans st2))) ?_
 rintro _ w3 ⟨k1,h,⟨a,c,rfl,le1,f1⟩,ke⟩
 obtain⟨st3,o⟩:=o.dE ke
 refine⟨_,_,_,rfl,?_⟩
 refine⟨(ke.mono (by simp)),?_⟩
 intro b1 w4 hb1 hw4
 obtain⟨st4,o⟩:=o.dB hb1 hw4
 refine⟨((ke.mono (by simp)).trans ((Be hw4).mono (by simp))),?_⟩
 refine⟨o.wr 0 rfl rfl,fun w5 hw5=> ?_⟩
 obtain⟨st5,o⟩:=o.dSs 0 hw5 rfl
 have sT:=((st2.trans st3).trans st4).trans st5
 exact⟨k1,x1.op,x1.name,x1.n,x1.kids,x1.at_,b1,h,rfl,⟨le1,(f1.st (st4.trans st5))⟩,rfl,o,sT⟩
 intro b1 w3 hb1 hw3
 obtain⟨st3,o⟩:=o.dB hb1 hw3
 refine⟨((Be hw3).mono (by simp)),?_⟩
 have sT1:=(st.trans st2).trans st3
 refine Aa (h _ w3 (o.mp hm hrm) _ _ _ _ _ (o.at 1 rfl) Av3 (Av6.st sT1)) ?_
 rintro _ w4 ⟨k1,h,⟨a,c,rfl,le1,f1⟩,ke⟩
 obtain⟨st4,o⟩:=o.dE ke
 refine⟨_,_,_,rfl,?_⟩
 refine⟨(((Be hw3).mono (by simp)).trans (ke.mono (by simp))),?_⟩
 refine⟨o.wr 0 rfl rfl,fun w5 hw5=> ?_⟩
 obtain⟨st5,o⟩:=o.dSs 0 hw5 rfl
 have sT2:=((st2.trans st3).trans st4).trans st5
 exact⟨k1,x1.op,x1.name,x1.n,x1.kids,x1.at_,b1,h,rfl,⟨le1,(f1.st st5)⟩,rfl,o,sT2⟩
 rintro _ x kA kN kC w1 ⟨k,Op,Na,N,Ki,At,b,hJ,rfl,⟨le,f⟩,rfl,o,st1⟩
 have h:=h2 k Op Na N Ki At hJ
 obtain⟨J1,h,h2⟩:=h
 refine⟨fun kA1 kN1 kC1 fr w3=>∃(k1:List Int),J1 k1 fr/\(k1.length<=kC1/\SlR (Cu .i64) (ms [.box b [.q Op,.s Na,.q N,.q Ki,.q At],.box wxb [.slice Av9 wx.l.length Awa,wx.b.addr,.slice wxA wx.b.buf.length wxC,.q wx.deep],.row 5 1 wxA wx.b.buf.length wxC Awc] m) w3 kA1 k1)/\kN1=k1.length/\Mem w.heap.size (wxb::(Vc.blk wxA).toList) m [((wxb::(Vc.blk wxA).toList),w.heap.size,w)] [] w3 [.box b [.q Op,.s Na,.q N,.q Ki,.q At],.box wxb [.slice Av9 wx.l.length Awa,wx.b.addr,.slice wxA wx.b.buf.length wxC,.q wx.deep],.row 5 1 wxA wx.b.buf.length wxC Awc]/\Step (ms [.box b [.q Op,.s Na,.q N,.q Ki,.q At],.box wxb [.slice Av9 wx.l.length Awa,wx.b.addr,.slice wxA wx.b.buf.length wxC,.q wx.deep],.row 5 1 wxA wx.b.buf.length wxC Awc] m) w1 (ms [.box b [.q Op,.s Na,.q N,.q Ki,.q At],.box wxb [.slice Av9 wx.l.length Awa,wx.b.addr,.slice wxA wx.b.buf.length wxC,.q wx.deep],.row 5 1 wxA wx.b.buf.length wxC Awc] m) w3,?_,?_⟩
 refine⟨_,(o.at 0 rfl).cell rfl,?_⟩
 refine Ad (fun h=> ?_) (fun h=> ?_) h
 obtain⟨hi1,h⟩:=h
 obtain⟨p1,x2,cs1,hp1,he1,hc1,hr1⟩:=SlR.elem f hi1
 try rw [ln]at hc1
 obtain rfl:=hr1
 have h:=h x2 he1
 refine⟨hi1,An hp1 ?_⟩
 refine⟨_,(Ae.head hc1.2),?_⟩
 refine Aa (h _ w1 (o.mp hm hrm) _ _ _ _ _ (o.at 1 rfl) Av3 (Av6.st (st.trans st1))) ?_
 rintro _ w4 ⟨x3,h,rfl,ke⟩
 obtain⟨st4,o⟩:=o.dE ke
 refine⟨_,rfl,?_⟩
 refine⟨h.1,?_⟩
 have h:=And.right h
 refine⟨h.1,?_⟩
 have h:=And.right h
 refine⟨h.1,?_⟩
 have h:=And.right h
 obtain⟨hc2,h⟩:=h
 have f2:=SlR.sub (lo:=1) (hi:=k.length) (cap:=kC) (f.st st4) (Nat.le_refl _) le
 rw [List.take_length]at f2
 have le2:(k.drop 1).length<=kC-1:=(by have:=le;have:=hc2;first|omega|(simp only [List.length_drop,List.length_take];omega)|simp)
 have ln:k.length-1=(k.drop 1).length:=(by have:=hc2;first|omega|(simp only [List.length_drop,List.length_take];omega)|simp)
 refine⟨hc2,?_⟩
 rw [ln]
 exact⟨(k.drop 1),h,⟨le2,f2⟩,rfl,o,st4⟩
 exact⟨k,h,⟨le,f⟩,rfl,o,Step.refl _ _⟩
 rintro _ kA1 kN1 kC1 fr w3 ⟨k1,hJ,⟨le1,f1⟩,rfl,o,st3⟩
 have h:=h2 k1 fr hJ
 refine⟨_,(o.at 0 rfl).cell rfl,?_⟩
 refine Ad (fun h=> ?_) (fun h=> ?_) h
 intro w5 hw5
 obtain⟨st5,o⟩:=o.dD hw5
 have ox1:=o
 refine⟨fun u=>Am [] w5 u,Am.refl _ _,?_⟩
 obtain⟨hi2,h⟩:=h
 obtain⟨p2,x4,cs2,hp2,he2,hc3,hr2⟩:=(f1.st st5).elem hi2
 try rw [ln]at hc3
 try rw [ln]at hc3
 obtain rfl:=hr2
 have h:=h x4 he2
 refine⟨hi2,An hp2 ?_⟩
 obtain⟨hi3,h⟩:=h
 obtain⟨p3,x5,cs3,hp3,he3,hc4,hr3⟩:=(f1.st st5).elem hi3
 try rw [ln]at hc4
 try rw [ln]at hc4
 obtain rfl:=hr3
 have h:=h x5 he3
 refine⟨hi3,An hp3 ?_⟩
 refine⟨_,fun u hu=>Ae.head (Ge.held hc3 hu (by simp)),?_⟩
 refine⟨_,fun u hu=>Ae.head (Ge.held hc4 hu (by simp)),?_⟩
 refine⟨_,fun u hu=>((ox1.at 0 rfl).Av8 hu (by simp)).cell rfl,?_⟩
 have sT3:=((st.trans st1).trans st3).trans st5
 refine Aa (h _ w5 (o.mp hm hrm) _ _ _ _ _ (o.at 1 rfl) Av3 (Av6.st sT3)) ?_
 rintro _ w6 ⟨x6,h,rfl,ke1⟩
 obtain⟨st6,o⟩:=o.dE ke1
 refine⟨_,rfl,?_⟩
 refine⟨(ke1.mono (by simp)),?_⟩
 intro b1 w7 hb1 hw7
 have el:El Cy (ms [.box b [.q Op,.s Na,.q N,.q Ki,.q At],.box wxb [.slice Av9 wx.l.length Awa,wx.b.addr,.slice wxA wx.b.buf.length wxC,.q wx.deep],.row 5 1 wxA wx.b.buf.length wxC Awc] m) w6 ([fr,x6,[32,63,32],Na]:List (List UInt8)) ([.s fr,.s x6,.s [32,63,32],.s Na]:List Value):=(El.cons (cs:=[.s fr]) rfl (El.cons (cs:=[.s x6]) rfl (El.cons (cs:=[.s [32,63,32]]) rfl (El.cons (cs:=[.s Na]) rfl (El.nil _ _ _)))))
 have fr1:w.heap.size<=b1:=hb1▸o.le
 have st7:=o.xL hb1 hw7 1 4
 have o:=o.lit hb1 hw7 1 4 (by decide) rfl
 refine⟨((ke1.mono (by simp)).trans ((Be hw7).mono (by simp))),?_⟩
 have le3:=(o.rowAt 0 rfl).cap
 have st8:=o.xX 0
 have f3:=o.freeze (c:=Cy) (l:=([fr,x6,[32,63,32],Na]:List (List UInt8))) 0 rfl (fun q hq h=>by have:=Awz q hq;have:=fr1;simp [Vc.blk]at h;omega) (el.st (st7.trans st8))
 have o:=o.erase 0
 have sT4:=((sT3.trans st6).trans st7).trans st8
 refine Aa (h _ w7 (o.mp hm hrm) _ _ _ _ _ _ (Mem.Awx 1 rfl) (o.Awl 1 2 rfl rfl (by decide)) (o.at 1 rfl) (o.rowAt 2 rfl) (Aw0.st sT4) Av3 (Av6.st sT4) Awp _ f3) ?_
 rintro _ w8 ⟨r,h,-,⟨a,c,xs,bx,hr4,el1,fr2,sp⟩,ke2⟩
 obtain⟨st9,el2,o⟩:=o.y2 1 2 rfl rfl (by decide) ke2 bx hr4 fr2 el1
 exact⟨(⟨wx.l,r.b,r.deep⟩:Ab),h,trivial,⟨_,_,_,o.at 1 rfl,o.rowAt 2 rfl,(el2.st (o.eRS 2 rfl)),o.Awk 2 rfl 1 rfl (by decide),sp⟩,o.done⟩
 refine Ad (fun h=> ?_) (fun h=> ?_) h
 intro w9 hw9
 obtain⟨Awf,o⟩:=o.dD hw9
 have ox2:=o
 refine⟨fun u=>Am [] w9 u,Am.refl _ _,?_⟩
 obtain⟨hi4,h⟩:=h
 obtain⟨p4,x7,cs4,hp4,he4,hc5,hr5⟩:=(f1.st Awf).elem hi4
 try rw [ln]at hc5
 try rw [ln]at hc5
 obtain rfl:=hr5
 have h:=h x7 he4
 refine⟨hi4,An hp4 ?_⟩
 obtain⟨hi5,h⟩:=h
 obtain⟨p5,x8,cs5,hp5,he5,hc6,hr6⟩:=(f1.st Awf).elem hi5
 try rw [ln]at hc6
 try rw [ln]at hc6
 obtain rfl:=hr6
 have h:=h x8 he5
 refine⟨hi5,An hp5 ?_⟩
 obtain⟨hi6,h⟩:=h
 obtain⟨p6,x9,cs6,hp6,he6,hc7,hr7⟩:=(f1.st Awf).elem hi6
 try rw [ln]at hc7
 try rw [ln]at hc7
 obtain rfl:=hr7
 have h:=h x9 he6
 refine⟨hi6,An hp6 ?_⟩
 refine⟨_,fun u hu=>Ae.head (Ge.held hc5 hu (by simp)),?_⟩
 refine⟨_,fun u hu=>Ae.head (Ge.held hc6 hu (by simp)),?_⟩
 refine⟨_,fun u hu=>Ae.head (Ge.held hc7 hu (by simp)),?_⟩
 have sT5:=((st.trans st1).trans st3).trans Awf
 refine Aa (h _ w9 (o.mp hm hrm) _ _ _ _ _ (o.at 1 rfl) Av3 (Av6.st sT5)) ?_
 rintro _ w10 ⟨x10,h,rfl,ke3⟩
 obtain⟨Awi,o⟩:=o.dE ke3
 refine⟨_,rfl,?_⟩
 refine⟨(ke3.mono (by simp)),?_⟩
 have sT6:=sT5.trans Awi
 refine Aa (h _ w10 (o.mp hm hrm) _ _ _ _ _ (o.at 1 rfl) Av3 (Av6.st sT6)) ?_
 rintro _ w11 ⟨x11,h,rfl,ke4⟩
 obtain⟨Awr,o⟩:=o.dE ke4
 refine⟨_,rfl,?_⟩
 refine⟨((ke3.mono (by simp)).trans (ke4.mono (by simp))),?_⟩
 intro b2 w12 hb2 Axz
 have el3:El Cy (ms [.box b [.q Op,.s Na,.q N,.q Ki,.q At],.box wxb [.slice Av9 wx.l.length Awa,wx.b.addr,.slice wxA wx.b.buf.length wxC,.q wx.deep],.row 5 1 wxA wx.b.buf.length wxC Awc] m) w11 ([fr,x10,[32,33,32],x11]:List (List UInt8)) ([.s fr,.s x10,.s [32,33,32],.s x11]:List Value):=(El.cons (cs:=[.s fr]) rfl (El.cons (cs:=[.s x10]) rfl (El.cons (cs:=[.s [32,33,32]]) rfl (El.cons (cs:=[.s x11]) rfl (El.nil _ _ _)))))
 have fr3:w.heap.size<=b2:=hb2▸o.le
 have Awj:=o.xL hb2 Axz 1 4
 have o:=o.lit hb2 Axz 1 4 (by decide) rfl
 refine⟨(((ke3.mono (by simp)).trans (ke4.mono (by simp))).trans ((Be Axz).mono (by simp))),?_⟩
 have le4:=(o.rowAt 0 rfl).cap
 have Aws:=o.xX 0
 have f4:=o.freeze (c:=Cy) (l:=([fr,x10,[32,33,32],x11]:List (List UInt8))) 0 rfl (fun q hq h=>by have:=Awz q hq;have:=fr3;simp [Vc.blk]at h;omega) (el3.st (Awj.trans Aws))
 have o:=o.erase 0
 have sT7:=((sT6.trans Awr).trans Awj).trans Aws
 refine Aa (h _ w12 (o.mp hm hrm) _ _ _ _ _ _ (Mem.Awx 1 rfl) (o.Awl 1 2 rfl rfl (by decide)) (o.at 1 rfl) (o.rowAt 2 rfl) (Aw0.st sT7) Av3 (Av6.st sT7) Awp _ f4) ?_
 rintro _ w13 ⟨r1,h,-,⟨a1,c1,xs1,bx1,hr8,el4,fr4,sp1⟩,ke5⟩
 obtain⟨Awt,el5,o⟩:=o.y2 1 2 rfl rfl (by decide) ke5 bx1 hr8 fr4 el4
 exact⟨(⟨wx.l,r1.b,r1.deep⟩:Ab),h,trivial,⟨_,_,_,o.at 1 rfl,o.rowAt 2 rfl,(el5.st (o.eRS 2 rfl)),o.Awk 2 rfl 1 rfl (by decide),sp1⟩,o.done⟩
 refine Ad (fun h=> ?_) (fun h=> ?_) h
 intro w14 Azq
 obtain⟨Awu,o⟩:=o.dD Azq
 have ox3:=o
 refine⟨fun u=>Am [] w14 u,Am.refl _ _,?_⟩
 obtain⟨hi7,h⟩:=h
 obtain⟨p7,x12,cs7,hp7,he7,hc8,hr9⟩:=(f1.st Awu).elem hi7
 try rw [ln]at hc8
 try rw [ln]at hc8
 obtain rfl:=hr9
 have h:=h x12 he7
 refine⟨hi7,An hp7 ?_⟩
 obtain⟨hi8,h⟩:=h
 obtain⟨p8,x13,cs8,hp8,he8,hc9,Blw⟩:=(f1.st Awu).elem hi8
 try rw [ln]at hc9
 try rw [ln]at hc9
 obtain rfl:=Blw
 have h:=h x13 he8
 refine⟨hi8,An hp8 ?_⟩
 refine⟨_,fun u hu=>Ae.head (Ge.held hc8 hu (by simp)),?_⟩
 refine⟨_,fun u hu=>Ae.head (Ge.held hc9 hu (by simp)),?_⟩
 have sT8:=((st.trans st1).trans st3).trans Awu
 refine Aa (h _ w14 (o.mp hm hrm) _ _ _ _ _ (o.at 1 rfl) Av3 (Av6.st sT8)) ?_
 rintro _ w15 ⟨x14,h,rfl,ke6⟩
 obtain⟨Aw7,o⟩:=o.dE ke6
 refine⟨_,rfl,?_⟩
 refine⟨(ke6.mono (by simp)),?_⟩
 intro b3 w16 hb3 Azr
 have el6:El Cy (ms [.box b [.q Op,.s Na,.q N,.q Ki,.q At],.box wxb [.slice Av9 wx.l.length Awa,wx.b.addr,.slice wxA wx.b.buf.length wxC,.q wx.deep],.row 5 1 wxA wx.b.buf.length wxC Awc] m) w15 ([fr,[97,102,116,101,114,32],x14]:List (List UInt8)) ([.s fr,.s [97,102,116,101,114,32],.s x14]:List Value):=(El.cons (cs:=[.s fr]) rfl (El.cons (cs:=[.s [97,102,116,101,114,32]]) rfl (El.cons (cs:=[.s x14]) rfl (El.nil _ _ _))))
 have fr5:w.heap.size<=b3:=hb3▸o.le
 have Axf:=o.xL hb3 Azr 1 3
 have o:=o.lit hb3 Azr 1 3 (by decide) rfl
 refine⟨((ke6.mono (by simp)).trans ((Be Azr).mono (by simp))),?_⟩
 have le5:=(o.rowAt 0 rfl).cap
 have Axe:=o.xX 0
 have f5:=o.freeze (c:=Cy) (l:=([fr,[97,102,116,101,114,32],x14]:List (List UInt8))) 0 rfl (fun q hq h=>by have:=Awz q hq;have:=fr5;simp [Vc.blk]at h;omega) (el6.st (Axf.trans Axe))
 have o:=o.erase 0
 have sT9:=((sT8.trans Aw7).trans Axf).trans Axe
 refine Aa (h _ w16 (o.mp hm hrm) _ _ _ _ _ _ (Mem.Awx 1 rfl) (o.Awl 1 2 rfl rfl (by decide)) (o.at 1 rfl) (o.rowAt 2 rfl) (Aw0.st sT9) Av3 (Av6.st sT9) Awp _ f5) ?_
 rintro _ w17 ⟨r2,h,-,⟨a2,c2,xs2,bx2,Blx,el7,fr6,sp2⟩,ke7⟩
 obtain⟨Axg,el8,o⟩:=o.y2 1 2 rfl rfl (by decide) ke7 bx2 Blx fr6 el7
 exact⟨(⟨wx.l,r2.b,r2.deep⟩:Ab),h,trivial,⟨_,_,_,o.at 1 rfl,o.rowAt 2 rfl,(el8.st (o.eRS 2 rfl)),o.Awk 2 rfl 1 rfl (by decide),sp2⟩,o.done⟩
 obtain⟨hi9,h⟩:=h
 obtain⟨p9,x15,cs9,hp9,he9,Bh8,Bly⟩:=SlR.elem f1 hi9
 try rw [ln]at Bh8
 try rw [ln]at Bh8
 obtain rfl:=Bly
 have h:=h x15 he9
 refine⟨hi9,An hp9 ?_⟩
 refine⟨_,(Ae.head Bh8.2),?_⟩
 intro b4 w18 hb4 Azm
 have el9:El Cy (ms [.box b [.q Op,.s Na,.q N,.q Ki,.q At],.box wxb [.slice Av9 wx.l.length Awa,wx.b.addr,.slice wxA wx.b.buf.length wxC,.q wx.deep],.row 5 1 wxA wx.b.buf.length wxC Awc] m) w3 ([[101,108,115,101]]:List (List UInt8)) ([.s [101,108,115,101]]:List Value):=(El.cons (cs:=[.s [101,108,115,101]]) rfl (El.nil _ _ _))
 have fr7:w.heap.size<=b4:=hb4▸o.le
 have Axu:=o.xL hb4 Azm 1 1
 have o:=o.lit hb4 Azm 1 1 (by decide) rfl
 have le6:=(o.rowAt 0 rfl).cap
 have Axv:=o.xX 0
 have f6:=o.freeze (c:=Cy) (l:=([[101,108,115,101]]:List (List UInt8))) 0 rfl (fun q hq h=>by have:=Awz q hq;have:=fr7;simp [Vc.blk]at h;omega) (el9.st (Axu.trans Axv))
 have o:=o.erase 0
 have Ay7:=(((st.trans st1).trans st3).trans Axu).trans Axv
 refine Aa (h _ w18 (o.mp hm hrm) _ _ _ _ _ _ (Mem.Awx 1 rfl) (o.Awl 1 2 rfl rfl (by decide)) (o.at 1 rfl) (o.rowAt 2 rfl) (Aw0.st Ay7) Av3 (Av6.st Ay7) Awp _ f6) ?_
 rintro _ w19 ⟨r3,h,-,⟨a3,c3,xs3,bx3,Blz,Bdp,fr8,sp3⟩,ke8⟩
 obtain⟨Ayp,Bh4,o⟩:=o.y2 1 2 rfl rfl (by decide) ke8 bx3 Blz fr8 Bdp
 exact⟨(⟨wx.l,r3.b,r3.deep⟩:Ab),h,trivial,⟨_,_,_,o.at 1 rfl,o.rowAt 2 rfl,(Bh4.st (o.eRS 2 rfl)),o.Awk 2 rfl 1 rfl (by decide),sp3⟩,o.done⟩
def Kg (wx:Ab) (l:List Int) (K:(List UInt8)->Prop):Prop:=
 (0<=(l.length:Int)/\(l.length:Int)<4294967296)/\
 ∃(I:(List (List UInt8))->Int->Nat->Prop),(∃n,I [] 0 n)/\
 ∀(out:List (List UInt8)) (x:Int) (n:Nat),I out x n->
 cond (decide (x<(l.length:Int)))
 (((0:Int)<=x/\x<(l.length:Int))/\
 ∀x1,l[x.toNat]? =some x1->
 Ax wx x1 (fun x2=>
 out.length+([x2]:List (List UInt8)).length<2^32/\
 ∃n1,n1<n/\I (out++([x2]:List (List UInt8))) (IntKind.i64.wrap (x+1)) n1))
 (Jw out [44,32] (fun x3=>
 K x3))
theorem Ou (wx:Ab) (l:List Int) (K:(List UInt8)->Prop) (h:Kg wx l K):Hy wx l K:=by
 intro m w hm wxb wxA wxC Av9 Awa Awq Av3 Av6 lA lC Ay6 f_l
 have o:=Mem.start hm.lt
 refine P0 wxb lA l.length lC _ _ ?_
 obtain⟨hc,h⟩:=h
 refine Aga Am6 Am5 rfl (l.length:Int) hc.1 hc.2 (by decide) fun w1 rw ke=> ?_
 obtain⟨b,hb⟩:∃b:Nat,b=w.heap.size:=⟨_,rfl⟩
 rw [←hb]at rw⊢
 refine⟨_,_,_,rfl,?_⟩
 have st:=Mem.Bli (ps:=[]) (m0:=m) ke (.row 9 1 (some ⟨b,0,none⟩) 0 ((l.length:Int).toNat) []) (by rw [hb];rfl)
 have o:=o.add ke (.row 9 1 (some ⟨b,0,none⟩) 0 ((l.length:Int).toNat) []) (by rw [hb];rfl) rw
 obtain⟨I,⟨n2,h⟩,h2⟩:=h
 obtain⟨Z,hZ⟩:∃Z:(Option Addr)->Nat->Nat->Int->World->Nat->Prop,Z=fun ou ou1 ou2 x w2 n=>∃(out:List (List UInt8)) (xs:List Value),I out x n/\El Cy (ms [.row 9 1 ou out.length ou2 xs] m) w2 out xs/\ou1=out.length/\MS w m w1 [.row 9 1 (some ⟨b,0,none⟩) 0 ((l.length:Int).toNat) []] w2 [.row 9 1 ou out.length ou2 xs]:=⟨_,rfl⟩
 refine⟨fun ou ou1 ou2 x w2=>∃n,Z ou ou1 ou2 x w2 n,fun ou ou1 ou2 x w2=>Awb (Z ou ou1 ou2 x w2),⟨n2,?_⟩,?_⟩
 rw [hZ];exact⟨[],[],h,(El.nil _ _ _),rfl,o,Step.refl _ _⟩
 intro _ ou ou1 ou2 x w2 hIZ
 obtain⟨n,hnn⟩:∃n,n=Awb (Z ou ou1 ou2 x w2):=⟨_,rfl⟩
 have hIZ:=C2 hIZ
 rw [←hnn,hZ]at hIZ
 obtain⟨out,xs,h,el1,rfl,o,st1⟩:=hIZ
 have h:=h2 out x n h
 refine Ad (fun h=> ?_) (fun h=> ?_) h
 obtain⟨hi,h⟩:=h
 obtain⟨p,x1,cs,hp,he,hc1,hr⟩:=(f_l.st (st.trans st1)).elem hi
 obtain rfl:=hr
 have h:=h x1 he
 refine⟨hi,An hp ?_⟩
 refine⟨_,(Ae.head hc1.2),?_⟩
 refine Aa (h _ w2 (o.mn hm) _ _ _ _ _ (Awq.Av8 o.done (by simp)) Av3 (Av6.st (st.trans st1))) ?_
 rintro _ w3 ⟨x2,h,rfl,ke1⟩
 obtain⟨st2,o⟩:=o.dE ke1
 refine⟨_,rfl,?_⟩
 intro b1 w4 hb1 hw4
 have el2:El Cy (ms [.row 9 1 ou out.length ou2 xs] m) w3 ([x2]:List (List UInt8)) ([.s x2]:List Value):=(El.cons (cs:=[.s x2]) rfl (El.nil _ _ _))
 have st3:=o.xL hb1 hw4 1 1
 have o:=o.lit hb1 hw4 1 1 (by decide) rfl
 obtain⟨lt,h⟩:=h
 have el4:=((el1.st (st2.trans st3))).app (el2.st st3)
 refine Fh Am6 (o.rowAt 1 rfl) (o.rowAt 0 rfl).sl (el2.st st3).len (el2.st st3).one (by first|(simp;done)|simpa using lt) (by decide) (Nat.zero_le _) fun a c w5 hr1 hg hat=> ?_
 have ln:out.length+1=(out++([x2]:List (List UInt8))).length:=(by first|(simp;done)|(simp;omega))
 rw [ln]at hr1⊢
 refine⟨_,_,_,rfl,?_⟩
 have st4:=o.xA 1 rfl hr1 hg hat
 have o:=o.app 1 rfl hr1 hg hat
 obtain⟨st5,o⟩:=o.dX 0
 obtain⟨n1,hl,h⟩:=h
 have sT:=(((st1.trans st2).trans st3).trans st4).trans st5
 exact B8 hnn (show Z _ _ _ _ w5 n1 from(by rw [hZ];exact⟨(out++([x2]:List (List UInt8))),(xs++([.s x2]:List Value)),h,(el4.st (st4.trans st5)),rfl,o,sT⟩)) hl
 have le:=(o.rowAt 0 rfl).cap
 have st6:=o.xX 0
 have f:=o.freeze (c:=Cy) (l:=out) 0 rfl (fun b hb=>by simp at hb) (el1.st st6)
 have o:=o.erase 0
 refine Aa (h _ w2 (o.mn hm) _ _ le f) ?_
 rintro _ w6 ⟨x3,h,rfl,ke2⟩
 obtain⟨st7,o⟩:=o.dE ke2
 refine⟨_,rfl,?_⟩
 exact⟨x3,h,rfl,o.done⟩
def Qa (l:List Aj) (K:Int->Int->Prop):Prop:=
 ∃(I:(List Int)->Int->Nat->Prop),(∃n,I [85] 0 n)/\
 ∀(to3:List Int) (x:Int) (n:Nat),I to3 x n->
 cond (decide (x<(l.length:Int)))
 (((0:Int)<=x/\x<(l.length:Int))/\
 ∀x1,l[x.toNat]? =some x1->
 cond ((to3.length:Int)==0)
 (K x 3)
 (((0:Int)<=(IntKind.i64.wrap ((to3.length:Int)-1))/\(IntKind.i64.wrap ((to3.length:Int)-1))<(to3.length:Int))/\
 ∀x2,to3[(IntKind.i64.wrap ((to3.length:Int)-1)).toNat]? =some x2->
 P6 x1 (IntKind.i64.wrap ((l.length:Int)+1)) (fun r r1=>
 ∃(J:Bool->Prop),
 (Om x1.op (fun x4=>
 cond (x4 !=x2)
 (J true)
 (cond (!r1)
 (J true)
 (K0 x1 (fun x5=>
 J (!x5))))))/\
 ∀(x3:Bool),J x3->
 cond (x3)
 (K x 3)
 (En (B7 r) (fun l1=>
 ((0:Int)<=(IntKind.i64.wrap ((to3.length:Int)-1))/\(IntKind.i64.wrap ((to3.length:Int)-1))<=(to3.length:Int))/\
 (to3.take ((IntKind.i64.wrap ((to3.length:Int)-1)).toNat)).length+l1.length<2^32/\
 ∃n1,n1<n/\I ((to3.take ((IntKind.i64.wrap ((to3.length:Int)-1)).toNat))++l1) (IntKind.i64.wrap (x+1)) n1)))))
 (cond (decide ((to3.length:Int)>0))
 (K (l.length:Int) 3)
 (K 0 0))
theorem W4 (l:List Aj) (K:Int->Int->Prop) (h:Qa l K):Ju l K:=by
 intro m w hm lA lC Ay6 f_l
 have o:=Mem.start hm.lt
 refine Z5 lA l.length lC _ _ ?_
 intro b w1 hb hw1
 have el:El (Cu .u8) (ms [] m) w [85] ([.int .u8 85]:List Value):=(El.cons (cs:=[.int .u8 85]) rfl (El.nil _ _ _))
 have st:=o.xL hb hw1 1 1
 have o:=o.lit hb hw1 1 1 (by decide) rfl
 obtain⟨I,⟨n2,h⟩,h2⟩:=h
 obtain⟨Z,hZ⟩:∃Z:(Option Addr)->Nat->Nat->Int->World->Nat->Prop,Z=fun to to1 to2 x w2 n=>∃(to3:List Int) (xs:List Value),I to3 x n/\El (Cu .u8) (ms [.row 5 1 to to3.length to2 xs] m) w2 to3 xs/\to1=to3.length/\MS w m w1 [.row 5 1 (some ⟨b,0,none⟩) 1 1 ([.int .u8 85]:List Value)] w2 [.row 5 1 to to3.length to2 xs]:=⟨_,rfl⟩
 refine⟨fun to to1 to2 x w2=>∃n,Z to to1 to2 x w2 n,fun to to1 to2 x w2=>Awb (Z to to1 to2 x w2),⟨n2,?_⟩,?_⟩
 rw [hZ];exact⟨[85],([.int .u8 85]:List Value),h,(el.st st),rfl,o,Step.refl _ _⟩
 intro _ to to1 to2 x w2 hIZ
 obtain⟨n,hnn⟩:∃n,n=Awb (Z to to1 to2 x w2):=⟨_,rfl⟩
 have hIZ:=C2 hIZ
 rw [←hnn,hZ]at hIZ
 obtain⟨to3,xs,h,el1,rfl,o,st1⟩:=hIZ
 have h:=h2 to3 x n h
 refine Ad (fun h=> ?_) (fun h=> ?_) h
 obtain⟨hi,h⟩:=h
 obtain⟨p,x1,cs,hp,he,hc,hr⟩:=(f_l.st (st.trans st1)).elem hi
 obtain rfl:=Bv hr
 have h:=h x1 he
 refine⟨hi,An hp ?_⟩
 refine⟨_,_,_,_,_,hc.2,?_⟩
 intro b1 w3 hb1 hw3
 obtain⟨st2,o⟩:=o.dB hb1 hw3
 refine⟨o.wr 0 rfl rfl,fun w4 hw4=> ?_⟩
 obtain⟨st3,o⟩:=o.dSs 0 hw4 rfl
 refine Ad (fun h=> ?_) (fun h=> ?_) h
 exact⟨x,3,h,rfl,o.done⟩
 obtain⟨hi1,h⟩:=h
 obtain⟨p1,x2,cs1,hp1,he1,hc1,hr1⟩:=Am0 (o.rowAt 1 rfl) (el1.st (st2.trans st3)) hi1
 obtain rfl:=hr1
 have h:=h x2 he1
 refine⟨hi1,An hp1 ?_⟩
 refine⟨_,(Ae.head hc1.2),?_⟩
 refine⟨_,_,_,_,_,(o.at 0 rfl).whole,?_⟩
 refine Aa (h _ w4 (o.mn hm) _ (Bu x1)) ?_
 rintro _ w5 ⟨r,r1,h,rfl,ke⟩
 obtain⟨st4,o⟩:=o.dE ke
 refine⟨_,_,rfl,?_⟩
 obtain⟨J,h,h2⟩:=h
 refine⟨fun x3 w6=>J x3/\MT w m w5 w6 [.box b1 [.q x1.op,.s x1.name,.q x1.n,.q x1.kids,.q x1.at_],.row 5 1 to to3.length to2 xs],?_,?_⟩
 refine⟨_,(o.at 0 rfl).cell rfl,?_⟩
 refine Aa (h _ w5 (o.mn hm)) ?_
 rintro _ w7 ⟨x4,h,rfl,ke1⟩
 obtain⟨st6,o⟩:=o.dE ke1
 refine⟨_,rfl,?_⟩
 refine Ad (fun h=> ?_) (fun h=> ?_) h
 exact⟨h,o,st6⟩
 refine Ad (fun h=> ?_) (fun h=> ?_) h
 exact⟨h,o,st6⟩
 refine⟨_,_,_,_,_,(o.at 0 rfl).whole,?_⟩
 refine Aa (h _ w7 (o.mn hm) _ (Bu x1)) ?_
 rintro _ w8 ⟨x5,h,rfl,ke2⟩
 obtain⟨st7,o⟩:=o.dE ke2
 refine⟨_,rfl,?_⟩
 exact⟨h,o,(st6.trans st7)⟩
 rintro _ x3 w6 ⟨hJ,o,st5⟩
 have h:=h2 x3 hJ
 refine Ad (fun h=> ?_) (fun h=> ?_) h
 exact⟨x,3,h,rfl,o.done⟩
 refine Af8 Tryz.underlying9 Tryz.underlying42 Tryz.underlying5 fun c re fz w9 le wn ke3=> ?_
 obtain⟨b2,hb⟩:∃b2:Nat,b2=w6.heap.size:=⟨_,rfl⟩
 rw [←hb]at wn⊢
 refine⟨_,_,_,rfl,?_⟩
 have el2:=Tp (ms [.box b1 [.q x1.op,.s x1.name,.q x1.n,.q x1.kids,.q x1.at_],.row 5 1 to to3.length to2 xs] m) w6 (B7 r)
 have st8:=Mem.Bli (ps:=[.box b1 [.q x1.op,.s x1.name,.q x1.n,.q x1.kids,.q x1.at_],.row 5 1 to to3.length to2 xs]) (m0:=m) ke3 (.win (some ⟨b2,0,none⟩) ((B7 r).map fun n=>Value.int .u8 n) re 5 fz) (by rw [hb];rfl)
 have o:=o.add ke3 (.win (some ⟨b2,0,none⟩) ((B7 r).map fun n=>Value.int .u8 n) re 5 fz) (by rw [hb];rfl) wn
 refine Aa (h _ w9 (o.mn hm) _ _ _ _ _ _ (Mem.Bxx 0 rfl) le (o.Ay2 0 rfl) (el2.st st8)) ?_
 rintro _ w10 ⟨l1,h,-,⟨xs1,wn2,hl,el3⟩,ke4⟩
 have st9:=Mem.Bhy (ps:=[.win (some ⟨b2,0,none⟩) ((B7 r).map fun n=>Value.int .u8 n) re 5 fz,.box b1 [.q x1.op,.s x1.name,.q x1.n,.q x1.kids,.q x1.at_],.row 5 1 to to3.length to2 xs]) (m0:=m) (xs':=xs1) 0 rfl ke4.Bei
 have o:=o.Bln 0 rfl wn2 ke4.Bei
 have ln:(B7 r).length=l1.length:=Nat.eq_of_mul_eq_mul_right ((Cu .u8)).pos ((El.len (el2.st st8)).symm.trans (hl.symm.trans (El.len el3)))
 obtain⟨hc2,h⟩:=h
 obtain⟨xs2,hxs⟩:∃z,z=xs.take ((IntKind.i64.wrap ((to3.length:Int)-1)).toNat*1):=⟨_,rfl⟩
 have hr2:=(o.rowAt 2 rfl).take (k:=(IntKind.i64.wrap ((to3.length:Int)-1)).toNat) (by have:=hc2;first|omega|(simp at*;omega))
 rw [←hxs]at hr2
 have sT:=((((st2.trans st3).trans st4).trans st5).trans st8).trans st9
 have el4:El (Cu .u8) (ms [.win (some ⟨b2,0,none⟩) xs1 re 5 fz,.box b1 [.q x1.op,.s x1.name,.q x1.n,.q x1.kids,.q x1.at_],.row 5 1 to to3.length to2 xs] m) w10 (to3.take ((IntKind.i64.wrap ((to3.length:Int)-1)).toNat)) xs2:=(by rw [hxs];exact El.take (el1.st sT) ((IntKind.i64.wrap ((to3.length:Int)-1)).toNat))
 refine⟨⟨hc2.1,by have:=hc2;have:=(o.rowAt 2 rfl).cap;first|omega|(simp at*;omega)⟩,?_⟩
 simp only [Tn,Nat.sub_zero]
 have Awf:=Mem.Bhw (ps:=[.win (some ⟨b2,0,none⟩) xs1 re 5 fz,.box b1 [.q x1.op,.s x1.name,.q x1.n,.q x1.kids,.q x1.at_],.row 5 1 to to3.length to2 xs]) (m0:=m) (w:=w10) (p':= .row 5 1 to ((IntKind.i64.wrap ((to3.length:Int)-1)).toNat) to2 xs2) 2 rfl (Am.refl _ _) (fun _ hb=> .inl hb)
 have o:=o.upd (p':= .row 5 1 to ((IntKind.i64.wrap ((to3.length:Int)-1)).toNat) to2 xs2) 2 rfl (Am.refl _ _) hr2 (fun _ hb=> .inl hb)
 have ln1:(IntKind.i64.wrap ((to3.length:Int)-1)).toNat=(to3.take ((IntKind.i64.wrap ((to3.length:Int)-1)).toNat)).length:=Apz (o.rowAt 2 rfl) (el4.st Awf)
 obtain⟨lt,h⟩:=h
 have el6:=((el4.st Awf)).app (el3.st Awf)
 refine Fh Asu (o.rowAt 2 rfl) (o.Ay2 0 rfl).sl (by rw [ln];exact El.len ((el3.st Awf))) (el3.st Awf).one (by rw [ln1,ln];exact lt) (by decide) (Nat.zero_le _) fun a c1 w11 hr3 hg hat=> ?_
 have ln2:(IntKind.i64.wrap ((to3.length:Int)-1)).toNat+(B7 r).length=((to3.take ((IntKind.i64.wrap ((to3.length:Int)-1)).toNat))++l1).length:=(by rw [List.length_append,←ln1,←ln])
 rw [ln2]at hr3⊢
 refine⟨_,_,_,rfl,?_⟩
 have Awi:=o.xA 2 rfl hr3 hg hat
 have o:=o.app 2 rfl hr3 hg hat
 obtain⟨Awr,o⟩:=o.dX 0
 obtain⟨Awj,o⟩:=o.dX 0
 obtain⟨n1,hl1,h⟩:=h
 have sT1:=(Awi.trans Awr).trans Awj
 have sT2:=(((((((((st1.trans st2).trans st3).trans st4).trans st5).trans st8).trans st9).trans Awf).trans Awi).trans Awr).trans Awj
 exact B8 hnn (show Z _ _ _ _ w11 n1 from(by rw [hZ];exact⟨((to3.take ((IntKind.i64.wrap ((to3.length:Int)-1)).toNat))++l1),(xs2++xs1),h,(el6.st sT1),rfl,o,sT2⟩)) hl1
 refine Ad (fun h=> ?_) (fun h=> ?_) h
 exact⟨(l.length:Int),3,h,rfl,o.done⟩
 exact⟨0,0,h,rfl,o.done⟩
def Aap (xq:Aj) (most:Int) (K:(List UInt8)->Bool->Prop):Prop:=
 ∃(J:(List UInt8)->Prop),
 (∃(J1:Bool->Prop),
 (cond (xq.op==3)
 (J1 (xq.op==3))
 (cond (xq.op==4)
 (J1 (xq.op==4))
 (cond (xq.op==18)
 (J1 (xq.op==18))
 (cond (xq.op==19)
 (J1 (xq.op==19))
 (cond (xq.op==20)
 (J1 (xq.op==20))
 (cond (xq.op==27)
 (J1 (xq.op==27))
 (cond (xq.op==28)
 (J1 (xq.op==28))
 (J1 (xq.op==29)))))))))/\
 ∀(x:Bool),J1 x->
 cond (x)
 (J [69])
 (cond (xq.op==21)
 (J [82,69])
 (cond (xq.op==22)
 (J [82])
 (cond (xq.op==23)
 (cond (xq.kids==3)
 (J [69,66,66])
 (J [69,66]))
 (∃(J2:Bool->Prop),
 (cond (xq.op==24)
 (J2 (xq.op==24))
 (J2 (xq.op==36)))/\
 ∀(x1:Bool),J2 x1->
 cond (x1)
 (J [69,66])
 (cond (xq.op==25)
 (Hl xq.kids most [67] 67 [] (fun x2 x3=>
 K x2 x3))
 (cond (xq.op==26)
 (Hl xq.kids most [] 69 [] (fun x4 x5=>
 K x4 x5))
 (cond (xq.op==32)
 (Hl xq.kids most [] 83 [] (fun x6 x7=>
 K x6 x7))
 (cond (xq.op==33)
 (cond (xq.kids==1)
 (J [69])
 (J []))
 (cond (xq.op==34)
 (J [82,66])
 (cond (xq.op==35)
 (J [82,69,66])
 (∃(J3:Bool->Prop),
 (cond (xq.op==37)
 (J3 (xq.op==37))
 (J3 (xq.op==41)))/\
 ∀(x8:Bool),J3 x8->
 cond (x8)
 (J [66])
 (cond (xq.op==40)
 (Hl xq.kids most [] 80 [66] (fun x9 x10=>
 K x9 x10))
 (cond (xq.op==42)
 (Hl xq.kids most [] 68 [] (fun x11 x12=>
 K x11 x12))
 (J [])))))))))))))))/\
 ∀(wa:List UInt8),J wa->
 ∃(J4:(List UInt8)->Prop),
 (∃(J5:Bool->Prop),
 (cond (decide (xq.op>=5))
 (J5 (decide (xq.op<=17)))
 (J5 false))/\
 ∀(x13:Bool),J5 x13->
 cond (x13)
 (J4 [69,69])
 (J4 wa))/\
 ∀(wa1:List UInt8),J4 wa1->
 ∃(J6:(List UInt8)->Prop),
 (F7 xq (fun x14=>
 cond (x14)
 ((([69].length+wa1.length:Nat):Int)<=IntKind.i64.max/\
 J6 ([69]++wa1))
 (J6 wa1)))/\
 ∀(wa2:List UInt8),J6 wa2->
 K wa2 ((wa2.length:Int)==xq.kids)
theorem Yy (xq:Aj) (most:Int) (K:(List UInt8)->Bool->Prop) (h:Aap xq most K):P6 xq most K:=by
 intro m w hm Axs Ayy
 obtain rfl:=Bv Ayy
 have o:=Mem.start hm.lt
 refine Acz _ _ _ _ _ most _ _ ?_
 intro b w1 hb hw1
 obtain⟨st,o⟩:=o.dB hb hw1
 obtain⟨J,h,h2⟩:=h
 refine⟨fun wa w2=>J wa/\MT w m w1 w2 [.box b [.q xq.op,.s xq.name,.q xq.n,.q xq.kids,.q xq.at_]],?_,?_⟩
 refine⟨_,(o.at 0 rfl).cell rfl,?_⟩
 obtain⟨J1,h,h2⟩:=h
 refine⟨fun x w3=>J1 x/\MT w m w1 w3 [.box b [.q xq.op,.s xq.name,.q xq.n,.q xq.kids,.q xq.at_]],?_,?_⟩
 refine Ad (fun h=> ?_) (fun h=> ?_) h
 exact⟨h,o,Step.refl _ _⟩
 refine Ad (fun h=> ?_) (fun h=> ?_) h
 exact⟨h,o,Step.refl _ _⟩
 refine Ad (fun h=> ?_) (fun h=> ?_) h
 exact⟨h,o,Step.refl _ _⟩
 refine Ad (fun h=> ?_) (fun h=> ?_) h
 exact⟨h,o,Step.refl _ _⟩
 refine Ad (fun h=> ?_) (fun h=> ?_) h
 exact⟨h,o,Step.refl _ _⟩
 refine Ad (fun h=> ?_) (fun h=> ?_) h
 exact⟨h,o,Step.refl _ _⟩
 refine Ad (fun h=> ?_) (fun h=> ?_) h
 exact⟨h,o,Step.refl _ _⟩
 exact⟨h,o,Step.refl _ _⟩
 rintro _ x w3 ⟨hJ,o,st2⟩
 have h:=h2 x hJ
 refine Ad (fun h=> ?_) (fun h=> ?_) h
 exact⟨h,o,st2⟩
 refine Ad (fun h=> ?_) (fun h=> ?_) h
 exact⟨h,o,st2⟩
 refine Ad (fun h=> ?_) (fun h=> ?_) h
 exact⟨h,o,st2⟩
 refine Ad (fun h=> ?_) (fun h=> ?_) h
 refine⟨_,(o.at 0 rfl).cell rfl,?_⟩
 refine Ad (fun h=> ?_) (fun h=> ?_) h
 exact⟨h,o,st2⟩
 exact⟨h,o,st2⟩
 obtain⟨J2,h,h2⟩:=h
 refine⟨fun x1 w4=>J2 x1/\MT w m w3 w4 [.box b [.q xq.op,.s xq.name,.q xq.n,.q xq.kids,.q xq.at_]],?_,?_⟩
 refine Ad (fun h=> ?_) (fun h=> ?_) h
 exact⟨h,o,Step.refl _ _⟩
 exact⟨h,o,Step.refl _ _⟩
 rintro _ x1 w4 ⟨hJ,o,st3⟩
 have h:=h2 x1 hJ
 refine Ad (fun h=> ?_) (fun h=> ?_) h
 exact⟨h,o,(st2.trans st3)⟩
 refine Ad (fun h=> ?_) (fun h=> ?_) h
 refine⟨_,(o.at 0 rfl).cell rfl,?_⟩
 refine Aa (h _ w4 (o.mn hm)) ?_
 rintro _ w5 ⟨x2,x3,h,rfl,ke⟩
 obtain⟨st4,o⟩:=o.dE ke
 refine⟨_,_,rfl,?_⟩
 exact⟨x2,x3,h,rfl,o.done⟩
 refine Ad (fun h=> ?_) (fun h=> ?_) h
 refine⟨_,(o.at 0 rfl).cell rfl,?_⟩
 refine Aa (h _ w4 (o.mn hm)) ?_
 rintro _ w6 ⟨x4,x5,h,rfl,ke1⟩
 obtain⟨st5,o⟩:=o.dE ke1
 refine⟨_,_,rfl,?_⟩
 exact⟨x4,x5,h,rfl,o.done⟩
 refine Ad (fun h=> ?_) (fun h=> ?_) h
 refine⟨_,(o.at 0 rfl).cell rfl,?_⟩
 refine Aa (h _ w4 (o.mn hm)) ?_
 rintro _ w7 ⟨x6,x7,h,rfl,ke2⟩
 obtain⟨st6,o⟩:=o.dE ke2
 refine⟨_,_,rfl,?_⟩
 exact⟨x6,x7,h,rfl,o.done⟩
 refine Ad (fun h=> ?_) (fun h=> ?_) h
 refine⟨_,(o.at 0 rfl).cell rfl,?_⟩
 refine Ad (fun h=> ?_) (fun h=> ?_) h
 exact⟨h,o,(st2.trans st3)⟩
 exact⟨h,o,(st2.trans st3)⟩
 refine Ad (fun h=> ?_) (fun h=> ?_) h
 exact⟨h,o,(st2.trans st3)⟩
 refine Ad (fun h=> ?_) (fun h=> ?_) h
 exact⟨h,o,(st2.trans st3)⟩
 obtain⟨J3,h,h2⟩:=h
 refine⟨fun x8 w8=>J3 x8/\MT w m w4 w8 [.box b [.q xq.op,.s xq.name,.q xq.n,.q xq.kids,.q xq.at_]],?_,?_⟩
 refine Ad (fun h=> ?_) (fun h=> ?_) h
 exact⟨h,o,Step.refl _ _⟩
 exact⟨h,o,Step.refl _ _⟩
 rintro _ x8 w8 ⟨hJ,o,st7⟩
 have h:=h2 x8 hJ
 refine Ad (fun h=> ?_) (fun h=> ?_) h
 have sT:=(st2.trans st3).trans st7
 exact⟨h,o,sT⟩
 refine Ad (fun h=> ?_) (fun h=> ?_) h
 refine⟨_,(o.at 0 rfl).cell rfl,?_⟩
 refine Aa (h _ w8 (o.mn hm)) ?_
 rintro _ w9 ⟨x9,x10,h,rfl,ke3⟩
 obtain⟨st8,o⟩:=o.dE ke3
 refine⟨_,_,rfl,?_⟩
 exact⟨x9,x10,h,rfl,o.done⟩
 refine Ad (fun h=> ?_) (fun h=> ?_) h
 refine⟨_,(o.at 0 rfl).cell rfl,?_⟩
 refine Aa (h _ w8 (o.mn hm)) ?_
 rintro _ w10 ⟨x11,x12,h,rfl,ke4⟩
 obtain⟨st9,o⟩:=o.dE ke4
 refine⟨_,_,rfl,?_⟩
 exact⟨x11,x12,h,rfl,o.done⟩
 have sT1:=(st2.trans st3).trans st7
 exact⟨h,o,sT1⟩
 rintro _ wa w2 ⟨hJ,o,st1⟩
 have h:=h2 wa hJ
 obtain⟨J4,h,h2⟩:=h
 refine⟨fun wa1 w11=>J4 wa1/\MT w m w2 w11 [.box b [.q xq.op,.s xq.name,.q xq.n,.q xq.kids,.q xq.at_]],?_,?_⟩
 obtain⟨J5,h,h2⟩:=h
 refine⟨fun x13 w12=>J5 x13/\MT w m w2 w12 [.box b [.q xq.op,.s xq.name,.q xq.n,.q xq.kids,.q xq.at_]],?_,?_⟩
 refine⟨_,(o.at 0 rfl).cell rfl,?_⟩
 refine Ad (fun h=> ?_) (fun h=> ?_) h
 refine⟨_,(o.at 0 rfl).cell rfl,?_⟩
 exact⟨h,o,Step.refl _ _⟩
 exact⟨h,o,Step.refl _ _⟩
 rintro _ x13 w12 ⟨hJ,o,Awi⟩
 have h:=h2 x13 hJ
 refine Ad (fun h=> ?_) (fun h=> ?_) h
 exact⟨h,o,Awi⟩
 exact⟨h,o,Awi⟩
 rintro _ wa1 w11 ⟨hJ,o,Awf⟩
 have h:=h2 wa1 hJ
 obtain⟨J6,h,h2⟩:=h
 refine⟨fun wa2 w13=>J6 wa2/\MT w m w11 w13 [.box b [.q xq.op,.s xq.name,.q xq.n,.q xq.kids,.q xq.at_]],?_,?_⟩
 refine⟨_,_,_,_,_,(o.at 0 rfl).whole,?_⟩
 refine Aa (h _ w11 (o.mn hm) _ (Bu xq)) ?_
 rintro _ w14 ⟨x14,h,rfl,ke5⟩
 obtain⟨Awj,o⟩:=o.dE ke5
 refine⟨_,rfl,?_⟩
 refine Ad (fun h=> ?_) (fun h=> ?_) h
 refine⟨h.1,?_⟩
 have h:=And.right h
 exact⟨h,o,Awj⟩
 exact⟨h,o,Awj⟩
 rintro _ wa2 w13 ⟨hJ,o,Awr⟩
 have h:=h2 wa2 hJ
 intro w15 Ax7
 obtain⟨Aws,o⟩:=o.dD Ax7
 refine⟨_,(o.at 0 rfl).cell rfl,?_⟩
 exact⟨wa2,((wa2.length:Int)==xq.kids),h,rfl,o.done⟩
def Yz (op:Int) (K:Int->Prop):Prop:=
 cond (((decide (op>=1))&&(decide (op<=17))))
 (K 69)
 (cond (((decide (op>=18))&&(decide (op<=31))))
 (K 83)
 (cond (((decide (op>=34))&&(decide (op<=37))))
 (K 67)
 (cond (op==32)
 (K 66)
 (cond (op==33)
 (K 82)
 (∃(J:Bool->Prop),
 (cond (op==38)
 (J (op==38))
 (cond (op==40)
 (J (op==40))
 (J (op==41))))/\
 ∀(x:Bool),J x->
 cond (x)
 (K 68)
 (cond (op==39)
 (K 80)
 (cond (op==42)
 (K 85)
 (K 0))))))))
theorem W5 (op:Int) (K:Int->Prop) (h:Yz op K):Om op K:=by
 intro m w hm
 have o:=Mem.start hm.lt
 refine Z7 op _ _ ?_
 intro _
 refine Ad (fun h=> ?_) (fun h=> ?_) h
 exact⟨69,h,rfl,o.done⟩
 intro _
 refine Ad (fun h=> ?_) (fun h=> ?_) h
 exact⟨83,h,rfl,o.done⟩
 intro _
 refine Ad (fun h=> ?_) (fun h=> ?_) h
 exact⟨67,h,rfl,o.done⟩
 refine Ad (fun h=> ?_) (fun h=> ?_) h
 exact⟨66,h,rfl,o.done⟩
 refine Ad (fun h=> ?_) (fun h=> ?_) h
 exact⟨82,h,rfl,o.done⟩
 obtain⟨J,h,h2⟩:=h
 refine⟨fun x w1=>J x/\MT w m w w1 [],?_,?_⟩
 refine Ad (fun h=> ?_) (fun h=> ?_) h
 exact⟨h,o,Step.refl _ _⟩
 refine Ad (fun h=> ?_) (fun h=> ?_) h
 exact⟨h,o,Step.refl _ _⟩
 exact⟨h,o,Step.refl _ _⟩
 rintro _ x w1 ⟨hJ,o,st⟩
 have h:=h2 x hJ
 refine Ad (fun h=> ?_) (fun h=> ?_) h
 exact⟨68,h,rfl,o.done⟩
 refine Ad (fun h=> ?_) (fun h=> ?_) h
 exact⟨80,h,rfl,o.done⟩
 refine Ad (fun h=> ?_) (fun h=> ?_) h
 exact⟨85,h,rfl,o.done⟩
 exact⟨0,h,rfl,o.done⟩
def W6 (xq:Aj) (K:Bool->Prop):Prop:=
 ∃(J:Int->Prop),
 (cond (xq.op==1)
 (J 999999999999999999)
 (cond (xq.op==38)
 (J 16)
 (F7 xq (fun x=>
 cond (x)
 (J 1)
 (J 0)))))/\
 ∀(mo:Int),J mo->
 ∃(J1:Bool->Prop),
 (Jy xq.op (fun x2=>
 cond (!(x2==(!(xq.name==[]))))
 (J1 true)
 (Jy xq.op (fun x3=>
 cond (x3)
 (On xq.name (fun x4=>
 J1 (!x4)))
 (J1 false)))))/\
 ∀(x1:Bool),J1 x1->
 cond (x1)
 (K false)
 (cond (decide (xq.n>=0))
 (K (decide (xq.n<=mo)))
 (K false))
theorem U2 (xq:Aj) (K:Bool->Prop) (h:W6 xq K):K0 xq K:=by
 intro m w hm Axs Ayy
 obtain rfl:=Bv Ayy
 have o:=Mem.start hm.lt
 refine Yg _ _ _ _ _ _ _ ?_
 intro b w1 hb hw1
 obtain⟨st,o⟩:=o.dB hb hw1
 obtain⟨J,h,h2⟩:=h
 refine⟨fun mo w2=>J mo/\MT w m w1 w2 [.box b [.q xq.op,.s xq.name,.q xq.n,.q xq.kids,.q xq.at_]],?_,?_⟩
 refine⟨_,(o.at 0 rfl).cell rfl,?_⟩
 refine Ad (fun h=> ?_) (fun h=> ?_) h
 exact⟨h,o,Step.refl _ _⟩
 refine⟨_,(o.at 0 rfl).cell rfl,?_⟩
 refine Ad (fun h=> ?_) (fun h=> ?_) h
 exact⟨h,o,Step.refl _ _⟩
 refine⟨_,_,_,_,_,(o.at 0 rfl).whole,?_⟩
 refine Aa (h _ w1 (o.mn hm) _ (Bu xq)) ?_
 rintro _ w3 ⟨x,h,rfl,ke⟩
 obtain⟨st2,o⟩:=o.dE ke
 refine⟨_,rfl,?_⟩
 refine Ad (fun h=> ?_) (fun h=> ?_) h
 exact⟨h,o,st2⟩
 exact⟨h,o,st2⟩
 rintro _ mo w2 ⟨hJ,o,st1⟩
 have h:=h2 mo hJ
 obtain⟨J1,h,h2⟩:=h
 refine⟨fun x1 w4=>J1 x1/\MT w m w2 w4 [.box b [.q xq.op,.s xq.name,.q xq.n,.q xq.kids,.q xq.at_]],?_,?_⟩
 intro w5 hw5
 obtain⟨st4,o⟩:=o.dD hw5
 have ox:=o
 refine⟨fun u=>Am [] w5 u,Am.refl _ _,?_⟩
 refine⟨_,fun u hu=>((ox.at 0 rfl).Av8 hu (by simp)).cell rfl,?_⟩
 refine⟨_,fun u hu=>((ox.at 0 rfl).Av8 hu (by simp)).cell rfl,?_⟩
 refine Aa (h _ w5 (o.mn hm)) ?_
 rintro _ w6 ⟨x2,h,rfl,ke1⟩
 obtain⟨st5,o⟩:=o.dE ke1
 refine⟨_,rfl,?_⟩
 refine⟨(ke1.mono (by simp)),?_⟩
 refine Ad (fun h=> ?_) (fun h=> ?_) h
 exact⟨h,o,(st4.trans st5)⟩
 refine⟨_,(o.at 0 rfl).cell rfl,?_⟩
 refine⟨(ke1.mono (by simp)),?_⟩
 refine Aa (h _ w6 (o.mn hm)) ?_
 rintro _ w7 ⟨x3,h,rfl,ke2⟩
 obtain⟨st6,o⟩:=o.dE ke2
 refine⟨_,rfl,?_⟩
 refine⟨((ke1.mono (by simp)).trans (ke2.mono (by simp))),?_⟩
 refine Ad (fun h=> ?_) (fun h=> ?_) h
 refine⟨_,(o.at 0 rfl).cell rfl,?_⟩
 refine⟨((ke1.mono (by simp)).trans (ke2.mono (by simp))),?_⟩
 refine Aa (h _ w7 (o.mn hm)) ?_
 rintro _ w8 ⟨x4,h,rfl,ke3⟩
 obtain⟨st7,o⟩:=o.dE ke3
 refine⟨_,rfl,?_⟩
 have sT:=((st4.trans st5).trans st6).trans st7
 exact⟨h,o,sT⟩
 have sT1:=(st4.trans st5).trans st6
 exact⟨h,o,sT1⟩
 rintro _ x1 w4 ⟨hJ,o,st3⟩
 have h:=h2 x1 hJ
 refine Ad (fun h=> ?_) (fun h=> ?_) h
 exact⟨false,h,rfl,o.done⟩
 refine⟨_,(o.at 0 rfl).cell rfl,?_⟩
 refine Ad (fun h=> ?_) (fun h=> ?_) h
 refine⟨_,(o.at 0 rfl).cell rfl,?_⟩
 exact⟨(decide (xq.n<=mo)),h,rfl,o.done⟩
 exact⟨false,h,rfl,o.done⟩
def Qb (op:Int) (K:Bool->Prop):Prop:=
 ∃(J:Bool->Prop),
 (cond (op==2)
 (J (op==2))
 (cond (op==18)
 (J (op==18))
 (cond (op==19)
 (J (op==19))
 (cond (op==20)
 (J (op==20))
 (cond (op==22)
 (J (op==22))
 (cond (op==26)
 (J (op==26))
 (cond (op==33)
 (J (op==33))
 (cond (op==34)
 (J (op==34))
 (cond (op==38)
 (J (op==38))
 (cond (op==39)
 (J (op==39))
 (J (op==40))))))))))))/\
 ∀(x:Bool),J x->
 cond (x)
 (K true)
 (K false)
theorem W7 (op:Int) (K:Bool->Prop) (h:Qb op K):Jy op K:=by
 intro m w hm
 have o:=Mem.start hm.lt
 refine Z9 op _ _ ?_
 obtain⟨J,h,h2⟩:=h
 refine⟨fun x w1=>J x/\MT w m w w1 [],?_,?_⟩
 refine Ad (fun h=> ?_) (fun h=> ?_) h
 exact⟨h,o,Step.refl _ _⟩
 refine Ad (fun h=> ?_) (fun h=> ?_) h
 exact⟨h,o,Step.refl _ _⟩
 refine Ad (fun h=> ?_) (fun h=> ?_) h
 exact⟨h,o,Step.refl _ _⟩
 refine Ad (fun h=> ?_) (fun h=> ?_) h
 exact⟨h,o,Step.refl _ _⟩
 refine Ad (fun h=> ?_) (fun h=> ?_) h
 exact⟨h,o,Step.refl _ _⟩
 refine Ad (fun h=> ?_) (fun h=> ?_) h
 exact⟨h,o,Step.refl _ _⟩
 refine Ad (fun h=> ?_) (fun h=> ?_) h
 exact⟨h,o,Step.refl _ _⟩
 refine Ad (fun h=> ?_) (fun h=> ?_) h
 exact⟨h,o,Step.refl _ _⟩
 refine Ad (fun h=> ?_) (fun h=> ?_) h
 exact⟨h,o,Step.refl _ _⟩
 refine Ad (fun h=> ?_) (fun h=> ?_) h
 exact⟨h,o,Step.refl _ _⟩
 exact⟨h,o,Step.refl _ _⟩
 rintro _ x w1 ⟨hJ,o,st⟩
 have h:=h2 x hJ
 refine Ad (fun h=> ?_) (fun h=> ?_) h
 exact⟨true,h,rfl,o.done⟩
 exact⟨false,h,rfl,o.done⟩
def Nz (xq:Aj) (K:Bool->Prop):Prop:=
 cond (xq.n==1)
 (cond (xq.op==34)
 (K true)
 (cond (xq.op==35)
 (K true)
 (K (xq.op==36))))
 (K false)
theorem Tq (xq:Aj) (K:Bool->Prop) (h:Nz xq K):F7 xq K:=by
 intro m w hm Axs Ayy
 obtain rfl:=Bv Ayy
 have o:=Mem.start hm.lt
 refine Wg _ _ _ _ _ _ _ ?_
 intro b w1 hb hw1
 obtain⟨st,o⟩:=o.dB hb hw1
 refine⟨_,(o.at 0 rfl).cell rfl,?_⟩
 refine Ad (fun h=> ?_) (fun h=> ?_) h
 refine⟨_,(o.at 0 rfl).cell rfl,?_⟩
 refine Ad (fun h=> ?_) (fun h=> ?_) h
 exact⟨true,h,rfl,o.done⟩
 refine⟨_,(o.at 0 rfl).cell rfl,?_⟩
 refine Ad (fun h=> ?_) (fun h=> ?_) h
 exact⟨true,h,rfl,o.done⟩
 refine⟨_,(o.at 0 rfl).cell rfl,?_⟩
 exact⟨(xq.op==36),h,rfl,o.done⟩
 exact⟨false,h,rfl,o.done⟩
def Rv (n:Int) (most:Int) (ahead:List UInt8) (again:Int) (behind:List UInt8) (K:(List UInt8)->Bool->Prop):Prop:=
 cond (decide ((IntKind.i64.wrap ((IntKind.i64.wrap ((if most<n then most else n)-(ahead.length:Int)))-(behind.length:Int)))<0))
 (K [] false)
 (G9 [again] (IntKind.i64.wrap ((IntKind.i64.wrap ((if most<n then most else n)-(ahead.length:Int)))-(behind.length:Int))) (fun x=>
 ((ahead.length+(strOf x).length:Nat):Int)<=IntKind.i64.max/\
 (((ahead++(strOf x)).length+behind.length:Nat):Int)<=IntKind.i64.max/\
 K ((ahead++(strOf x))++behind) true))
theorem Y0 (n:Int) (most:Int) (ahead:List UInt8) (again:Int) (behind:List UInt8) (K:(List UInt8)->Bool->Prop) (h:Rv n most ahead again behind K):Hl n most ahead again behind K:=by
 intro m w hm
 have o:=Mem.start hm.lt
 refine Ac1 n most ahead again behind _ _ ?_
 refine Ad (fun h=> ?_) (fun h=> ?_) h
 exact⟨[],false,h,rfl,o.done⟩
 intro b w1 hb hw1
 have el:El (Cu .u8) (ms [] m) w [again] ([.int .u8 again]:List Value):=(El.cons (cs:=[.int .u8 again]) rfl (El.nil _ _ _))
 have st:=o.xL hb hw1 1 1
 have o:=o.lit hb hw1 1 1 (by decide) rfl
 have le:=(o.rowAt 0 rfl).cap
 have st1:=o.xX 0
 have f:=o.freeze (c:=(Cu .u8)) (l:=[again]) 0 rfl (fun b hb=>by simp at hb) (el.st (st.trans st1))
 have o:=o.erase 0
 refine Aa (h _ w1 (o.mn hm) _ _ le f) ?_
 rintro _ w2 ⟨x,h,⟨a,c,rfl,le1,f1⟩,ke⟩
 obtain⟨st2,o⟩:=o.dE ke
 refine⟨_,_,_,rfl,?_⟩
 refine Af9 Tryz.underlying42 Tryz.underlying5 Tryz.underlying9 f1 ⟨_,rfl,?_⟩
 refine⟨h.1,?_⟩
 have h:=And.right h
 refine⟨h.1,?_⟩
 have h:=And.right h
 exact⟨((ahead++(strOf x))++behind),true,h,rfl,o.done⟩
def Aaq (l:List Aj) (i:Int) (K:Int->(List Aj)->Prop):Prop:=
 K i l
theorem Y1 (l:List Aj) (i:Int) (K:Int->(List Aj)->Prop) (h:Aaq l i K):P4 l i K:=by
 intro m w hm lA lC Ay6 f_l
 have o:=Mem.start hm.lt
 refine Ac3 lA l.length lC i _ _ ?_
 intro b w1 hb hw1
 obtain⟨st,o⟩:=o.dB hb hw1
 intro b1 w2 hb1 hw2
 obtain⟨st1,o⟩:=o.dB hb1 hw2
 have el:=o.Baw 0 rfl (by simp)
 obtain⟨st2,o⟩:=o.dX 0
 have el1:=o.Baw 0 rfl (by simp)
 obtain⟨st3,o⟩:=o.dX 0
 exact⟨i,l,h,⟨_,_,_,_,rfl,⟨(el.st (st3.trans (Mem.Awg (ps:=[]) (m0:=m)))),rfl⟩,⟨(el1.st (Mem.Awg (ps:=[]) (m0:=m))),⟨_,_,rfl,Ay6,(f_l.st (st.trans (st1.trans (st2.trans (st3.trans (Mem.Awg (ps:=[]) (m0:=m)))))))⟩⟩⟩,o.done⟩
def Adc (l:List Aj) (i:Int) (K:Int->Prop):Prop:=
 cond (((decide (i<0))||(decide (i>=(l.length:Int)))))
 (K (l.length:Int))
 (∃(I:Int->Int->Nat->Prop),(∃n,I i 1 n)/\
 ∀(i1:Int) (ne:Int) (n:Nat),I i1 ne n->
 cond (((decide (ne>0))&&(decide (i1<(l.length:Int)))))
 (((0:Int)<=i1/\i1<(l.length:Int))/\
 ∀x,l[i1.toNat]? =some x->
 ∃n1,n1<n/\I (IntKind.i64.wrap (i1+1)) (IntKind.i64.wrap (ne+(IntKind.i64.wrap ((if(l.length:Int)<(if 0>x.kids then 0 else x.kids)then(l.length:Int)else(if 0>x.kids then 0 else x.kids))-1)))) n1)
 (K i1))
theorem Aar (l:List Aj) (i:Int) (K:Int->Prop) (h:Adc l i K):Sh l i K:=by
 intro m w hm lA lC Ay6 f_l
 have o:=Mem.start hm.lt
 refine Afl lA l.length lC i _ _ ?_
 intro _
 refine Ad (fun h=> ?_) (fun h=> ?_) h
 exact⟨(l.length:Int),h,rfl,o.done⟩
 obtain⟨I,⟨n2,h⟩,h2⟩:=h
 obtain⟨Z,hZ⟩:∃Z:Int->Int->World->Nat->Prop,Z=fun i1 ne w1 n=>I i1 ne n/\MT w m w w1 []:=⟨_,rfl⟩
 refine⟨fun i1 ne w1=>∃n,Z i1 ne w1 n,fun i1 ne w1=>Awb (Z i1 ne w1),⟨n2,?_⟩,?_⟩
 rw [hZ];exact⟨h,o,Step.refl _ _⟩
 intro _ i1 ne w1 hIZ
 obtain⟨n,hnn⟩:∃n,n=Awb (Z i1 ne w1):=⟨_,rfl⟩
 have hIZ:=C2 hIZ
 rw [←hnn,hZ]at hIZ
 obtain⟨h,o,st⟩:=hIZ
 have h:=h2 i1 ne n h
 intro _
 refine Ad (fun h=> ?_) (fun h=> ?_) h
 obtain⟨hi,h⟩:=h
 obtain⟨p,x,cs,hp,he,hc,hr⟩:=(f_l.st st).elem hi
 obtain rfl:=Bv hr
 have h:=h x he
 refine⟨hi,An hp ?_⟩
 refine⟨_,hc.2 3 (Nat.le_of_ble_eq_true rfl),?_⟩
 obtain⟨n1,hl,h⟩:=h
 exact B8 hnn (show Z _ _ w1 n1 from(by rw [hZ];exact⟨h,o,st⟩)) hl
 exact⟨i1,h,rfl,o.done⟩
def F8 (sx:List Int) (K:(List Int)->Prop):Prop:=
 ∃(I:Int->Int->(List Int)->Nat->Prop),(∃n,I 0 (IntKind.i64.wrap ((sx.length:Int)-1)) sx n)/\
 ∀(i:Int) (j:Int) (l:List Int) (n:Nat),I i j l n->
 cond (decide (i<j))
 (∃(J:(List Int)->Prop),
 (((0:Int)<=j/\j<(sx.length:Int))/\
 ∀x,l[j.toNat]? =some x->
 ((0:Int)<=i/\i<(sx.length:Int))/\
 ∀x1,l[i.toNat]? =some x1->
 ((0:Int)<=i/\i<(sx.length:Int))/\
 ∀x2,l[i.toNat]? =some x2->
 ((0:Int)<=j/\j<(sx.length:Int))/\
 ∀x3,(l.set i.toNat x)[j.toNat]? =some x3->
 J ((l.set i.toNat x).set j.toNat x1))/\
 ∀(l1:List Int),J l1->
 ∃n1,n1<n/\I (IntKind.i64.wrap (i+1)) (IntKind.i64.wrap (j-1)) l1 n1)
 (K l)
theorem Ke (sx:List Int) (K:(List Int)->Prop) (h:F8 sx K):En sx K:=by
 intro m w hm sxA sxC Bdo Aw6 sxT Ay5 Bkw Ch7 Byi Byj
 have o:=Mem.Bhx hm.lt Byi
 have st:=Mem.Cbk (w:=w) (xs:=Bdo) (rest:=Aw6) (T:=sxT) (fz:=Ay5) Bkw
 have hrm:∀b∈(Vc.blk sxA).toList,b∈m:=fun b hb=>Bkw b (Option.mem_toList.1 hb)
 refine K3 sxA sx.length sxC _ _ ?_
 obtain⟨I,⟨n2,h⟩,h2⟩:=h
 obtain⟨Z,hZ⟩:∃Z:Int->Int->World->Nat->Prop,Z=fun i j w1 n=>∃(l:List Int) (xs:List Value),I i j l n/\(sx.length=l.length/\El (Cu .u8) (ms [.win sxA xs Aw6 sxT Ay5] m) w1 l xs)/\Mem w.heap.size (Vc.blk sxA).toList m [((Vc.blk sxA).toList,w.heap.size,w)] [] w1 [.win sxA xs Aw6 sxT Ay5]/\Step (ms [.win sxA Bdo Aw6 sxT Ay5] m) w (ms [.win sxA xs Aw6 sxT Ay5] m) w1:=⟨_,rfl⟩
 refine⟨fun i j w1=>∃n,Z i j w1 n,fun i j w1=>Awb (Z i j w1),⟨n2,?_⟩,?_⟩
 rw [hZ];exact⟨sx,Bdo,h,⟨rfl,(Byj.st st)⟩,o,Step.refl _ _⟩
 intro _ i j w1 hIZ
 obtain⟨n,hnn⟩:∃n,n=Awb (Z i j w1):=⟨_,rfl⟩
 have hIZ:=C2 hIZ
 rw [←hnn,hZ]at hIZ
 obtain⟨l,xs,h,⟨ln,el⟩,o,st1⟩:=hIZ
 have h:=h2 i j l n h
 refine Ad (fun h=> ?_) (fun h=> ?_) h
 obtain⟨J,h,h2⟩:=h
 refine⟨fun w2=>∃(l1:List Int) (xs1:List Value),J l1/\(sx.length=l1.length/\El (Cu .u8) (ms [.win sxA xs1 Aw6 sxT Ay5] m) w2 l1 xs1)/\Mem w.heap.size (Vc.blk sxA).toList m [((Vc.blk sxA).toList,w.heap.size,w)] [] w2 [.win sxA xs1 Aw6 sxT Ay5]/\Step (ms [.win sxA xs Aw6 sxT Ay5] m) w1 (ms [.win sxA xs1 Aw6 sxT Ay5] m) w2,?_,?_⟩
 intro w3 hw3
 obtain⟨st3,o⟩:=o.dD hw3
 obtain⟨hi,h⟩:=h
 obtain⟨p,x,cs,hp,he,hc,hr⟩:=Tl (o.Ay2 0 rfl) (el.st st3) (by rw [←ln];exact hi)
 obtain rfl:=hr
 have h:=h x he
 refine⟨hi,An hp ?_⟩
 refine⟨_,(Ae.head hc.2),?_⟩
 obtain⟨hi1,h⟩:=h
 obtain⟨p1,x1,cs1,hp1,he1,hc1,hr1⟩:=Tl (o.Ay2 0 rfl) (el.st st3) (by rw [←ln];exact hi1)
 obtain rfl:=hr1
 have h:=h x1 he1
 refine⟨hi1,An hp1 ?_⟩
 refine⟨_,(Ae.head hc1.2),?_⟩
 obtain⟨hi2,h⟩:=h
 obtain⟨p2,x2,cs2,hp2,he2,hc2,hr2⟩:=Tl (o.Ay2 0 rfl) (el.st st3) (by rw [←ln];exact hi2)
 obtain rfl:=hr2
 have h:=h x2 he2
 refine⟨hi2,An hp2 ?_⟩
 have hq:=Af7 (i:=i.toNat) (o.Ay2 0 rfl) (el.st st3) hp2 (by have:=ln;have:=hi2;first|omega|(simp at*;omega)) (.int .u8 x) rfl
 refine⟨hq.1,fun w4 hw4=> ?_⟩
 obtain⟨xs2,hr3,hg,hel⟩:=hq.2 _ hw4
 have el2:=hel x rfl
 have st4:=Mem.Bhy (ps:=[.win sxA xs Aw6 sxT Ay5]) (m0:=m) (xs':=xs2) 0 rfl hg
 have o:=o.Bln 0 rfl hr3 hg
 have ln2:sx.length=(l.set i.toNat x).length:=(by have:=ln;simp at this⊢;omega)
 obtain⟨hi3,h⟩:=h
 obtain⟨p3,x3,cs3,hp3,he3,hc3,hr4⟩:=Tl (o.Ay2 0 rfl) (el2.st st4) (by rw [←ln2];exact hi3)
 obtain rfl:=hr4
 have h:=h x3 he3
 refine⟨hi3,An hp3 ?_⟩
 have hq1:=Af7 (i:=j.toNat) (o.Ay2 0 rfl) (el2.st st4) hp3 (by have:=ln2;have:=hi3;first|omega|(simp at*;omega)) (.int .u8 x1) rfl
 refine⟨hq1.1,fun w5 hw5=> ?_⟩
 obtain⟨xs3,hr5,hg1,Ce3⟩:=hq1.2 _ hw5
 have el3:=Ce3 x1 rfl
 have st5:=Mem.Bhy (ps:=[.win sxA xs2 Aw6 sxT Ay5]) (m0:=m) (xs':=xs3) 0 rfl hg1
 have o:=o.Bln 0 rfl hr5 hg1
 have ln3:sx.length=((l.set i.toNat x).set j.toNat x1).length:=(by have:=ln2;simp at this⊢;omega)
 have sT:=(st3.trans st4).trans st5
 exact⟨((l.set i.toNat x).set j.toNat x1),xs3,h,⟨ln3,(el3.st st5)⟩,o,sT⟩
 rintro _ w2 ⟨l1,xs1,hJ,⟨ln1,el1⟩,o,st2⟩
 have h:=h2 l1 hJ
 obtain⟨n1,hl,h⟩:=h
 exact B8 hnn (show Z _ _ w2 n1 from(by rw [hZ];exact⟨l1,xs1,h,⟨ln1,el1⟩,o,(st1.trans st2)⟩)) hl
 exact⟨l,h,trivial,⟨_,o.Ay2 0 rfl,(by rw [El.len (el.st Mem.Awg),El.len Byj,←ln]),(el.st Mem.Awg)⟩,o.done⟩
def Y2 (sx:List UInt8) (K:Bool->Prop):Prop:=
 cond (!(sx==[]))
 (cond (decide ((sx.length:Int)<=16))
 (((0:Int)<=0/\0<(sx.length:Int))/\
 Jz ((sx.getD 0 0).toNat:Int) (fun x=>
 cond (x)
 (Fv sx (fun x1=>
 cond (x1==sx)
 (Oo sx (fun x2=>
 K (!x2)))
 (K false)))
 (K false)))
 (K false))
 (K false)
theorem W8 (sx:List UInt8) (K:Bool->Prop) (h:Y2 sx K):On sx K:=by
 intro m w hm
 have o:=Mem.start hm.lt
 refine Aab sx _ _ ?_
 refine Ad (fun h=> ?_) (fun h=> ?_) h
 refine Ad (fun h=> ?_) (fun h=> ?_) h
 refine⟨h.1,?_⟩
 have h:=And.right h
 refine Aa (h _ w (o.mn hm)) ?_
 rintro _ w1 ⟨x,h,rfl,ke⟩
 obtain⟨st,o⟩:=o.dE ke
 refine⟨_,rfl,?_⟩
 refine Ad (fun h=> ?_) (fun h=> ?_) h
 refine Aa (h _ w1 (o.mn hm)) ?_
 rintro _ w2 ⟨x1,h,rfl,ke1⟩
 obtain⟨st1,o⟩:=o.dE ke1
 refine⟨_,rfl,?_⟩
 refine Ad (fun h=> ?_) (fun h=> ?_) h
 refine Aa (h _ w2 (o.mn hm)) ?_
 rintro _ w3 ⟨x2,h,rfl,ke2⟩
 obtain⟨st2,o⟩:=o.dE ke2
 refine⟨_,rfl,?_⟩
 exact⟨(!x2),h,rfl,o.done⟩
 exact⟨false,h,rfl,o.done⟩
 exact⟨false,h,rfl,o.done⟩
 exact⟨false,h,rfl,o.done⟩
 exact⟨false,h,rfl,o.done⟩
end Go.Proofs.YtcakelelfklhdaaGreatDoor
