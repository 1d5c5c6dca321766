/- A part of the proof: conditions of the code, contracts, the plain law. -/
import Derived.Test.YtcakelelfklhdaaGreatDoorM6
import Derived.Test.YtcakelelfklhdaaGreatDoorM2
import Derived.Test.YtcakelelfklhdaaGreatDoorM7
import Derived.Ground.NamesProg
import Derived.Shelf.Strings.OnBuilder
import Derived.Shelf.Strings.Repeat
import Derived.Shelf.Strconv.Itoa3
import Derived.Test.YtcakelelfklhdaaGreatDoorProg
import Derived.Test.YtcakelelfklhdaaGreatDoorRows
import Derived.Test.YtcakelelfklhdaaGreatDoorVcF
import Derived.Maps.RangeRun
namespace Go.Proofs
open Go.Shelf
def Tryz.lays169_ren:Go.Shelf.Ren:=⟨fun|169=>16|n=>n,fun|70=>41|9=>9|0=>0|72=>44|37=>42|127=>77|3=>3|5=>5|n=>n,fun|n=>n⟩
theorem Tryz.lays169:Go.Proofs.Lays.n169 Tryz.prog Tryz.lays169_ren:= {
 mixed:=by kernel_rfl
 f169:=Tryz.func16.trans (congrArg some (by kernel_rfl))
 t0:=Tryz.underlying0
 a0:=Tryz.isAgg0
 z0:=Tryz.sizeOf0
 v0:=Tryz.zeroValue0
 t3:=Tryz.underlying3
 a3:=Tryz.isAgg3
 z3:=Tryz.sizeOf3
 v3:=Tryz.zeroValue3
 t9:=Tryz.underlying9
 a9:=Tryz.isAgg9
 z9:=Tryz.sizeOf9
 v9:=Tryz.zeroValue9
 t37:=Tryz.underlying42
 a37:=Tryz.isAgg42
 z37:=Tryz.sizeOf42
 v37:=Tryz.zeroValue42
 t70:=Tryz.underlying41
 a70:=Tryz.isAgg41
 z70:=Tryz.sizeOf41
 v70:=Tryz.zeroValue41
 t72:=Tryz.underlying44
 a72:=Tryz.isAgg44
 z72:=Tryz.sizeOf44
 v72:=Tryz.zeroValue44
 t127:=Tryz.underlying77
 a127:=Tryz.isAgg77
 z127:=Tryz.sizeOf77
 v127:=Tryz.zeroValue77 }
def Tryz.lays156_ren:Go.Shelf.Ren:=⟨fun|156=>32|165=>62|166=>57|169=>16|240=>83|241=>91|276=>96|277=>104|n=>n,fun|31=>74|9=>9|3=>3|4=>4|0=>0|20=>20|72=>44|76=>99|70=>41|37=>42|75=>98|127=>77|164=>129|5=>5|80=>50|n=>n,fun|n=>n⟩
theorem Tryz.lays156:Go.Proofs.Lays.n156 Tryz.prog Tryz.lays156_ren:= {
 mixed:=by kernel_rfl
 f156:=Tryz.func32.trans (congrArg some (by kernel_rfl))
 f165:=Tryz.func62.trans (congrArg some (by kernel_rfl))
 f166:=Tryz.func57.trans (congrArg some (by kernel_rfl))
 f169:=Tryz.func16.trans (congrArg some (by kernel_rfl))
 f240:=Tryz.func83.trans (congrArg some (by kernel_rfl))
 f241:=Tryz.func91.trans (congrArg some (by kernel_rfl))
 f276:=Tryz.func96.trans (congrArg some (by kernel_rfl))
 f277:=Tryz.func104.trans (congrArg some (by kernel_rfl))
 t0:=Tryz.underlying0
 a0:=Tryz.isAgg0
 z0:=Tryz.sizeOf0
 v0:=Tryz.zeroValue0
 t3:=Tryz.underlying3
 a3:=Tryz.isAgg3
 z3:=Tryz.sizeOf3
 v3:=Tryz.zeroValue3
 t4:=Tryz.underlying4
 a4:=Tryz.isAgg4
 z4:=Tryz.sizeOf4
 v4:=Tryz.zeroValue4
 t9:=Tryz.underlying9
 a9:=Tryz.isAgg9
 z9:=Tryz.sizeOf9
 v9:=Tryz.zeroValue9
 t20:=Tryz.underlying20
 a20:=Tryz.isAgg20
 z20:=Tryz.sizeOf20
 v20:=Tryz.zeroValue20
 t31:=Tryz.underlying74
 a31:=Tryz.isAgg74
 z31:=Tryz.sizeOf74
 v31:=Tryz.zeroValue74
 t37:=Tryz.underlying42
 a37:=Tryz.isAgg42
 z37:=Tryz.sizeOf42
 v37:=Tryz.zeroValue42
 t70:=Tryz.underlying41
 a70:=Tryz.isAgg41
 z70:=Tryz.sizeOf41
 v70:=Tryz.zeroValue41
 t72:=Tryz.underlying44
 a72:=Tryz.isAgg44
 z72:=Tryz.sizeOf44
 v72:=Tryz.zeroValue44
 t75:=Tryz.underlying98
 a75:=Tryz.isAgg98
 z75:=Tryz.sizeOf98
 v75:=Tryz.zeroValue98
 t76:=Tryz.underlying99
 a76:=Tryz.isAgg99
 z76:=Tryz.sizeOf99
 v76:=Tryz.zeroValue99
 t127:=Tryz.underlying77
 a127:=Tryz.isAgg77
 z127:=Tryz.sizeOf77
 v127:=Tryz.zeroValue77
 t164:=Tryz.underlying129
 a164:=Tryz.isAgg129
 z164:=Tryz.sizeOf129
 v164:=Tryz.zeroValue129 }
def Tryz.lays105_ren:Go.Shelf.Ren:=⟨fun|105=>58|212=>84|99=>85|165=>62|166=>57|170=>86|169=>16|263=>97|264=>98|206=>99|240=>83|241=>91|276=>96|277=>104|n=>n,fun|9=>9|3=>3|4=>4|20=>20|0=>0|46=>119|109=>120|5=>5|72=>44|76=>99|51=>131|146=>132|53=>134|148=>135|70=>41|37=>42|75=>98|127=>77|164=>129|80=>50|n=>n,fun|n=>n⟩
theorem Tryz.lays105:Go.Proofs.Lays.n105 Tryz.prog Tryz.lays105_ren:= {
 mixed:=by kernel_rfl
 f99:=Tryz.func85.trans (congrArg some (by kernel_rfl))
 f105:=Tryz.func58.trans (congrArg some (by kernel_rfl))
 f165:=Tryz.func62.trans (congrArg some (by kernel_rfl))
 f166:=Tryz.func57.trans (congrArg some (by kernel_rfl))
 f169:=Tryz.func16.trans (congrArg some (by kernel_rfl))
 f170:=Tryz.func86.trans (congrArg some (by kernel_rfl))
 f206:=Tryz.func99.trans (congrArg some (by kernel_rfl))
 f212:=Tryz.func84.trans (congrArg some (by kernel_rfl))
 f240:=Tryz.func83.trans (congrArg some (by kernel_rfl))
 f241:=Tryz.func91.trans (congrArg some (by kernel_rfl))
 f263:=Tryz.func97.trans (congrArg some (by kernel_rfl))
 f264:=Tryz.func98.trans (congrArg some (by kernel_rfl))
 f276:=Tryz.func96.trans (congrArg some (by kernel_rfl))
 f277:=Tryz.func104.trans (congrArg some (by kernel_rfl))
 t0:=Tryz.underlying0
 a0:=Tryz.isAgg0
 z0:=Tryz.sizeOf0
 v0:=Tryz.zeroValue0
 t3:=Tryz.underlying3
 a3:=Tryz.isAgg3
 z3:=Tryz.sizeOf3
 v3:=Tryz.zeroValue3
 t4:=Tryz.underlying4
 a4:=Tryz.isAgg4
 z4:=Tryz.sizeOf4
 v4:=Tryz.zeroValue4
 t5:=Tryz.underlying5
 a5:=Tryz.isAgg5
 z5:=Tryz.sizeOf5
 v5:=Tryz.zeroValue5
 t9:=Tryz.underlying9
 a9:=Tryz.isAgg9
 z9:=Tryz.sizeOf9
 v9:=Tryz.zeroValue9
 t20:=Tryz.underlying20
 a20:=Tryz.isAgg20
 z20:=Tryz.sizeOf20
 v20:=Tryz.zeroValue20
 t37:=Tryz.underlying42
 a37:=Tryz.isAgg42
 z37:=Tryz.sizeOf42
 v37:=Tryz.zeroValue42
 t46:=Tryz.underlying119
 a46:=Tryz.isAgg119
 z46:=Tryz.sizeOf119
 v46:=Tryz.zeroValue119
 t51:=Tryz.underlying131
 a51:=Tryz.isAgg131
 z51:=Tryz.sizeOf131
 v51:=Tryz.zeroValue131
 t53:=Tryz.underlying134
 a53:=Tryz.isAgg134
 z53:=Tryz.sizeOf134
 v53:=Tryz.zeroValue134
 t70:=Tryz.underlying41
 a70:=Tryz.isAgg41
 z70:=Tryz.sizeOf41
 v70:=Tryz.zeroValue41
 t72:=Tryz.underlying44
 a72:=Tryz.isAgg44
 z72:=Tryz.sizeOf44
 v72:=Tryz.zeroValue44
 t75:=Tryz.underlying98
 a75:=Tryz.isAgg98
 z75:=Tryz.sizeOf98
 v75:=Tryz.zeroValue98
 t76:=Tryz.underlying99
 a76:=Tryz.isAgg99
 z76:=Tryz.sizeOf99
 v76:=Tryz.zeroValue99
 t109:=Tryz.underlying120
 a109:=Tryz.isAgg120
 z109:=Tryz.sizeOf120
 v109:=Tryz.zeroValue120
 t127:=Tryz.underlying77
 a127:=Tryz.isAgg77
 z127:=Tryz.sizeOf77
 v127:=Tryz.zeroValue77
 t146:=Tryz.underlying132
 a146:=Tryz.isAgg132
 z146:=Tryz.sizeOf132
 v146:=Tryz.zeroValue132
 t148:=Tryz.underlying135
 a148:=Tryz.isAgg135
 z148:=Tryz.sizeOf135
 v148:=Tryz.zeroValue135
 t164:=Tryz.underlying129
 a164:=Tryz.isAgg129
 z164:=Tryz.sizeOf129
 v164:=Tryz.zeroValue129 }
def Tryz.laysM171_ren:Go.Shelf.Ren:=⟨fun|171=>30|243=>59|246=>87|283=>100|284=>101|285=>102|286=>103|129=>109|317=>108|318=>110|319=>111|320=>112|337=>119|338=>120|n=>n,fun|3=>3|9=>9|2=>2|4=>4|171=>137|0=>0|53=>134|37=>42|5=>5|173=>140|212=>144|51=>131|20=>20|213=>145|46=>119|232=>152|233=>153|n=>n,fun|17=>0|18=>2|19=>3|n=>n⟩
theorem Tryz.laysM171:Go.Proofs.LaysM.n171 Tryz.prog Tryz.laysM171_ren:= {
 mixed:=by kernel_rfl
 f129:=Tryz.func109.trans (congrArg some (by kernel_rfl))
 f171:=Tryz.func30.trans (congrArg some (by kernel_rfl))
 f243:=Tryz.func59.trans (congrArg some (by kernel_rfl))
 f246:=Tryz.func87.trans (congrArg some (by kernel_rfl))
 f283:=Tryz.func100.trans (congrArg some (by kernel_rfl))
 f284:=Tryz.func101.trans (congrArg some (by kernel_rfl))
 f285:=Tryz.func102.trans (congrArg some (by kernel_rfl))
 f286:=Tryz.func103.trans (congrArg some (by kernel_rfl))
 f317:=Tryz.func108.trans (congrArg some (by kernel_rfl))
 f318:=Tryz.func110.trans (congrArg some (by kernel_rfl))
 f319:=Tryz.func111.trans (congrArg some (by kernel_rfl))
 f320:=Tryz.func112.trans (congrArg some (by kernel_rfl))
 f337:=Tryz.func119.trans (congrArg some (by kernel_rfl))
 f338:=Tryz.func120.trans (congrArg some (by kernel_rfl))
 t0:=Tryz.underlying0
 a0:=Tryz.isAgg0
 z0:=Tryz.sizeOf0
 v0:=Tryz.zeroValue0
 t2:=Tryz.underlying2
 a2:=Tryz.isAgg2
 z2:=Tryz.sizeOf2
 v2:=Tryz.zeroValue2
 t3:=Tryz.underlying3
 a3:=Tryz.isAgg3
 z3:=Tryz.sizeOf3
 v3:=Tryz.zeroValue3
 t4:=Tryz.underlying4
 a4:=Tryz.isAgg4
 z4:=Tryz.sizeOf4
 v4:=Tryz.zeroValue4
 t5:=Tryz.underlying5
 a5:=Tryz.isAgg5
 z5:=Tryz.sizeOf5
 v5:=Tryz.zeroValue5
 t9:=Tryz.underlying9
 a9:=Tryz.isAgg9
 z9:=Tryz.sizeOf9
 v9:=Tryz.zeroValue9
 t20:=Tryz.underlying20
 a20:=Tryz.isAgg20
 z20:=Tryz.sizeOf20
 v20:=Tryz.zeroValue20
 t37:=Tryz.underlying42
 a37:=Tryz.isAgg42
 z37:=Tryz.sizeOf42
 v37:=Tryz.zeroValue42
 t46:=Tryz.underlying119
 a46:=Tryz.isAgg119
 z46:=Tryz.sizeOf119
 v46:=Tryz.zeroValue119
 t51:=Tryz.underlying131
 a51:=Tryz.isAgg131
 z51:=Tryz.sizeOf131
 v51:=Tryz.zeroValue131
 t53:=Tryz.underlying134
 a53:=Tryz.isAgg134
 z53:=Tryz.sizeOf134
 v53:=Tryz.zeroValue134
 t171:=Tryz.underlying137
 a171:=Tryz.isAgg137
 z171:=Tryz.sizeOf137
 v171:=Tryz.zeroValue137
 t173:=Tryz.underlying140
 a173:=Tryz.isAgg140
 z173:=Tryz.sizeOf140
 v173:=Tryz.zeroValue140
 t212:=Tryz.underlying144
 a212:=Tryz.isAgg144
 z212:=Tryz.sizeOf144
 v212:=Tryz.zeroValue144
 t213:=Tryz.underlying145
 a213:=Tryz.isAgg145
 z213:=Tryz.sizeOf145
 t232:=Tryz.underlying152
 a232:=Tryz.isAgg152
 z232:=Tryz.sizeOf152
 v232:=Tryz.zeroValue152
 t233:=Tryz.underlying153
 a233:=Tryz.isAgg153
 z233:=Tryz.sizeOf153
 v233:=Tryz.zeroValue153
 g17:=by kernel_rfl
 g18:=by kernel_rfl
 g19:=by kernel_rfl
 i0:=by kernel_rfl
 i2:=by kernel_rfl
 i3:=by kernel_rfl
 i4:=by kernel_rfl
 i5:=by kernel_rfl
 i9:=by kernel_rfl
 i20:=by kernel_rfl
 i37:=by kernel_rfl
 i46:=by kernel_rfl
 i51:=by kernel_rfl
 i53:=by kernel_rfl
 i171:=by kernel_rfl
 i173:=by kernel_rfl
 i212:=by kernel_rfl
 i232:=by kernel_rfl
 i233:=by kernel_rfl
 m17:=by kernel_rfl
 m18:=by kernel_rfl
 m19:=by kernel_rfl }
end Go.Proofs
namespace Go.Proofs.YtcakelelfklhdaaGreatDoor
open Go.Vc
def Gc (b:Addr) (s:List UInt8) (K:Value->World->Prop) (w:World):Prop:=
 Calls Tryz.prog 83 #[.pointer (some b)] w (Ret fun _v w1=>
 ∃(xA:Option Addr) (xN:Nat) (xC:Nat),w1.cell? (b.add 1)=some (.slice xA xN xC)/\
 Bl Tryz.prog (Builtin.append_ #[42,9] 42 #[.slice xA xN xC,.string (mkS s)]) (fun v1 w2=>
 ∃(xA1:Option Addr) (xN1:Nat) (xC1:Nat),v1= .slice xA1 xN1 xC1/\
 Ah w2 (b.add 1) 1/\∀w3:World,w3=w2.setCell (b.add 1) (.slice xA1 xN1 xC1)->
 K (.tuple #[.int .i64 (s.length:Int),.nilIface]) w3) w1)
theorem Ku (b:Addr) (s:List UInt8) (K:Value->World->Prop) (w:World) (h:Gc b s K w):Calls Tryz.prog 57 #[.pointer (some b),.string (mkS s)] w (Ret K):=
 Ao {} Tryz.func57 (by kernel_rfl) h
end Go.Proofs.YtcakelelfklhdaaGreatDoor
namespace Go.Proofs.YtcakelelfklhdaaGreatDoor
open Go.Vc Go.Lv Go.Ty
theorem Auz:Builder.X72 Tryz.prog Tryz.lays156_ren where
 sizeBuilder:=by kernel_rfl
 liesBuilder:=by kernel_rfl
theorem Aei:Builder.Extra Tryz.prog Tryz.lays169_ren where
 sizeBuilder:=by kernel_rfl
 liesBuilder:=by kernel_rfl
 t5:=Tryz.underlying5
 a5:=Tryz.isAgg5
 z5:=Tryz.sizeOf5
 v5:=Tryz.zeroValue5
 infoByte:=by kernel_rfl
 cellsByte:=by kernel_rfl
 sizeByte:=by kernel_rfl
 neB5:=by decide
theorem Ate {w:World} {b:Nat} {c0 p v d:Value} (hB:Box w b [c0,p,v,d]) (hp:Hv 1 b p) (hd:V6 p=true) (K:Value->World->Prop)
 (h:∀w',Box w' b [c0,.pointer (some ⟨b,1,none⟩),v,d]->Am [b] w w'->K (.tuple #[]) w'):Calls Tryz.prog 83 #[.pointer (some ⟨b,1,none⟩)] w (Ret K):=by
 obtain⟨T,hT,hg⟩:=hB
 rcases hp with rfl|rfl
 ·obtain rfl:=hg rfl rfl
  have hc:=Aeh (show Lays.n240 Tryz.prog Tryz.lays156_ren from { Tryz.lays156 with }) Auz b w (T:=46) (by simp [World.cell?,hT]) (by simp [World.shape?,hT]) (by simp [World.frozen?,hT]) (by kernel_rfl)
  change Calls Tryz.prog 83 _ _ _ at hc
  refine hc.mono ?_
  rintro e w' ⟨rfl,rfl⟩
  refine h _ ⟨_,by rw [heap_setCell,if_pos rfl,hT];rfl,fun _ _=>rfl⟩ ⟨rfl,rfl,rfl,by simp [World.setCell],fun k _ hm=> ?_⟩
  rw [heap_setCell,if_neg (fun e=>hm (by simp [e]))]
 ·have hc:=Ag5 (show Lays.n240 Tryz.prog Tryz.lays156_ren from { Tryz.lays156 with }) Auz b w (by simp [World.cell?,hT])
  change Calls Tryz.prog 83 _ _ _ at hc
  refine hc.mono ?_
  rintro e w' ⟨rfl,rfl⟩
  exact h _ ⟨T,hT,hg⟩ ((Am.refl _ _))
theorem Aqn (q:Ab) (s:List UInt8) (hs:q.b.buf.length+s.length<2^32) (K:Int->Value->Ab->Prop)
 (h:∀ad,K s.length .nilIface ⟨q.l,⟨ad,q.b.buf++B7 s⟩,q.deep⟩):Fk q s K:=by
 intro m w hm b A C xs A0 C0 hb hA Bm4 hrw hel hle hsl hsp
 refine Ku ⟨b,1,none⟩ s _ w ?_
 unfold Gc
 refine Ate Bm4 hsp (by rcases hsp with h|h<;>rw [h]<;>rfl) _ fun w1 hb1 k1=> ?_
 have hA1:∀k,Vc.blk A=some k->w1.heap[k]? =w.heap[k]? :=fun k hk=>k1.block k (hm.lt _ (hA k hk).1) (by simp [(hA k hk).2])
 have hr1:=hrw.kept hA1
 refine⟨A,q.b.buf.length,C,by rw [F6];exact hb1.cell rfl,?_⟩
 refine Aim (base:=0) Asu Tryz.underlying5 (fun i hi=> ?_) Tryz.underlying9 hr1 hs (Nat.zero_le _) fun a' c' w2 hr2 hg2 hat=> ?_
 ·have:(Tryz.prog.info? 5).map (·.zero)=some (some (.int .u8 0)):=by kernel_rfl
  rw [hi]at this;simpa using this
 have hne:some b≠Vc.blk A:=fun e=>(hA b e.symm).2 rfl
 have hb2:Box w2 b [.slice A0 q.l.length C0,.pointer (some ⟨b,1,none⟩),.slice A q.b.buf.length C,.int .i64 q.deep]:=by
  obtain⟨T,hT,hg⟩:=hb1
  exact⟨T,by rw [hg2.block b (Array.getElem?_eq_some_iff.1 hT).1 hne];exact hT,hg⟩
 refine⟨a',_,c',rfl,?_,fun w3 hw3=> ?_⟩
 ·rw [F6];exact hb2.Az9 (i:=1+1) (n:=1) (by simp)
 have hbs:∀k,Vc.blk a'=some k->k≠b:=fun k hk=>by
  rcases hat with e|e
  ·rw [e]at hk;exact(hA k hk).2
  ·rw [e]at hk;cases hk;exact fun e=>Nat.lt_irrefl _ (e▸hb1.lt)
 rw [F6]at hw3
 have hb3:=hb2.set (i:=1+1) hw3
 have hr3:=hr2.kept (w':=w3) fun k hk=>by rw [hw3,heap_setCell,if_neg (fun e=>hbs k hk e.symm)]
 have k2:Am (b::(Vc.blk A).toList) w w2:=Nw (k1.mono (by simp)) hg2 fun k hk=> .inl (by simp [hk])
 have k3:Am (b::(Vc.blk A).toList) w w3:=by
  subst hw3
  refine⟨k2.os,k2.tape,k2.output,by simpa [World.setCell] using k2.size,fun k hk hn=> ?_⟩
  rw [heap_setCell,if_neg (fun e=>hn (by simp [e]))];exact k2.block k hk hn
 refine⟨_,_,_,h (.pointer (some ⟨b,1,none⟩)),rfl,⟨a',c',xs++(B7 s).map fun n=>Value.int .u8 n,?_,?_,?_,fun k hk=> ?_,.inr rfl⟩,k3⟩
 ·have e:(q.b.buf++B7 s).length=q.b.buf.length+s.length:=by simp [B7]
  show Box w3 b [_,_,.slice a' (q.b.buf++B7 s).length c',_]
  rw [e];exact hb3
 ·have e:(q.b.buf++B7 s).length=q.b.buf.length+s.length:=by simp [B7]
  show Rw w3 0 5 1 a' (q.b.buf++B7 s).length c' _
  rw [e];exact hr3
 ·rw [Xn hel,←List.map_append];exact Tp _ _ _
 ·rcases hat with e|e
  ·exact .inl (by rw [e]at hk;simp [hk])
  ·rw [e]at hk;cases hk;exact .inr k1.size
theorem Au0 (q:Ab) (s:List UInt8) (hq:q.b.buf=B7 s) (K:List UInt8->Prop) (h:K s):G8 q K:=by
 intro m w hm b A C xs A0 C0 hb hA Bm4 hrw hel hle hsl hsp
 obtain⟨T,hT,hg⟩:=Bm4
 have hxs:=Xn hel
 rw [hq]at hrw hxs hT
 have hlen:(B7 s).length=s.length:=by simp [B7]
 rw [hlen]at hrw hT
 subst hxs
 have hbc:Lib.byteCells s=(B7 s).map fun n=>Value.int .u8 n:=by simp [Lib.byteCells,B7]
 rcases hrw.2 with⟨hv,h0⟩|⟨g,cap,cur,hv,_,hh,hn,Blo,hsz,ht⟩
 ·obtain rfl:s=[]:=List.eq_nil_of_length_eq_zero h0
  obtain⟨rfl,rfl⟩:A=none/\C=0:=by simpa using hv
  have hc:=Anp Tryz.lays169 Aei b T _ _ _ w hT
  change Calls Tryz.prog 16 _ _ _ at hc
  refine hc.mono ?_
  rintro e w' ⟨rfl,k⟩
  exact⟨_,h,rfl,k.mono (by simp)⟩
 ·cases hv
  by_cases h0:s=[]
  ·subst h0
   by_cases hc0:C=0
   ·subst hc0
    have hc:=Ag6 Tryz.lays169 Aei b g T _ _ _ cur w hT hh
    change Calls Tryz.prog 16 _ _ _ at hc
    refine hc.mono ?_
    rintro e w' ⟨rfl,k⟩
    exact⟨_,h,rfl,k.mono (by simp)⟩
   ·have hc:=Alq Tryz.lays169 Aei b g C T _ _ _ w hc0 hT
    change Calls Tryz.prog 16 _ _ _ at hc
    refine hc.mono ?_
    rintro e w' ⟨rfl,k⟩
    exact⟨_,h,rfl,k.mono (by simp)⟩
  ·have hc:=Alp Tryz.lays169 Aei b g C T _ _ _ cur s w hT hh hn Blo hsz (by rw [hbc];exact ht) h0
   change Calls Tryz.prog 16 _ _ _ at hc
   refine hc.mono ?_
   rintro e w' ⟨rfl,k⟩
   exact⟨_,h,rfl,k.mono (by simp [Vc.blk])⟩
end Go.Proofs.YtcakelelfklhdaaGreatDoor
namespace Go.Proofs.YtcakelelfklhdaaGreatDoor
open Go.Vc
def Zi (K:Value->World->Prop) (w:World):Prop:=
 ∀(b:Nat) (w1:World),b=w.heap.size->w1=w.alloc (.map #[] 0)->
 Bl Tryz.prog (Instr.mapUpdate 115 (.map (some b)) (.string (mkS [124,124])) (.int .i64 17)) (fun _ w2=>
 Bl Tryz.prog (Instr.mapUpdate 115 (.map (some b)) (.string (mkS [38,38])) (.int .i64 16)) (fun _ w3=>
 Bl Tryz.prog (Instr.mapUpdate 115 (.map (some b)) (.string (mkS [61,61])) (.int .i64 10)) (fun _ w4=>
 Bl Tryz.prog (Instr.mapUpdate 115 (.map (some b)) (.string (mkS [33,61])) (.int .i64 11)) (fun _ w5=>
 Bl Tryz.prog (Instr.mapUpdate 115 (.map (some b)) (.string (mkS [60])) (.int .i64 12)) (fun _ w6=>
 Bl Tryz.prog (Instr.mapUpdate 115 (.map (some b)) (.string (mkS [60,61])) (.int .i64 13)) (fun _ w7=>
 Bl Tryz.prog (Instr.mapUpdate 115 (.map (some b)) (.string (mkS [62])) (.int .i64 14)) (fun _ w8=>
 Bl Tryz.prog (Instr.mapUpdate 115 (.map (some b)) (.string (mkS [62,61])) (.int .i64 15)) (fun _ w9=>
 Bl Tryz.prog (Instr.mapUpdate 115 (.map (some b)) (.string (mkS [43])) (.int .i64 5)) (fun _ w10=>
 Bl Tryz.prog (Instr.mapUpdate 115 (.map (some b)) (.string (mkS [45])) (.int .i64 6)) (fun _ w11=>
 Bl Tryz.prog (Instr.mapUpdate 115 (.map (some b)) (.string (mkS [42])) (.int .i64 7)) (fun _ w12=>
 Bl Tryz.prog (Instr.mapUpdate 115 (.map (some b)) (.string (mkS [47])) (.int .i64 8)) (fun _ w13=>
 Bl Tryz.prog (Instr.mapUpdate 115 (.map (some b)) (.string (mkS [37])) (.int .i64 9)) (fun _ w14=>
 K (.map (some b)) w14) w13) w12) w11) w10) w9) w8) w7) w6) w5) w4) w3) w2) w1
theorem Zj (K:Value->World->Prop) (w:World) (h:Zi K w):Calls Tryz.prog 77 #[] w (Ret K):=
 Ao {} Tryz.func77 (by kernel_rfl) h
def Aej (op:Int) (K:Value->World->Prop) (w:World):Prop:=
 cond (op==3)
 (K (.string (mkS [45])) w)
 (cond (op==4)
 (K (.string (mkS [33])) w)
 (Calls Tryz.prog 77 #[] w (Ret fun v w1=>
 ∃(x:Option Nat),v= .map x/\
 Bl Tryz.prog (Instr.range 115 (.map x)) (fun v1 w2=>
 ∃it:Addr,v1= .pointer (some it)/\
 ∃(I:World->Prop) (m:World->Nat),I w2/\
 ∀(_g:Nat->Value) (w3:World),I w3->
 ∃(J:Bool->World->Prop),
 (Bl Tryz.prog (Instr.next (.pointer (some it)) false 0) (fun v2 w4=>
 (v2= .tuple #[.bool false]/\
 J false w4)\/
 (∃(k:Value) (e:Value),v2= .tuple #[.bool true,k,e]/\
 J true w4)) w3)/\
 ∀(_g1:Nat->Value) (x1:Bool) (w5:World),J x1 w5->
 cond (x1)
 (Bl Tryz.prog (Instr.entry (.pointer (some it))) (fun v3 w6=>
 ∃(s:List UInt8) (x2:Int),v3= .tuple #[.string (mkS s),.int .i64 x2]/\
 cond (x2==op)
 (K (.string (mkS s)) w6)
 (I w6/\m w6<m w3)) w5)
 (K (.string (mkS [])) w5)) w1)))
theorem Aek (op:Int) (K:Value->World->Prop) (w:World) (h:Aej op K w):Calls Tryz.prog 48 #[.int .i64 op] w (Ret K):=
 Ao { loops:=[(58,[])],Aww:=[(116,[(13,.bool)])] } Tryz.func48 (by kernel_rfl) h
end Go.Proofs.YtcakelelfklhdaaGreatDoor
namespace Go.Proofs.YtcakelelfklhdaaGreatDoor
open Go.Vc Go.Tk Go.Tm
open Go.ChangeMaps (setBlock)
def Ael:List (List UInt8×Value):=[([124,124],.int .i64 17),([38,38],.int .i64 16),([61,61],.int .i64 10),([33,61],.int .i64 11),([60],.int .i64 12),([60,61],.int .i64 13),([62],.int .i64 14),([62,61],.int .i64 15),([43],.int .i64 5),([45],.int .i64 6),([42],.int .i64 7),([47],.int .i64 8),([37],.int .i64 9)]
theorem Ka:Tryz.prog.underlying 115=some (.map 9 3):=by kernel_rfl
theorem Ag7 (w:World):Calls Tryz.prog 77 #[] w (Ret fun v w'=>∃b,v= .map (some b)/\Wa w' b Ael/\w.heap.size<=b/\Ext w w'):=by
 refine Zj _ _ ?_
 intro b w1 hb hw1
 have m:=Wa.new hb hw1
 have g:w1.grownBy w1 (some b):=⟨rfl,rfl,rfl,Nat.le_refl _,fun _ _ _=>rfl⟩
 refine m.add Ka Ko rfl fun w2 m g2=> ?_
 have g:=Cl g g2;clear g2
 refine m.add Ka Ko rfl fun w2 m g2=> ?_
 have g:=Cl g g2;clear g2
 refine m.add Ka Ko rfl fun w2 m g2=> ?_
 have g:=Cl g g2;clear g2
 refine m.add Ka Ko rfl fun w2 m g2=> ?_
 have g:=Cl g g2;clear g2
 refine m.add Ka Ko rfl fun w2 m g2=> ?_
 have g:=Cl g g2;clear g2
 refine m.add Ka Ko rfl fun w2 m g2=> ?_
 have g:=Cl g g2;clear g2
 refine m.add Ka Ko rfl fun w2 m g2=> ?_
 have g:=Cl g g2;clear g2
 refine m.add Ka Ko rfl fun w2 m g2=> ?_
 have g:=Cl g g2;clear g2
 refine m.add Ka Ko rfl fun w2 m g2=> ?_
 have g:=Cl g g2;clear g2
 refine m.add Ka Ko rfl fun w2 m g2=> ?_
 have g:=Cl g g2;clear g2
 refine m.add Ka Ko rfl fun w2 m g2=> ?_
 have g:=Cl g g2;clear g2
 refine m.add Ka Ko rfl fun w2 m g2=> ?_
 have g:=Cl g g2;clear g2
 refine m.add Ka Ko rfl fun w2 m g2=> ?_
 have g:=Cl g g2;clear g2
 refine⟨b,rfl,m,hb▸Nat.le_refl _,?_⟩
 have e:=Ext.alloc hw1
 have hsz:=e.size
 exact⟨g.os.trans e.os,g.tape.trans e.tape,g.output.trans e.output,Nat.le_trans e.size g.size,fun k hk=>(g.block k (by omega) (fun h=>by cases h;omega)).trans (Go.RowKit.Below.block e k hk)⟩
def Avw:List (List UInt8):=[[45],[33],[43],[45],[42],[47],[37],[61,61],[33,61],[60],[60,61],[62],[62,61],[38,38],[124,124]]
def Wc (op:Int):List UInt8:=if op<3\/17<op then []else Avw.getD (op-3).toNat []
def Mp:Array MapEntry:=(E5 0 Ael).toArray
theorem Alr:∀e∈Mp.toList,∃k:Int,∃s:List UInt8,e.val= .int .i64 k/\e.key= .string (mkS s)/\5<=k/\k<=17/\s=Wc k:=by
 intro e he
 simp only [Mp,E5,Ael,List.mem_cons,List.not_mem_nil,or_false]at he
 rcases he with rfl|rfl|rfl|rfl|rfl|rfl|rfl|rfl|rfl|rfl|rfl|rfl|rfl<;>exact⟨_,_,rfl,rfl,by decide,by decide,rfl⟩
theorem Anq:∀op:Int,5<=op->op<=17->∃e∈Mp.toList,e.val= .int .i64 op:=by
 intro op h1 h2
 have:op=5\/op=6\/op=7\/op=8\/op=9\/op=10\/op=11\/op=12\/op=13\/op=14\/op=15\/op=16\/op=17:=by omega
 simp only [Mp,E5,Ael,List.mem_cons,List.not_mem_nil,or_false]
 rcases this with rfl|rfl|rfl|rfl|rfl|rfl|rfl|rfl|rfl|rfl|rfl|rfl|rfl<;>simp
theorem Nf (w:World) (r k:Nat) (o:Obj) (hr:r<w.heap.size):(setBlock w r o).heap[k]? =if r=k then some o else w.heap[k]? :=by
 simp only [setBlock,Array.getElem?_setIfInBounds]
 split
 ·rename_i h;subst h;simp
 ·rfl
theorem Als (op:Int) (w:World):Calls Tryz.prog 48 #[.int .i64 op] w (Ret fun v w'=>v= .string (mkS (Wc op))/\Ext w w'):=by
 refine Aek _ _ _ (Ag (fun h=> ?_) fun h=> ?_)
 ·have h:op=3:=by simpa using h
  subst h
  exact⟨rfl,Ext.refl _⟩
 have h3:op≠3:=by simpa using h
 refine Ag (fun h=> ?_) fun h=> ?_
 ·have h:op=4:=by simpa using h
  subst h
  exact⟨rfl,Ext.refl _⟩
 have h4:op≠4:=by simpa using h
 refine Aa (Ag7 w) ?_
 rintro _ w1 ⟨b,rfl,hm,hb,he1⟩
 refine⟨_,rfl,_,_,run_range_map w1 _ _ _ b _ _ Ka hm,_,rfl,?_⟩
 have hbl:b<w1.heap.size:=(Array.getElem?_eq_some_iff.1 hm).1
 have hs1:=he1.size
 generalize hr:w1.heap.size=r at*
 have hne:r≠b:=by omega
 refine⟨fun w3=>∃seen c0,w3.heap[r]? =some (.mapIter (some b) 13 seen c0)/\13<=c0/\w3.heap[b]? =some (.map Mp 13)/\Ext w w3/\∀e∈Mp.toList,seen.contains e.born=true->e.val≠.int .i64 op,
  fun w3=>(leftOf Mp (w3.iterSeen r)).size,⟨#[],13,?_,by omega,?_,he1.trans (.alloc rfl),fun e _ h=>by simp at h⟩,?_⟩
 ·rw [←hr];show(w1.heap.push _)[w1.heap.size]? =_;simp;rfl
 ·exact(Ext.alloc rfl).block hm
 ·rintro _ w3 ⟨seen,c0,hi,hc,hm3,he3,Bk6⟩
  have hrl:r<w3.heap.size:=(Array.getElem?_eq_some_iff.1 hi).1
  have Chz:(leftOf Mp (w3.iterSeen r)).size=(leftOf Mp seen).size:=by unfold World.iterSeen;rw [hi]
  refine⟨fun x w5=>(x=false/\(leftOf Mp seen).size=0/\Ext w w5)\/(x=true/\∃e∈(leftOf Mp seen).toList,w5.heap[r]? =some (.mapIter (some b) 13 (seen.push e.born) 13)/\w5.heap[b]? =some (.map Mp 13)/\Ext w w5),?_,?_⟩
  ·have hold:∀x∈Mp.toList,x.born<13:=by decide
   rcases run_next_at (P:=Tryz.prog) w3 0 r b 13 c0 seen Mp 13 hi hm3 hold hc with⟨h0,Azu⟩|⟨e,he,w1',Bzv,Azu⟩
   ·exact⟨_,_,Azu,.inl ⟨rfl,.inl ⟨rfl,h0,he3⟩⟩⟩
   ·have Bks:w1'.heap=w3.heap:=by rcases Bzv with rfl|rfl<;>rfl
    have ex:Ext w w1':=by
     rcases Bzv with rfl|rfl
     ·exact he3
     ·exact he3.trans (.drew rfl)
    refine⟨_,_,Azu,.inr ⟨_,_,rfl,.inr ⟨rfl,e,he,?_,?_,?_⟩⟩⟩
    ·rw [Nf _ _ _ _ (by rw [Bks];exact hrl),if_pos rfl]
    ·rw [Nf _ _ _ _ (by rw [Bks];exact hrl),if_neg hne,Bks];exact hm3
    ·refine⟨ex.os,ex.tape,ex.output,?_,fun k hk=> ?_⟩
     ·show _<=(Array.setIfInBounds _ _ _).size
      rw [Array.size_setIfInBounds]
      exact ex.size
     ·rw [Nf _ _ _ _ (by rw [Bks];exact hrl),if_neg (by omega)]
      exact Go.RowKit.Below.block ex k hk
  ·rintro _ x w5 (⟨rfl,h0,he5⟩|⟨rfl,e,he,hi5,hm5,he5⟩)
   ·refine⟨?_,he5⟩
    congr 2
    unfold Wc
    split
    ·rfl
    ·rename_i hc
     exfalso
     obtain⟨e,hme,hv⟩:=Anq op (by omega) (by omega)
     have hs:seen.contains e.born=true:=by
      cases hcc:seen.contains e.born with
      |true=>rfl
      |false=>
       exfalso
       have:e∈leftOf Mp seen:=Array.mem_filter.2 ⟨Array.mem_toList_iff.1 hme,by rw [hcc];rfl⟩
       rw [Array.eq_empty_of_size_eq_zero h0]at this
       simp at this
     exact Bk6 e hme hs hv
   ·have hml:=mem_left he
    obtain⟨k,s,hv,hk,h5,h17,hs⟩:=Alr e hml.1
    have hnd:(Mp.toList.map (·.born)).Nodup:=by decide
    refine⟨_,_,run_entry_at (P:=Tryz.prog) w5 r b 13 seen Mp 13 e hi5 hm5 hml.1 hnd,s,k,by rw [hv,hk],Ag (fun hx=> ?_) fun hx=> ?_⟩
    ·have hx:k=op:=by simpa using hx
     exact⟨by rw [hs,hx],he5⟩
    ·have hx:k≠op:=by simpa using hx
     refine⟨⟨_,13,hi5,Nat.le_refl _,hm5,he5,fun e' he' hc'=> ?_⟩,?_⟩
     ·rw [contains_push]at hc'
      rcases Bool.or_eq_true_iff.1 hc' with h|h
      ·exact Bk6 e' he' h
      ·have Bzw:e'.born=e.born:=by simpa using h
       have:e'=e:=by
        have f1:=find_born e' Mp.toList hnd he'
        have f2:=find_born e Mp.toList hnd hml.1
        rw [Bzw]at f1
        rw [f1]at f2
        exact Option.some.inj f2
       rw [this,hv]
       intro hh
       cases hh
       exact hx rfl
     ·show(leftOf Mp (w5.iterSeen r)).size<(leftOf Mp (w3.iterSeen r)).size
      rw [Chz]
      have:w5.iterSeen r=seen.push e.born:=by unfold World.iterSeen;rw [hi5]
      rw [this]
      exact left_shrinks Mp seen e he
end Go.Proofs.YtcakelelfklhdaaGreatDoor
namespace Go.Proofs.YtcakelelfklhdaaGreatDoor
open Go.Vc Go.Lv Go.Ty Go.Proofs
theorem Ag8:Builder.Extra Tryz.prog Tryz.lays156_ren where
 sizeBuilder:=by kernel_rfl
 liesBuilder:=by kernel_rfl
 t5:=Tryz.underlying5
 a5:=Tryz.isAgg5
 z5:=Tryz.sizeOf5
 v5:=Tryz.zeroValue5
 infoByte:=by kernel_rfl
 cellsByte:=by kernel_rfl
 sizeByte:=by kernel_rfl
 neB5:=by decide
theorem Anr:Builder.Extra Tryz.prog Tryz.lays105_ren where
 sizeBuilder:=by kernel_rfl
 liesBuilder:=by kernel_rfl
 t5:=Tryz.underlying5
 a5:=Tryz.isAgg5
 z5:=Tryz.sizeOf5
 v5:=Tryz.zeroValue5
 infoByte:=by kernel_rfl
 cellsByte:=by kernel_rfl
 sizeByte:=by kernel_rfl
 neB5:=by decide
theorem Akd {m:List Nat} {w:World} :∀ {l:List (List UInt8)} {xs:List Value},El Cy m w l xs->xs=l.map fun s=> .string (mkS s)
 |[],_,⟨css,rfl,h⟩=>by cases css with|nil=>rfl|cons=>exact h.elim
 |n::l,_,⟨css,rfl,h⟩=>by
  cases css with
  |nil=>exact h.elim
  |cons cs css=>
   have h1:cs=[.string (mkS n)]:=h.1
   have:=Akd (l:=l) ⟨css,rfl,h.2⟩
   rw [List.flatten_cons,this,h1];rfl
theorem map_mk (l:List (List UInt8)):(l.map mkS).map (·.data.toList)=l:=by
 rw [List.map_map]
 exact List.map_id l
theorem Zk {w w':World} (h:RowKit.Below w.heap.size w w'):Am [] w w':=Am.Azt h
theorem Ai3 (l:List (List UInt8)) (sep:List UInt8) (hn:l.length<=140737488355328) (hl:(Lib.join l sep).length<=140737488355328) (K:List UInt8->Prop) (h:K (Lib.join l sep)):Jw l sep K:=by
 intro m w _ A C hle hs
 cases l with
 |nil=>
  have hc:=Any.strings_Join_none Tryz.lays156 Ag8 A C (mkS sep) w
  change Calls Tryz.prog 32 _ _ _ at hc
  refine hc.mono ?_
  rintro e w' ⟨rfl,rfl⟩
  exact⟨[],h,rfl,Am.refl _ _⟩
 |cons x l=>
  rcases hs with hs|⟨p,xs,rfl,_,hat,hel⟩
  ·cases hs
  have hxs:=Akd hel
  subst hxs
  have c0:=hat 0 (by simp)
  obtain⟨bk,o,sp⟩:=p
  have hsp:sp=none:=by simpa [Addr.add] using Abp c0
  subst hsp
  have hlt:bk<w.heap.size:=by have:=Ac6 c0;rwa [F6]at this
  have hc:=Any.strings_Join Tryz.lays156 Ag8 bk o C ((x::l).map mkS) (mkS sep) w (fun j y hy=>by
   rw [List.getElem?_map]at hy
   obtain⟨z,hz,rfl⟩:=Option.map_eq_some_iff.1 hy
   obtain⟨hj,rfl⟩:=List.getElem?_eq_some_iff.1 hz
   have:=hat j (by rw [List.length_map];exact hj)
   rw [F6,List.getElem_map]at this
   exact this) hlt (by rw [List.length_map];exact hn) (by rw [List.length_map];exact hle) (by rw [map_mk];exact hl)
  rw [map_mk,List.length_map]at hc
  change Calls Tryz.prog 32 _ _ _ at hc
  refine hc.mono ?_
  rintro e w' ⟨rfl,hb⟩
  exact⟨_,h,rfl,Zk hb⟩
theorem Ans (x:UInt8) (n:Nat) (hn:n<=1000000) (K:List UInt8->Prop) (h:K (List.replicate n x)):Ny [x] n K:=by
 intro m w _
 have hc:=Any.strings_Repeat Tryz.lays105 Anr (mkS [x]) n w (by omega) (by show 1*n<=_;omega)
 change Calls Tryz.prog 58 _ _ _ at hc
 refine hc.mono ?_
 rintro e w' ⟨rfl,hb⟩
 refine⟨List.replicate n x,h,?_,Zk hb⟩
 have e1:Lib.repeatL [x] n=List.replicate n x:=by
  have:=Lib.repeatL_replicate x 1 n
  rwa [Nat.mul_one]at this
 show Value.string ⟨(Lib.repeatL [x] n).toArray⟩=_
 rw [e1];rfl
theorem Ake (n:Int) (h: -9223372036854775808<=n/\n<=9223372036854775807) (K:List UInt8->Prop) (hK:K (Lib.itoa n)):L8 n K:=by
 intro m w hm
 have hc:=Any.strconv_Itoa Tryz.laysM171 n h.1 h.2 w hm.tab
 change Calls Tryz.prog 30 _ _ _ at hc
 refine hc.mono ?_
 rintro e w' ⟨rfl,k,os,rfl⟩
 refine⟨_,hK,rfl,rfl,rfl,rfl,?_,fun j hj _=> ?_⟩
 ·show w.heap.size<=(w.heap++os).size
  simp
 ·show(w.heap++os)[j]? =_
  rw [Array.getElem?_append_left hj]
theorem Ant (op:Int) (K:List UInt8->Prop) (h:K (Wc op)):P5 op K:=by
 intro m w _
 refine(Als op w).mono ?_
 intro e w' he
 cases e with
 |returned v=>obtain⟨hv,hx⟩:=he;exact⟨_,h,hv,Am.Azt hx⟩
 |_=>exact he.elim
end Go.Proofs.YtcakelelfklhdaaGreatDoor
namespace Go.Proofs.YtcakelelfklhdaaGreatDoor
open Go.Vc Go.Lv Go.Ty Go.Tr Go.Tk Go.Tm
theorem plv (op:Int) (K:Int->Prop) (h:K (B4 op:Nat)):Jv op K:=by
 refine Xb _ _ ?_
 unfold Qd
 unfold B4 at h
 refine Ag (fun e=> ?_) fun e=> ?_
 ·rw [if_pos (by simpa using e)]at h;exact h
 rw [if_neg (by simpa using e)]at h
 refine Ag (fun e=> ?_) fun e=> ?_
 ·rw [if_pos (by simpa using e)]at h;exact h
 rw [if_neg (by simpa using e)]at h
 refine Ag (fun e=> ?_) fun e=> ?_
 ·rw [if_pos (by simp at e;omega)]at h;exact h
 rw [if_neg (by simp at e;omega)]at h
 refine Ag (fun e=> ?_) fun e=> ?_
 ·rw [if_pos (by simpa using e)]at h;exact h
 rw [if_neg (by simpa using e)]at h
 refine Ag (fun e=> ?_) fun e=> ?_
 ·rw [if_pos (by simp at e;omega)]at h;exact h
 rw [if_neg (by simp at e;omega)]at h
 refine Ag (fun e=> ?_) fun e=> ?_
 ·rw [if_pos (by simpa using e)]at h;exact h
 rw [if_neg (by simpa using e)]at h
 refine Ag (fun e=> ?_) fun e=> ?_
 ·rw [if_pos (by simpa using e)]at h;exact h
 rw [if_neg (by simpa using e)]at h
 exact h
theorem Ek (w:Ab) (i:Int) (hl:w.l.length<=100000) (K:List Int->Prop) (h:K (R1 w.l i)):Bp w i K:=by
 refine O9 _ _ _ (As2 _ _ _ (H3 _ _ _ (Fe _ _ _ ?_)))
 refine⟨_,Ap6 w.l i hl,fun pre v=>v=pre,rfl,?_,?_⟩
 ·rintro pre x v hp rfl
  have h1:=hp.length_le
  have h2:=Aln w.l i
  refine⟨?_,rfl⟩
  simp only [List.length_append,List.length_singleton]at h1⊢
  omega
 ·rintro v rfl;exact h
theorem Bg:∀(rs:List R) (p:Nat),(plc p rs).length=rs.length
 |[],_=>rfl
 |_::rs,_=>by rw [plc,List.length_cons,List.length_cons,Bg rs]
def AtR (L:List Aj) (i:Nat) (r:R):Prop:=∃post,L.drop i=r.fl++post
theorem C8 (L:List Aj):∀(rs:List R) (p:Nat) (post:List Aj),L.drop p=rs.flatMap R.fl++post->∀(j:Nat) (r:R),rs[j]? =some r->∃q:Nat,(plc p rs)[j]? =some (q:Int)/\AtR L q r
 |r0::rs,p,post,hd,0,r,hj=>by
  cases hj
  exact⟨p,rfl,rs.flatMap R.fl++post,by rw [hd,List.flatMap_cons,List.append_assoc]⟩
 |r0::rs,p,post,hd,j+1,r,hj=>by
  have hd2:L.drop (p+r0.fl.length)=rs.flatMap R.fl++post:=by
   rw [←List.drop_drop,hd,List.flatMap_cons,List.append_assoc,List.drop_left]
  obtain⟨q,h1,h2⟩:=C8 L rs _ post hd2 j r hj
  exact⟨q,by rw [plc,List.getElem?_cons_succ];exact h1,h2⟩
 |[],_,_,_,j,r,hj=>by simp at hj
theorem AtR.node {L:List Aj} {i:Nat} {x:Aj} {rs:List R} (h:AtR L i (Ar x rs)):i<L.length/\L[i]? =some x/\∃post,L.drop (i+1)=rs.flatMap R.fl++post:=by
 obtain⟨post,hd⟩:=h
 have hx:L[i]? =some x:=by
  have:(L.drop i)[0]? =some x:=by rw [hd];rfl
  rwa [List.getElem?_drop,Nat.add_zero]at this
 refine⟨(List.getElem?_eq_some_iff.1 hx).1,hx,post,?_⟩
 rw [←List.drop_drop,hd];rfl
theorem Ab1 (l:List (List UInt8)):Lib.join l []=l.flatten:=by
 cases l with
 |nil=>rfl
 |cons a l=>
  rw [Lib.join_cons,List.flatten_cons]
  congr 1
  induction l with
  |nil=>rfl
  |cons b l ih=>simp [Lib.joinTail]
theorem Atf (w:Ab) (parts:List (List UInt8)) (d:Nat) (hd:w.deep=d) (hdn:d<=1000000) (hp:parts.length<=1000000) (hb:w.b.buf.length+(d+parts.flatten.length)<2^31) (K:Ab->Prop)
 (h:∀ad,K ⟨w.l,⟨ad,w.b.buf++B7 (List.replicate d 9++(parts.flatten++[10]))⟩,d⟩):Au w parts K:=by
 refine Pb _ _ _ ?_
 unfold K7
 rw [hd]
 have hm:IntKind.i64.max=9223372036854775807:=by decide
 refine Ans 9 d hdn _ (Ai3 _ _ (by omega) (by rw [Ab1];omega) _ ?_)
 rw [Ab1]
 refine⟨by rw [hm,List.length_replicate];omega,by rw [hm,List.length_append,List.length_replicate,List.length_singleton];omega,?_⟩
 refine Aqn _ _ (by simp only [List.length_append,List.length_replicate,List.length_singleton];omega) _ fun ad=> ?_
 have:=h ad
 rw [List.append_assoc]
 rw [hd]
 exact this
end Go.Proofs.YtcakelelfklhdaaGreatDoor
namespace Go.Proofs.YtcakelelfklhdaaGreatDoor
open Go.Vc Go.Lv Go.Ty Go.Tr Go.Tk Go.Tm
theorem Ag9:∀(f n:Nat) (acc:List UInt8),n<10^(f+1)->Xi (f+1) n acc=Lib.decDigits n++acc
 |f,n,acc,h=>by
  rw [Xi,Lib.decDigits]
  by_cases hn:n<10
  ·rw [if_pos hn,dif_pos hn];rfl
  ·rw [if_neg hn,dif_neg hn]
   cases f with
   |zero=>simp at h;omega
   |succ f=>
    rw [Ag9 f (n/10) _ (by rw [Nat.pow_succ]at h;omega),List.append_assoc];rfl
theorem Aha {n:Int} (h0:0<=n) (h1:n<=999999999999999999):Lib.itoa n=Lg n:=by
 unfold Lib.itoa Lg
 rw [if_neg (by omega),Ag9 19 n.toNat [] (by omega),List.append_nil]
theorem R4:IntKind.i64.max=9223372036854775807:=by decide
def TmW (r:R):Prop:=∀(w:Ab) (i:Nat),w.l.length<=100000->AtR w.l i r->(tx r.tm).length<2^30->∀K:List UInt8->Prop,K (tx r.tm)->Ax w i K
theorem Ai4 {x:Aj} {rs:List R} (ht:TmW (Ar x rs)) (w:Ab) (i:Nat) (hl:w.l.length<=100000) (ha:AtR w.l i (Ar x rs)) (n:Nat) (hb:(tx (Br (Ar x rs) n)).length<2^30) (K:List UInt8->Prop)
 (h:K (tx (Br (Ar x rs) n))):D5 w i n K:=by
 refine Pe _ _ _ _ ?_
 unfold K8
 obtain⟨h1,h2,_⟩:=ha.node
 have hx:(Ar x rs).x=x:=rfl
 unfold Br at h hb
 rw [hx]at h hb
 refine ht w i hl ha ?_ _ ⟨⟨by omega,by omega⟩,fun y hy=>plv _ _ ?_⟩
 ·split at hb
  ·rw [Cj,Cr]at hb
   simp only [List.length_append]at hb
   omega
  ·exact hb
 rw [Int.toNat_natCast,h2]at hy
 cases hy
 refine Ag (fun e=> ?_) fun e=> ?_
 ·have e:B4 x.op<n:=by simpa using e
  rw [if_pos e]at h hb
  have he:tx (.tk sLP::((Ar x rs).tm++[.tk sRP]))=[40]++tx (Ar x rs).tm++[41]:=by
   rw [Cj,Cr,List.append_assoc];rfl
  rw [he]at h hb
  simp only [List.length_append,List.length_singleton]at hb
  rw [R4]
  refine⟨?_,?_,h⟩
  ·simp only [List.length_singleton];omega
  ·simp only [List.length_append,List.length_singleton];omega
 ·have e:¬B4 x.op<n:=by simpa using e
  rw [if_neg e]at h
  exact h
structure WT (c:UInt8) (r:R):Prop where
 Bzx:Vl r
 out:∃x rs,r=Ar x rs
 term:c=69->TmW r
theorem Q5 {c:UInt8} {x:Aj} {ds:List UInt8} (h:OkN c x ds) (hn:ds.length<2^39):x.kids=(ds.length:Int):=by
 cases h with
 |sel k a=>simp only [List.length_replicate]at hn⊢;exact Qk (by omega)
 |start s k a=>simp only [List.length_replicate]at hn⊢;exact Qk (by omega)
 |block k a=>simp only [List.length_replicate]at hn⊢;exact Qk (by omega)
 |unit k a=>simp only [List.length_replicate]at hn⊢;exact Qk (by omega)
 |proc s k a=>simp only [List.length_append,List.length_replicate,List.length_singleton]at hn⊢;exact Qk (by omega)
 |clause op s a w ds h=>exact Qk (by omega)
 |_=>rfl
end Go.Proofs.YtcakelelfklhdaaGreatDoor
namespace Go.Proofs.YtcakelelfklhdaaGreatDoor
open Go.Vc Go.Lv Go.Ty Go.Tr Go.Tk Go.Tm
theorem Akf {op:Int} (h1:3<=op) (h2:op<=17):Wc op=sgO op:=by
 have:op=3\/op=4\/op=5\/op=6\/op=7\/op=8\/op=9\/op=10\/op=11\/op=12\/op=13\/op=14\/op=15\/op=16\/op=17:=by omega
 rcases this with rfl|rfl|rfl|rfl|rfl|rfl|rfl|rfl|rfl|rfl|rfl|rfl|rfl|rfl|rfl<;>rfl
theorem Atg (op:Int):B4 op<=7:=by
 unfold B4
 repeat' split
 all_goals omega
theorem Alu {x:Aj} {ds:List UInt8} {rs:List R} (ho:OkN 69 x ds) (hf:F2 WT ds rs):TmW (Ar x rs):=by
 intro w i hl ha hb K hK
 have hea:∀r∈rs,Vl r:=by
  have:∀(ds:List UInt8) (rs:List R),F2 WT ds rs->∀r∈rs,Vl r:=by
   intro ds
   induction ds with
   |nil=>intro rs h;cases F2.nil h;simp
   |cons d ds ih=>
    intro rs h
    cases rs with
    |nil=>simp
    |cons r rs=>
     intro q hq
     rcases List.mem_cons.1 hq with rfl|hq
     ·exact h.1.Bzx
     ·exact ih rs h.2 q hq
  exact this ds rs hf
 have hxk:x.kids=(rs.length:Int):=by
  rw [←F2.len hf]
  refine Q5 ho ?_
  cases ho<;>simp
 obtain⟨hi,hx,post,hd⟩:=ha.node
 refine Pa _ _ _ ?_
 unfold K6
 refine⟨fun k o nm n _ _=>k=plc (i+1) rs/\o=x.op/\nm=x.name/\n=x.n,⟨⟨by omega,by omega⟩,fun y hy=>Ek _ _ hl _ ?_⟩,?_⟩
 ·rw [Int.toNat_natCast,hx]at hy
  cases hy
  obtain⟨po,hpo⟩:=ha
  exact⟨Dr hxk hea hpo,rfl,rfl,rfl⟩
 rintro k o nm n _ _ ⟨rfl,rfl,rfl,rfl⟩
 refine plv _ _ ?_
 cases ho with
 |num n a h0 h1=>
  have e:tx (Ar ⟨1,[],n,0,a⟩ rs).tm=Lg n:=by show Lg n++[]=_;exact List.append_nil _
  rw [e]at hK
  exact Ake n ⟨by omega,by omega⟩ _ (by rw [Aha h0 h1];exact hK)
 |name s a hs=>
  have e:tx (Ar ⟨2,s,0,0,a⟩ rs).tm=s:=by show s++[]=_;exact List.append_nil _
  rw [e]at hK
  exact hK
 |un op a hop=>
  obtain⟨r,rfl,hr⟩:=F2.one hf
  obtain⟨y,qs,rfl⟩:=hr.out
  obtain⟨q,hq,hat⟩:=C8 w.l _ (i+1) post hd 0 _ rfl
  have hl6:B4 op=6:=by rcases hop with rfl|rfl<;>rfl
  have e:tx (Ar ⟨op,[],0,1,a⟩ [Ar y qs]).tm=Wc op++tx (Br (Ar y qs) 6):=by
   rw [Akf (by omega) (by omega)]
   rcases hop with rfl|rfl<;>rfl
  rw [e]at hK hb
  rw [List.length_append]at hb
  refine Ag (fun e=> ?_) fun _=> ?_
  ·have e:op=1:=by simpa using e
   omega
  refine Ag (fun e=> ?_) fun _=> ?_
  ·have e:op=2:=by simpa using e
   omega
  refine Ag (fun _=> ?_) fun e=> ?_
  ·refine⟨⟨by omega,by rw [Bg];simp⟩,fun x3 h3=> ?_⟩
   rw [hq]at h3
   cases h3
   refine Ant _ _ ?_
   show D5 w (q:Int) ((B4 op:Nat):Int) _
   rw [hl6]
   refine Ai4 (hr.term rfl) w q hl hat 6 (by omega) _ ⟨?_,hK⟩
   rw [R4];show(((Wc op).length+(tx (Br (Ar y qs) 6)).length:Nat):Int)<=_;omega
  ·rw [Bg]at e;simp at e
 |bin op a h5 h17=>
  obtain⟨r1,r2,rfl,hr1,hr2⟩:=F2.two hf
  obtain⟨y1,qs1,rfl⟩:=hr1.out
  obtain⟨y2,qs2,rfl⟩:=hr2.out
  obtain⟨q1,hq1,Bbc⟩:=C8 w.l _ (i+1) post hd 0 _ rfl
  obtain⟨q2,hq2,Ch0⟩:=C8 w.l _ (i+1) post hd 1 _ rfl
  have e:tx (Ar ⟨op,[],0,2,a⟩ [Ar y1 qs1,Ar y2 qs2]).tm=tx (Br (Ar y1 qs1) (Cc op))++[32]++Wc op++[32]++tx (Br (Ar y2 qs2) (B4 op+1)):=by
   rw [Akf (by omega) h17]
   show tx (tmN _ _)=_
   unfold tmN
   rw [if_neg (by show¬op=1;omega),if_neg (by show¬(op=2\/op=39);omega),if_neg (by show¬op=33;omega),if_neg (by show¬(op=3\/op=4);omega)]
   rw [Cr,Cj,Cj,Cj]
   simp [Ck.tx,sps]
  rw [e]at hK hb
  simp only [List.length_append,List.length_singleton]at hb
  refine Ag (fun e=> ?_) fun _=> ?_
  ·have e:op=1:=by simpa using e
   omega
  refine Ag (fun e=> ?_) fun _=> ?_
  ·have e:op=2:=by simpa using e
   omega
  refine Ag (fun e=> ?_) fun _=> ?_
  ·rw [Bg]at e;simp at e
  refine⟨fun l=>l=((Cc op:Nat):Int),?_,?_⟩
  ·unfold Cc
   refine Ag (fun e=> ?_) fun e=> ?_
   ·have e:((B4 op:Nat):Int)=3:=by simpa using e
    rw [if_pos (by omega)];rfl
   ·have e:¬((B4 op:Nat):Int)=3:=by simpa using e
    rw [if_neg (by omega)]
  rintro _ rfl
  refine⟨⟨by omega,by rw [Bg];simp⟩,fun x6 h6=>⟨⟨by omega,by rw [Bg];simp⟩,fun x7 h7=> ?_⟩⟩
  have h6':some ((q1:Nat):Int)=some x6:=hq1.symm.trans h6
  have h7':some ((q2:Nat):Int)=some x7:=hq2.symm.trans h7
  cases h6'
  cases h7'
  have Cju:=Atg op
  refine Ai4 (hr1.term rfl) w q1 hl Bbc (Cc op) (by omega) _ ⟨by rw [R4];simp only [List.length_singleton];omega,?_⟩
  refine Ant _ _ ⟨by rw [R4];simp only [List.length_append,List.length_singleton];omega,by rw [R4];simp only [List.length_append,List.length_singleton];omega,?_⟩
  dsimp only
  rw [A1 (by omega) (by omega),show((B4 op:Nat):Int)+1=((B4 op+1:Nat):Int) by omega]
  refine Ai4 (hr2.term rfl) w q2 hl Ch0 (B4 op+1) (by omega) _ ⟨by rw [R4];simp only [List.length_append,List.length_singleton];omega,hK⟩
end Go.Proofs.YtcakelelfklhdaaGreatDoor
namespace Go.Proofs.YtcakelelfklhdaaGreatDoor
open Go.Vc Go.Lv Go.Ty Go.Tr Go.Tk Go.Tm
theorem Et:∀ {ds:List UInt8} {rs:List R},F2 WT ds rs->∀r∈rs,Vl r
 |[],_,h=>by cases F2.nil h;simp
 |_::ds,[],_=>by simp
 |_::ds,r::rs,h=>fun q hq=>by
  rcases List.mem_cons.1 hq with rfl|hq
  ·exact h.1.Bzx
  ·exact Et h.2 q hq
def Au1 (r:R):Prop:=∀(w:Ab) (i:Nat),w.l.length<=100000->AtR w.l i r->(tx r.tm).length<2^30->∀K:List UInt8->Prop,K (tx r.tm)->Da w i K
theorem Ahb {x:Aj} {ds:List UInt8} {rs:List R} (ho:OkN 82 x ds) (hf:F2 WT ds rs):Au1 (Ar x rs):=by
 intro w i hl ha hb K hK
 have hea:=Et hf
 have hxk:x.kids=(rs.length:Int):=by
  rw [←F2.len hf]
  refine Q5 ho ?_
  cases ho<;>simp
 obtain⟨hi,hx,post,hd⟩:=ha.node
 obtain⟨po,hpo⟩:=ha
 refine P9 _ _ _ ?_
 unfold Ll
 refine Ek _ _ hl _ ?_
 rw [Dr hxk hea hpo]
 cases ho with
 |Bbh s a hs=>
  cases F2.nil hf
  have e:tx (Ar ⟨33,s,0,0,a⟩ []).tm=s:=by show s++[]=_;exact List.append_nil _
  rw [e]at hK
  refine Ag (fun e=> ?_) fun _=> ?_
  ·simp [plc]at e
  ·refine⟨⟨by omega,by omega⟩,fun y hy=> ?_⟩
   rw [Int.toNat_natCast,hx]at hy
   cases hy
   exact hK
 |Bbi s a hs=>
  obtain⟨r,rfl,hr⟩:=F2.one hf
  obtain⟨q,hq,hat⟩:=C8 w.l _ (i+1) post hd 0 _ rfl
  have e:tx (Ar ⟨33,s,0,1,a⟩ [r]).tm=s++[91]++tx r.tm++[93]:=by
   show tx (.tk s::.tk sLS::(r.tm++[.tk sRS]))=_
   rw [Cj,Cj,Cr]
   simp only [List.append_assoc];rfl
  rw [e]at hK hb
  simp only [List.length_append,List.length_singleton]at hb
  refine Ag (fun _=> ?_) fun e=> ?_
  ·refine⟨⟨by omega,by rw [Bg];simp⟩,fun x0 h0=>⟨⟨by omega,by omega⟩,fun y hy=> ?_⟩⟩
   rw [Int.toNat_natCast,hx]at hy
   cases hy
   have h0':some ((q:Nat):Int)=some x0:=hq.symm.trans h0
   cases h0'
   dsimp only
   rw [R4]
   simp only [List.length_append,List.length_singleton]
   refine⟨by omega,hr.term rfl w q hl hat (by omega) _ ⟨by omega,by omega,hK⟩⟩
  ·rw [Bg]at e;simp at e
end Go.Proofs.YtcakelelfklhdaaGreatDoor
namespace Go.Proofs.YtcakelelfklhdaaGreatDoor
open Go.Vc Go.Lv Go.Ty Go.Tr Go.Tk Go.Tm
theorem Gd (a b:List UInt8):B7 (a++b)=B7 a++B7 b:=by simp [B7]
theorem Ec (a:List UInt8):(B7 a).length=a.length:=by simp [B7]
theorem Aem (d:Nat) (cs:List Ck):tx (line d cs)=List.replicate d 9++(tx cs++[10]):=by
 have:∀d:Nat,tx (List.replicate d (Ck.sp 9))=List.replicate d 9:=by
  intro d
  induction d with
  |zero=>rfl
  |succ d ih=>rw [List.replicate_succ,Cj,ih];rfl
 rw [line,Cr,Cr,this];rfl
theorem Hn (w:Ab) (parts:List (List UInt8)) (cs:List Ck) (hp:parts.flatten=tx cs) (d:Nat) (hd:w.deep=d) (hdn:d<=1000000) (hpl:parts.length<=1000000) (hb:w.b.buf.length+(tx (line d cs)).length<2^30) (K:Ab->Prop)
 (h:∀ad,K ⟨w.l,⟨ad,w.b.buf++B7 (tx (line d cs))⟩,d⟩):Au w parts K:=by
 rw [Aem]at h hb
 simp only [List.length_append,List.length_replicate,List.length_singleton]at hb
 refine Atf w parts d hd (by omega) hpl (by rw [hp];omega) K ?_
 rw [hp];exact h
theorem Aen {rs:List R} {r:R} (h:r∈rs):r.fl.length<=(rs.flatMap R.fl).length:=by
 induction rs with
 |nil=>cases h
 |cons a rs ih=>
  rw [List.flatMap_cons,List.length_append]
  rcases List.mem_cons.1 h with rfl|h
  ·omega
  ·have:=ih h;omega
def StW (V:Ab->Int->(Ab->Prop)->Prop) (r:R):Prop:=∀(w:Ab) (i d:Nat),w.l.length<=100000->AtR w.l i r->w.deep=d->d+r.fl.length<=200000->w.b.buf.length+(tx (r.st d)).length<2^30->
 ∀K:Ab->Prop,(∀ad,K ⟨w.l,⟨ad,w.b.buf++B7 (tx (r.st d))⟩,d⟩)->V w i K
theorem Vm {rs:List R} {j:Nat} {r:R} (d:Nat) (h:rs[j]? =some r):tx (Bf d (rs.take (j+1)))=tx (Bf d (rs.take j))++tx (r.st d):=by
 rw [List.take_add_one,h]
 simp [Bf,Cr]
theorem Aeo {rs:List R} (j d:Nat):(tx (Bf d (rs.take j))).length<=(tx (Bf d rs)).length:=by
 have:tx (Bf d rs)=tx (Bf d (rs.take j))++tx (Bf d (rs.drop j)):=by
  rw [←Cr];unfold Bf;rw [←List.flatMap_append,List.take_append_drop]
 rw [this,List.length_append];omega
theorem Ahc {rs:List R} (hst:∀r∈rs,StW A5 r) (w:Ab) (p d:Nat) (post:List Aj) (hdr:w.l.drop p=rs.flatMap R.fl++post) (hl:w.l.length<=100000) (hd:w.deep=d) (hdn:d+1+(rs.flatMap R.fl).length<=200000) (hrs:rs.length<=100000)
 (hb:w.b.buf.length+(tx (Bf (d+1) rs)).length<2^30) (K:Ab->Prop) (h:∀ad,K ⟨w.l,⟨ad,w.b.buf++B7 (tx (Bf (d+1) rs))⟩,d⟩):Bb w (plc p rs) K:=by
 refine G4 _ _ _ ?_
 unfold D9
 refine⟨fun x ad bf dp n=>∃j:Nat,x=j/\j<=rs.length/\dp=((d+1:Nat):Int)/\bf=w.b.buf++B7 (tx (Bf (d+1) (rs.take j)))/\n=rs.length-j,⟨_,0,rfl,by omega,?_,?_,rfl⟩,?_⟩
 ·rw [hd,A1 (by omega) (by omega)];omega
 ·simp [Bf,tx,B7]
 rintro x ad bf dp n ⟨j,rfl,hj,rfl,rfl,rfl⟩
 rw [Bg]
 refine Ag (fun e=> ?_) fun e=> ?_
 ·have e:j<rs.length:=by simpa using e
  refine⟨⟨by omega,by omega⟩,fun x1 h1=> ?_⟩
  have hr:rs[j]? =some rs[j]:=List.getElem?_eq_getElem e
  obtain⟨q,hq,hat⟩:=C8 w.l rs p post hdr j _ hr
  rw [Int.toNat_natCast,hq]at h1
  cases h1
  have hbt:=Vm (d+1) hr
  have hle:=Aeo (rs:=rs) (j+1) (d+1)
  rw [hbt,List.length_append]at hle
  have hml:=Aen (List.getElem_mem e)
  refine hst _ (List.getElem_mem e) ⟨w.l,⟨ad,_⟩,_⟩ q (d+1) hl hat rfl (by omega) ?_ _ fun ad'=> ?_
  ·show(w.b.buf++B7 (tx (Bf (d+1) (rs.take j)))).length+_<_
   rw [List.length_append,Ec];omega
  ·refine⟨rs.length-(j+1),by omega,j+1,by rw [A1 (by omega) (by omega)];omega,by omega,rfl,?_,rfl⟩
   rw [hbt,Gd,List.append_assoc]
 ·have e:¬j<rs.length:=by simpa using e
  have:rs.take j=rs:=List.take_of_length_le (by omega)
  rw [this,A1 (by omega) (by omega),show((d+1:Nat):Int)-1=d by omega]
  exact h ad
end Go.Proofs.YtcakelelfklhdaaGreatDoor
namespace Go.Proofs.YtcakelelfklhdaaGreatDoor
open Go.Vc Go.Lv Go.Ty Go.Tr Go.Tk Go.Tm
theorem Alv {rs:List R} (hst:∀r∈rs,StW Cv r) (w:Ab) (p d:Nat) (post:List Aj) (hdr:w.l.drop p=rs.flatMap R.fl++post) (hl:w.l.length<=100000) (hd:w.deep=d) (hdn:d+1+(rs.flatMap R.fl).length<=200000) (hrs:rs.length<=100000)
 (hb:w.b.buf.length+(tx (Bf (d+1) rs)).length<2^30) (K:Ab->Prop) (h:∀ad,K ⟨w.l,⟨ad,w.b.buf++B7 (tx (Bf (d+1) rs))⟩,d⟩):Co w (plc p rs) K:=by
 refine Gp _ _ _ ?_
 unfold D0
 refine⟨fun x ad bf dp n=>∃j:Nat,x=j/\j<=rs.length/\dp=((d+1:Nat):Int)/\bf=w.b.buf++B7 (tx (Bf (d+1) (rs.take j)))/\n=rs.length-j,⟨_,0,rfl,by omega,?_,?_,rfl⟩,?_⟩
 ·rw [hd,A1 (by omega) (by omega)];omega
 ·simp [Bf,tx,B7]
 rintro x ad bf dp n ⟨j,rfl,hj,rfl,rfl,rfl⟩
 rw [Bg]
 refine Ag (fun e=> ?_) fun e=> ?_
 ·have e:j<rs.length:=by simpa using e
  refine⟨⟨by omega,by omega⟩,fun x1 h1=> ?_⟩
  have hr:rs[j]? =some rs[j]:=List.getElem?_eq_getElem e
  obtain⟨q,hq,hat⟩:=C8 w.l rs p post hdr j _ hr
  rw [Int.toNat_natCast,hq]at h1
  cases h1
  have hbt:=Vm (d+1) hr
  have hle:=Aeo (rs:=rs) (j+1) (d+1)
  rw [hbt,List.length_append]at hle
  have hml:=Aen (List.getElem_mem e)
  refine hst _ (List.getElem_mem e) ⟨w.l,⟨ad,_⟩,_⟩ q (d+1) hl hat rfl (by omega) ?_ _ fun ad'=> ?_
  ·show(w.b.buf++B7 (tx (Bf (d+1) (rs.take j)))).length+_<_
   rw [List.length_append,Ec];omega
  ·refine⟨rs.length-(j+1),by omega,j+1,by rw [A1 (by omega) (by omega)];omega,by omega,rfl,?_,rfl⟩
   rw [hbt,Gd,List.append_assoc]
 ·have e:¬j<rs.length:=by simpa using e
  have:rs.take j=rs:=List.take_of_length_le (by omega)
  rw [this,A1 (by omega) (by omega),show((d+1:Nat):Int)-1=d by omega]
  exact h ad
theorem Ql:∀ {rs:List R},(∀r∈rs,Vl r)->rs.length<=(rs.flatMap R.fl).length
 |[],_=>Nat.le_refl _
 |r::rs,h=>by
  have h1:=(h r (by simp)).1
  have h2:=Ql (rs:=rs) fun q hq=>h q (by simp [hq])
  simp only [List.flatMap_cons,List.length_append,List.length_cons];omega
theorem Aqo {x:Aj} {rs:List R} (hx:x.op=32) (hk:x.kids=(rs.length:Int)) (hea:∀r∈rs,Vl r) (hst:∀r∈rs,StW A5 r) (w:Ab) (i d:Nat) (hl:w.l.length<=100000) (ha:AtR w.l i (Ar x rs))
 (hd:w.deep=d) (hdn:d+(Ar x rs).fl.length<=200000) (front:List (List UInt8)) (cs:List Ck) (hp:front.flatten=tx cs) (hf:front.length<=1000) (hb:w.b.buf.length+(tx (Bd d cs (Ar x rs))).length<2^30) (K:Ab->Prop)
 (h:∀ad,K ⟨w.l,⟨ad,w.b.buf++B7 (tx (Bd d cs (Ar x rs)))⟩,d⟩):A9 w i front K:=by
 obtain⟨hi,hxi,post,hdr⟩:=ha.node
 obtain⟨po,hpo⟩:=ha
 have hrs:rs.length<=100000:=by
  have h1:=Ql hea
  have h2:=congrArg List.length hdr
  rw [List.length_drop,List.length_append]at h2
  omega
 have Bi9:(Ar x rs).st (d+1)=Bf (d+1) rs:=by
  show stN x rs (d+1)=_
  unfold stN
  rw [hx];rfl
 have hdn:d+((rs.flatMap R.fl).length+1)<=200000:=hdn
 unfold Bd at h hb
 rw [Bi9]at h hb
 rw [Cr,Cr]at h hb
 simp only [List.length_append]at hb
 refine Ot _ _ _ _ ⟨by simp only [List.length_singleton];omega,?_⟩
 refine Hn w _ (cs++[sps,.tk sLB]) (by rw [List.flatten_append,hp,Cr];rfl) d hd (by omega) (by simp only [List.length_append,List.length_singleton];omega) (by omega) _ fun ad=> ?_
 refine Ek _ _ (by exact hl) _ ?_
 dsimp only
 rw [Dr hk hea hpo]
 refine Ahc hst _ (i+1) d post (by exact hdr) (by exact hl) (by rfl) (by omega) hrs (by show(w.b.buf++B7 _).length+_<_;rw [List.length_append,Ec];omega) _ fun ad2=> ?_
 refine Hn _ _ [.tk sRB] rfl d (by rfl) (by omega) (by simp) (by show((w.b.buf++B7 _)++B7 _).length+_<_;rw [List.length_append,List.length_append,Ec,Ec];omega) _ fun ad3=> ?_
 have:=h ad3
 rw [Gd,Gd,←List.append_assoc,←List.append_assoc]at this
 exact this
end Go.Proofs.YtcakelelfklhdaaGreatDoor
namespace Go.Proofs.YtcakelelfklhdaaGreatDoor
open Go.Vc Go.Lv Go.Ty Go.Tr Go.Tk Go.Tm
theorem Vn:∀ls:List (List Ck),tx (Bs ls)=Lib.join (ls.map tx) [44,32]
 |[]=>rfl
 |[a]=>by rw [Bs,List.map_cons,List.map_nil,Lib.join_cons];simp [Lib.joinTail]
 |a::b::l=>by
  have ih:=Vn (b::l)
  rw [Bs,Cr,Cj,Cj,ih,List.map_cons,List.map_cons,Lib.join_cons,Lib.join_cons]
  simp [Lib.joinTail,Ck.tx,sps,Bz]
theorem Au2 {rs:List R} {r:R} (hr:r∈rs):(tx r.tm).length<=(tx (Bs (rs.map R.tm))).length:=by
 induction rs with
 |nil=>cases hr
 |cons a rs ih=>
  cases rs with
  |nil=>
   rw [List.mem_singleton.1 hr];exact Nat.le_refl _
  |cons b rs=>
   simp only [List.map_cons,Bs]at ih⊢
   rw [Cr,Cj,Cj,List.length_append,List.length_append,List.length_append]
   rcases List.mem_cons.1 hr with rfl|hr
   ·omega
   ·have:=ih hr;omega
theorem Aqp {rs:List R} (hst:∀r∈rs,TmW r) (w:Ab) (p:Nat) (post:List Aj) (hdr:w.l.drop p=rs.flatMap R.fl++post) (hl:w.l.length<=100000) (hrs:rs.length<=100000)
 (hb:(tx (Bs (rs.map R.tm))).length<2^30) (K:List UInt8->Prop) (h:K (tx (Bs (rs.map R.tm)))):Hy w (plc p rs) K:=by
 refine Ou _ _ _ ?_
 unfold Kg
 rw [Bg]
 refine⟨⟨by omega,by omega⟩,fun out x n=>∃j:Nat,x=j/\j<=rs.length/\out=(rs.take j).map (fun r=>tx r.tm)/\n=rs.length-j,⟨_,0,rfl,by omega,rfl,rfl⟩,?_⟩
 rintro out x n ⟨j,rfl,hj,rfl,rfl⟩
 refine Ag (fun e=> ?_) fun e=> ?_
 ·have e:j<rs.length:=by simpa using e
  refine⟨⟨by omega,by omega⟩,fun x1 h1=> ?_⟩
  have hr:rs[j]? =some rs[j]:=List.getElem?_eq_getElem e
  obtain⟨q,hq,hat⟩:=C8 w.l rs p post hdr j _ hr
  rw [Int.toNat_natCast,hq]at h1
  cases h1
  have hle:=Au2 (List.getElem_mem e)
  refine hst _ (List.getElem_mem e) w q hl hat (by omega) _ ⟨?_,rs.length-(j+1),by omega,j+1,by rw [A1 (by omega) (by omega)];omega,by omega,?_,rfl⟩
  ·simp only [List.length_map,List.length_take,List.length_singleton];omega
  ·rw [List.take_add_one,hr,List.map_append];rfl
 ·have e:¬j<rs.length:=by simpa using e
  have ht:rs.take j=rs:=List.take_of_length_le (by omega)
  rw [ht]
  have hj2:rs.map (fun r=>tx r.tm)=(rs.map R.tm).map tx:=by rw [List.map_map];rfl
  rw [hj2]
  rw [Vn]at h hb
  exact Ai3 _ _ (by simp only [List.length_map];omega) (by omega) K h
end Go.Proofs.YtcakelelfklhdaaGreatDoor
namespace Go.Proofs.YtcakelelfklhdaaGreatDoor
open Go.Vc Go.Lv Go.Ty Go.Tr Go.Tk Go.Tm
theorem Oy (d:Nat) (a t b:List Ck):(tx t).length<=(tx (line d (a++(t++b)))).length:=by
 rw [Aem,Cr,Cr]
 simp only [List.length_append];omega
structure W2 (c:UInt8) (r:R):Prop where
 wt:WT c r
 rf:c=82->Au1 r
 st:c=83->StW A5 r
 cl:c=67->StW Cv r
 dc:c=68->StW D4 r
 bl:c=66->∃x rs,r=Ar x rs/\x.op=32/\x.kids=(rs.length:Int)/\(∀r∈rs,Vl r)/\∀r∈rs,StW A5 r
 pm:c=80->∃x rs,r=Ar x rs/\x.op=39
theorem Kj:∀ {ds:List UInt8} {rs:List R},F2 W2 ds rs->F2 WT ds rs
 |[],rs,h=>by cases F2.nil h;trivial
 |_::_,[],h=>h.elim
 |_::_,_::_,h=>⟨h.1.wt,Kj h.2⟩
theorem Kv (x:Aj) (ks:List R):(Ar x ks).st=stN x ks:=rfl
theorem L3 {r:R} (ht:TmW r) (w:Ab) (q d:Nat) (hl:w.l.length<=100000) (hat:AtR w.l q r) (hd:w.deep=d) (hdn:d<=1000000) (a b:List Ck) (parts:List UInt8->List (List UInt8)) (hp:(parts (tx r.tm)).flatten=tx (a++(r.tm++b))) (hpl:(parts (tx r.tm)).length<=1000)
 (hb:w.b.buf.length+(tx (line d (a++(r.tm++b)))).length<2^30) (K:Ab->Prop) (h:∀ad,K ⟨w.l,⟨ad,w.b.buf++B7 (tx (line d (a++(r.tm++b))))⟩,d⟩):Ax w q (fun x=>Au w (parts x) fun r1=>K ⟨w.l,r1.b,r1.deep⟩):=by
 have:=Oy d a r.tm b
 refine ht w q hl hat (by omega) _ (Hn w _ _ hp d hd hdn (by omega) hb _ h)
theorem Anu {op a:Int} {s:Str} {rs:List R} (hop:op=18\/op=19\/op=20) (hf:F2 W2 [69] rs):StW A5 (Ar ⟨op,s,0,1,a⟩ rs):=by
 intro w i d hl ha hd hdn hb K hK
 have hea:=Et (Kj hf)
 obtain⟨r,rfl,hr⟩:=F2.one hf
 obtain⟨hi,hx,post,hdr⟩:=ha.node
 obtain⟨po,hpo⟩:=ha
 refine Bo _ _ _ ?_
 unfold Bk
 refine⟨fun k o nm n _ _=>k=plc (i+1) [r]/\o=op/\nm=s,⟨⟨by omega,by omega⟩,fun y hy=>Ek _ _ hl _ ?_⟩,?_⟩
 ·rw [Int.toNat_natCast,hx]at hy
  cases hy
  exact⟨Dr rfl hea hpo,rfl,rfl⟩
 rintro k o nm n _ _ ⟨rfl,rfl,rfl⟩
 obtain⟨q,hq,hat⟩:=C8 w.l _ (i+1) post hdr 0 _ rfl
 rcases hop with rfl|rfl|rfl
 ·refine⟨⟨by omega,by rw [Bg];simp⟩,fun x2 h2=> ?_⟩
  have h2':=hq.symm.trans h2
  cases h2'
  exact L3 (hr.wt.term rfl) w q d hl hat hd (by omega) [.tk Pg,sps,.tk nm,sps,.tk sEq,sps] [.tk As] (fun x=>[[118,97,114,32],nm,[32,61,32],x,[59]]) (by simp [tx,Ck.tx,sps,Pg,sEq,As]) (by simp) hb K hK
 ·refine⟨⟨by omega,by rw [Bg];simp⟩,fun x2 h2=> ?_⟩
  have h2':=hq.symm.trans h2
  cases h2'
  exact L3 (hr.wt.term rfl) w q d hl hat hd (by omega) [.tk nm,sps,.tk sEq,sps] [.tk As] (fun x=>[nm,[32,61,32],x,[59]]) (by simp [tx,Ck.tx,sps,sEq,As]) (by simp) hb K hK
 ·refine⟨⟨by omega,by rw [Bg];simp⟩,fun x2 h2=> ?_⟩
  have h2':=hq.symm.trans h2
  cases h2'
  exact L3 (hr.wt.term rfl) w q d hl hat hd (by omega) [.tk nm,sps,.tk sEq,sps,.tk Gq,.tk sLP] [.tk sRP,.tk As] (fun x=>[nm,[32,61,32,114,97,110,100,111,109,40],x,[41,59]]) (by simp [tx,Ck.tx,sps,sEq,As,Gq,sLP,sRP]) (by simp) hb K hK
end Go.Proofs.YtcakelelfklhdaaGreatDoor
namespace Go.Proofs.YtcakelelfklhdaaGreatDoor
open Go.Vc Go.Lv Go.Ty Go.Tr Go.Tk Go.Tm
theorem Anv {op a:Int} {rs:List R} (hop:op=27\/op=28\/op=29) (hf:F2 W2 [69] rs):StW A5 (Ar ⟨op,[],0,1,a⟩ rs):=by
 intro w i d hl ha hd hdn hb K hK
 have hea:=Et (Kj hf)
 obtain⟨r,rfl,hr⟩:=F2.one hf
 obtain⟨hi,hx,post,hdr⟩:=ha.node
 obtain⟨po,hpo⟩:=ha
 refine Bo _ _ _ ?_
 unfold Bk
 refine⟨fun k o nm n _ _=>k=plc (i+1) [r]/\o=op/\nm=[],⟨⟨by omega,by omega⟩,fun y hy=>Ek _ _ hl _ ?_⟩,?_⟩
 ·rw [Int.toNat_natCast,hx]at hy
  cases hy
  exact⟨Dr rfl hea hpo,rfl,rfl⟩
 rintro k o nm n _ _ ⟨rfl,rfl,rfl⟩
 obtain⟨q,hq,Axh⟩:=C8 w.l _ (i+1) post hdr 0 _ rfl
 rcases hop with rfl|rfl|rfl
 ·refine⟨⟨by omega,by rw [Bg];simp⟩,fun x hx=> ?_⟩
  have gx:=hq.symm.trans hx
  cases gx
  exact L3 (hr.wt.term rfl) w q d hl Axh hd (by omega) [.tk Kp,sps] [.tk As] (fun x=>[[115,108,101,101,112,32],x,[59]]) (by simp [tx,Ck.tx,sps,Kp,As]) (by simp) hb K hK
 ·refine⟨⟨by omega,by rw [Bg];simp⟩,fun x hx=> ?_⟩
  have gx:=hq.symm.trans hx
  cases gx
  exact L3 (hr.wt.term rfl) w q d hl Axh hd (by omega) [.tk Kq,sps] [.tk As] (fun x=>[[112,114,105,110,116,32],x,[59]]) (by simp [tx,Ck.tx,sps,Kq,As]) (by simp) hb K hK
 ·refine⟨⟨by omega,by rw [Bg];simp⟩,fun x hx=> ?_⟩
  have gx:=hq.symm.trans hx
  cases gx
  exact L3 (hr.wt.term rfl) w q d hl Axh hd (by omega) [.tk Ht,sps] [.tk As] (fun x=>[[97,115,115,101,114,116,32],x,[59]]) (by simp [tx,Ck.tx,sps,Ht,As]) (by simp) hb K hK
theorem Alw {op a:Int} {rs:List R} (hop:op=30\/op=31) (hf:F2 W2 [] rs):StW A5 (Ar ⟨op,[],0,0,a⟩ rs):=by
 intro w i d hl ha hd hdn hb K hK
 have hea:=Et (Kj hf)
 cases F2.nil hf
 obtain⟨hi,hx,post,hdr⟩:=ha.node
 obtain⟨po,hpo⟩:=ha
 refine Bo _ _ _ ?_
 unfold Bk
 refine⟨fun k o nm n _ _=>k=plc (i+1) []/\o=op/\nm=[],⟨⟨by omega,by omega⟩,fun y hy=>Ek _ _ hl _ ?_⟩,?_⟩
 ·rw [Int.toNat_natCast,hx]at hy
  cases hy
  exact⟨Dr rfl hea hpo,rfl,rfl⟩
 rintro k o nm n _ _ ⟨rfl,rfl,rfl⟩
 rcases hop with rfl|rfl
 ·exact Hn w [[115,107,105,112,59]] [.tk N3,.tk As] (by simp [tx,Ck.tx,N3,As]) d hd (by omega) (by simp) (by exact hb) _ hK
 ·exact Hn w [[115,116,111,112,59]] [.tk N4,.tk As] (by simp [tx,Ck.tx,N4,As]) d hd (by omega) (by simp) (by exact hb) _ hK
theorem Alx {s:Str} {a:Int} {rs:List R} (hf:F2 W2 [82] rs):StW A5 (Ar ⟨22,s,0,1,a⟩ rs):=by
 intro w i d hl ha hd hdn hb K hK
 have hea:=Et (Kj hf)
 obtain⟨r,rfl,hr⟩:=F2.one hf
 obtain⟨hi,hx,post,hdr⟩:=ha.node
 obtain⟨po,hpo⟩:=ha
 refine Bo _ _ _ ?_
 unfold Bk
 refine⟨fun k o nm n _ _=>k=plc (i+1) [r]/\o=22/\nm=s,⟨⟨by omega,by omega⟩,fun y hy=>Ek _ _ hl _ ?_⟩,?_⟩
 ·rw [Int.toNat_natCast,hx]at hy
  cases hy
  exact⟨Dr rfl hea hpo,rfl,rfl⟩
 rintro k o nm n _ _ ⟨rfl,rfl,rfl⟩
 obtain⟨q,hq,Axh⟩:=C8 w.l _ (i+1) post hdr 0 _ rfl
 refine⟨⟨by omega,by rw [Bg];simp⟩,fun x hx=> ?_⟩
 have gx:=hq.symm.trans hx
 cases gx
 have est:(Ar ⟨22,nm,0,1,a⟩ [r]).st d=line d (r.tm++[sps,.tk Gt,sps,.tk nm,.tk As]):=rfl
 rw [est]at hK hb
 have hle:=Oy d [] r.tm [sps,.tk Gt,sps,.tk nm,.tk As]
 have hb2:w.b.buf.length+(tx (line d ([]++(r.tm++[sps,.tk Gt,sps,.tk nm,.tk As])))).length<2^30:=hb
 refine hr.rf rfl w q hl Axh (by omega) _ ?_
 exact Hn w [tx r.tm,[32,63,32],nm,[59]] (r.tm++[sps,.tk Gt,sps,.tk nm,.tk As]) (by simp [tx,Ck.tx,sps,Gt,As]) d hd (by omega) (by simp) (by exact hb) _ hK
theorem Aqq (a:Int) (r r2:R) (d:Nat):(Ar ⟨21,[],0,2,a⟩ [r,r2]).st d=line d (r.tm++(sps::.tk C5::sps::(r2.tm++[.tk As]))):=by
 rw [Kv]
 unfold stN
 dsimp only
 simp only [Int.reduceEq,if_false,if_true]
 rfl
theorem Aly {a:Int} {rs:List R} (hf:F2 W2 [82,69] rs):StW A5 (Ar ⟨21,[],0,2,a⟩ rs):=by
 intro w i d hl ha hd hdn hb K hK
 have hea:=Et (Kj hf)
 obtain⟨r,r2,rfl,hr,hr2⟩:=F2.two hf
 obtain⟨hi,hx,post,hdr⟩:=ha.node
 obtain⟨po,hpo⟩:=ha
 rw [Aqq]at hK hb
 refine Bo _ _ _ ?_
 unfold Bk
 refine⟨fun k o nm n _ _=>k=plc (i+1) [r,r2]/\o=21/\nm=[],⟨⟨by omega,by omega⟩,fun y hy=>Ek _ _ hl _ ?_⟩,?_⟩
 ·rw [Int.toNat_natCast,hx]at hy
  cases hy
  exact⟨Dr rfl hea hpo,rfl,rfl⟩
 rintro k o nm n _ _ ⟨rfl,rfl,rfl⟩
 obtain⟨q,hq,Axh⟩:=C8 w.l _ (i+1) post hdr 0 _ rfl
 obtain⟨p,hp,Bee⟩:=C8 w.l _ (i+1) post hdr 1 _ rfl
 have Bef:=Oy d [] r.tm (sps::.tk C5::sps::(r2.tm++[.tk As]))
 have e2:[]++(r.tm++(sps::.tk C5::sps::(r2.tm++[.tk As])))=(r.tm++[sps,.tk C5,sps])++(r2.tm++[.tk As]):=by simp
 have Bc4:=Oy d (r.tm++[sps,.tk C5,sps]) r2.tm [.tk As]
 rw [←e2]at Bc4
 rw [List.nil_append]at Bef Bc4
 refine A7 rfl (A7 rfl (A7 rfl (Em rfl ?_)))
 refine⟨⟨by omega,by rw [Bg];simp⟩,fun x hx=>⟨⟨by omega,by rw [Bg];simp⟩,fun y hy=> ?_⟩⟩
 have gx:=hq.symm.trans hx
 cases gx
 have gy:=hp.symm.trans hy
 cases gy
 refine hr.rf rfl w q hl Axh (by omega) _ ?_
 refine hr2.wt.term rfl w p hl Bee (by omega) _ ?_
 exact Hn w [tx r.tm,[32,33,32],tx r2.tm,[59]] (r.tm++(sps::.tk C5::sps::(r2.tm++[.tk As]))) (by simp [tx,Ck.tx,sps,C5,As]) d hd (by omega) (by simp) (by exact hb) _ hK
end Go.Proofs.YtcakelelfklhdaaGreatDoor
namespace Go.Proofs.YtcakelelfklhdaaGreatDoor
open Go.Vc Go.Lv Go.Ty Go.Tr Go.Tk Go.Tm
def BlR (r:R):Prop:=∃x rs,r=Ar x rs/\x.op=32/\x.kids=(rs.length:Int)/\(∀r∈rs,Vl r)/\∀r∈rs,StW A5 r
theorem Anw {r:R} (hr:BlR r) (w:Ab) (q d:Nat) (hl:w.l.length<=100000) (hat:AtR w.l q r) (hd:w.deep=d) (hdn:d+r.fl.length<=200000)
 (hb:w.b.buf.length+(tx (r.st (d+1))).length<2^30) (K:Ab->Prop) (h:∀ad,K ⟨w.l,⟨ad,w.b.buf++B7 (tx (r.st (d+1)))⟩,d⟩):Bp w q (fun x=>Bb w x K):=by
 obtain⟨x,rs,rfl,hx,hk,hea,hst⟩:=hr
 obtain⟨hi,hxi,post,hdr⟩:=hat.node
 obtain⟨po,hpo⟩:=hat
 have hrs:rs.length<=100000:=by
  have h1:=Ql hea
  have h2:=congrArg List.length hdr
  rw [List.length_drop,List.length_append]at h2
  omega
 have Bi9:(Ar x rs).st (d+1)=Bf (d+1) rs:=by
  show stN x rs (d+1)=_
  unfold stN
  rw [hx];rfl
 have hdn:d+((rs.flatMap R.fl).length+1)<=200000:=hdn
 rw [Bi9]at h hb
 refine Ek _ _ hl _ ?_
 rw [Dr hk hea hpo]
 exact Ahc hst w (q+1) d post hdr hl hd (by omega) hrs hb K h
theorem Ath (a:Int) (r r2:R) (d:Nat):(Ar ⟨23,[],0,2,a⟩ [r,r2]).st d=line d (.tk sIf::sps::(r.tm++[sps,.tk sLB]))++(r2.st (d+1)++line d [.tk sRB]):=by
 rw [Kv]
 unfold stN
 dsimp only
 simp only [Int.reduceEq,if_false,if_true]
 rfl
theorem Ati (a:Int) (r r2 r3:R) (d:Nat):(Ar ⟨23,[],0,3,a⟩ [r,r2,r3]).st d=line d (.tk sIf::sps::(r.tm++[sps,.tk sLB]))++(r2.st (d+1)++(line d [.tk sRB,sps,.tk Dq,sps,.tk sLB]++(r3.st (d+1)++line d [.tk sRB]))):=by
 rw [Kv]
 unfold stN
 dsimp only
 simp only [Int.reduceEq,if_false,if_true]
 rfl
theorem Atj (a:Int) (r r2:R):(Ar ⟨23,[],0,2,a⟩ [r,r2]).fl.length=r.fl.length+r2.fl.length+1:=by simp [Ar]
theorem Atk (a:Int) (r r2 r3:R):(Ar ⟨23,[],0,3,a⟩ [r,r2,r3]).fl.length=r.fl.length+(r2.fl.length+r3.fl.length)+1:=by simp [Ar]
theorem Anx {a:Int} {rs:List R} (hf:F2 W2 [69,66] rs):StW A5 (Ar ⟨23,[],0,2,a⟩ rs):=by
 intro w i d hl ha hd hdn hb K hK
 have hea:=Et (Kj hf)
 obtain⟨r,r2,rfl,hr,hr2⟩:=F2.two hf
 obtain⟨hi,hx,post,hdr⟩:=ha.node
 obtain⟨po,hpo⟩:=ha
 rw [Ath]at hK hb
 rw [Atj]at hdn
 rw [Cr,Cr]at hK hb
 simp only [List.length_append]at hb
 refine Bo _ _ _ ?_
 unfold Bk
 refine⟨fun k o nm n _ _=>k=plc (i+1) [r,r2]/\o=23/\nm=[],⟨⟨by omega,by omega⟩,fun y hy=>Ek _ _ hl _ ?_⟩,?_⟩
 ·rw [Int.toNat_natCast,hx]at hy
  cases hy
  exact⟨Dr rfl hea hpo,rfl,rfl⟩
 rintro k o nm n _ _ ⟨rfl,rfl,rfl⟩
 obtain⟨q,hq,Axh⟩:=C8 w.l _ (i+1) post hdr 0 _ rfl
 obtain⟨p,hp,Bee⟩:=C8 w.l _ (i+1) post hdr 1 _ rfl
 have Bef:=Oy d [.tk sIf,sps] r.tm [sps,.tk sLB]
 have Bef:(tx r.tm).length<=(tx (line d (.tk sIf::sps::(r.tm++[sps,.tk sLB])))).length:=Bef
 refine A7 rfl (A7 rfl (A7 rfl (A7 rfl (A7 rfl (Em rfl ?_)))))
 refine⟨⟨by omega,by rw [Bg];simp⟩,fun x hx=> ?_⟩
 have gx:=hq.symm.trans hx
 cases gx
 refine hr.wt.term rfl w q hl Axh (by omega) _ ?_
 refine Hn w _ (.tk sIf::sps::(r.tm++[sps,.tk sLB])) (by simp [tx,Ck.tx,sps,sIf,sLB]) d hd (by omega) (by simp) (by omega) _ fun ad=> ?_
 refine⟨⟨by omega,by rw [Bg];simp⟩,fun y hy=> ?_⟩
 have gy:=hp.symm.trans hy
 cases gy
 refine Anw (hr2.bl rfl) ⟨w.l,⟨ad,_⟩,d⟩ p d hl Bee rfl (by omega) (by simp only [List.length_append,Ec];omega) _ fun ad2=> ?_
 refine⟨fun ad3 bf dp=>(∃x,ad3=x)/\bf=w.b.buf++B7 (tx (line d (.tk sIf::sps::(r.tm++[sps,.tk sLB]))))++B7 (tx (r2.st (d+1)))/\dp=(d:Int),A7 (by rw [Bg];rfl) ⟨⟨_,rfl⟩,rfl,rfl⟩,?_⟩
 rintro ad3 bf dp ⟨_,rfl,rfl⟩
 refine Hn ⟨w.l,⟨ad3,_⟩,d⟩ _ [.tk sRB] rfl d rfl (by omega) (by simp) (by simp only [List.length_append,Ec];omega) _ fun ad4=> ?_
 have:=hK ad4
 rw [Gd,Gd,←List.append_assoc,←List.append_assoc]at this
 exact this
theorem Anz {a:Int} {rs:List R} (hf:F2 W2 [69,66,66] rs):StW A5 (Ar ⟨23,[],0,3,a⟩ rs):=by
 intro w i d hl ha hd hdn hb K hK
 have hea:=Et (Kj hf)
 obtain⟨r,r2,r3,rfl,hr,hr2,hr3⟩:=F2.three hf
 obtain⟨hi,hx,post,hdr⟩:=ha.node
 obtain⟨po,hpo⟩:=ha
 rw [Ati]at hK hb
 rw [Atk]at hdn
 rw [Cr,Cr,Cr,Cr]at hK hb
 simp only [List.length_append]at hb
 refine Bo _ _ _ ?_
 unfold Bk
 refine⟨fun k o nm n _ _=>k=plc (i+1) [r,r2,r3]/\o=23/\nm=[],⟨⟨by omega,by omega⟩,fun y hy=>Ek _ _ hl _ ?_⟩,?_⟩
 ·rw [Int.toNat_natCast,hx]at hy
  cases hy
  exact⟨Dr rfl hea hpo,rfl,rfl⟩
 rintro k o nm n _ _ ⟨rfl,rfl,rfl⟩
 obtain⟨q,hq,Axh⟩:=C8 w.l _ (i+1) post hdr 0 _ rfl
 obtain⟨p,hp,Bee⟩:=C8 w.l _ (i+1) post hdr 1 _ rfl
 obtain⟨p3,hp3,Bzy⟩:=C8 w.l _ (i+1) post hdr 2 _ rfl
 have Bef:(tx r.tm).length<=(tx (line d (.tk sIf::sps::(r.tm++[sps,.tk sLB])))).length:=Oy d [.tk sIf,sps] r.tm [sps,.tk sLB]
 refine A7 rfl (A7 rfl (A7 rfl (A7 rfl (A7 rfl (Em rfl ?_)))))
 refine⟨⟨by omega,by rw [Bg];simp⟩,fun x hx=> ?_⟩
 have gx:=hq.symm.trans hx
 cases gx
 refine hr.wt.term rfl w q hl Axh (by omega) _ ?_
 refine Hn w _ (.tk sIf::sps::(r.tm++[sps,.tk sLB])) (by simp [tx,Ck.tx,sps,sIf,sLB]) d hd (by omega) (by simp) (by omega) _ fun ad=> ?_
 refine⟨⟨by omega,by rw [Bg];simp⟩,fun y hy=> ?_⟩
 have gy:=hp.symm.trans hy
 cases gy
 refine Anw (hr2.bl rfl) ⟨w.l,⟨ad,_⟩,d⟩ p d hl Bee rfl (by omega) (by simp only [List.length_append,Ec];omega) _ fun ad2=> ?_
 refine⟨fun ad3 bf dp=>(∃x,ad3=x)/\bf=w.b.buf++B7 (tx (line d (.tk sIf::sps::(r.tm++[sps,.tk sLB]))))++B7 (tx (r2.st (d+1)))++B7 (tx (line d [.tk sRB,sps,.tk Dq,sps,.tk sLB]))++B7 (tx (r3.st (d+1)))/\dp=(d:Int),Em (by rw [Bg];rfl) ?_,?_⟩
 ·refine Hn ⟨w.l,⟨ad2,_⟩,d⟩ _ [.tk sRB,sps,.tk Dq,sps,.tk sLB] (by simp [tx,Ck.tx,sps,sRB,Dq,sLB]) d rfl (by omega) (by simp) (by simp only [List.length_append,Ec];omega) _ fun ad4=> ?_
  refine⟨⟨by omega,by rw [Bg];simp⟩,fun z hz=> ?_⟩
  have gz:=hp3.symm.trans hz
  cases gz
  refine Anw (hr3.bl rfl) ⟨w.l,⟨ad4,_⟩,d⟩ p3 d hl Bzy rfl (by omega) (by simp only [List.length_append,Ec];omega) _ fun ad5=> ?_
  exact⟨⟨_,rfl⟩,rfl,rfl⟩
 rintro ad3 bf dp ⟨_,rfl,rfl⟩
 refine Hn ⟨w.l,⟨ad3,_⟩,d⟩ _ [.tk sRB] rfl d rfl (by omega) (by simp) (by simp only [List.length_append,Ec];omega) _ fun ad4=> ?_
 have:=hK ad4
 rw [Gd,Gd,Gd,Gd,←List.append_assoc,←List.append_assoc,←List.append_assoc,←List.append_assoc]at this
 exact this
theorem Aqr (a:Int) (r r2:R) (d:Nat):(Ar ⟨24,[],0,2,a⟩ [r,r2]).st d=Bd d (.tk F9::sps::r.tm) r2:=rfl
theorem Zl (d:Nat) (cs:List Ck) (r:R):(tx cs).length<=(tx (Bd d cs r)).length:=by
 unfold Bd
 rw [Cr,Aem,Cr]
 simp only [List.length_append];omega
theorem Zm {r:R} (hr:BlR r) (w:Ab) (q d:Nat) (hl:w.l.length<=100000) (hat:AtR w.l q r) (hd:w.deep=d) (hdn:d+r.fl.length<=200000) (front:List (List UInt8)) (cs:List Ck) (hp:front.flatten=tx cs) (hf:front.length<=1000)
 (hb:w.b.buf.length+(tx (Bd d cs r)).length<2^30) (K:Ab->Prop) (h:∀ad,K ⟨w.l,⟨ad,w.b.buf++B7 (tx (Bd d cs r))⟩,d⟩):A9 w q front K:=by
 obtain⟨x,rs,rfl,hx,hk,hea,hst⟩:=hr
 exact Aqo hx hk hea hst w q d hl hat hd hdn front cs hp hf hb K h
theorem Alz {a:Int} {rs:List R} (hf:F2 W2 [69,66] rs):StW A5 (Ar ⟨24,[],0,2,a⟩ rs):=by
 intro w i d hl ha hd hdn hb K hK
 have hea:=Et (Kj hf)
 obtain⟨r,r2,rfl,hr,hr2⟩:=F2.two hf
 obtain⟨hi,hx,post,hdr⟩:=ha.node
 obtain⟨po,hpo⟩:=ha
 rw [Aqr]at hK hb
 have hdn:d+(r.fl.length+r2.fl.length+1)<=200000:=by
  rw [show(Ar ⟨24,[],0,2,a⟩ [r,r2]).fl.length=r.fl.length+r2.fl.length+1 by simp [Ar]]at hdn;exact hdn
 refine Bo _ _ _ ?_
 unfold Bk
 refine⟨fun k o nm n _ _=>k=plc (i+1) [r,r2]/\o=24/\nm=[],⟨⟨by omega,by omega⟩,fun y hy=>Ek _ _ hl _ ?_⟩,?_⟩
 ·rw [Int.toNat_natCast,hx]at hy
  cases hy
  exact⟨Dr rfl hea hpo,rfl,rfl⟩
 rintro k o nm n _ _ ⟨rfl,rfl,rfl⟩
 obtain⟨q,hq,Axh⟩:=C8 w.l _ (i+1) post hdr 0 _ rfl
 obtain⟨p,hp,Bee⟩:=C8 w.l _ (i+1) post hdr 1 _ rfl
 have Ch1:=Zl d (.tk F9::sps::r.tm) r2
 have Bef:(tx r.tm).length<=(tx (.tk F9::sps::r.tm)).length:=by rw [Cj,Cj];simp only [List.length_append];omega
 refine A7 rfl (A7 rfl (A7 rfl (A7 rfl (A7 rfl (A7 rfl (Em rfl ?_))))))
 refine⟨⟨by omega,by rw [Bg];simp⟩,fun y hy=>⟨⟨by omega,by rw [Bg];simp⟩,fun x hx=> ?_⟩⟩
 have gx:=hq.symm.trans hx
 cases gx
 have gy:=hp.symm.trans hy
 cases gy
 refine hr.wt.term rfl w q hl Axh (by omega) _ ?_
 exact Zm (hr2.bl rfl) w p d hl Bee hd (by omega) _ (.tk F9::sps::r.tm) (by simp [tx,Ck.tx,sps,F9]) (by simp) (by exact hb) _ hK
theorem Atl (k a:Int) (rs:List R) (d:Nat):(Ar ⟨25,[],0,k,a⟩ rs).st d=line d [.tk D1,sps,.tk sLB]++(Bf (d+1) rs++line d [.tk sRB]):=by
 rw [Kv]
 unfold stN
 dsimp only
 simp only [Int.reduceEq,if_false,if_true]
theorem Zn {Q:UInt8->R->Prop} {c:UInt8} {k:Nat} {rs:List R} (h:F2 Q (List.replicate k c) rs):rs.length=k/\∀r∈rs,Q c r:=F2.rep h
theorem Xq (x:Aj) (rs:List R):(Ar x rs).fl.length=(rs.flatMap R.fl).length+1:=rfl
theorem An0 {k:Nat} {a:Int} {rs:List R} (hk:k<2^39) (hf:F2 W2 (List.replicate k 67) rs):StW A5 (Ar ⟨25,[],0,wr k,a⟩ rs):=by
 intro w i d hl ha hd hdn hb K hK
 have hea:=Et (Kj hf)
 obtain⟨hlen,Awn⟩:=Zn hf
 obtain⟨hi,hx,post,hdr⟩:=ha.node
 obtain⟨po,hpo⟩:=ha
 rw [Xq]at hdn
 rw [Atl]at hK hb
 rw [Cr,Cr]at hK hb
 simp only [List.length_append]at hb
 have hkk:(⟨25,[],0,wr k,a⟩:Aj).kids=(rs.length:Int):=by show wr k=_;rw [hlen];exact Qk (by omega)
 have hrs:rs.length<=100000:=by
  have h1:=Ql hea
  have h2:=congrArg List.length hdr
  rw [List.length_drop,List.length_append]at h2
  omega
 refine Bo _ _ _ ?_
 unfold Bk
 refine⟨fun kk o nm n _ _=>kk=plc (i+1) rs/\o=25/\nm=[],⟨⟨by omega,by omega⟩,fun y hy=>Ek _ _ hl _ ?_⟩,?_⟩
 ·rw [Int.toNat_natCast,hx]at hy
  cases hy
  exact⟨Dr hkk hea hpo,rfl,rfl⟩
 rintro kk o nm n _ _ ⟨rfl,rfl,rfl⟩
 refine A7 rfl (A7 rfl (A7 rfl (A7 rfl (A7 rfl (A7 rfl (A7 rfl (Em rfl ?_)))))))
 refine Hn w _ [.tk D1,sps,.tk sLB] (by simp [tx,Ck.tx,sps,D1,sLB]) d hd (by omega) (by simp) (by omega) _ fun ad=> ?_
 refine Alv (fun r hr=>(Awn r hr).cl rfl) ⟨w.l,⟨ad,_⟩,d⟩ (i+1) d post hdr hl rfl (by omega) hrs (by simp only [List.length_append,Ec];omega) _ fun ad2=> ?_
 refine Hn ⟨w.l,⟨ad2,_⟩,d⟩ _ [.tk sRB] rfl d rfl (by omega) (by simp) (by simp only [List.length_append,Ec];omega) _ fun ad4=> ?_
 have:=hK ad4
 rw [Gd,Gd,←List.append_assoc,←List.append_assoc]at this
 exact this
theorem An1 (s:Str) (k a:Int) (rs:List R) (d:Nat):(Ar ⟨26,s,0,k,a⟩ rs).st d=line d (.tk Ff::sps::.tk s::.tk sLP::(Bs (rs.map R.tm)++[.tk sRP,.tk As])):=by
 rw [Kv]
 unfold stN
 dsimp only
 simp only [Int.reduceEq,if_false,if_true]
theorem Ai5 {s:Str} {k:Nat} {a:Int} {rs:List R} (hk:k<2^39) (hf:F2 W2 (List.replicate k 69) rs):StW A5 (Ar ⟨26,s,0,wr k,a⟩ rs):=by
 intro w i d hl ha hd hdn hb K hK
 have hea:=Et (Kj hf)
 obtain⟨hlen,Awn⟩:=Zn hf
 obtain⟨hi,hx,post,hdr⟩:=ha.node
 obtain⟨po,hpo⟩:=ha
 rw [An1]at hK hb
 have hkk:(⟨26,s,0,wr k,a⟩:Aj).kids=(rs.length:Int):=by show wr k=_;rw [hlen];exact Qk (by omega)
 have hrs:rs.length<=100000:=by
  have h1:=Ql hea
  have h2:=congrArg List.length hdr
  rw [List.length_drop,List.length_append]at h2
  omega
 have hle:=Oy d [.tk Ff,sps,.tk s,.tk sLP] (Bs (rs.map R.tm)) [.tk sRP,.tk As]
 have hle:(tx (Bs (rs.map R.tm))).length<=(tx (line d (.tk Ff::sps::.tk s::.tk sLP::(Bs (rs.map R.tm)++[.tk sRP,.tk As])))).length:=hle
 refine Bo _ _ _ ?_
 unfold Bk
 refine⟨fun kk o nm n _ _=>kk=plc (i+1) rs/\o=26/\nm=s,⟨⟨by omega,by omega⟩,fun y hy=>Ek _ _ hl _ ?_⟩,?_⟩
 ·rw [Int.toNat_natCast,hx]at hy
  cases hy
  exact⟨Dr hkk hea hpo,rfl,rfl⟩
 rintro kk o nm n _ _ ⟨rfl,rfl,rfl⟩
 refine A7 rfl (A7 rfl (A7 rfl (A7 rfl (A7 rfl (A7 rfl (A7 rfl (A7 rfl (Em rfl ?_))))))))
 refine Aqp (fun r hr=>(Awn r hr).wt.term rfl) w (i+1) post hdr hl hrs (by omega) _ ?_
 exact Hn w _ (.tk Ff::sps::.tk nm::.tk sLP::(Bs (rs.map R.tm)++[.tk sRP,.tk As])) (by simp [tx,Ck.tx,sps,Ff,sLP,sRP,As]) d hd (by omega) (by simp) (by exact hb) _ hK
end Go.Proofs.YtcakelelfklhdaaGreatDoor
namespace Go.Proofs.YtcakelelfklhdaaGreatDoor
open Go.Vc Go.Lv Go.Ty Go.Tr Go.Tk Go.Tm
theorem Atm (a:Int) (b:R) (d:Nat):(Ar ⟨37,[],0,1,a⟩ [b]).st d=Bd d [.tk Dq] b:=by
 rw [Kv]
 unfold stN
 dsimp only
 simp only [Int.reduceEq,if_false,if_true]
 rfl
theorem Qm {x:Aj} {rs:List R} {b:R} (h:b∈rs):b.fl.length+1<=(Ar x rs).fl.length:=by
 have:=Aen h
 rw [Xq];omega
theorem An2 {a:Int} {rs:List R} (hf:F2 W2 [66] rs):StW Cv (Ar ⟨37,[],0,1,a⟩ rs):=by
 intro w i d hl ha hd hdn hb K hK
 have hea:=Et (Kj hf)
 obtain⟨b,rfl,hr⟩:=F2.one hf
 obtain⟨hi,hx,post,hdr⟩:=ha.node
 obtain⟨po,hpo⟩:=ha
 have hfl:=Qm (x:=⟨37,[],0,1,a⟩) (rs:=[b]) (b:=b) (by simp)
 rw [Atm]at hK hb
 refine Jj _ _ _ ?_
 unfold Gm
 refine⟨fun k o nm n _ _=>k=plc (i+1) [b]/\o=37/\nm=[]/\n=0,⟨⟨by omega,by omega⟩,fun y hy=>Ek _ _ hl _ ?_⟩,?_⟩
 ·rw [Int.toNat_natCast,hx]at hy
  cases hy
  exact⟨Dr rfl hea hpo,rfl,rfl,rfl⟩
 rintro k o nm n _ _ ⟨rfl,rfl,rfl,rfl⟩
 obtain⟨q,hq,Axh⟩:=C8 w.l _ (i+1) post hdr 0 _ rfl
 refine⟨fun k1 _=>k1=plc (i+1) [b],A7 rfl rfl,?_⟩
 rintro _ _ rfl
 refine A7 rfl (A7 rfl (A7 rfl ⟨⟨by omega,by rw [Bg];simp⟩,fun x hx=> ?_⟩))
 have gx:=hq.symm.trans hx
 cases gx
 exact Zm (hr.bl rfl) w q d hl Axh hd (by omega) _ [.tk Dq] rfl (by simp) (by exact hb) _ hK
def wn (w:Bool):Int:=if w then 1 else 0
def gs (w:Bool):List UInt8:=if w then [69]else []
theorem Aqs (s:Str) (k a:Int) (w:Bool) (g:List R) (hg:F2 W2 (gs w) g) (r b:R) (d:Nat):(Ar ⟨34,s,wn w,k,a⟩ (g++[r,b])).st d=Bd d (D8 ⟨34,s,wn w,k,a⟩ (g++[r,b])++(r.tm++[sps,.tk Gt,sps,.tk s])) b:=by
 rw [Kv]
 unfold stN
 dsimp only
 simp only [Int.reduceEq,if_false,if_true]
 cases w with
 |false=>cases F2.nil hg;rfl
 |true=>obtain⟨x,rfl,_⟩:=F2.one hg;rfl
theorem Al0 (s:Str) (k a:Int) (w:Bool) (g:List R) (hg:F2 W2 (gs w) g) (r e b:R) (d:Nat):(Ar ⟨35,s,wn w,k,a⟩ (g++[r,e,b])).st d=Bd d (D8 ⟨35,s,wn w,k,a⟩ (g++[r,e,b])++(r.tm++(sps::.tk C5::sps::e.tm))) b:=by
 rw [Kv]
 unfold stN
 dsimp only
 simp only [Int.reduceEq,if_false,if_true]
 cases w with
 |false=>cases F2.nil hg;rfl
 |true=>obtain⟨x,rfl,_⟩:=F2.one hg;rfl
theorem An3 (s:Str) (k a:Int) (w:Bool) (g:List R) (hg:F2 W2 (gs w) g) (e b:R) (d:Nat):(Ar ⟨36,s,wn w,k,a⟩ (g++[e,b])).st d=Bd d (D8 ⟨36,s,wn w,k,a⟩ (g++[e,b])++(.tk D7::sps::e.tm)) b:=by
 rw [Kv]
 unfold stN
 dsimp only
 simp only [Int.reduceEq,if_false,if_true]
 cases w with
 |false=>cases F2.nil hg;rfl
 |true=>obtain⟨x,rfl,_⟩:=F2.one hg;rfl
theorem Akg (a b:List Ck):(tx (a++b)).length=(tx a).length+(tx b).length:=by rw [Cr,List.length_append]
theorem Qn (a:Ck) (b:List Ck):(tx (a::b)).length=a.tx.length+(tx b).length:=by rw [Cj,List.length_append]
theorem Vo (d:Nat) (F A:List Ck) (b:R):(tx F).length+(tx A).length<=(tx (Bd d (F++A) b)).length:=by
 have:=Zl d (F++A) b
 rw [Cr,List.length_append]at this
 exact this
theorem Al1 (x:Aj) (hn:x.n=1) (g:R) (rs:List R):tx (D8 x (g::rs))=[99,97,115,101,32]++(([119,104,101,110,32]++tx g.tm)++[58,32]):=by
 unfold D8
 rw [if_pos hn]
 simp [tx,Ck.tx,kd,sps,Bq,Ef,Ee]
theorem Al2 (x:Aj) (hn:x.n=0) (rs:List R):tx (D8 x rs)=[99,97,115,101,32]:=by
 unfold D8
 rw [if_neg (by omega)]
 simp [tx,Ck.tx,sps,Bq]
def Avx (w:Ab) (op:Int) (s:Str) (K:Ab->Prop) (k1:List Int) (front:List UInt8):Prop:=
 cond (op==34)
 (((0:Int)<=1/\1<(k1.length:Int))/\
 ∀x4,k1[1]? =some x4->
 ((0:Int)<=0/\0<(k1.length:Int))/\
 ∀x5,k1[0]? =some x5->
 Da w x5 (fun x6=>
 A9 w x4 ([front,x6,[32,63,32],s]:List (List UInt8)) (fun r=>
 K (⟨w.l,r.b,r.deep⟩:Ab))))
 (cond (op==35)
 (((0:Int)<=2/\2<(k1.length:Int))/\
 ∀x7,k1[2]? =some x7->
 ((0:Int)<=0/\0<(k1.length:Int))/\
 ∀x8,k1[0]? =some x8->
 ((0:Int)<=1/\1<(k1.length:Int))/\
 ∀x9,k1[1]? =some x9->
 Da w x8 (fun x10=>
 Ax w x9 (fun x11=>
 A9 w x7 ([front,x10,[32,33,32],x11]:List (List UInt8)) (fun r1=>
 K (⟨w.l,r1.b,r1.deep⟩:Ab)))))
 (cond (op==36)
 (((0:Int)<=1/\1<(k1.length:Int))/\
 ∀x12,k1[1]? =some x12->
 ((0:Int)<=0/\0<(k1.length:Int))/\
 ∀x13,k1[0]? =some x13->
 Ax w x13 (fun x14=>
 A9 w x12 ([front,[97,102,116,101,114,32],x14]:List (List UInt8)) (fun r2=>
 K (⟨w.l,r2.b,r2.deep⟩:Ab))))
 (((0:Int)<=0/\0<(k1.length:Int))/\
 ∀x15,k1[0]? =some x15->
 A9 w x15 ([[101,108,115,101]]:List (List UInt8)) (fun r3=>
 K (⟨w.l,r3.b,r3.deep⟩:Ab)))))
theorem Vp {op:Int} {s:Str} {a:Int} {w0:Bool} {ds:List UInt8} {g rs:List R} (hds:ds.length<=3) (hg:F2 W2 (gs w0) g) (hf:F2 W2 ds rs) (w:Ab) (i:Nat) (hl:w.l.length<=100000)
 (ha:AtR w.l i (Ar ⟨op,s,wn w0,wr (gs w0++ds).length,a⟩ (g++rs))) (hb:(tx (D8 ⟨op,s,wn w0,wr (gs w0++ds).length,a⟩ (g++rs))).length<2^30) (K:Ab->Prop)
 (h:∀(p:Nat) (post:List Aj),w.l.drop p=rs.flatMap R.fl++post->Avx w op s K (plc p rs) (tx (D8 ⟨op,s,wn w0,wr (gs w0++ds).length,a⟩ (g++rs)))):Cv w i K:=by
 have hf2:F2 W2 (gs w0++ds) (g++rs):=by
  cases w0 with
  |false=>cases F2.nil hg;exact hf
  |true=>obtain⟨x,rfl,hx⟩:=F2.one hg;exact⟨hx,hf⟩
 have hea:=Et (Kj hf2)
 have hkk:wr (gs w0++ds).length=((g++rs).length:Int):=by
  rw [←F2.len hf2]
  refine Qk ?_
  rw [List.length_append]
  cases w0<;>simp only [gs,if_true,if_false,List.length_cons,List.length_nil,Bool.false_eq_true]<;>omega
 obtain⟨hi,hx,post,hdr⟩:=ha.node
 obtain⟨po,hpo⟩:=ha
 refine Jj _ _ _ ?_
 unfold Gm
 refine⟨fun k o nm n _ _=>k=plc (i+1) (g++rs)/\o=op/\nm=s/\n=wn w0,⟨⟨by omega,by omega⟩,fun y hy=>Ek _ _ hl _ ?_⟩,?_⟩
 ·rw [Int.toNat_natCast,hx]at hy
  cases hy
  exact⟨Dr hkk hea hpo,rfl,rfl,rfl⟩
 rintro k o nm n _ _ ⟨rfl,rfl,rfl,rfl⟩
 refine⟨fun k1 fr=>∃(p:Nat) (post:List Aj),w.l.drop p=rs.flatMap R.fl++post/\k1=plc p rs/\fr=tx (D8 ⟨o,nm,wn w0,wr (gs w0++ds).length,a⟩ (g++rs)),?_,?_⟩
 ·cases w0 with
  |false=>
   cases F2.nil hg
   exact A7 rfl ⟨i+1,post,hdr,rfl,(Al2 _ rfl _).symm⟩
  |true=>
   obtain⟨x,rfl,hx⟩:=F2.one hg
   obtain⟨q,hq,Axh⟩:=C8 w.l _ (i+1) post hdr 0 _ rfl
   have htx:=Al1 ⟨o,nm,wn true,wr (gs true++ds).length,a⟩ rfl x rs
   have hb:(tx (D8 ⟨o,nm,wn true,wr (gs true++ds).length,a⟩ (x::rs))).length<2^30:=hb
   rw [htx]at hb
   simp only [List.length_append,List.length_cons,List.length_nil]at hb
   refine Em rfl ⟨⟨by omega,by rw [Bg];simp⟩,fun y hy=> ?_⟩
   have gy:=hq.symm.trans hy
   cases gy
   refine hx.wt.term rfl w q hl Axh (by omega) _ ?_
   rw [R4]
   refine⟨by simp only [List.length_cons,List.length_nil];omega,by simp only [List.length_append,List.length_cons,List.length_nil];omega,by simp only [List.length_append,List.length_cons,List.length_nil];omega,⟨by omega,by rw [Bg];simp;omega⟩,i+1+x.fl.length,post,?_,rfl,htx.symm⟩
   have hdr:w.l.drop (i+1)=(x::rs).flatMap R.fl++post:=hdr
   rw [←List.drop_drop,hdr,List.flatMap_cons,List.append_assoc,List.drop_left]
 ·rintro k1 fr ⟨p,post,hp,rfl,rfl⟩
  exact h p post hp
theorem Ahd {op:Int} {s:Str} {a:Int} {w0:Bool} {ds:List UInt8} {rs:List R} (h:(op=34/\Tk.Ba s=true/\ds=[82,66])\/(op=35/\s=[]/\ds=[82,69,66])\/(op=36/\s=[]/\ds=[69,66]))
 (hf:F2 W2 (gs w0++ds) rs):StW Cv (Ar ⟨op,s,wn w0,wr (gs w0++ds).length,a⟩ rs):=by
 intro w i d hl ha hd hdn hb K hK
 obtain⟨g,rs,rfl,hg,hf⟩:=F2.split hf
 rcases h with⟨rfl,hn,rfl⟩|⟨rfl,rfl,rfl⟩|⟨rfl,rfl,rfl⟩
 ·obtain⟨r,b,rfl,hr,hbl⟩:=F2.two hf
  rw [Aqs s _ a w0 g hg]at hK hb
  have hfl:=Qm (x:=⟨34,s,wn w0,wr (gs w0++[82,66]).length,a⟩) (rs:=g++[r,b]) (b:=b) (by simp)
  have hle:=Vo d (D8 ⟨34,s,wn w0,wr (gs w0++[82,66]).length,a⟩ (g++[r,b])) (r.tm++[sps,.tk Gt,sps,.tk s]) b
  have Bc4:=hle
  rw [Akg]at Bc4
  refine Vp (by decide) hg hf w i hl ha (by omega) K fun p post hp=> ?_
  obtain⟨q,hq,Axh⟩:=C8 w.l _ p post hp 0 _ rfl
  obtain⟨q2,hq2,Bc5⟩:=C8 w.l _ p post hp 1 _ rfl
  refine Em rfl ⟨⟨by omega,by rw [Bg];simp⟩,fun y hy=>⟨⟨by omega,by rw [Bg];simp⟩,fun x hx=> ?_⟩⟩
  have gx:=hq.symm.trans hx
  cases gx
  have gy:=hq2.symm.trans hy
  cases gy
  refine hr.rf rfl w q hl Axh (by omega) _ ?_
  exact Zm (hbl.bl rfl) w q2 d hl Bc5 hd (by omega) _ _ (by rw [Cr,Cr];simp [tx,Ck.tx,sps,Gt]) (by simp) (by exact hb) _ hK
 ·obtain⟨r,e,b,rfl,hr,he,hbl⟩:=F2.three hf
  rw [Al0 [] _ a w0 g hg]at hK hb
  have hfl:=Qm (x:=⟨35,[],wn w0,wr (gs w0++[82,69,66]).length,a⟩) (rs:=g++[r,e,b]) (b:=b) (by simp)
  have hle:=Vo d (D8 ⟨35,[],wn w0,wr (gs w0++[82,69,66]).length,a⟩ (g++[r,e,b])) (r.tm++(sps::.tk C5::sps::e.tm)) b
  have Bc4:=hle
  rw [Akg,Qn,Qn,Qn]at Bc4
  refine Vp (by decide) hg hf w i hl ha (by omega) K fun p post hp=> ?_
  obtain⟨q,hq,Axh⟩:=C8 w.l _ p post hp 0 _ rfl
  obtain⟨q1,hq1,Bzz⟩:=C8 w.l _ p post hp 1 _ rfl
  obtain⟨q2,hq2,Bc5⟩:=C8 w.l _ p post hp 2 _ rfl
  refine A7 rfl (Em rfl ⟨⟨by omega,by rw [Bg];simp⟩,fun y hy=>⟨⟨by omega,by rw [Bg];simp⟩,fun x hx=>⟨⟨by omega,by rw [Bg];simp⟩,fun z hz=> ?_⟩⟩⟩)
  have gx:=hq.symm.trans hx
  cases gx
  have gy:=hq2.symm.trans hy
  cases gy
  have gz:=hq1.symm.trans hz
  cases gz
  refine hr.rf rfl w q hl Axh (by omega) _ ?_
  refine he.wt.term rfl w q1 hl Bzz (by omega) _ ?_
  exact Zm (hbl.bl rfl) w q2 d hl Bc5 hd (by omega) _ _ (by rw [Cr,Cr,Cj,Cj,Cj];simp [Ck.tx,sps,C5]) (by simp) (by exact hb) _ hK
 ·obtain⟨e,b,rfl,he,hbl⟩:=F2.two hf
  rw [An3 [] _ a w0 g hg]at hK hb
  have hfl:=Qm (x:=⟨36,[],wn w0,wr (gs w0++[69,66]).length,a⟩) (rs:=g++[e,b]) (b:=b) (by simp)
  have hle:=Vo d (D8 ⟨36,[],wn w0,wr (gs w0++[69,66]).length,a⟩ (g++[e,b])) (.tk D7::sps::e.tm) b
  have Bc4:=hle
  rw [Qn,Qn]at Bc4
  refine Vp (by decide) hg hf w i hl ha (by omega) K fun p post hp=> ?_
  obtain⟨q,hq,Axh⟩:=C8 w.l _ p post hp 0 _ rfl
  obtain⟨q2,hq2,Bc5⟩:=C8 w.l _ p post hp 1 _ rfl
  refine A7 rfl (A7 rfl (Em rfl ⟨⟨by omega,by rw [Bg];simp⟩,fun y hy=>⟨⟨by omega,by rw [Bg];simp⟩,fun x hx=> ?_⟩⟩))
  have gx:=hq.symm.trans hx
  cases gx
  have gy:=hq2.symm.trans hy
  cases gy
  refine he.wt.term rfl w q hl Axh (by omega) _ ?_
  exact Zm (hbl.bl rfl) w q2 d hl Bc5 hd (by omega) _ _ (by rw [Cr,Cj,Cj];simp [Ck.tx,sps,D7]) (by simp) (by exact hb) _ hK
end Go.Proofs.YtcakelelfklhdaaGreatDoor
namespace Go.Proofs.YtcakelelfklhdaaGreatDoor
open Go.Vc Go.Lv Go.Ty Go.Tr Go.Tk Go.Tm
theorem Aqt (a:Int) (b:R) (d:Nat):(Ar ⟨41,[],0,1,a⟩ [b]).st d=Bd d [.tk N5] b:=by
 rw [Kv]
 unfold stN
 dsimp only
 simp only [Int.reduceEq,if_false,if_true]
 rfl
theorem Al3 {a:Int} {rs:List R} (hf:F2 W2 [66] rs):StW D4 (Ar ⟨41,[],0,1,a⟩ rs):=by
 intro w i d hl ha hd hdn hb K hK
 have hea:=Et (Kj hf)
 obtain⟨b,rfl,hr⟩:=F2.one hf
 obtain⟨hi,hx,post,hdr⟩:=ha.node
 obtain⟨po,hpo⟩:=ha
 have hfl:=Qm (x:=⟨41,[],0,1,a⟩) (rs:=[b]) (b:=b) (by simp)
 rw [Aqt]at hK hb
 refine G0 _ _ _ ?_
 unfold Fm
 refine⟨fun k o nm n _ _=>k=plc (i+1) [b]/\o=41,⟨⟨by omega,by omega⟩,fun y hy=>Ek _ _ hl _ ?_⟩,?_⟩
 ·rw [Int.toNat_natCast,hx]at hy
  cases hy
  exact⟨Dr rfl hea hpo,rfl⟩
 rintro k o nm n _ _ ⟨rfl,rfl⟩
 obtain⟨q,hq,Axh⟩:=C8 w.l _ (i+1) post hdr 0 _ rfl
 refine A7 rfl (A7 rfl ⟨⟨by omega,by rw [Bg];simp⟩,fun x hx=> ?_⟩)
 have gx:=hq.symm.trans hx
 cases gx
 exact Zm (hr.bl rfl) w q d hl Axh hd (by omega) _ [.tk N5] rfl (by simp) (by exact hb) _ hK
theorem Aqu (s:Str) (n a:Int) (d:Nat):(Ar ⟨38,s,n,0,a⟩ []).st d=line d (.tk Ga::sps::.tk s::(if 0<n then [.tk sLS,.tk (Lg n),.tk sRS,.tk As]else [.tk As])):=by
 rw [Kv]
 unfold stN
 dsimp only
 simp only [Int.reduceEq,if_false,if_true]
theorem Al4 {s:Str} {n a:Int} {rs:List R} (h0:0<=n) (h1:n<=16) (hf:F2 W2 [] rs):StW D4 (Ar ⟨38,s,n,0,a⟩ rs):=by
 intro w i d hl ha hd hdn hb K hK
 have hea:=Et (Kj hf)
 cases F2.nil hf
 obtain⟨hi,hx,post,hdr⟩:=ha.node
 obtain⟨po,hpo⟩:=ha
 rw [Aqu]at hK hb
 refine G0 _ _ _ ?_
 unfold Fm
 refine⟨fun k o nm n' _ _=>k=plc (i+1) []/\o=38/\nm=s/\n'=n,⟨⟨by omega,by omega⟩,fun y hy=>Ek _ _ hl _ ?_⟩,?_⟩
 ·rw [Int.toNat_natCast,hx]at hy
  cases hy
  exact⟨Dr rfl hea hpo,rfl,rfl,rfl⟩
 rintro k o nm n' _ _ ⟨rfl,rfl,rfl,rfl⟩
 refine Em rfl (Ag (fun e=> ?_) fun e=> ?_)
 ·have e:n'>0:=by simpa using e
  rw [if_pos (by omega)]at hK hb
  refine Ake n' ⟨by omega,by omega⟩ _ ?_
  rw [Aha (by omega) (by omega)]
  exact Hn w _ _ (by simp [tx,Ck.tx,sps,Ga,sLS,sRS,As]) d hd (by omega) (by simp) (by exact hb) _ hK
 ·have e:¬n'>0:=by simpa using e
  rw [if_neg (by omega)]at hK hb
  exact Hn w _ _ (by simp [tx,Ck.tx,sps,Ga,As]) d hd (by omega) (by simp) (by exact hb) _ hK
theorem Aqv (s:Str) (k a:Int) (ps:List R) (b:R) (d:Nat):(Ar ⟨40,s,0,k,a⟩ (ps++[b])).st d=Bd d (.tk Gg::sps::.tk s::.tk sLP::(Bs (ps.map R.tm)++[.tk sRP])) b:=by
 rw [Kv]
 unfold stN
 dsimp only
 simp only [Int.reduceEq,if_false,if_true]
 have e1:(ps++[b]).length-1=ps.length:=by simp
 have e2:kd (ps++[b]) ps.length=b:=by unfold kd;simp [List.getD_eq_getElem?_getD]
 rw [e1,e2,List.take_left]
theorem Zo:∀(ps qs:List R) (p:Nat),(plc p (ps++qs)).take ps.length=plc p ps
 |[],_,_=>by simp [plc]
 |r::ps,qs,p=>by
  rw [List.cons_append,plc,List.length_cons,List.take_succ_cons,Zo ps qs,plc]
theorem Al5 {s:Str} {k:Nat} {a:Int} {rs:List R} (hk:k+1<2^39) (hf:F2 W2 (List.replicate k 80++[66]) rs):StW D4 (Ar ⟨40,s,0,wr (k+1),a⟩ rs):=by
 intro w i d hl ha hd hdn hb K hK
 have hea:=Et (Kj hf)
 have Cid:=F2.len hf
 obtain⟨ps,bs,rfl,hps,hbs⟩:=F2.split hf
 obtain⟨b,rfl,hbl⟩:=F2.one hbs
 obtain⟨hlen,Awn⟩:=Zn hps
 obtain⟨hi,hx,post,hdr⟩:=ha.node
 obtain⟨po,hpo⟩:=ha
 have hfl:=Qm (x:=⟨40,s,0,wr (k+1),a⟩) (rs:=ps++[b]) (b:=b) (by simp)
 rw [Aqv]at hK hb
 have Ch1:=Zl d (.tk Gg::sps::.tk s::.tk sLP::(Bs (ps.map R.tm)++[.tk sRP])) b
 have Bef:(tx (Bs (ps.map R.tm))).length<=(tx (.tk Gg::sps::.tk s::.tk sLP::(Bs (ps.map R.tm)++[.tk sRP]))).length:=by
  rw [Cj,Cj,Cj,Cj,Cr];simp only [List.length_append];omega
 have hcm:(tx (Bs (ps.map R.tm))).length<2^30:=by omega
 have hkk:(⟨40,s,0,wr (k+1),a⟩:Aj).kids=((ps++[b]).length:Int):=by
  show wr (k+1)=_
  rw [List.length_append,hlen];exact Qk (by omega)
 have hrs:(ps++[b]).length<=100000:=by
  have h1:=Ql hea
  have h2:=congrArg List.length hdr
  rw [List.length_drop,List.length_append]at h2
  omega
 rw [List.length_append,List.length_singleton]at hrs
 refine G0 _ _ _ ?_
 unfold Fm
 refine⟨fun kk o nm n _ _=>kk=plc (i+1) (ps++[b])/\o=40/\nm=s,⟨⟨by omega,by omega⟩,fun y hy=>Ek _ _ hl _ ?_⟩,?_⟩
 ·rw [Int.toNat_natCast,hx]at hy
  cases hy
  exact⟨Dr hkk hea hpo,rfl,rfl⟩
 rintro kk o nm n _ _ ⟨rfl,rfl,rfl⟩
 have hw:IntKind.i64.wrap (((plc (i+1) (ps++[b])).length:Int)-1)=(ps.length:Int):=by
  rw [Bg,List.length_append,List.length_singleton,A1 (by omega) (by omega)];omega
 rw [hw,Int.toNat_natCast,Zo]
 simp only [Bg,List.length_append,List.length_singleton]
 refine A7 rfl (Em rfl ⟨⟨by omega,by omega⟩,⟨by omega,by omega⟩,?_⟩)
 refine⟨fun names x n=>∃j:Nat,x=j/\j<=ps.length/\names=(ps.take j).map (fun r=>tx r.tm)/\n=ps.length-j,⟨_,0,rfl,by omega,rfl,rfl⟩,?_⟩
 rintro names x n ⟨j,rfl,hj,rfl,rfl⟩
 refine Ag (fun e=> ?_) fun e=> ?_
 ·have e:j<ps.length:=by simpa using e
  refine⟨⟨by omega,by omega⟩,fun x4 h4=> ?_⟩
  have hr:(ps++[b])[j]? =some ps[j]:=by rw [List.getElem?_append_left e];exact List.getElem?_eq_getElem e
  obtain⟨q,hq,hat⟩:=C8 w.l _ (i+1) post hdr j _ hr
  rw [Int.toNat_natCast,←Zo ps [b],List.getElem?_take,if_pos e,hq]at h4
  cases h4
  obtain⟨y,ys,hy,hyo⟩:=(Awn _ (List.getElem_mem e)).pm rfl
  rw [hy]at hat
  obtain⟨hqi,hqx,_⟩:=hat.node
  refine⟨⟨by omega,by omega⟩,fun x5 h5=> ?_⟩
  rw [Int.toNat_natCast,hqx]at h5
  cases h5
  refine⟨by simp only [List.length_map,List.length_take,List.length_singleton];omega,ps.length-(j+1),by omega,j+1,by rw [A1 (by omega) (by omega)];omega,by omega,?_,rfl⟩
  rw [List.take_add_one,List.getElem?_eq_getElem e,List.map_append]
  show _=_++[tx ps[j].tm]
  rw [hy]
  congr 2
  show y.name=tx (tmN y ys)
  unfold tmN
  rw [if_neg (by omega),if_pos (.inr hyo)]
  simp [tx,Ck.tx]
 ·have e:¬j<ps.length:=by simpa using e
  have ht:ps.take j=ps:=List.take_of_length_le (by omega)
  rw [ht]
  refine⟨⟨by omega,by omega⟩,fun x6 h6=> ?_⟩
  have hr:(ps++[b])[ps.length]? =some b:=by simp
  obtain⟨q,hq,hat⟩:=C8 w.l _ (i+1) post hdr ps.length _ hr
  have gx:=hq.symm.trans h6
  cases gx
  have hj2:ps.map (fun r=>tx r.tm)=(ps.map R.tm).map tx:=by rw [List.map_map];rfl
  rw [hj2]
  have htc:=Vn (ps.map R.tm)
  refine Ai3 _ _ (by simp only [List.length_map];omega) (by rw [←htc];omega) _ ?_
  rw [←htc]
  exact Zm (hbl.bl rfl) w q d hl hat hd (by omega) _ _ (by simp [tx,Ck.tx,sps,Gg,sLP,sRP]) (by simp) (by exact hb) _ hK
end Go.Proofs.YtcakelelfklhdaaGreatDoor
namespace Go.Proofs.YtcakelelfklhdaaGreatDoor
open Go.Vc Go.Lv Go.Ty Go.Tk Go.Tm
def Ahe (v:Str):Bool:=match v with|c::_=>Tk.A8 c|[]=>false
def eqs (v:Str):Bool:=decide (v=[61]\/v=[33]\/v=[60]\/v=[62])
def okH (v:Str) (r:Str):Prop:=match r with|[]=>True|c::_=>(Ahe v=true->Tk.A8 c=false)/\(eqs v=true->c≠61)
def kdS (v:Str):Int:=match v with|c::_=>if Hc c then(if decide (v∈words)then 3 else 1)else if Cz c then 2 else 4|[]=>0
def nvS (v:Str):Int:=match v with|c::_=>if Cz c then((Jf v:Nat):Int)else 0|[]=>0
theorem N6 (c:UInt8) (v:Str):kdS (c::v)=if Hc c then(if decide (c::v∈words)then 3 else 1)else if Cz c then 2 else 4:=rfl
theorem Uc (c:UInt8) (v:Str):nvS (c::v)=if Cz c then((Jf (c::v):Nat):Int)else 0:=rfl
structure GT (v:Str):Prop where
 ne:v≠[]
 hd:∀c,v.head? =some c->c≠10/\c≠35/\c≠9/\c≠13/\c≠32
 tok:∀(r:Str) (p:Nat),okH v r->Lm (v++r) p=(⟨kdS v,v,nvS v,p⟩,p+v.length,0)
theorem Ng {p:UInt8->Bool} :∀ {v r:Str},v.all p=true->(match r with|[]=>True|c::_=>p c=false)->(v++r).takeWhile p=v
 |[],[],_,_=>rfl
 |[],c::r,_,h=>by
  show(c::r).takeWhile p=[]
  rw [List.takeWhile_cons,h];rfl
 |a::v,r,h,k=>by
  rw [List.all_cons,Bool.and_eq_true]at h
  rw [List.cons_append,List.takeWhile_cons,h.1,if_pos rfl,Ng h.2 k]
theorem Qo {c:UInt8} (h:Hc c=true):Tk.A8 c=true:=by
 unfold Tk.A8 N2;unfold Hc at h;rw [h];rfl
theorem Ud {c:UInt8} (h:Cz c=true):Tk.A8 c=true:=by
 unfold Tk.A8 N2;unfold Cz at h;rw [h];simp
theorem Xs {c:UInt8} (h:Cz c=true):Hc c=false:=by
 unfold Cz T2 at h
 simp only [Bool.and_eq_true,decide_eq_true_eq]at h
 have:=h.1;have:=h.2
 unfold Hc Y7
 simp only [Bool.or_eq_false_iff,Bool.and_eq_false_iff,decide_eq_false_iff_not,beq_eq_false_iff_ne]
 omega
theorem Ahf {c:UInt8} (h:Tk.A8 c=true):c≠10/\c≠35/\c≠9/\c≠13/\c≠32:=by
 refine⟨?_,?_,?_,?_,?_⟩<;>(rintro rfl;revert h;decide)
theorem Eu {c:UInt8} {v:Str} (h1:Hc c=true) (h2:v.all Tk.A8=true) (h3:v.length<=15):GT (c::v) where
 ne:=by simp
 hd:=fun d hd=>by
  have:d=c:=by simpa using hd.symm
  rw [this];exact Ahf (Qo h1)
 tok:=fun r p hr=>by
  have hw:((c::v)++r).takeWhile Tk.A8=c::v:=Ng (by rw [List.all_cons,Qo h1,h2];rfl) (by
   cases r with
   |nil=>trivial
   |cons d r=>exact hr.1 (by unfold Ahe;exact Qo h1))
  rw [List.cons_append]at hw⊢
  rw [Gn,if_pos h1,hw,if_neg (by simp only [List.length_cons];omega)]
  have hdg:Cz c=false:=by
   cases hd:Cz c with
   |false=>rfl
   |true=>rw [Xs hd]at h1;cases h1
  rw [N6,Uc,hdg,if_pos h1,if_neg (show¬(false=true) by simp)]
theorem Fb {s:Str} (h:Tk.Ba s=true):GT s/\kdS s=1:=by
 cases s with
 |nil=>exact absurd h (by decide)
 |cons c v=>
  rw [Mg]at h
  simp only [Bool.and_eq_true,decide_eq_true_eq,Bool.not_eq_true',decide_eq_false_iff_not,List.length_cons,List.all_cons]at h
  refine⟨Eu h.2.1 h.2.2.1.2 (by omega),?_⟩
  rw [N6,if_pos h.2.1,if_neg (by simpa using h.2.2.2)]
theorem Atn {c:UInt8} {v:Str} (h1:(c::v).all Cz=true) (h2:v.length<=17) (h3:c=48->v=[]):GT (c::v) where
 ne:=by simp
 hd:=fun d hd=>by
  have:d=c:=by simpa using hd.symm
  rw [this];rw [List.all_cons,Bool.and_eq_true]at h1;exact Ahf (Ud h1.1)
 tok:=fun r p hr=>by
  have hc:Cz c=true:=by rw [List.all_cons,Bool.and_eq_true]at h1;exact h1.1
  have hr':∀d r',r=d::r'->Tk.A8 d=false:=fun d r' e=>by subst e;exact hr.1 (by unfold Ahe;exact Ud hc)
  have hw:((c::v)++r).takeWhile Cz=c::v:=Ng h1 (by
   cases r with
   |nil=>trivial
   |cons d r=>
    have:=hr' d r rfl
    show Cz d=false
    cases hd:Cz d with
    |false=>rfl
    |true=>rw [Ud hd]at this;cases this)
  have hdr:((c::v)++r).drop (c::v).length=r:=List.drop_left
  rw [List.cons_append]at hw hdr⊢
  have hn:E4 (c::v) r=(((Jf (c::v):Nat):Int),(0:Int)):=by
   unfold E4
   rw [if_neg (by
    simp only [List.getD_cons_zero,Bool.and_eq_true,beq_iff_eq,decide_eq_true_eq,List.length_cons,not_and,Nat.not_lt]
    intro e;rw [h3 e];simp),if_neg (by simp only [List.length_cons];omega),if_neg (by
    cases r with
    |nil=>simp [Xo]
    |cons d r=>
     have:=hr' d r rfl
     unfold Xo
     intro e
     rw [Qo e]at this;cases this)]
  rw [Gn,if_neg (by rw [Xs hc];simp),if_pos hc,hw,hdr,hn,if_pos rfl]
  rw [N6,Uc,if_neg (by rw [Xs hc];simp),if_pos hc,if_pos hc]
theorem Qp (a b c d:UInt8) (r:Str):G2 [a,b] (c::d::r)=((c==a)&&(d==b)):=by
 unfold G2
 rw [Bool.eq_iff_iff];simp
theorem Au3 (a b c:UInt8):G2 [a,b] [c]=false:=by
 unfold G2
 cases h:(List.take [a,b].length [c]==[a,b])with
 |false=>rfl
 |true=>simp at h
theorem An4 {c:UInt8} {r:Str} (hc:Lf.contains c=true) (hr:okH [c] r):G3 (c::r)=[c]:=by
 have h2:Mf.find? (G2 · (c::r))=none:=by
  rw [List.find?_eq_none]
  intro s hs
  cases r with
  |nil=>
   simp only [Mf,List.mem_cons,List.not_mem_nil,or_false]at hs
   rcases hs with rfl|rfl|rfl|rfl|rfl|rfl<;>rw [Au3]<;>simp
  |cons d r=>
   have hd:=hr.2
   simp only [Mf,List.mem_cons,List.not_mem_nil,or_false]at hs
   rcases hs with rfl|rfl|rfl|rfl|rfl|rfl<;>rw [Qp]<;>simp only [Bool.and_eq_true,beq_iff_eq,not_and]<;>rintro rfl
   ·exact hd (by decide)
   ·exact hd (by decide)
   ·exact hd (by decide)
   ·exact hd (by decide)
   ·exact absurd hc (by decide)
   ·exact absurd hc (by decide)
 unfold G3
 rw [h2]
 show(if Lf.contains c=true then [c]else [])=[c]
 rw [if_pos hc]
theorem Ahg {c:UInt8} (hc:Lf.contains c=true):Hc c=false/\Cz c=false/\c≠10/\c≠35/\c≠9/\c≠13/\c≠32:=by
 have:∀d∈Lf,Hc d=false/\Cz d=false/\d≠10/\d≠35/\d≠9/\d≠13/\d≠32:=by decide
 exact this c (List.contains_iff_mem.1 hc)
theorem E7 {c:UInt8} (hc:Lf.contains c=true):GT [c] where
 ne:=by simp
 hd:=fun d hd=>by
  have:d=c:=by simpa using hd.symm
  rw [this];exact(Ahg hc).2.2
 tok:=fun r p hr=>by
  obtain⟨h1,h2,_⟩:=Ahg hc
  show Lm (c::r) p=_
  rw [Gn,if_neg (by rw [h1];simp),if_neg (by rw [h2];simp),An4 hc hr,if_neg (by simp)]
  rw [N6,Uc,if_neg (by rw [h1];simp),if_neg (by rw [h2];simp),if_neg (by rw [h2];simp)]
theorem An5 {v:Str} (hv:v∈Mf):GT v where
 ne:=by rintro rfl;revert hv;decide
 hd:=by
  have:∀v∈Mf,∀c,v.head? =some c->c≠10/\c≠35/\c≠9/\c≠13/\c≠32:=by
   intro v hv c hc
   simp only [Mf,List.mem_cons,List.not_mem_nil,or_false]at hv
   rcases hv with rfl|rfl|rfl|rfl|rfl|rfl<;>cases hc<;>decide
  exact this v hv
 tok:=fun r p hr=>by
  simp only [Mf,List.mem_cons,List.not_mem_nil,or_false]at hv
  rcases hv with rfl|rfl|rfl|rfl|rfl|rfl<;>
  ·show Lm (_::_::r) p=_
   rw [Gn,if_neg (by decide),if_neg (by decide)]
   simp [G3,Mf,Qp,List.find?,kdS,nvS,Hc,Y7,Cz,T2]
def F0:List Ck->Str->Prop
 |[],_=>True
 | .sp c::l,r=>(c=9\/c=10\/c=32)/\F0 l r
 | .tk v::l,r=>GT v/\okH v (tx l++r)/\F0 l r
theorem B5:∀ {a b:List Ck} {r:Str},F0 (a++b) r↔F0 a (tx b++r)/\F0 b r
 |[],b,r=>by simp [F0]
 | .sp c::a,b,r=>by
  show((c=9\/c=10\/c=32)/\F0 (a++b) r)↔((c=9\/c=10\/c=32)/\F0 a (tx b++r))/\F0 b r
  rw [B5,and_assoc]
 | .tk v::a,b,r=>by
  show(GT v/\okH v (tx (a++b)++r)/\F0 (a++b) r)↔(GT v/\okH v (tx a++(tx b++r))/\F0 a (tx b++r))/\F0 b r
  rw [B5,Cr,List.append_assoc,and_assoc,and_assoc]
def Ue:List Ck->Nat->List Tok
 |[],_=>[]
 | .sp _::l,a=>Ue l (a+1)
 | .tk v::l,a=>⟨kdS v,v,nvS v,a⟩::Ue l (a+v.length)
theorem Ai6 {s:Str} {a:Nat} {c:UInt8} {l:Str} (h:s.drop a=c::l) (hc:c=9\/c=10\/c=32):Ct s (a:Int)=Ct s ((a+1:Nat):Int):=by
 have hlt:a<s.length:=by
  have:=congrArg List.length h
  simp at this;omega
 have hd:s.drop (a+1)=l:=by rw [←List.drop_drop,h];rfl
 have hb:Dl false (c::l)=Dl false l+1:=by
  rcases hc with rfl|rfl|rfl<;>simp [Dl]
 unfold Ct
 rw [if_neg (by omega),if_neg (by omega)]
 simp only [Int.toNat_natCast]
 rw [h,hd,hb,show a+(Dl false l+1)=a+1+Dl false l by omega]
theorem An6 {s:Str} {a:Nat} {v r:Str} (h:s.drop a=v++r) (hv:GT v) (hr:okH v r):Ct s (a:Int)=(⟨kdS v,v,nvS v,a⟩,a+v.length,0):=by
 have hlt:a<s.length:=by
  have:=congrArg List.length h
  have hp:=List.length_pos_iff.2 hv.ne
  simp at this;omega
 have hb:Dl false (v++r)=0:=by
  cases v with
  |nil=>exact absurd rfl hv.ne
  |cons c v=>
   obtain⟨h1,h2,h3,h4,h5⟩:=hv.hd c rfl
   simp [Dl,h1,h2,h3,h4,h5]
 unfold Ct
 rw [if_neg (by omega)]
 simp only [Int.toNat_natCast]
 rw [h,hb,Nat.add_zero,h,hv.tok r a hr]
theorem Ai7 (s:Str):∀(cs:List Ck) (a f:Nat) (acc:List Tok),a<=s.length->s.drop a=tx cs->F0 cs []->s.length<f+a->Fa s f a acc=(acc++(Ue cs a++[⟨0,[],0,s.length⟩]),(s.length:Int),0)
 |_,a,0,_,h1,_,_,h4=>by omega
 |[],a,f+1,acc,h1,h2,_,_=>by
  have ha:a=s.length:=by
   have:=congrArg List.length h2
   simp [tx]at this;omega
  have hn:Ct s (a:Int)=(⟨0,[],0,a⟩,a,0):=by
   unfold Ct
   rw [if_neg (by omega)]
   simp only [Int.toNat_natCast]
   rw [h2]
   show Lm (s.drop (a+Dl false [])) _=_
   rw [show Dl false []=0 by rfl,Nat.add_zero,h2]
   rfl
  unfold Fa
  rw [hn,if_neg (by simp),if_pos rfl]
  simp only [Ue,List.nil_append,←ha]
 | .sp c::cs,a,f+1,acc,h1,h2,h3,h4=>by
  rw [Cj]at h2
  have hlt:a<s.length:=by
   have:=congrArg List.length h2
   simp [Ck.tx]at this;omega
  have h:=Ai7 s cs (a+1) (f+1) acc (by omega) (by rw [←List.drop_drop,h2];rfl) h3.2 (by omega)
  have e:=Ai6 (c:=c) h2 h3.1
  unfold Fa at h⊢
  rw [e]
  exact h
 | .tk v::cs,a,f+1,acc,h1,h2,h3,h4=>by
  rw [Cj]at h2
  obtain⟨hg,ho,hs⟩:=h3
  rw [List.append_nil]at ho
  have hp:=List.length_pos_iff.2 hg.ne
  have hle:a+v.length<=s.length:=by
   have:=congrArg List.length h2
   simp [Ck.tx]at this;omega
  have h:=Ai7 s cs (a+v.length) f (acc++[⟨kdS v,v,nvS v,a⟩]) hle (by rw [←List.drop_drop,h2];exact List.drop_left) hs (by omega)
  have e:Ct s (a:Int)=(⟨kdS v,v,nvS v,a⟩,a+v.length,0):=An6 h2 hg ho
  have hk:kdS v≠0:=by
   cases v with
   |nil=>exact absurd rfl hg.ne
   |cons c v=>rw [N6];repeat' split
              all_goals decide
  unfold Fa
  rw [e]
  dsimp only
  rw [if_neg (by simp),if_neg hk]
  show Fa s f (a+v.length) _=_
  rw [h]
  simp only [Ue,List.append_assoc,List.singleton_append,List.cons_append,List.nil_append]
theorem Aqw (cs:List Ck) (h:F0 cs []) (hl:(tx cs).length<=65536):Ly (tx cs)=(Ue cs 0++[⟨0,[],0,(tx cs).length⟩],((tx cs).length:Int),0):=by
 unfold Ly
 rw [if_neg (by omega)]
 have:=Ai7 (tx cs) cs 0 ((tx cs).length+1) [] (Nat.zero_le _) rfl h (by omega)
 rw [List.nil_append]at this
 exact this
end Go.Proofs.YtcakelelfklhdaaGreatDoor
namespace Go.Proofs.YtcakelelfklhdaaGreatDoor
open Go.Vc Go.Lv Go.Ty Go.Tk Go.Tm
def Ahh (s:Str):Prop:=match s with|[]=>True|c::_=>Tk.A8 c=false/\c≠61
theorem Fs {v s:Str} (h:Ahh s):okH v s:=by
 cases s with
 |nil=>trivial
 |cons c s=>exact⟨fun _=>h.1,fun _=>h.2⟩
theorem Aqx {v:Str} (h1:Ahe v=false) (h2:eqs v=false) (s:Str):okH v s:=by
 cases s with
 |nil=>trivial
 |cons c s=>exact⟨fun h=>(by rw [h1]at h;cases h),fun h=>(by rw [h2]at h;cases h)⟩
structure Aa7 (l:List Ck):Prop where
 sep:∀s,Ahh s->F0 l s
 beg:∃c t,tx l=c::t/\c≠61
theorem An7:GT sLB:=E7 (by decide)
theorem An8:GT sRB:=E7 (by decide)
theorem Aqy:GT sLP:=E7 (by decide)
theorem Aqz:GT sRP:=E7 (by decide)
theorem Au4:GT sLS:=E7 (by decide)
theorem Au5:GT sRS:=E7 (by decide)
theorem Qq:GT As:=E7 (by decide)
theorem Aq0:GT Bz:=E7 (by decide)
theorem Aq1:GT Ee:=E7 (by decide)
theorem Ai8:GT C5:=E7 (by decide)
theorem An9:GT Gt:=E7 (by decide)
theorem Ato:GT sEq:=E7 (by decide)
theorem Au6:GT Pg:=Eu (by decide) (by decide) (by decide)
theorem Aq2:GT Ff:=Eu (by decide) (by decide) (by decide)
theorem Aq3:GT Kp:=Eu (by decide) (by decide) (by decide)
theorem Aq4:GT Kq:=Eu (by decide) (by decide) (by decide)
theorem Aoa:GT Ht:=Eu (by decide) (by decide) (by decide)
theorem Atp:GT N3:=Eu (by decide) (by decide) (by decide)
theorem Atq:GT N4:=Eu (by decide) (by decide) (by decide)
theorem Aq5:GT F9:=Eu (by decide) (by decide) (by decide)
theorem Au7:GT sIf:=Eu (by decide) (by decide) (by decide)
theorem Aob:GT Dq:=Eu (by decide) (by decide) (by decide)
theorem Aoc:GT D1:=Eu (by decide) (by decide) (by decide)
theorem Atr:GT Bq:=Eu (by decide) (by decide) (by decide)
theorem Ats:GT Ef:=Eu (by decide) (by decide) (by decide)
theorem Akh:GT D7:=Eu (by decide) (by decide) (by decide)
theorem Aod:GT Gq:=Eu (by decide) (by decide) (by decide)
theorem Aoe:GT Ga:=Eu (by decide) (by decide) (by decide)
theorem Att:GT Gg:=Eu (by decide) (by decide) (by decide)
theorem Atu:GT N5:=Eu (by decide) (by decide) (by decide)
theorem ops {op:Int} (h:3<=op/\op<=17):op=3\/op=4\/op=5\/op=6\/op=7\/op=8\/op=9\/op=10\/op=11\/op=12\/op=13\/op=14\/op=15\/op=16\/op=17:=by omega
theorem Avy {op:Int} (h:3<=op/\op<=17):GT (sgO op):=by
 rcases ops h with rfl|rfl|rfl|rfl|rfl|rfl|rfl|rfl|rfl|rfl|rfl|rfl|rfl|rfl|rfl
 all_goals first|exact E7 (by decide)|exact An5 (by decide)
theorem Lh {l:List Ck} {s:Str} (h:F0 l s):F0 (sps::l) s:=⟨.inr (.inr rfl),h⟩
theorem Ho {v:Str} {l:List Ck} {s:Str} (hg:GT v) (ho:okH v (tx l++s)) (h:F0 l s):F0 (.tk v::l) s:=⟨hg,ho,h⟩
theorem Ca {v:Str} {l:List Ck} {s:Str} (hg:GT v) (h:F0 l s):F0 (.tk v::sps::l) s:=⟨hg,Fs ⟨by decide,by decide⟩,Lh h⟩
theorem Cd {v:Str} {l:List Ck} {s:Str} (hg:GT v) (h1:Ahe v=false) (h2:eqs v=false) (h:F0 l s):F0 (.tk v::l) s:=⟨hg,Aqx h1 h2 _,h⟩
theorem De {d:Nat} {cs:List Ck} {s:Str} (h:∀s,F0 cs (10::s)):F0 (line d cs) s:=by
 unfold line
 rw [B5]
 refine⟨?_,B5.2 ⟨h s,.inr (.inl rfl),trivial⟩⟩
 generalize tx (cs++[Ck.sp 10])++s=z
 induction d with
 |zero=>trivial
 |succ d ih=>rw [List.replicate_succ];exact⟨.inl rfl,ih⟩
theorem Aep {r:R} (n:Nat) (h:Aa7 r.tm):Aa7 (Br r n):=by
 unfold Br
 split
 ·refine⟨fun s hs=>Cd Aqy rfl rfl (B5.2 ⟨h.sep _ ⟨by decide,by decide⟩,Cd Aqz rfl rfl trivial⟩),⟨40,_,rfl,by decide⟩⟩
 ·exact h
theorem Aq6 {a:List Ck} (b:List Ck) (h:∃c t,tx a=c::t/\c≠61):∃c t,tx (a++b)=c::t/\c≠61:=by
 obtain⟨c,t,h1,h2⟩:=h
 exact⟨c,t++tx b,by rw [Cr,h1];rfl,h2⟩
theorem Aof {c:UInt8} (h:Tk.A8 c=true):c≠61:=by rintro rfl;revert h;decide
theorem Xt {s:Str} (h:Tk.Ba s=true):Aa7 [.tk s] where
 sep:=fun z hz=>Ho (Fb h).1 (Fs hz) trivial
 beg:=by
  cases s with
  |nil=>exact absurd h (by decide)
  |cons c v=>
   rw [Mg]at h
   simp only [Bool.and_eq_true]at h
   exact⟨c,_,rfl,Aof (Qo h.2.1)⟩
theorem Aeq:∀(f n:Nat) (acc:Str),n<10^f->0<f->∃c v,Xi f n acc=c::(v++acc)/\(c::v).all Cz=true/\v.length+1<=f/\(c=48->v=[]/\n=0)/\∀k,(c::v).foldl (fun n c=>10*n+(c.toNat-48)) k=k*10^(v.length+1)+n
 |0,_,_,_,h=>absurd h (Nat.lt_irrefl _)
 |f+1,n,acc,hn,_=>by
  have hd:∀k,k<10->Cz (UInt8.ofNat (48+k))=true/\(UInt8.ofNat (48+k)).toNat-48=k/\(UInt8.ofNat (48+k)=48->k=0):=by
   intro k hk
   have:(UInt8.ofNat (48+k)).toNat=48+k:=by simp;omega
   refine⟨by unfold Cz T2;rw [this];simp;omega,by omega,fun e=> ?_⟩
   have:=congrArg UInt8.toNat e
   rw [‹(UInt8.ofNat (48+k)).toNat=48+k›]at this
   simp at this;omega
  unfold Xi
  by_cases h10:n<10
  ·obtain⟨h1,h2,h3⟩:=hd n h10
   rw [if_pos h10]
   refine⟨_,[],rfl,by rw [List.all_cons,h1];rfl,by simp,fun e=>⟨rfl,h3 e⟩,fun k=> ?_⟩
   simp only [List.foldl_cons,List.foldl_nil,h2,List.length_nil,Nat.zero_add,Nat.pow_one]
   omega
  ·rw [if_neg h10]
   obtain⟨h1,h2,_⟩:=hd (n%10) (by omega)
   have hf:0<f:=by
    rcases Nat.eq_zero_or_pos f with rfl|h
    ·simp at hn;omega
    ·exact h
   obtain⟨c,v,e,ha,hl,hz,hv⟩:=Aeq f (n/10) (UInt8.ofNat (48+n%10)::acc) (by rw [Nat.pow_succ]at hn;omega) hf
   refine⟨c,v++[UInt8.ofNat (48+n%10)],by rw [e];simp,?_,by simp;omega,fun hc=> ?_,fun k=> ?_⟩
   ·rw [←List.cons_append,List.all_append,ha,List.all_cons,h1];rfl
   ·have:=(hz hc).2;omega
   ·rw [←List.cons_append,List.foldl_append,hv k]
    simp only [List.foldl_cons,List.foldl_nil,h2,List.length_append,List.length_cons,List.length_nil]
    have:k*10^(v.length+(0+1)+1)=10*(k*10^(v.length+1)):=by
     rw [show v.length+(0+1)+1=(v.length+1)+1 by omega,Nat.pow_succ 10 (v.length+1),Nat.mul_comm (10^(v.length+1)) 10,Nat.mul_left_comm]
    rw [this]
    omega
theorem Uf:∀(f g n:Nat) (acc:Str),n<10^f->n<10^g->0<f->0<g->Xi f n acc=Xi g n acc
 |0,_,_,_,_,_,h,_=>absurd h (Nat.lt_irrefl _)
 |_,0,_,_,_,_,_,h=>absurd h (Nat.lt_irrefl _)
 |f+1,g+1,n,acc,h1,h2,_,_=>by
  unfold Xi
  split
  ·rfl
  ·rename_i h10
   refine Uf f g _ _ (by rw [Nat.pow_succ]at h1;omega) (by rw [Nat.pow_succ]at h2;omega) ?_ ?_
   ·rcases Nat.eq_zero_or_pos f with rfl|h
    ·simp at h1;omega
    ·exact h
   ·rcases Nat.eq_zero_or_pos g with rfl|h
    ·simp at h2;omega
    ·exact h
structure Au8 (n:Int):Prop where
 gt:GT (Lg n)
 kd:kdS (Lg n)=2
 nv:nvS (Lg n)=n
 beg:∃c t,Lg n=c::t/\c≠61
theorem Vq {n:Int} (h0:0<=n) (h1:n<=999999999999999999):Au8 n:=by
 have e:Lg n=Xi 18 n.toNat []:=Uf 20 18 _ _ (by omega) (by omega) (by omega) (by omega)
 obtain⟨c,v,e2,ha,hl,hz,hv⟩:=Aeq 18 n.toNat [] (by omega) (by omega)
 rw [List.append_nil]at e2
 rw [e2]at e
 have hc:Cz c=true:=by rw [List.all_cons,Bool.and_eq_true]at ha;exact ha.1
 refine⟨?_,?_,?_,?_⟩
 ·rw [e];exact Atn ha (by omega) fun h=>(hz h).1
 ·rw [e,N6,if_neg (by rw [Xs hc];simp),if_pos hc]
 ·rw [e,Uc,if_pos hc]
  have:=hv 0
  unfold Jf
  rw [this];omega
 ·exact⟨c,v,e,Aof (Ud hc)⟩
end Go.Proofs.YtcakelelfklhdaaGreatDoor
namespace Go.Proofs.YtcakelelfklhdaaGreatDoor
open Go.Vc Go.Lv Go.Ty Go.Tk Go.Tm
def Vr (c:UInt8) (r:R):Prop:=if c=69\/c=82\/c=80 then Aa7 r.tm else∀d s,F0 (r.st d) s
theorem Gw {c:UInt8} {r:R} (hc:c=69\/c=82\/c=80) (h:Vr c r):Aa7 r.tm:=by unfold Vr at h;rwa [if_pos hc]at h
theorem Lb {c:UInt8} {r:R} (hc:¬(c=69\/c=82\/c=80)) (h:Vr c r):∀d s,F0 (r.st d) s:=by unfold Vr at h;rwa [if_neg hc]at h
theorem Zp {c:UInt8} {r:R} (hc:c=69\/c=82\/c=80) (h:Aa7 r.tm):Vr c r:=by unfold Vr;rwa [if_pos hc]
theorem Hp {c:UInt8} {r:R} (hc:¬(c=69\/c=82\/c=80)) (h:∀d s,F0 (r.st d) s):Vr c r:=by unfold Vr;rwa [if_neg hc]
theorem Qr {d:Nat} {s:Str} :∀ {ks:List R},(∀k∈ks,∀d s,F0 (k.st d) s)->F0 (Bf d ks) s
 |[],_=>trivial
 |k::ks,h=>by
  show F0 (k.st d++Bf d ks) s
  exact B5.2 ⟨h k (by simp) _ _,Qr (fun k hk=>h k (by simp [hk]))⟩
theorem Sr:∀ {l:List (List Ck)},(∀a∈l,Aa7 a)->∀ {s},Ahh s->F0 (Bs l) s
 |[],_,_,_=>trivial
 |[a],h,_,hs=>(h a (by simp)).sep _ hs
 |a::b::l,h,s,hs=>by
  show F0 (a++(.tk Bz::sps::Bs (b::l))) s
  refine B5.2 ⟨(h a (by simp)).sep _ ⟨by decide,by decide⟩,Ca Aq0 (Sr (fun x hx=>h x (List.mem_cons_of_mem _ hx)) hs)⟩
theorem N7 {d:Nat} {front:List Ck} {r:R} {s:Str} (hf:∀s,Ahh s->F0 front s) (hr:∀d s,F0 (r.st d) s):F0 (Bd d front r) s:=by
 unfold Bd
 refine B5.2 ⟨De (fun s=> ?_),B5.2 ⟨hr _ _,De (fun s=>Cd An8 rfl rfl trivial)⟩⟩
 exact B5.2 ⟨hf _ ⟨by decide,by decide⟩,Lh (Cd An7 rfl rfl trivial)⟩
theorem N8 {l:List Ck} {s:Str} (h:Aa7 l):F0 (l++[.tk As]) s:=
 B5.2 ⟨h.sep _ ⟨by decide,by decide⟩,Cd Qq rfl rfl trivial⟩
theorem Al6 {x:Aj} {ks:List R} {s:Str} (h:x.n=1->Aa7 (kd ks 0).tm):F0 (D8 x ks) s:=by
 unfold D8
 refine Ca Atr ?_
 split
 ·rename_i h1
  exact Ca Ats (B5.2 ⟨(h h1).sep _ ⟨by decide,by decide⟩,Cd Aq1 rfl rfl (Lh trivial)⟩)
 ·trivial
theorem Kw {x:Aj} {ks:List R} {l:List Ck} {r:R} (h:x.n=1->Aa7 (kd ks 0).tm) (hl:∀s,Ahh s->F0 l s) (hr:∀d s,F0 (r.st d) s) {d:Nat} {s:Str} :F0 (Bd d (D8 x ks++l) r) s:=
 N7 (fun s hs=>B5.2 ⟨Al6 h,hl s hs⟩) hr
theorem Aog (c:UInt8) (x:Aj) (ds:List UInt8) (ks:List R) (h:OkN c x ds) (hk:F2 Vr ds ks):Vr c (Ar x ks):=by
 cases h with
 |num n a h0 h1=>
  exact Zp (.inl rfl) ⟨fun s hs=>Ho (Vq h0 h1).gt (Fs hs) trivial,by
   obtain⟨c,t,h1,h2⟩:=(Vq h0 h1).beg
   exact⟨c,t++[],by show Lg n++[]=_;rw [h1];rfl,h2⟩⟩
 |name s a hn=>exact Zp (.inl rfl) (Xt hn)
 |un op a ho=>
  obtain⟨k,rfl,hq⟩:=hk.one
  have hT:=Aep 6 (Gw (.inl rfl) hq)
  refine Zp (.inl rfl) ?_
  obtain⟨c,t,h1,h2⟩:=hT.beg
  rcases ho with rfl|rfl
  ·exact⟨fun s hs=>Cd (v:=[45]) (E7 (by decide)) rfl rfl (hT.sep s hs),⟨45,_,rfl,by decide⟩⟩
  ·refine⟨fun s hs=>Ho (v:=[33]) (E7 (by decide)) ?_ (hT.sep s hs),⟨33,_,rfl,by decide⟩⟩
   rw [show tx (Br ([k].getD 0 R0) 6)=c::t from h1]
   exact⟨fun h=>(by cases h),fun _=>h2⟩
 |bin op a h5 h17=>
  obtain⟨k,k',rfl,hq,hq'⟩:=hk.two
  have hT:=Aep (Cc op) (Gw (.inl rfl) hq)
  have hT':=Aep (B4 op+1) (Gw (.inl rfl) hq')
  refine Zp (.inl rfl) ?_
  have e:(Ar ⟨op,[],0,2,a⟩ [k,k']).tm=Br k (Cc op)++(sps::.tk (sgO op)::sps::Br k' (B4 op+1)):=by
   show tmN _ _=_
   unfold tmN
   dsimp only
   rw [if_neg (by omega),if_neg (by omega),if_neg (by omega),if_neg (by omega)]
   rfl
  rw [e]
  exact⟨fun s hs=>B5.2 ⟨hT.sep _ ⟨by decide,by decide⟩,Lh (Ca (Avy (by omega)) (hT'.sep s hs))⟩,Aq6 _ hT.beg⟩
 |set op s a ho hn=>
  obtain⟨k,rfl,hq⟩:=hk.one
  have hT:=Gw (.inl rfl) hq
  refine Hp (by decide) fun d z=> ?_
  rcases ho with rfl|rfl|rfl
  ·exact De (fun s=>Ca Au6 (Ca (Fb hn).1 (Ca Ato (N8 hT))))
  ·exact De (fun s=>Ca (Fb hn).1 (Ca Ato (N8 hT)))
  ·exact De (fun s=>Ca (Fb hn).1 (Ca Ato (Ho Aod (Fs ⟨by decide,by decide⟩) (Cd Aqy rfl rfl (B5.2 ⟨hT.sep _ ⟨by decide,by decide⟩,Cd Aqz rfl rfl (Cd Qq rfl rfl trivial)⟩)))))
 |send a=>
  obtain⟨k,k',rfl,hq,hq'⟩:=hk.two
  exact Hp (by decide) fun d z=>De (fun s=>B5.2 ⟨(Gw (.inr (.inl rfl)) hq).sep _ ⟨by decide,by decide⟩,Lh (Ca Ai8 (N8 (Gw (.inl rfl) hq')))⟩)
 |recv s a hn=>
  obtain⟨k,rfl,hq⟩:=hk.one
  exact Hp (by decide) fun d z=>De (fun _=>B5.2 ⟨(Gw (.inr (.inl rfl)) hq).sep _ ⟨by decide,by decide⟩,Lh (Ca An9 (Ho (Fb hn).1 (Fs ⟨by decide,by decide⟩) (Cd Qq rfl rfl trivial)))⟩)
 |if2 a=>
  obtain⟨k,k',rfl,hq,hq'⟩:=hk.two
  refine Hp (by decide) fun d z=> ?_
  exact B5.2 ⟨De (fun s=>Ca Au7 (B5.2 ⟨(Gw (.inl rfl) hq).sep _ ⟨by decide,by decide⟩,Lh (Cd An7 rfl rfl trivial)⟩)),B5.2 ⟨Lb (by decide) hq' _ _,De (fun s=>Cd An8 rfl rfl trivial)⟩⟩
 |if3 a=>
  obtain⟨k,k',k'',rfl,hq,hq',Ax4⟩:=hk.three
  refine Hp (by decide) fun d z=> ?_
  show F0 (line d (.tk sIf::sps::(k.tm++[sps,.tk sLB]))++(k'.st (d+1)++(line d [.tk sRB,sps,.tk Dq,sps,.tk sLB]++(k''.st (d+1)++line d [.tk sRB])))) z
  refine B5.2 ⟨De fun s=> ?_,B5.2 ⟨Lb (by decide) hq' _ _,B5.2 ⟨De fun s=> ?_,B5.2 ⟨Lb (by decide) Ax4 _ _,De fun s=> ?_⟩⟩⟩⟩
  ·exact Ca Au7 (B5.2 ⟨(Gw (.inl rfl) hq).sep _ ⟨by decide,by decide⟩,Lh (Cd An7 rfl rfl trivial)⟩)
  ·exact Ca An8 (Ca Aob (Cd An7 rfl rfl trivial))
  ·exact Cd An8 rfl rfl trivial
 |Bfc a=>
  obtain⟨k,k',rfl,hq,hq'⟩:=hk.two
  exact Hp (by decide) fun d z=>N7 (fun s hs=>Ca Aq5 ((Gw (.inl rfl) hq).sep _ hs)) (Lb (by decide) hq')
 |sel k a h1=>
  refine Hp (by decide) fun d z=> ?_
  exact B5.2 ⟨De (fun s=>Ca Aoc (Cd An7 rfl rfl trivial)),B5.2 ⟨Qr (fun k hk'=>Lb (by decide) (hk.rep.2 k hk')),De (fun s=>Cd An8 rfl rfl trivial)⟩⟩
 |start s k a hn=>
  refine Hp (by decide) fun d z=> ?_
  refine De (fun _=>Ca Aq2 (Ho (Fb hn).1 (Fs ⟨by decide,by decide⟩) (Cd Aqy rfl rfl (B5.2 ⟨Sr (fun x hx=> ?_) ⟨by decide,by decide⟩,Cd Aqz rfl rfl (Cd Qq rfl rfl trivial)⟩))))
  obtain⟨r,hr,rfl⟩:=List.mem_map.1 hx
  exact Gw (.inl rfl) (hk.rep.2 r hr)
 |one op a ho=>
  obtain⟨k,rfl,hq⟩:=hk.one
  have hT:=Gw (.inl rfl) hq
  refine Hp (by decide) fun d z=> ?_
  rcases ho with rfl|rfl|rfl
  ·exact De (fun s=>Ca Aq3 (N8 hT))
  ·exact De (fun s=>Ca Aq4 (N8 hT))
  ·exact De (fun s=>Ca Aoa (N8 hT))
 |none op a ho=>
  refine Hp (by decide) fun d z=> ?_
  rcases ho with rfl|rfl
  ·exact De (fun s=>Ho Atp (Fs ⟨by decide,by decide⟩) (Cd Qq rfl rfl trivial))
  ·exact De (fun s=>Ho Atq (Fs ⟨by decide,by decide⟩) (Cd Qq rfl rfl trivial))
 |els a=>
  obtain⟨k,rfl,hq⟩:=hk.one
  exact Hp (by decide) fun d z=>N7 (fun s hs=>Ho Aob (Fs hs) trivial) (Lb (by decide) hq)
 |clause op s a w ds' ho=>
  have e34:∀(n:Int) (kids:Int) (ks:List R) (d:Nat),(Ar ⟨34,s,n,kids,a⟩ ks).st d=Bd d (D8 ⟨34,s,n,kids,a⟩ ks++((kd ks n.toNat).tm++[sps,.tk Gt,sps,.tk s])) (kd ks (n.toNat+1)):=fun _ _ _ _=>rfl
  have e35:∀(n:Int) (kids:Int) (ks:List R) (d:Nat),(Ar ⟨35,s,n,kids,a⟩ ks).st d=Bd d (D8 ⟨35,s,n,kids,a⟩ ks++((kd ks n.toNat).tm++(sps::.tk C5::sps::(kd ks (n.toNat+1)).tm))) (kd ks (n.toNat+2)):=fun _ _ _ _=>rfl
  have e36:∀(n:Int) (kids:Int) (ks:List R) (d:Nat),(Ar ⟨36,s,n,kids,a⟩ ks).st d=Bd d (D8 ⟨36,s,n,kids,a⟩ ks++(.tk D7::sps::(kd ks n.toNat).tm)) (kd ks (n.toNat+1)):=fun _ _ _ _=>rfl
  refine Hp (by decide) fun d z=> ?_
  cases w with
  |false=>
   rcases ho with⟨rfl,hn,rfl⟩|⟨rfl,rfl,rfl⟩|⟨rfl,rfl,rfl⟩
   ·obtain⟨k,k',rfl,hq,hq'⟩:=F2.two (a:=82) (a':=66) hk
    rw [e34]
    refine Kw (fun h=>absurd h (show¬(0:Int)=1 by decide)) (fun s hs=> ?_) (Lb (by decide) hq')
    exact B5.2 ⟨(Gw (.inr (.inl rfl)) hq).sep _ ⟨by decide,by decide⟩,Lh (Ca An9 (Ho (Fb hn).1 (Fs hs) trivial))⟩
   ·obtain⟨k,k',k'',rfl,hq,hq',Ax4⟩:=F2.three (a:=82) (a':=69) (a'':=66) hk
    rw [e35]
    refine Kw (fun h=>absurd h (show¬(0:Int)=1 by decide)) (fun s hs=> ?_) (Lb (by decide) Ax4)
    exact B5.2 ⟨(Gw (.inr (.inl rfl)) hq).sep _ ⟨by decide,by decide⟩,Lh (Ca Ai8 ((Gw (.inl rfl) hq').sep _ hs))⟩
   ·obtain⟨k,k',rfl,hq,hq'⟩:=F2.two (a:=69) (a':=66) hk
    rw [e36]
    refine Kw (fun h=>absurd h (show¬(0:Int)=1 by decide)) (fun s hs=> ?_) (Lb (by decide) hq')
    exact Ca Akh ((Gw (.inl rfl) hq).sep _ hs)
  |true=>
   rcases ho with⟨rfl,hn,rfl⟩|⟨rfl,rfl,rfl⟩|⟨rfl,rfl,rfl⟩
   ·obtain⟨k0,k,k',rfl,hq0,hq,hq'⟩:=F2.three (a:=69) (a':=82) (a'':=66) hk
    rw [e34]
    refine Kw (ks:=[k0,k,k']) (fun _=>Gw (c:=69) (r:=k0) (.inl rfl) hq0) (fun s hs=> ?_) (Lb (by decide) hq')
    exact B5.2 ⟨(Gw (.inr (.inl rfl)) hq).sep _ ⟨by decide,by decide⟩,Lh (Ca An9 (Ho (Fb hn).1 (Fs hs) trivial))⟩
   ·obtain⟨l1,l2,rfl,h1,h2⟩:=F2.split (l:=[69]) (l':=[82,69,66]) hk
    obtain⟨k0,rfl,hq0⟩:=h1.one
    obtain⟨k,k',k'',rfl,hq,hq',Ax4⟩:=h2.three
    rw [e35]
    refine Kw (ks:=[k0]++[k,k',k'']) (fun _=>Gw (c:=69) (r:=k0) (.inl rfl) hq0) (fun s hs=> ?_) (Lb (by decide) Ax4)
    exact B5.2 ⟨(Gw (.inr (.inl rfl)) hq).sep _ ⟨by decide,by decide⟩,Lh (Ca Ai8 ((Gw (.inl rfl) hq').sep _ hs))⟩
   ·obtain⟨k0,k,k',rfl,hq0,hq,hq'⟩:=F2.three (a:=69) (a':=69) (a'':=66) hk
    rw [e36]
    refine Kw (ks:=[k0,k,k']) (fun _=>Gw (c:=69) (r:=k0) (.inl rfl) hq0) (fun s hs=> ?_) (Lb (by decide) hq')
    exact Ca Akh ((Gw (.inl rfl) hq).sep _ hs)
 |Bbh s a hn=>
  cases hk.nil
  exact Zp (.inr (.inl rfl)) (Xt hn)
 |Bbi s a hn=>
  obtain⟨k,rfl,hq⟩:=hk.one
  refine Zp (.inr (.inl rfl)) ⟨fun z hz=>Ho (Fb hn).1 (Fs ⟨by decide,by decide⟩) (Cd Au4 rfl rfl (B5.2 ⟨(Gw (.inl rfl) hq).sep _ ⟨by decide,by decide⟩,Cd Au5 rfl rfl trivial⟩)),?_⟩
  obtain⟨c,t,h1,h2⟩:=(Xt hn).beg
  refine⟨c,t++tx (.tk sLS::(k.tm++[.tk sRS])),?_,h2⟩
  show tx (.tk s::.tk sLS::(k.tm++[.tk sRS]))=_
  rw [Cj]
  have:(Ck.tk s).tx=c::t:=by simpa [tx,Ck.tx] using h1
  rw [this];rfl
 |block k a=>exact Hp (by decide) fun d z=>Qr (fun k hk'=>Lb (by decide) (hk.rep.2 k hk'))
 |param s a hn=>exact Zp (.inr (.inr rfl)) (Xt hn)
 |unit k a=>exact Hp (by decide) fun d z=>Qr (fun k hk'=>Lb (by decide) (hk.rep.2 k hk'))
 |chan s n a hn h0 h1=>
  refine Hp (by decide) fun d z=>De (fun y=> ?_)
  dsimp only
  split
  ·exact Ca Aoe (Ho (Fb hn).1 (Fs ⟨by decide,by decide⟩) (Cd Au4 rfl rfl (Ho (Vq h0 (by omega)).gt (Fs ⟨by decide,by decide⟩) (Cd Au5 rfl rfl (Cd Qq rfl rfl trivial)))))
  ·exact Ca Aoe (Ho (Fb hn).1 (Fs ⟨by decide,by decide⟩) (Cd Qq rfl rfl trivial))
 |main a=>
  obtain⟨k,rfl,hq⟩:=hk.one
  exact Hp (by decide) fun d z=>N7 (fun s hs=>Ho Atu (Fs hs) trivial) (Lb (by decide) hq)
 |proc s k a hn=>
  obtain⟨ps,bs,rfl,h1,h2⟩:=hk.split
  obtain⟨b,rfl,hq⟩:=h2.one
  refine Hp (by decide) fun d z=> ?_
  have e:(Ar ⟨40,s,0,wr (k+1),a⟩ (ps++[b])).st d=Bd d (.tk Gg::sps::.tk s::.tk sLP::(Bs (ps.map R.tm)++[.tk sRP])) b:=by
   show stN ⟨40,s,0,wr (k+1),a⟩ (ps++[b]) d=_
   unfold stN
   simp [kd]
  rw [e]
  refine N7 (fun s' hs=>Ca Att (Ho (Fb hn).1 (Fs ⟨by decide,by decide⟩) (Cd Aqy rfl rfl (B5.2 ⟨Sr (fun x hx=> ?_) ⟨by decide,by decide⟩,Cd Aqz rfl rfl trivial⟩)))) (Lb (by decide) hq)
  obtain⟨r,hr,rfl⟩:=List.mem_map.1 hx
  exact Gw (.inr (.inr rfl)) (h1.rep.2 r hr)
theorem Aq7 {cs:List UInt8} {f:Fo} (h:WfF cs f):F2 Vr cs (Fz f):=Vk Vr Aog h
end Go.Proofs.YtcakelelfklhdaaGreatDoor
namespace Go.Proofs.YtcakelelfklhdaaGreatDoor
open Go.Vc Go.Lv Go.Ty Go.Tk Go.Tm
abbrev Key:=Int×Str×Int
def kyT (t:Tok):Key:=(t.kind,t.text,t.n)
def kyV (v:Str):Key:=(kdS v,v,nvS v)
def kyK:List Ck->List Key
 |[]=>[]
 | .sp _::l=>kyK l
 | .tk v::l=>kyV v::kyK l
theorem Bc:∀(a b:List Ck),kyK (a++b)=kyK a++kyK b
 |[],_=>rfl
 | .sp _::a,b=>Bc a b
 | .tk v::a,b=>by show kyV v::kyK (a++b)=_;rw [Bc a b];rfl
def Ug (ts:List Tok) (p:Nat) (ks:List Key):Prop:=∃r,(ts.drop p).map kyT=ks++r
theorem C4 {ts:List Tok} {p:Nat} {a b:List Key} (h:Ug ts p (a++b)):Ug ts p a/\Ug ts (p+a.length) b:=by
 obtain⟨r,h⟩:=h
 rw [List.append_assoc]at h
 refine⟨⟨_,h⟩,r,?_⟩
 rw [←List.drop_drop,List.map_drop,h]
 exact List.drop_left
theorem Al {ts:List Tok} {p:Nat} {k:Key} {a:List Key} (h:Ug ts p (k::a)):kyT (T ts p)=k/\Ug ts (p+1) a:=by
 refine⟨?_,(C4 (a:=[k]) h).2⟩
 obtain⟨r,h⟩:=h
 cases hd:ts.drop p with
 |nil=>rw [hd]at h;cases h
 |cons t l=>
  rw [hd]at h
  have:T ts p=t:=by
   unfold T
   have h1:=congrArg (fun l=>l[0]?) hd
   simp only [List.getElem?_drop,Nat.add_zero,List.getElem?_cons_zero]at h1
   simp [List.getD,h1]
  rw [this]
  simpa using(List.cons.inj h).1
theorem Atv (toks:List Tok):∀(f:Nat) (j:Job) (r:Res),P toks f j=some r->P toks (f+1) j=some r:=by
 intro f
 induction f with
 |zero=>intro j r h;simp [P]at h
 |succ f ih=>
  intro j r h
  cases j with
  |one p d=>
   simp only [P]at h
   show B9 toks (fun p d=>P toks (f+1) (.one p d)) (fun p d=>P toks (f+1) (.lev 1 p d)) p d=some r
   exact T4 (fun p d r h=>ih _ _ h) (fun p d r h=>ih _ _ h) h
  |lev n p d=>
   rw [P]at h⊢
   obtain⟨x,hx,hr⟩:=Option.bind_eq_some_iff.1 h
   exact Option.bind_eq_some_iff.2 ⟨x,ih _ _ hx,ih _ _ hr⟩
  |loop n m d x=>
   rw [P]at h⊢
   split at h
   ·rename_i he;rw [if_pos he];exact h
   ·rename_i he
    rw [if_neg he]
    split at h
    ·rename_i hm;rw [if_pos hm];exact h
    ·rename_i hm
     rw [if_neg hm]
     obtain⟨y,hy,hr⟩:=Option.bind_eq_some_iff.1 h
     refine Option.bind_eq_some_iff.2 ⟨y,ih _ _ hy,?_⟩
     split at hr
     ·rename_i hye;rw [if_pos hye];exact hr
     ·rename_i hye
      rw [if_neg hye]
      exact ih _ _ hr
theorem Ss (toks:List Tok) {f g:Nat} (hfg:f<=g) {j:Job} {r:Res} (h:P toks f j=some r):P toks g j=some r:=by
 induction g with
 |zero=>have:f=0:=by omega
        subst this;exact h
 |succ g ih=>
  rcases Nat.lt_or_ge g f with h1|h1
  ·have:f=g+1:=by omega
   subst this;exact h
  ·exact Atv _ _ _ _ (ih h1)
theorem Aoh (toks:List Tok) {f g:Nat} {j:Job} {r z:Res} (h:P toks f j=some r) (k:P toks g j=some z):r=z:=by
 have h1:=Ss toks (Nat.le_max_left f g) h
 rw [Ss toks (Nat.le_max_right f g) k]at h1
 exact(Option.some.inj h1).symm
def erD (x:Nd):Int×Str×Int×Int:=(x.op,x.name,x.n,x.kids)
def erG (x:Aj):Int×Str×Int×Int:=(x.op,x.name,x.n,x.kids)
def lv (r:R):Nat:=B4 r.x.op
def mst (r:R):Nat:=if 6<=lv r then 6 else if lv r=3 then 2 else lv r
def ln (l:List Ck):Nat:=(kyK l).length
def Atw (l:List Ck) (fl:List Aj) (nd low top:Nat):Prop:=∀(ts:List Tok) (p d n:Nat),1<=n->n<=top->d<=24->Ug ts p (kyK l)->Cp ts (p+ln l)<=top->
 (d+nd<=24->∃L:List Nd,L.map erD=fl.map erG/\∀f z,P ts f (.loop n low d ⟨L,p+ln l,0⟩)=some z->∃f',P ts f' (.lev n p d)=some z)/\
 (24<d+nd->∃f' z,P ts f' (.lev n p d)=some z/\z.e=5)
def Ai9 (l:List Ck) (fl:List Aj) (nd:Nat):Prop:=∀(ts:List Tok) (p d:Nat),d<=24->Ug ts p (kyK l)->
 (d+nd<=24->∃(L:List Nd) (f:Nat),L.map erD=fl.map erG/\P ts f (.one p d)=some ⟨L,p+ln l,0⟩)/\
 (24<d+nd->∃f z,P ts f (.one p d)=some z/\z.e=5)
structure TmP (r:R):Prop where
 lev:1<=lv r/\lv r<=7
 big:Atw r.tm r.fl r.nd (mst r) (lv r)
 one:6<=lv r->Ai9 r.tm r.fl r.nd
theorem Oz {l:List Ck} {fl:List Aj} {nd top:Nat} (h:Ai9 l fl nd):Atw l fl nd 6 top:=by
 intro ts p d n _ _ hd hs _
 obtain⟨h1,h2⟩:=h ts p d hd hs
 refine⟨fun hn=> ?_,fun hn=> ?_⟩
 ·obtain⟨L,f,he,hf⟩:=h1 hn
  refine⟨L,he,fun g z hz=>⟨max f g+1,?_⟩⟩
  rw [P]
  exact Option.bind_eq_some_iff.2 ⟨_,Ss ts (Nat.le_max_left _ _) hf,Ss ts (Nat.le_max_right _ _) hz⟩
 ·obtain⟨f,z,hf,he⟩:=h2 hn
  refine⟨f+2,z,?_,he⟩
  rw [P]
  refine Option.bind_eq_some_iff.2 ⟨z,Ss ts (Nat.le_succ _) hf,?_⟩
  rw [P,if_pos (by rw [he];decide)]
theorem Vs {ts:List Tok} {n m d:Nat} {x:Res} (h:Cp ts x.at_=0\/Cp ts x.at_<n):P ts 1 (.loop n m d x)=some x:=by
 rw [P]
 by_cases he:x.e≠0
 ·rw [if_pos he]
 ·rw [if_neg he,if_pos (by omega)]
theorem Aki {ts:List Tok} {p:Nat} {k n:Int} {v:Str} (h:kyT (T ts p)=(k,v,n)):Cp ts p=if k=4 then B4 (Jg v)else 0:=by
 unfold kyT at h
 simp only [Prod.mk.injEq]at h
 unfold Cp
 rw [h.1,h.2.1]
theorem paren {r:R} (h:TmP r):Ai9 (.tk sLP::(r.tm++[.tk sRP])) r.fl (r.nd+1):=by
 intro ts p d hd hs
 have hk:kyK (.tk sLP::(r.tm++[.tk sRP]))=kyV sLP::(kyK r.tm++[kyV sRP]):=by show kyV sLP::kyK _=_;rw [Bc];rfl
 rw [hk]at hs
 obtain⟨h0,hs⟩:=Al hs
 obtain⟨h1,hs⟩:=C4 hs
 have h2:=(Al hs).1
 have hl:ln (.tk sLP::(r.tm++[.tk sRP]))=ln r.tm+2:=by unfold ln;rw [hk];simp
 have e0:(T ts p).kind=4/\(T ts p).text=[40]:=by
  have:kyT (T ts p)=(4,[40],0):=h0
  unfold kyT at this
  simp only [Prod.mk.injEq]at this
  exact⟨this.1,this.2.1⟩
 have e2:(T ts (p+1+ln r.tm)).kind=4/\(T ts (p+1+ln r.tm)).text=[41]:=by
  have:kyT (T ts (p+1+ln r.tm))=(4,[41],0):=h2
  unfold kyT at this
  simp only [Prod.mk.injEq]at this
  exact⟨this.1,this.2.1⟩
 have hm:Cp ts (p+1+ln r.tm)=0:=by
  unfold Cp;rw [if_pos e2.1,e2.2];decide
 have step:∀f z,P ts f (.lev 1 (p+1) (d+1))=some z->d≠24->P ts (f+1) (.one p d)=some (if z.e≠0 then z else if(T ts z.at_).kind=4/\(T ts z.at_).text=[41]then⟨z.l,z.at_+1,0⟩else⟨[],z.at_,11⟩):=by
  intro f z hz hd'
  simp only [P]
  unfold B9
  rw [if_neg (by rw [e0.1];decide),if_neg (by rw [e0.1];decide),if_neg (fun h=>by rw [e0.2]at h;exact absurd h.2 (by decide)),if_pos e0,if_neg hd']
  show Option.map _ (P ts f (.lev 1 (p+1) (d+1)))=_
  rw [hz]
  rfl
 refine⟨fun hn=> ?_,fun hn=> ?_⟩
 ·obtain⟨L,he,hL⟩:=(h.big ts (p+1) (d+1) 1 (Nat.le_refl _) h.lev.1 (by omega) h1 (by rw [hm];omega)).1 (by omega)
  obtain⟨f',hf'⟩:=hL 1 _ (Vs (.inl hm))
  refine⟨L,f'+1,he,?_⟩
  rw [step _ _ hf' (by omega)]
  rw [if_neg (by simp),if_pos e2,hl]
  simp only [Option.some.injEq,Res.mk.injEq,true_and,and_true]
  omega
 ·by_cases hd':d=24
  ·refine⟨1,⟨[],p,5⟩,?_,rfl⟩
   simp only [P]
   unfold B9
   rw [if_neg (by rw [e0.1];decide),if_neg (by rw [e0.1];decide),if_neg (fun h=>by rw [e0.2]at h;exact absurd h.2 (by decide)),if_pos e0,if_pos hd']
  ·obtain⟨f',z,hf',he⟩:=(h.big ts (p+1) (d+1) 1 (Nat.le_refl _) h.lev.1 (by omega) h1 (by rw [hm];omega)).2 (by omega)
   exact⟨f'+1,z,by rw [step _ _ hf' hd',if_pos (by rw [he];decide)],he⟩
def Aoi (r:R) (l:Nat):Nat:=if lv r<l then 6 else mst r
def Al7 (r:R) (l:Nat):Nat:=if lv r<l then 7 else lv r
theorem Ahi {r:R} (h:TmP r) (l:Nat):Atw (Br r l) r.fl (Di r l) (Aoi r l) (Al7 r l):=by
 unfold Br Di Aoi Al7
 by_cases hb:lv r<l
 ·have hb':B4 r.x.op<l:=hb
  simp only [if_pos hb,if_pos hb']
  exact Oz (paren h)
 ·have hb':¬B4 r.x.op<l:=hb
  simp only [if_neg hb,if_neg hb']
  exact h.big
theorem Ahj {r:R} (h:TmP r):Ai9 (Br r 6) r.fl (Di r 6):=by
 unfold Br Di
 by_cases hb:B4 r.x.op<6
 ·rw [if_pos hb,if_pos hb];exact paren h
 ·rw [if_neg hb,if_neg hb];exact h.one (Nat.le_of_not_lt hb)
theorem Atx {n a:Int} (h0:0<=n) (h1:n<=999999999999999999) (ks:List R) (hk:ks=[]):TmP (Ar ⟨1,[],n,0,a⟩ ks):=by
 subst hk
 have hN:=Vq h0 h1
 have ho:Ai9 (Ar ⟨1,[],n,0,a⟩ []).tm (Ar ⟨1,[],n,0,a⟩ []).fl (Ar ⟨1,[],n,0,a⟩ []).nd:=by
  intro ts p d hd hs
  have hs:Ug ts p [kyV (Lg n)]:=hs
  have h:=(Al hs).1
  unfold kyT kyV at h
  simp only [Prod.mk.injEq]at h
  refine⟨fun _=>⟨[⟨1,[],(T ts p).n,0,(T ts p).at_⟩],1,?_,?_⟩,fun hn=> ?_⟩
  ·show [_]=[_]
   simp only [erD,erG,h.2.2,hN.nv]
  ·simp only [P]
   unfold B9
   rw [if_pos (by rw [h.1];exact hN.kd)]
   rfl
  ·exact absurd hn (show¬24<d+0 by omega)
 exact⟨(show 1<=B4 1/\B4 1<=7 by decide),Oz ho,fun _=>ho⟩
theorem Aq8 {s:Str} {a:Int} (hn:Tk.Ba s=true) (ks:List R) (hk:ks=[]):TmP (Ar ⟨2,s,0,0,a⟩ ks):=by
 subst hk
 have ho:Ai9 (Ar ⟨2,s,0,0,a⟩ []).tm (Ar ⟨2,s,0,0,a⟩ []).fl (Ar ⟨2,s,0,0,a⟩ []).nd:=by
  intro ts p d hd hs
  have hs:Ug ts p [kyV s]:=hs
  have h:=(Al hs).1
  unfold kyT kyV at h
  simp only [Prod.mk.injEq]at h
  have hkd:=(Fb hn).2
  refine⟨fun _=>⟨[⟨2,(T ts p).text,0,0,(T ts p).at_⟩],1,?_,?_⟩,fun hn=> ?_⟩
  ·show [_]=[_]
   simp only [erD,erG,h.2.1]
  ·simp only [P]
   unfold B9
   rw [if_neg (by rw [h.1,hkd];decide),if_pos (by rw [h.1,hkd])]
   rfl
  ·exact absurd hn (show¬24<d+0 by omega)
 exact⟨(show 1<=B4 2/\B4 2<=7 by decide),Oz ho,fun _=>ho⟩
theorem Au9 {op a:Int} (hop:op=3\/op=4) {k:R} (hk:TmP k):TmP (Ar ⟨op,[],0,1,a⟩ [k]):=by
 have htm:(Ar ⟨op,[],0,1,a⟩ [k]).tm= .tk (sgO op)::Br k 6:=by rcases hop with rfl|rfl<;>rfl
 have hnd:(Ar ⟨op,[],0,1,a⟩ [k]).nd=Di k 6+1:=by rcases hop with rfl|rfl<;>rfl
 have hlv:lv (Ar ⟨op,[],0,1,a⟩ [k])=6:=by rcases hop with rfl|rfl<;>rfl
 have hms:mst (Ar ⟨op,[],0,1,a⟩ [k])=6:=by unfold mst;rw [hlv];rfl
 have hfl:(Ar ⟨op,[],0,1,a⟩ [k]).fl=⟨op,[],0,1,a⟩::k.fl:=by show _::(k.fl++[])=_;rw [List.append_nil]
 have ho:Ai9 (Ar ⟨op,[],0,1,a⟩ [k]).tm (Ar ⟨op,[],0,1,a⟩ [k]).fl (Ar ⟨op,[],0,1,a⟩ [k]).nd:=by
  rw [htm,hnd,hfl]
  intro ts p d hd hs
  have hs:Ug ts p (kyV (sgO op)::kyK (Br k 6)):=hs
  obtain⟨h,hs⟩:=Al hs
  have hky:kyV (sgO op)=(4,sgO op,0):=by rcases hop with rfl|rfl<;>rfl
  rw [hky]at h
  unfold kyT at h
  simp only [Prod.mk.injEq]at h
  have hln:ln (.tk (sgO op)::Br k 6)=ln (Br k 6)+1:=rfl
  have c:(T ts p).kind=4/\((T ts p).text=[45]\/(T ts p).text=[33]):=⟨h.1,by rcases hop with rfl|rfl<;>simp [h.2.1,sgO]⟩
  refine⟨fun hn=> ?_,fun hn=> ?_⟩
  ·obtain⟨L,f,he,hf⟩:=(Ahj hk ts (p+1) (d+1) (by omega) hs).1 (by omega)
   refine⟨⟨op,[],0,1,(T ts p).at_⟩::L,f+1,?_,?_⟩
   ·rw [List.map_cons,he];rfl
   ·simp only [P]
    unfold B9
    rw [if_neg (by rw [h.1];decide),if_neg (by rw [h.1];decide),if_pos c,if_neg (by omega)]
    show Option.map _ (P ts f (.one (p+1) (d+1)))=_
    rw [hf,hln]
    have:(if(T ts p).text=[33]then(4:Int)else 3)=op:=by rcases hop with rfl|rfl<;>simp [h.2.1,sgO]
    simp only [Option.map_some,if_true,this]
    congr 2;omega
  ·by_cases hd':d=24
   ·refine⟨1,⟨[],p,5⟩,?_,rfl⟩
    simp only [P]
    unfold B9
    rw [if_neg (by rw [h.1];decide),if_neg (by rw [h.1];decide),if_pos c,if_pos hd']
   ·obtain⟨f,z,hf,he⟩:=(Ahj hk ts (p+1) (d+1) (by omega) hs).2 (by omega)
    refine⟨f+1,z,?_,he⟩
    simp only [P]
    unfold B9
    rw [if_neg (by rw [h.1];decide),if_neg (by rw [h.1];decide),if_pos c,if_neg hd']
    show Option.map _ (P ts f (.one (p+1) (d+1)))=_
    rw [hf,Option.map_some,if_neg (by rw [he];decide)]
 exact⟨by rw [hlv];decide,by rw [hms];exact Oz ho,fun _=>ho⟩
theorem Aoj {op:Int} (h5:5<=op) (h17:op<=17):kyV (sgO op)=(4,sgO op,0)/\Jg (sgO op)=op/\1<=B4 op/\B4 op<=5:=by
 rcases ops (op:=op) (by omega)with rfl|rfl|rfl|rfl|rfl|rfl|rfl|rfl|rfl|rfl|rfl|rfl|rfl|rfl|rfl
 ·omega
 ·omega
 all_goals exact⟨rfl,rfl,by decide,by decide⟩
theorem Aty {op a:Int} (h5:5<=op) (h17:op<=17) {k k':R} (hk:TmP k) (hk':TmP k'):TmP (Ar ⟨op,[],0,2,a⟩ [k,k']):=by
 obtain⟨hky,hop,hl1,hl5⟩:=Aoj h5 h17
 have htm:(Ar ⟨op,[],0,2,a⟩ [k,k']).tm=Br k (Cc op)++(sps::.tk (sgO op)::sps::Br k' (B4 op+1)):=by
  show tmN ⟨op,[],0,2,a⟩ [k,k']=_
  unfold tmN
  dsimp only
  rw [if_neg (by omega),if_neg (by omega),if_neg (by omega),if_neg (by omega)]
  rfl
 have hnd:(Ar ⟨op,[],0,2,a⟩ [k,k']).nd=max (Di k (Cc op)) (Di k' (B4 op+1)):=by
  show ndN ⟨op,[],0,2,a⟩ [k,k']=_
  unfold ndN
  dsimp only
  rw [if_neg (by omega),if_pos ⟨h5,h17⟩]
  rfl
 have hlv:lv (Ar ⟨op,[],0,2,a⟩ [k,k'])=B4 op:=rfl
 have hms:mst (Ar ⟨op,[],0,2,a⟩ [k,k'])=if B4 op=3 then 2 else B4 op:=by unfold mst;rw [hlv,if_neg (by omega)]
 have hfl:(Ar ⟨op,[],0,2,a⟩ [k,k']).fl=⟨op,[],0,2,a⟩::(k.fl++k'.fl):=by show _::(k.fl++(k'.fl++[]))=_;rw [List.append_nil]
 refine⟨by rw [hlv];omega,?_,fun h=>by rw [hlv]at h;omega⟩
 rw [htm,hnd,hms,hfl,hlv]
 have hM1:=Nat.le_max_left (Di k (Cc op)) (Di k' (B4 op+1))
 have hM2:=Nat.le_max_right (Di k (Cc op)) (Di k' (B4 op+1))
 have hM3:max (Di k (Cc op)) (Di k' (B4 op+1))=Di k (Cc op)\/max (Di k (Cc op)) (Di k' (B4 op+1))=Di k' (B4 op+1):=by
  rcases Nat.le_total (Di k (Cc op)) (Di k' (B4 op+1))with h|h
  ·exact .inr (Nat.max_eq_right h)
  ·exact .inl (Nat.max_eq_left h)
 clear hnd
 generalize max (Di k (Cc op)) (Di k' (B4 op+1))=M at hM1 hM2 hM3⊢
 intro ts p d n hn1 hn hd hs hF
 have hkk:kyK (Br k (Cc op)++(sps::.tk (sgO op)::sps::Br k' (B4 op+1)))=kyK (Br k (Cc op))++(kyV (sgO op)::kyK (Br k' (B4 op+1))):=Bc _ _
 have hlen:ln (Br k (Cc op)++(sps::.tk (sgO op)::sps::Br k' (B4 op+1)))=ln (Br k (Cc op))+(ln (Br k' (B4 op+1))+1):=by unfold ln;rw [hkk];simp
 rw [hlen]at hF
 rw [hkk]at hs
 obtain⟨s1,hs⟩:=C4 hs
 obtain⟨s2,s3⟩:=Al hs
 rw [hky]at s2
 have hm:=Aki s2
 rw [if_pos rfl,hop]at hm
 have hm:Cp ts (p+ln (Br k (Cc op)))=B4 op:=hm
 have s3:Ug ts (p+ln (Br k (Cc op))+1) (kyK (Br k' (B4 op+1))):=s3
 have htx:(T ts (p+ln (Br k (Cc op)))).text=sgO op:=by
  have:kyT (T ts (p+ln (Br k (Cc op))))=(4,sgO op,0):=s2
  unfold kyT at this;simp only [Prod.mk.injEq]at this;exact this.2.1
 have hk1:=hk.lev;have hk2:=hk'.lev
 have Bz0:B4 op<=Al7 k (Cc op):=by
  unfold Al7 Cc
  by_cases h3:B4 op=3
  ·simp only [if_pos h3];split<;>omega
  ·simp only [if_neg h3];split<;>omega
 have hL:=Ahi hk (Cc op) ts p d n hn1 (Nat.le_trans hn Bz0) hd s1 (by rw [hm];exact Bz0)
 have hR:=Ahi hk' (B4 op+1) ts (p+ln (Br k (Cc op))+1) d (B4 op+1) (by omega) (by unfold Al7;split<;>omega) hd s3 (by
  rw [show p+ln (Br k (Cc op))+1+ln (Br k' (B4 op+1))=p+(ln (Br k (Cc op))+(ln (Br k' (B4 op+1))+1)) by omega]
  unfold Al7;split<;>omega)
 have Cjv:B4 op<=Aoi k (Cc op):=by
  unfold Aoi mst Cc
  by_cases h3:B4 op=3
  ·simp only [if_pos h3];split<;>(try split)<;>(try split)<;>omega
  ·simp only [if_neg h3];split<;>(try split)<;>(try split)<;>omega
 have Bc6:∀(L:List Nd) f y,P ts f (.lev (B4 op+1) (p+ln (Br k (Cc op))+1) d)=some y->P ts (f+1) (.loop n (Aoi k (Cc op)) d ⟨L,p+ln (Br k (Cc op)),0⟩)=if y.e≠0 then some y else P ts f (.loop n (if B4 op=3 then 2 else B4 op) d (join ts ⟨L,p+ln (Br k (Cc op)),0⟩ y)):=by
  intro L f y hy
  rw [P,if_neg (by simp)]
  dsimp only
  rw [hm,if_neg (by omega),hy]
  rfl
 refine⟨fun hdn=> ?_,fun hdn=> ?_⟩
 ·obtain⟨L,he,hLL⟩:=hL.1 (by omega)
  obtain⟨L',he',Ch2⟩:=hR.1 (by omega)
  obtain⟨f',hf'⟩:=Ch2 1 _ (Vs (by dsimp only;rw [show p+ln (Br k (Cc op))+1+ln (Br k' (B4 op+1))=p+(ln (Br k (Cc op))+(ln (Br k' (B4 op+1))+1)) by omega];omega))
  refine⟨⟨op,[],0,2,(T ts (p+ln (Br k (Cc op)))).at_⟩::L++L',?_,fun f z hz=> ?_⟩
  ·rw [List.cons_append,List.map_cons,List.map_append,he,he',List.map_cons,List.map_append];rfl
  ·have h1:=Bc6 L (max f f') _ (Ss ts (Nat.le_max_right _ _) hf')
   rw [if_neg (by simp)]at h1
   have e:join ts ⟨L,p+ln (Br k (Cc op)),0⟩ ⟨L',p+ln (Br k (Cc op))+1+ln (Br k' (B4 op+1)),0⟩=⟨⟨op,[],0,2,(T ts (p+ln (Br k (Cc op)))).at_⟩::L++L',p+ln (Br k (Cc op)++(sps::.tk (sgO op)::sps::Br k' (B4 op+1))),0⟩:=by
    unfold join
    dsimp only
    rw [htx,hop,hlen]
    congr 1;omega
   rw [e,Ss ts (Nat.le_max_left _ _) hz]at h1
   exact hLL _ _ h1
 ·by_cases hd1:24<d+Di k (Cc op)
  ·exact hL.2 hd1
  ·have hd2:24<d+Di k' (B4 op+1):=by clear hL hR;omega
   obtain⟨L,he,hLL⟩:=hL.1 (by omega)
   obtain⟨f',y,hf',hy⟩:=hR.2 hd2
   have h1:=Bc6 L f' y hf'
   rw [if_pos (by rw [hy];decide)]at h1
   obtain⟨g,hg⟩:=hLL _ _ h1
   exact⟨g,y,hg,hy⟩
theorem Aok {r:R} (h:TmP r) {ts:List Tok} {p:Nat} (hs:Ug ts p (kyK r.tm)) (hm:Cp ts (p+ln r.tm)=0):
 (r.nd<=24->∃L:List Nd,L.map erD=r.fl.map erG/\Dx ts p=⟨L,p+ln r.tm,0⟩)/\(24<r.nd->(Dx ts p).e=5):=by
 have hp:=Gf ts p (by omega)
 rw [Int.toNat_natCast]at hp
 obtain⟨h1,h2⟩:=h.big ts p 0 1 (Nat.le_refl _) h.lev.1 (by omega) hs (by rw [hm];omega)
 refine⟨fun hn=> ?_,fun hn=> ?_⟩
 ·obtain⟨L,he,hL⟩:=h1 (by omega)
  obtain⟨f,hf⟩:=hL 1 _ (Vs (.inl hm))
  exact⟨L,he,Aoh ts hp hf⟩
 ·obtain⟨f,z,hf,he⟩:=h2 (by omega)
  rw [Aoh ts hp hf];exact he
end Go.Proofs.YtcakelelfklhdaaGreatDoor
namespace Go.Proofs.YtcakelelfklhdaaGreatDoor
open Go.Vc Go.Lv Go.Ty Go.Tk Go.Tm
theorem Ahk (k:Nat):IntKind.i64.wrap (wr k+1)=wr (k+1):=by
 unfold wr IntKind.wrap
 simp only [IntKind.bits,IntKind.signed]
 simp
 omega
theorem Aja:wr 1=1:=by decide
theorem Aol:wr 0=0:=by decide
section
variable {toks:List Aq}
abbrev Ks (toks:List Aq) (p:Nat) (ks:List Key):Prop:=Ug (toks.map tT) p ks
abbrev Kt (toks:List Aq) (p:Nat):Key:=kyT (T (toks.map tT) p)
theorem Aom (p:Nat):B6 toks (p:Int)=gT (T (toks.map tT) p):=by
 have:=Asj (toks.map tT) p
 rwa [Ank]at this
theorem Hw {p:Nat} {v:Str} (h:Kt toks p=kyV v):(B6 toks (p:Int)).kind=kdS v/\(B6 toks (p:Int)).text=v/\(B6 toks (p:Int)).n=nvS v:=by
 rw [Aom]
 unfold Kt kyT kyV at h
 simp only [Prod.mk.injEq]at h
 exact h
theorem Bh {p:Nat} {v:Str} (h:Kt toks p=kyV v) (hk:kdS v=3\/kdS v=4):isF toks (p:Int) v=true:=by
 obtain⟨h1,h2,_⟩:=Hw h
 unfold isF
 rw [h1,h2]
 rcases hk with e|e<;>rw [e]<;>simp
theorem Jm {p:Nat} {v s:Str} (h:Kt toks p=kyV v) (hs:v≠s):isF toks (p:Int) s=false:=by
 obtain⟨h1,h2,_⟩:=Hw h
 unfold isF
 rw [h2]
 simp [hs]
theorem Kk {p:Nat} {v:Str} (h:Kt toks p=kyV v) (hv:Jg v=0):Cp (toks.map tT) p=0:=by
 rw [Aki (k:=kdS v) (n:=nvS v) (v:=v) h,hv]
 split<;>rfl
abbrev Er:=Int×Str×Int×Int
def St (ok:Prop) (L:List Er) (k p:Nat) (c:Cur):Prop:=(ok->c.e_=0/\c.l.map erG=L/\c.n=wr k/\c.at_=(p:Int))/\(¬ok->c.e_=5)
variable {ok ok':Prop} {L L':List Er} {k k' p p':Nat} {c d:Cur} {s:Str}
theorem St.iff (h:St ok L k p c) (e:ok↔ok'):St ok' L k p c:=by rwa [←propext e]
theorem St.eq (h:St ok L k p c) (e:L=L') (e':p=p'):St ok L' k p' c:=e▸e'▸h
theorem Cn (p:Nat):St True [] 0 p (Aw (p:Int)):=⟨fun _=>⟨rfl,rfl,Aol.symm,rfl⟩,fun h=>absurd trivial h⟩
theorem Bm (h:St ok L k p c) (hs:isF toks (p:Int) s=true):St ok L k (p+1) (Az toks s c):=by
 refine⟨fun o=> ?_,fun o=> ?_⟩
 ·obtain⟨h1,h2,h3,h4⟩:=h.1 o
  unfold Az
  rw [if_pos h1,h4,if_pos hs]
  exact⟨rfl,h2,h3,by dsimp only;omega⟩
 ·have:=h.2 o
  unfold Az
  rw [if_neg (by rw [this];decide)];exact this
theorem Kb (h:St ok L k p c) (hs:(B6 toks (p:Int)).kind=1):St ok L k (p+1) (Dh toks c):=by
 refine⟨fun o=> ?_,fun o=> ?_⟩
 ·obtain⟨h1,h2,h3,h4⟩:=h.1 o
  unfold Dh
  rw [if_pos h1,h4,if_pos hs]
  exact⟨rfl,h2,h3,by dsimp only;omega⟩
 ·have:=h.2 o
  unfold Dh
  rw [if_neg (by rw [this];decide)];exact this
theorem Hq (h:St ok L k p c) (hs:(B6 toks (p:Int)).kind=1) (o:ok):Ba toks c=(B6 toks (p:Int)).text:=by
 obtain⟨h1,h2,h3,h4⟩:=h.1 o
 unfold Ba
 rw [if_pos h1,h4,if_pos hs]
theorem O0 (h:St ok L k p c) (hd:ok->St ok' L' k' p' d):St (ok/\ok') (L++L') (k+1) p' (E6 c d):=by
 refine⟨fun o=> ?_,fun o=> ?_⟩
 ·obtain⟨h1,h2,h3,h4⟩:=h.1 o.1
  obtain⟨d1,d2,d3,d4⟩:=(hd o.1).1 o.2
  unfold E6
  rw [if_pos h1]
  refine⟨d1,?_,?_,d4⟩
  ·dsimp only;rw [List.map_append,h2,d2]
  ·dsimp only;rw [h3,Ahk]
 ·by_cases o1:ok
  ·obtain⟨h1,h2,h3,h4⟩:=h.1 o1
   unfold E6
   rw [if_pos h1]
   exact(hd o1).2 fun o2=>o ⟨o1,o2⟩
  ·have:=h.2 o1
   unfold E6
   rw [if_neg (by rw [this];decide)];exact this
theorem Hu {r:R} (h:St ok L k p c) (hr:TmP r) (hs:Ks toks p (kyK r.tm)) (hm:Cp (toks.map tT) (p+ln r.tm)=0):St (ok/\r.nd<=24) (L++r.fl.map erG) (k+1) (p+ln r.tm) (Eg TM toks c):=by
 unfold Eg
 have hz:=Aok hr hs hm
 refine O0 (k':=0) h fun o=> ?_
 obtain⟨_,_,_,h4⟩:=h.1 o
 rw [h4]
 refine⟨fun o'=> ?_,fun o'=> ?_⟩
 ·obtain⟨Ld,e1,e2⟩:=hz.1 o'
  show(Dx (toks.map tT) (p:Int)).e=0/\((Dx (toks.map tT) (p:Int)).l.map gN).map erG=_/\(0:Int)=wr 0/\((Dx (toks.map tT) (p:Int)).at_:Int)=_
  rw [e2]
  refine⟨rfl,?_,Aol.symm,rfl⟩
  rw [List.map_map,←e1];rfl
 ·exact hz.2 (by omega)
theorem C6 {x:Aj} {o:Int} {n:Int} (h:St ok L k p c) (hx:ok->x.op=o/\x.name=s/\x.n=n):St ok ((o,s,n,wr k)::L) 1 p (Cq c x):=by
 refine⟨fun oo=> ?_,fun oo=>h.2 oo⟩
 obtain⟨h1,h2,h3,h4⟩:=h.1 oo
 obtain⟨x1,x2,x3⟩:=hx oo
 refine⟨h1,?_,Aja.symm,h4⟩
 show erG ⟨x.op,x.name,x.n,c.n,x.at_⟩::c.l.map erG=_
 rw [h2]
 simp only [erG,x1,x2,x3,h3]
theorem Hz (h:St ok L k p c) (o:ok):Ez toks s c=isF toks (p:Int) s:=by
 obtain⟨h1,h2,h3,h4⟩:=h.1 o
 unfold Ez
 rw [h1,h4];simp
theorem My (h:St ok L k p c) (o:¬ok):Ez toks s c=false:=by
 have:=h.2 o
 unfold Ez
 rw [this];rfl
theorem Aon {a b:Cur} {k':Nat} (h:St ok L k p c) (hs:isF toks (p:Int) s=true) (ha:St ok' L' k' p' a) (hb:¬ok->b.e_=5) (hok:ok'->ok):St ok' L' k' p' (if Ez toks s c then a else b):=by
 by_cases o:ok
 ·rw [Hz h o,if_pos hs];exact ha
 ·rw [My h o,if_neg (by simp)]
  exact⟨fun o'=>absurd (hok o') o,fun _=>hb o⟩
theorem Akj {a:Cur} (h:St ok L k p c) (hs:isF toks (p:Int) s=false):St ok L k p (if Ez toks s c then a else c):=by
 by_cases o:ok
 ·rw [Hz h o,if_neg (by rw [hs];simp)];exact h
 ·rw [My h o,if_neg (by simp)];exact h
theorem Aq9 (h:c.e_=5):(Az toks s c).e_=5:=by unfold Az;rw [if_neg (by rw [h];decide)];exact h
theorem Aoo (h:c.e_=5):(Dh toks c).e_=5:=by unfold Dh;rw [if_neg (by rw [h];decide)];exact h
theorem Q6 {α:Type} {g:Cur->Bool} {b:Cur->Cur} (E:α->List Er) (N:α->Nat) (O:α->Prop) (Hs:Nat->List α->Prop)
 (hg0:∀ok L k p c,St ok L k p c->Hs p []->g c=false) (hgb:∀c:Cur,c.e_=5->g c=false)
 (Azg:∀ok L k p c a l,St ok L k p c->Hs p (a::l)->(ok->g c=true)/\St (ok/\O a) (L++E a) (k+1) (p+N a) (b c)/\Hs (p+N a) l):
 ∀(l:List α) (f:Nat) (ok:Prop) (L:List Er) (k p:Nat) (c:Cur),l.length<f->St ok L k p c->Hs p l->
  ∃p',p'=p+(l.map N).foldr (·+·) 0/\Hs p' []/\St (ok/\∀a∈l,O a) (L++l.flatMap E) (k+l.length) p' (Ej g b f c)
 |[],f,ok,L,k,p,c,hf,h,hs=>by
  refine⟨p,rfl,hs,?_⟩
  have e:Ej g b f c=c:=by
   cases f with
   |zero=>omega
   |succ f=>unfold Ej;rw [hg0 ok L k p c h hs,if_neg (by simp)]
  rw [e]
  exact(h.eq (by simp) rfl).iff (by simp)
 |a::l,0,ok,L,k,p,c,hf,h,hs=>by omega
 |a::l,f+1,ok,L,k,p,c,hf,h,hs=>by
  obtain⟨h1,h2,h3⟩:=Azg ok L k p c a l h hs
  obtain⟨p',e1,e2,e3⟩:=Q6 E N O Hs hg0 hgb Azg l f _ _ _ _ _ (by simp at hf;omega) h2 h3
  refine⟨p',by rw [e1];simp only [List.map_cons,List.foldr_cons];omega,e2,?_⟩
  by_cases o:ok
  ·have:Ej g b (f+1) c=Ej g b f (b c):=by
    show(if g c then Ej g b f (b c)else c)=_
    rw [h1 o,if_pos rfl]
   rw [this]
   rw [show k+(a::l).length=k+1+l.length by simp;omega]
   have e3:=e3.eq (L':=L++(a::l).flatMap E) (by simp) rfl
   exact e3.iff (by simp only [List.mem_cons,forall_eq_or_imp];exact and_assoc)
  ·have hb:=h.2 o
   have:Ej g b (f+1) c=c:=by
    show(if g c then Ej g b f (b c)else c)=_
    rw [hgb c hb,if_neg (by simp)]
   rw [this]
   exact⟨fun o'=>absurd o'.1 o,fun _=>hb⟩
end
end Go.Proofs.YtcakelelfklhdaaGreatDoor
