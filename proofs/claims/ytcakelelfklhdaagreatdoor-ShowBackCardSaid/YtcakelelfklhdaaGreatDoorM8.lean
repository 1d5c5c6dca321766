/- A part of the proof: conditions of the code, contracts, the plain law. -/
import Derived.Test.YtcakelelfklhdaaGreatDoorM2
import Derived.Test.YtcakelelfklhdaaGreatDoorM7
import Derived.Test.YtcakelelfklhdaaGreatDoorM6
import Derived.Shelf.Strings.Builder1
import Derived.WalkKit
import Derived.Test.YtcakelelfklhdaaGreatDoorLv
import Derived.Ground.NamesProg
import Derived.Shelf.Strings.OnBuilder
import Derived.Shelf.Strings.Repeat
import Derived.Shelf.Strconv.Itoa3
import Derived.Test.YtcakelelfklhdaaGreatDoorProg
import Derived.Test.YtcakelelfklhdaaGreatDoorRows
import Derived.Test.YtcakelelfklhdaaGreatDoorVcF
import Derived.Maps.RangeRun
set_option linter.unusedVariables false
namespace Go.Proofs.YtcakelelfklhdaaGreatDoor
open Go.Shelf Go.RowKit Go.Proofs Go.Vc
variable {P:Program} {ρ:Ren}
set_option maxHeartbeats 1000000 in
set_option maxRecDepth 100000 in
theorem Ail (L:Lays.n240 P ρ) (X:Builder.X72 P ρ) (b:Nat) (w:World) (h0:w.cell? ⟨b,1,none⟩=some (.pointer (some ⟨b,1,none⟩))):
 Calls P (ρ.f 240) #[.pointer (some ⟨b,1,none⟩)] w fun e w'=>e= .returned (.tuple #[])/\w'=w:=by
 obtain⟨j,hj,_⟩:=Option.map_eq_some_iff.1 X.sizeBuilder
 have mixed:=L.mixed
 have t72:=L.t72;have a72:=L.a72;have z72:=L.z72;have v72:=L.v72;have u72:=run_underlying L.t72
 have t70:=L.t70;have a70:=L.a70;have z70:=L.z70;have v70:=L.v70;have u70:=run_underlying L.t70
 have t9:=L.t9;have a9:=L.a9;have z9:=L.z9;have v9:=L.v9;have u9:=run_underlying L.t9
 have t4:=L.t4;have a4:=L.a4;have z4:=L.z4;have v4:=L.v4;have u4:=run_underlying L.t4
 have t164:=L.t164;have a164:=L.a164;have z164:=L.z164;have v164:=L.v164;have Ciz:=run_underlying L.t164
 go_enter L.f240,Body.n240_ntmps ρ
 go_wp2
 rw [Lib.run_neq_ptr_same w _ L.t70 hj]
 go_wp2
 go_end0
 exact⟨rfl,rfl⟩
set_option maxHeartbeats 1000000 in
set_option maxRecDepth 100000 in
theorem Afh (L:Lays.n240 P ρ) (X:Builder.X72 P ρ) (b:Nat) (w:World) {T:TypeId} (h0:w.cell? ⟨b,1,none⟩=some (.pointer none)) (hsh:w.shape? b=some (T,4)) (hfz:w.frozen? ⟨b,1,none⟩=false)
 (Cax:liesAt P P.depth T (4/P.cellsOf T) 1 (ρ.t 72) 1=true):
 Calls P (ρ.f 240) #[.pointer (some ⟨b,1,none⟩)] w fun e w'=>e= .returned (.tuple #[])/\w'=w.setCell ⟨b,1,none⟩ (.pointer (some ⟨b,1,none⟩)):=by
 obtain⟨j,hj,hjs⟩:=Option.map_eq_some_iff.1 X.sizeBuilder
 have mixed:=L.mixed
 have t72:=L.t72;have a72:=L.a72;have z72:=L.z72;have v72:=L.v72;have u72:=run_underlying L.t72
 have t70:=L.t70;have a70:=L.a70;have z70:=L.z70;have v70:=L.v70;have u70:=run_underlying L.t70
 have t9:=L.t9;have a9:=L.a9;have z9:=L.z9;have v9:=L.v9;have u9:=run_underlying L.t9
 have t4:=L.t4;have a4:=L.a4;have z4:=L.z4;have v4:=L.v4;have u4:=run_underlying L.t4
 have t164:=L.t164;have a164:=L.a164;have z164:=L.z164;have v164:=L.v164;have Ciz:=run_underlying L.t164
 go_enter L.f240,Body.n240_ntmps ρ
 go_wp2
 rw [Lib.run_to_unsafe w ⟨b,1,none⟩ L.t70 L.t164 hj (by rw [hjs];decide) hsh (by show 1<4;omega)]
 simp only [Result.andThen]
 rw [Oper.upon_value]
 go_wp2
 rw [run_callFunc_extern L.f276 (by kernel_rfl) (by kernel_rfl) (by kernel_rfl) (e:=Extern.AbiNoEscape.same) (by kernel_rfl)]
 rw [Lib.run_noEscape]
 simp only [Result.andThen]
 rw [Oper.upon_value]
 go_wp2
 rw [Lib.run_from_unsafe w ⟨b,1,none⟩ L.t164 L.t70 hj hsh Cax]
 simp only [Result.andThen]
 rw [Oper.upon_value]
 go_wp2
 go_end0
 exact⟨rfl,rfl⟩
theorem Ao7 (w:World) (g n:Nat):An [g] w (w.drew.freeze ⟨g,0,none⟩ n):=by
 unfold World.freeze
 split
 ·exact⟨rfl,rfl,rfl,Nat.le_refl _,fun _ _ _=>rfl⟩
 ·refine⟨rfl,rfl,rfl,by simp,fun k hk hm=> ?_⟩
  have hne:¬g=k:=fun e=>hm (by simp [e])
  simp only [Array.getElem?_modify]
  rw [if_neg hne]
  rfl
theorem Ar1 (w:World) (o:Obj):An [] w (w.drew.alloc o):=by
 refine⟨rfl,rfl,rfl,?_,fun k hk _=>Lib.alloc_old w.drew _ k hk⟩
 show w.heap.size<=(w.heap.push o).size
 rw [Array.size_push];omega
set_option maxHeartbeats 2000000 in
set_option maxRecDepth 100000 in
theorem Am4 (L:Lays.n169 P ρ) (X:Builder.Extra P ρ) (b g cap:Nat) (T:TypeId) (c0 p d:Value) (cur:Array Value) (l:List UInt8) (w:World) (hbk:w.heap[b]? =some (.cells #[c0,p,.slice (some ⟨g,0,none⟩) l.length cap,d] T (0,0)))
 (hbg:w.heap[g]? =some (.cells cur (ρ.t 5) (0,0))) (hnc:l.length<=cap) (hcm:cap<=maxLen) (hcs:cur.size=cap*1) (Cay:cur.toList.take (l.length*1)=Lib.byteCells l) (h0:l≠[]):
 Calls P (ρ.f 169) #[.pointer (some ⟨b,1,none⟩)] w fun e w'=>e= .returned (.string ⟨l.toArray⟩)/\An [g] w w':=by
 have hl0:l.length≠0:=by simpa using h0
 have Bdh:w.ownsRow 0 (ρ.t 5) 1 (.slice (some ⟨g,0,none⟩) l.length cap) l.length (Lib.byteCells l):=⟨by rw [Lib.byteCells_length,Nat.mul_one],.inr ⟨g,cap,cur,rfl,Nat.zero_le _,hbg,hnc,hcm,hcs,Cay⟩⟩
 have c1:w.drew.cell? ⟨b,2,none⟩=some (.slice (some ⟨g,0,none⟩) l.length cap):=by
  have:w.drew.heap[b]? =some (.cells #[c0,p,.slice (some ⟨g,0,none⟩) l.length cap,d] T (0,0)):=hbk
  rw [Lib.cell_of_heap this];rfl
 have hSD:(Builtin.unsafeSliceData_ #[(ρ.t 37)] (ρ.t 127) #[.slice (some ⟨g,0,none⟩) l.length cap]).run P w.drew= .ok (.pointer (some ⟨g,0,none⟩)) w.drew:=
  Lib.run_unsafeSliceData_row _ _ _ _ _ _ (by omega)
 have hUS:(Builtin.unsafeString_ #[(ρ.t 127),(ρ.t 3)] (ρ.t 9) #[.pointer (some ⟨g,0,none⟩),.int .i64 l.length]).run P w.drew= .ok (.string ⟨l.toArray⟩) (w.drew.freeze ⟨g,0,none⟩ l.length):=by
  refine Lib.run_unsafeString_row w.drew (ρ.t 127) (ρ.t 3) (ρ.t 9) (ρ.t 5) L.t127 X.cellsByte g cur.size (by have hg':w.drew.heap[g]? =some (.cells cur (ρ.t 5) (0,0)):=hbg;simp [World.shape?,hg']) l h0 (by omega) (by unfold maxLen at hcm;omega) ?_
  intro j x hx
  have:=Bdh.cells (g:=g) rfl j (.int .u8 x.toNat) (by simp [Lib.byteCells,hx])
  exact this
 have mixed:=L.mixed
 have t72:=L.t72;have a72:=L.a72;have z72:=L.z72;have v72:=L.v72;have u72:=run_underlying L.t72
 have t70:=L.t70;have a70:=L.a70;have z70:=L.z70;have v70:=L.v70;have u70:=run_underlying L.t70
 have t37:=L.t37;have a37:=L.a37;have z37:=L.z37;have v37:=L.v37;have u37:=run_underlying L.t37
 have t127:=L.t127;have a127:=L.a127;have z127:=L.z127;have v127:=L.v127;have Bn6:=run_underlying L.t127
 have t3:=L.t3;have a3:=L.a3;have z3:=L.z3;have v3:=L.v3;have u3:=run_underlying L.t3
 have t9:=L.t9;have a9:=L.a9;have z9:=L.z9;have v9:=L.v9;have u9:=run_underlying L.t9
 have t5:=X.t5;have a5:=X.a5;have z5:=X.z5;have v5:=X.v5;have u5:=run_underlying X.t5
 go_enter L.f169,Body.n169_ntmps ρ
 go_wp2
 go_region_o
 all_goals (go_wp2;go_ret;exact⟨rfl,Ao7 w g _⟩)
set_option maxHeartbeats 2000000 in
set_option maxRecDepth 100000 in
theorem Ao8 (L:Lays.n169 P ρ) (X:Builder.Extra P ρ) (b:Nat) (T:TypeId) (c0 p d:Value) (w:World) (hbk:w.heap[b]? =some (.cells #[c0,p,.slice none 0 0,d] T (0,0))):
 Calls P (ρ.f 169) #[.pointer (some ⟨b,1,none⟩)] w fun e w'=>e= .returned (.string ⟨#[]⟩)/\An [] w w':=by
 have hUS:=Any.unsafeString_none L X
 have c1:w.drew.cell? ⟨b,2,none⟩=some (.slice none 0 0):=by
  have:w.drew.heap[b]? =some (.cells #[c0,p,.slice none 0 0,d] T (0,0)):=hbk
  rw [Lib.cell_of_heap this];rfl
 have hSD:(Builtin.unsafeSliceData_ #[(ρ.t 37)] (ρ.t 127) #[.slice none 0 0]).run P w.drew= .ok (.pointer none) w.drew:=rfl
 have mixed:=L.mixed
 have t72:=L.t72;have a72:=L.a72;have z72:=L.z72;have v72:=L.v72;have u72:=run_underlying L.t72
 have t70:=L.t70;have a70:=L.a70;have z70:=L.z70;have v70:=L.v70;have u70:=run_underlying L.t70
 have t37:=L.t37;have a37:=L.a37;have z37:=L.z37;have v37:=L.v37;have u37:=run_underlying L.t37
 have t127:=L.t127;have a127:=L.a127;have z127:=L.z127;have v127:=L.v127;have Bn6:=run_underlying L.t127
 have t3:=L.t3;have a3:=L.a3;have z3:=L.z3;have v3:=L.v3;have u3:=run_underlying L.t3
 have t9:=L.t9;have a9:=L.a9;have z9:=L.z9;have v9:=L.v9;have u9:=run_underlying L.t9
 have t5:=X.t5;have a5:=X.a5;have z5:=X.z5;have v5:=X.v5;have u5:=run_underlying X.t5
 go_enter L.f169,Body.n169_ntmps ρ
 go_wp2
 go_region_o
 all_goals (go_wp2;go_ret;exact⟨rfl,⟨rfl,rfl,rfl,Nat.le_refl _,fun _ _ _=>rfl⟩⟩)
set_option maxHeartbeats 2000000 in
set_option maxRecDepth 100000 in
theorem Aim (L:Lays.n169 P ρ) (X:Builder.Extra P ρ) (b g:Nat) (T:TypeId) (c0 p d:Value) (cur:Array Value) (w:World) (hbk:w.heap[b]? =some (.cells #[c0,p,.slice (some ⟨g,0,none⟩) 0 0,d] T (0,0))) (hg:w.heap[g]? =some (.cells cur (ρ.t 5) (0,0))):
 Calls P (ρ.f 169) #[.pointer (some ⟨b,1,none⟩)] w fun e w'=>e= .returned (.string ⟨#[]⟩)/\An [] w w':=by
 have hUS:=Any.unsafeString_none L X
 have hlt:b<w.heap.size:=(Array.getElem?_eq_some_iff.1 hbk).1
 have c1:w.drew.cell? ⟨b,2,none⟩=some (.slice (some ⟨g,0,none⟩) 0 0):=by
  have:w.drew.heap[b]? =some (.cells #[c0,p,.slice (some ⟨g,0,none⟩) 0 0,d] T (0,0)):=hbk
  rw [Lib.cell_of_heap this];rfl
 have hSD:(Builtin.unsafeSliceData_ #[(ρ.t 37)] (ρ.t 127) #[.slice (some ⟨g,0,none⟩) 0 0]).run P w.drew= .ok (.pointer (some ⟨w.drew.heap.size,0,none⟩)) (w.drew.alloc (.view ⟨g,0,none⟩ (ρ.t 5))):=
  Lib.run_unsafeSliceData_zero w.drew _ _ (ρ.t 5) L.t127 ⟨g,0,none⟩ 0 ((ρ.t 5),cur.size) (by have hg':w.drew.heap[g]? =some (.cells cur (ρ.t 5) (0,0)):=hg;simp [World.shape?,hg'])
 have c2:(w.drew.alloc (.view ⟨g,0,none⟩ (ρ.t 5))).cell? ⟨b,2,none⟩=some (.slice (some ⟨g,0,none⟩) 0 0):=by
  have:(w.drew.alloc (.view ⟨g,0,none⟩ (ρ.t 5))).heap[b]? =_:=(Lib.alloc_old w.drew _ b hlt).trans hbk
  rw [Lib.cell_of_heap this];rfl
 have c3:(w.alloc (.view ⟨g,0,none⟩ (ρ.t 5))).drew.cell? ⟨b,2,none⟩=some (.slice (some ⟨g,0,none⟩) 0 0):=c2
 have c0':w.cell? ⟨b,2,none⟩=some (.slice (some ⟨g,0,none⟩) 0 0):=c1
 have mixed:=L.mixed
 have t72:=L.t72;have a72:=L.a72;have z72:=L.z72;have v72:=L.v72;have u72:=run_underlying L.t72
 have t70:=L.t70;have a70:=L.a70;have z70:=L.z70;have v70:=L.v70;have u70:=run_underlying L.t70
 have t37:=L.t37;have a37:=L.a37;have z37:=L.z37;have v37:=L.v37;have u37:=run_underlying L.t37
 have t127:=L.t127;have a127:=L.a127;have z127:=L.z127;have v127:=L.v127;have Bn6:=run_underlying L.t127
 have t3:=L.t3;have a3:=L.a3;have z3:=L.z3;have v3:=L.v3;have u3:=run_underlying L.t3
 have t9:=L.t9;have a9:=L.a9;have z9:=L.z9;have v9:=L.v9;have u9:=run_underlying L.t9
 have t5:=X.t5;have a5:=X.a5;have z5:=X.z5;have v5:=X.v5;have u5:=run_underlying X.t5
 go_enter L.f169,Body.n169_ntmps ρ
 go_wp2
 go_region_o
 all_goals (go_wp2;go_ret;exact⟨rfl,Ar1 w _⟩)
set_option maxHeartbeats 2000000 in
set_option maxRecDepth 100000 in
theorem Am5 (L:Lays.n169 P ρ) (X:Builder.Extra P ρ) (b g cap:Nat) (T:TypeId) (c0 p d:Value) (w:World) (hc0:cap≠0) (hbk:w.heap[b]? =some (.cells #[c0,p,.slice (some ⟨g,0,none⟩) 0 cap,d] T (0,0))):
 Calls P (ρ.f 169) #[.pointer (some ⟨b,1,none⟩)] w fun e w'=>e= .returned (.string ⟨#[]⟩)/\An [] w w':=by
 have hUS:=Any.unsafeString_none L X
 have c1:w.drew.cell? ⟨b,2,none⟩=some (.slice (some ⟨g,0,none⟩) 0 cap):=by
  have:w.drew.heap[b]? =some (.cells #[c0,p,.slice (some ⟨g,0,none⟩) 0 cap,d] T (0,0)):=hbk
  rw [Lib.cell_of_heap this];rfl
 have hSD:(Builtin.unsafeSliceData_ #[(ρ.t 37)] (ρ.t 127) #[.slice (some ⟨g,0,none⟩) 0 cap]).run P w.drew= .ok (.pointer (some ⟨g,0,none⟩)) w.drew:=
  Lib.run_unsafeSliceData_row _ _ _ _ _ _ hc0
 clear hc0
 have mixed:=L.mixed
 have t72:=L.t72;have a72:=L.a72;have z72:=L.z72;have v72:=L.v72;have u72:=run_underlying L.t72
 have t70:=L.t70;have a70:=L.a70;have z70:=L.z70;have v70:=L.v70;have u70:=run_underlying L.t70
 have t37:=L.t37;have a37:=L.a37;have z37:=L.z37;have v37:=L.v37;have u37:=run_underlying L.t37
 have t127:=L.t127;have a127:=L.a127;have z127:=L.z127;have v127:=L.v127;have Bn6:=run_underlying L.t127
 have t3:=L.t3;have a3:=L.a3;have z3:=L.z3;have v3:=L.v3;have u3:=run_underlying L.t3
 have t9:=L.t9;have a9:=L.a9;have z9:=L.z9;have v9:=L.v9;have u9:=run_underlying L.t9
 have t5:=X.t5;have a5:=X.a5;have z5:=X.z5;have v5:=X.v5;have u5:=run_underlying X.t5
 go_enter L.f169,Body.n169_ntmps ρ
 go_wp2
 go_region_o
 all_goals (go_wp2;go_ret;exact⟨rfl,⟨rfl,rfl,rfl,Nat.le_refl _,fun _ _ _=>rfl⟩⟩)
end Go.Proofs.YtcakelelfklhdaaGreatDoor
namespace Go.Proofs
open Go.Shelf
def Tryz.lays169_ren:Go.Shelf.Ren:=⟨fun|169=>16|n=>n,fun|70=>41|9=>9|0=>0|72=>44|37=>42|127=>77|3=>3|5=>5|n=>n,fun|n=>n⟩
theorem Tryz.lays169:Go.Proofs.Lays.n169 Tryz.prog Tryz.lays169_ren:= {
 mixed:=by kernel_rfl
 f169:=Tryz.func16.trans (congrArg some (by kernel_rfl))
 t0:=Tryz.underlying0
 a0:=Tryz.isAgg0
 z0:=Tryz.sizeOf0
 v0:=Tryz.zeroValue0
 t3:=Tryz.underlying3
 a3:=Tryz.isAgg3
 z3:=Tryz.sizeOf3
 v3:=Tryz.zeroValue3
 t9:=Tryz.underlying9
 a9:=Tryz.isAgg9
 z9:=Tryz.sizeOf9
 v9:=Tryz.zeroValue9
 t37:=Tryz.underlying42
 a37:=Tryz.isAgg42
 z37:=Tryz.sizeOf42
 v37:=Tryz.zeroValue42
 t70:=Tryz.underlying41
 a70:=Tryz.isAgg41
 z70:=Tryz.sizeOf41
 v70:=Tryz.zeroValue41
 t72:=Tryz.underlying44
 a72:=Tryz.isAgg44
 z72:=Tryz.sizeOf44
 v72:=Tryz.zeroValue44
 t127:=Tryz.underlying77
 a127:=Tryz.isAgg77
 z127:=Tryz.sizeOf77
 v127:=Tryz.zeroValue77 }
def Tryz.lays156_ren:Go.Shelf.Ren:=⟨fun|156=>32|165=>62|166=>57|169=>16|240=>83|241=>91|276=>96|277=>104|n=>n,fun|31=>74|9=>9|3=>3|4=>4|0=>0|20=>20|72=>44|76=>99|70=>41|37=>42|75=>98|127=>77|164=>129|5=>5|80=>50|n=>n,fun|n=>n⟩
theorem Tryz.lays156:Go.Proofs.Lays.n156 Tryz.prog Tryz.lays156_ren:= {
 mixed:=by kernel_rfl
 f156:=Tryz.func32.trans (congrArg some (by kernel_rfl))
 f165:=Tryz.func62.trans (congrArg some (by kernel_rfl))
 f166:=Tryz.func57.trans (congrArg some (by kernel_rfl))
 f169:=Tryz.func16.trans (congrArg some (by kernel_rfl))
 f240:=Tryz.func83.trans (congrArg some (by kernel_rfl))
 f241:=Tryz.func91.trans (congrArg some (by kernel_rfl))
 f276:=Tryz.func96.trans (congrArg some (by kernel_rfl))
 f277:=Tryz.func104.trans (congrArg some (by kernel_rfl))
 t0:=Tryz.underlying0
 a0:=Tryz.isAgg0
 z0:=Tryz.sizeOf0
 v0:=Tryz.zeroValue0
 t3:=Tryz.underlying3
 a3:=Tryz.isAgg3
 z3:=Tryz.sizeOf3
 v3:=Tryz.zeroValue3
 t4:=Tryz.underlying4
 a4:=Tryz.isAgg4
 z4:=Tryz.sizeOf4
 v4:=Tryz.zeroValue4
 t9:=Tryz.underlying9
 a9:=Tryz.isAgg9
 z9:=Tryz.sizeOf9
 v9:=Tryz.zeroValue9
 t20:=Tryz.underlying20
 a20:=Tryz.isAgg20
 z20:=Tryz.sizeOf20
 v20:=Tryz.zeroValue20
 t31:=Tryz.underlying74
 a31:=Tryz.isAgg74
 z31:=Tryz.sizeOf74
 v31:=Tryz.zeroValue74
 t37:=Tryz.underlying42
 a37:=Tryz.isAgg42
 z37:=Tryz.sizeOf42
 v37:=Tryz.zeroValue42
 t70:=Tryz.underlying41
 a70:=Tryz.isAgg41
 z70:=Tryz.sizeOf41
 v70:=Tryz.zeroValue41
 t72:=Tryz.underlying44
 a72:=Tryz.isAgg44
 z72:=Tryz.sizeOf44
 v72:=Tryz.zeroValue44
 t75:=Tryz.underlying98
 a75:=Tryz.isAgg98
 z75:=Tryz.sizeOf98
 v75:=Tryz.zeroValue98
 t76:=Tryz.underlying99
 a76:=Tryz.isAgg99
 z76:=Tryz.sizeOf99
 v76:=Tryz.zeroValue99
 t127:=Tryz.underlying77
 a127:=Tryz.isAgg77
 z127:=Tryz.sizeOf77
 v127:=Tryz.zeroValue77
 t164:=Tryz.underlying129
 a164:=Tryz.isAgg129
 z164:=Tryz.sizeOf129
 v164:=Tryz.zeroValue129 }
def Tryz.lays105_ren:Go.Shelf.Ren:=⟨fun|105=>58|212=>84|99=>85|165=>62|166=>57|170=>86|169=>16|263=>97|264=>98|206=>99|240=>83|241=>91|276=>96|277=>104|n=>n,fun|9=>9|3=>3|4=>4|20=>20|0=>0|46=>119|109=>120|5=>5|72=>44|76=>99|51=>131|146=>132|53=>134|148=>135|70=>41|37=>42|75=>98|127=>77|164=>129|80=>50|n=>n,fun|n=>n⟩
theorem Tryz.lays105:Go.Proofs.Lays.n105 Tryz.prog Tryz.lays105_ren:= {
 mixed:=by kernel_rfl
 f99:=Tryz.func85.trans (congrArg some (by kernel_rfl))
 f105:=Tryz.func58.trans (congrArg some (by kernel_rfl))
 f165:=Tryz.func62.trans (congrArg some (by kernel_rfl))
 f166:=Tryz.func57.trans (congrArg some (by kernel_rfl))
 f169:=Tryz.func16.trans (congrArg some (by kernel_rfl))
 f170:=Tryz.func86.trans (congrArg some (by kernel_rfl))
 f206:=Tryz.func99.trans (congrArg some (by kernel_rfl))
 f212:=Tryz.func84.trans (congrArg some (by kernel_rfl))
 f240:=Tryz.func83.trans (congrArg some (by kernel_rfl))
 f241:=Tryz.func91.trans (congrArg some (by kernel_rfl))
 f263:=Tryz.func97.trans (congrArg some (by kernel_rfl))
 f264:=Tryz.func98.trans (congrArg some (by kernel_rfl))
 f276:=Tryz.func96.trans (congrArg some (by kernel_rfl))
 f277:=Tryz.func104.trans (congrArg some (by kernel_rfl))
 t0:=Tryz.underlying0
 a0:=Tryz.isAgg0
 z0:=Tryz.sizeOf0
 v0:=Tryz.zeroValue0
 t3:=Tryz.underlying3
 a3:=Tryz.isAgg3
 z3:=Tryz.sizeOf3
 v3:=Tryz.zeroValue3
 t4:=Tryz.underlying4
 a4:=Tryz.isAgg4
 z4:=Tryz.sizeOf4
 v4:=Tryz.zeroValue4
 t5:=Tryz.underlying5
 a5:=Tryz.isAgg5
 z5:=Tryz.sizeOf5
 v5:=Tryz.zeroValue5
 t9:=Tryz.underlying9
 a9:=Tryz.isAgg9
 z9:=Tryz.sizeOf9
 v9:=Tryz.zeroValue9
 t20:=Tryz.underlying20
 a20:=Tryz.isAgg20
 z20:=Tryz.sizeOf20
 v20:=Tryz.zeroValue20
 t37:=Tryz.underlying42
 a37:=Tryz.isAgg42
 z37:=Tryz.sizeOf42
 v37:=Tryz.zeroValue42
 t46:=Tryz.underlying119
 a46:=Tryz.isAgg119
 z46:=Tryz.sizeOf119
 v46:=Tryz.zeroValue119
 t51:=Tryz.underlying131
 a51:=Tryz.isAgg131
 z51:=Tryz.sizeOf131
 v51:=Tryz.zeroValue131
 t53:=Tryz.underlying134
 a53:=Tryz.isAgg134
 z53:=Tryz.sizeOf134
 v53:=Tryz.zeroValue134
 t70:=Tryz.underlying41
 a70:=Tryz.isAgg41
 z70:=Tryz.sizeOf41
 v70:=Tryz.zeroValue41
 t72:=Tryz.underlying44
 a72:=Tryz.isAgg44
 z72:=Tryz.sizeOf44
 v72:=Tryz.zeroValue44
 t75:=Tryz.underlying98
 a75:=Tryz.isAgg98
 z75:=Tryz.sizeOf98
 v75:=Tryz.zeroValue98
 t76:=Tryz.underlying99
 a76:=Tryz.isAgg99
 z76:=Tryz.sizeOf99
 v76:=Tryz.zeroValue99
 t109:=Tryz.underlying120
 a109:=Tryz.isAgg120
 z109:=Tryz.sizeOf120
 v109:=Tryz.zeroValue120
 t127:=Tryz.underlying77
 a127:=Tryz.isAgg77
 z127:=Tryz.sizeOf77
 v127:=Tryz.zeroValue77
 t146:=Tryz.underlying132
 a146:=Tryz.isAgg132
 z146:=Tryz.sizeOf132
 v146:=Tryz.zeroValue132
 t148:=Tryz.underlying135
 a148:=Tryz.isAgg135
 z148:=Tryz.sizeOf135
 v148:=Tryz.zeroValue135
 t164:=Tryz.underlying129
 a164:=Tryz.isAgg129
 z164:=Tryz.sizeOf129
 v164:=Tryz.zeroValue129 }
def Tryz.laysM171_ren:Go.Shelf.Ren:=⟨fun|171=>30|243=>59|246=>87|283=>100|284=>101|285=>102|286=>103|129=>109|317=>108|318=>110|319=>111|320=>112|337=>119|338=>120|n=>n,fun|3=>3|9=>9|2=>2|4=>4|171=>137|0=>0|53=>134|37=>42|5=>5|173=>140|212=>144|51=>131|20=>20|213=>145|46=>119|232=>152|233=>153|n=>n,fun|17=>0|18=>2|19=>3|n=>n⟩
theorem Tryz.laysM171:Go.Proofs.LaysM.n171 Tryz.prog Tryz.laysM171_ren:= {
 mixed:=by kernel_rfl
 f129:=Tryz.func109.trans (congrArg some (by kernel_rfl))
 f171:=Tryz.func30.trans (congrArg some (by kernel_rfl))
 f243:=Tryz.func59.trans (congrArg some (by kernel_rfl))
 f246:=Tryz.func87.trans (congrArg some (by kernel_rfl))
 f283:=Tryz.func100.trans (congrArg some (by kernel_rfl))
 f284:=Tryz.func101.trans (congrArg some (by kernel_rfl))
 f285:=Tryz.func102.trans (congrArg some (by kernel_rfl))
 f286:=Tryz.func103.trans (congrArg some (by kernel_rfl))
 f317:=Tryz.func108.trans (congrArg some (by kernel_rfl))
 f318:=Tryz.func110.trans (congrArg some (by kernel_rfl))
 f319:=Tryz.func111.trans (congrArg some (by kernel_rfl))
 f320:=Tryz.func112.trans (congrArg some (by kernel_rfl))
 f337:=Tryz.func119.trans (congrArg some (by kernel_rfl))
 f338:=Tryz.func120.trans (congrArg some (by kernel_rfl))
 t0:=Tryz.underlying0
 a0:=Tryz.isAgg0
 z0:=Tryz.sizeOf0
 v0:=Tryz.zeroValue0
 t2:=Tryz.underlying2
 a2:=Tryz.isAgg2
 z2:=Tryz.sizeOf2
 v2:=Tryz.zeroValue2
 t3:=Tryz.underlying3
 a3:=Tryz.isAgg3
 z3:=Tryz.sizeOf3
 v3:=Tryz.zeroValue3
 t4:=Tryz.underlying4
 a4:=Tryz.isAgg4
 z4:=Tryz.sizeOf4
 v4:=Tryz.zeroValue4
 t5:=Tryz.underlying5
 a5:=Tryz.isAgg5
 z5:=Tryz.sizeOf5
 v5:=Tryz.zeroValue5
 t9:=Tryz.underlying9
 a9:=Tryz.isAgg9
 z9:=Tryz.sizeOf9
 v9:=Tryz.zeroValue9
 t20:=Tryz.underlying20
 a20:=Tryz.isAgg20
 z20:=Tryz.sizeOf20
 v20:=Tryz.zeroValue20
 t37:=Tryz.underlying42
 a37:=Tryz.isAgg42
 z37:=Tryz.sizeOf42
 v37:=Tryz.zeroValue42
 t46:=Tryz.underlying119
 a46:=Tryz.isAgg119
 z46:=Tryz.sizeOf119
 v46:=Tryz.zeroValue119
 t51:=Tryz.underlying131
 a51:=Tryz.isAgg131
 z51:=Tryz.sizeOf131
 v51:=Tryz.zeroValue131
 t53:=Tryz.underlying134
 a53:=Tryz.isAgg134
 z53:=Tryz.sizeOf134
 v53:=Tryz.zeroValue134
 t171:=Tryz.underlying137
 a171:=Tryz.isAgg137
 z171:=Tryz.sizeOf137
 v171:=Tryz.zeroValue137
 t173:=Tryz.underlying140
 a173:=Tryz.isAgg140
 z173:=Tryz.sizeOf140
 v173:=Tryz.zeroValue140
 t212:=Tryz.underlying144
 a212:=Tryz.isAgg144
 z212:=Tryz.sizeOf144
 v212:=Tryz.zeroValue144
 t213:=Tryz.underlying145
 a213:=Tryz.isAgg145
 z213:=Tryz.sizeOf145
 t232:=Tryz.underlying152
 a232:=Tryz.isAgg152
 z232:=Tryz.sizeOf152
 v232:=Tryz.zeroValue152
 t233:=Tryz.underlying153
 a233:=Tryz.isAgg153
 z233:=Tryz.sizeOf153
 v233:=Tryz.zeroValue153
 g17:=by kernel_rfl
 g18:=by kernel_rfl
 g19:=by kernel_rfl
 i0:=by kernel_rfl
 i2:=by kernel_rfl
 i3:=by kernel_rfl
 i4:=by kernel_rfl
 i5:=by kernel_rfl
 i9:=by kernel_rfl
 i20:=by kernel_rfl
 i37:=by kernel_rfl
 i46:=by kernel_rfl
 i51:=by kernel_rfl
 i53:=by kernel_rfl
 i171:=by kernel_rfl
 i173:=by kernel_rfl
 i212:=by kernel_rfl
 i232:=by kernel_rfl
 i233:=by kernel_rfl
 m17:=by kernel_rfl
 m18:=by kernel_rfl
 m19:=by kernel_rfl }
end Go.Proofs
namespace Go.Proofs.YtcakelelfklhdaaGreatDoor
open Go.Vc
def Gc (b:Addr) (s:List UInt8) (K:Value->World->Prop) (w:World):Prop:=
 Calls Tryz.prog 83 #[.pointer (some b)] w (Ret fun _v w1=>
 ∃(xA:Option Addr) (xN:Nat) (xC:Nat),w1.cell? (b.add 1)=some (.slice xA xN xC)/\
 Bl Tryz.prog (Builtin.append_ #[42,9] 42 #[.slice xA xN xC,.string (mkS s)]) (fun v1 w2=>
 ∃(xA1:Option Addr) (xN1:Nat) (xC1:Nat),v1= .slice xA1 xN1 xC1/\
 Af w2 (b.add 1) 1/\∀w3:World,w3=w2.setCell (b.add 1) (.slice xA1 xN1 xC1)->
 K (.tuple #[.int .i64 (s.length:Int),.nilIface]) w3) w1)
theorem Kp (b:Addr) (s:List UInt8) (K:Value->World->Prop) (w:World) (h:Gc b s K w):Calls Tryz.prog 57 #[.pointer (some b),.string (mkS s)] w (Ret K):=
 Ao {} Tryz.func57 (by kernel_rfl) h
end Go.Proofs.YtcakelelfklhdaaGreatDoor
namespace Go.Proofs.YtcakelelfklhdaaGreatDoor
open Go.Vc Go.Lv Go.Ty
theorem Av1:Builder.X72 Tryz.prog Tryz.lays156_ren where
 sizeBuilder:=by kernel_rfl
 liesBuilder:=by kernel_rfl
theorem Afi:Builder.Extra Tryz.prog Tryz.lays169_ren where
 sizeBuilder:=by kernel_rfl
 liesBuilder:=by kernel_rfl
 t5:=Tryz.underlying5
 a5:=Tryz.isAgg5
 z5:=Tryz.sizeOf5
 v5:=Tryz.zeroValue5
 infoByte:=by kernel_rfl
 cellsByte:=by kernel_rfl
 sizeByte:=by kernel_rfl
 neB5:=by decide
theorem Aug {w:World} {b:Nat} {c0 p v d:Value} (hB:Box w b [c0,p,v,d]) (hp:Hu 1 b p) (hd:Wg p=true) (K:Value->World->Prop)
 (h:∀w',Box w' b [c0,.pointer (some ⟨b,1,none⟩),v,d]->An [b] w w'->K (.tuple #[]) w'):Calls Tryz.prog 83 #[.pointer (some ⟨b,1,none⟩)] w (Ret K):=by
 obtain⟨T,hT,hg⟩:=hB
 rcases hp with rfl|rfl
 ·obtain rfl:=hg rfl rfl
  have hc:=Afh (show Lays.n240 Tryz.prog Tryz.lays156_ren from { Tryz.lays156 with }) Av1 b w (T:=46) (by simp [World.cell?,hT]) (by simp [World.shape?,hT]) (by simp [World.frozen?,hT]) (by kernel_rfl)
  change Calls Tryz.prog 83 _ _ _ at hc
  refine hc.mono ?_
  rintro e w' ⟨rfl,rfl⟩
  refine h _ ⟨_,by rw [heap_setCell,if_pos rfl,hT];rfl,fun _ _=>rfl⟩ ⟨rfl,rfl,rfl,by simp [World.setCell],fun k _ hm=> ?_⟩
  rw [heap_setCell,if_neg (fun e=>hm (by simp [e]))]
 ·have hc:=Ail (show Lays.n240 Tryz.prog Tryz.lays156_ren from { Tryz.lays156 with }) Av1 b w (by simp [World.cell?,hT])
  change Calls Tryz.prog 83 _ _ _ at hc
  refine hc.mono ?_
  rintro e w' ⟨rfl,rfl⟩
  exact h _ ⟨T,hT,hg⟩ ((An.refl _ _))
theorem Ar2 (q:Ae) (s:List UInt8) (hs:q.b.buf.length+s.length<2^32) (K:Int->Value->Ae->Prop)
 (h:∀ad,K s.length .nilIface ⟨q.l,⟨ad,q.b.buf++B8 s⟩,q.deep⟩):Fh q s K:=by
 intro m w hm b A C xs A0 C0 hb hA Bn7 hrw hel hle hsl hsp
 refine Kp ⟨b,1,none⟩ s _ w ?_
 unfold Gc
 refine Aug Bn7 hsp (by rcases hsp with h|h<;>rw [h]<;>rfl) _ fun w1 hb1 k1=> ?_
 have hA1:∀k,Vc.blk A=some k->w1.heap[k]? =w.heap[k]? :=fun k hk=>k1.block k (hm.lt _ (hA k hk).1) (by simp [(hA k hk).2])
 have hr1:=hrw.kept hA1
 refine⟨A,q.b.buf.length,C,by rw [F4];exact hb1.cell rfl,?_⟩
 refine Ajz (base:=0) Atv Tryz.underlying5 (fun i hi=> ?_) Tryz.underlying9 hr1 hs (Nat.zero_le _) fun a' c' w2 hr2 hg2 hat=> ?_
 ·have:(Tryz.prog.info? 5).map (·.zero)=some (some (.int .u8 0)):=by kernel_rfl
  rw [hi]at this;simpa using this
 have hne:some b≠Vc.blk A:=fun e=>(hA b e.symm).2 rfl
 have hb2:Box w2 b [.slice A0 q.l.length C0,.pointer (some ⟨b,1,none⟩),.slice A q.b.buf.length C,.int .i64 q.deep]:=by
  obtain⟨T,hT,hg⟩:=hb1
  exact⟨T,by rw [hg2.block b (Array.getElem?_eq_some_iff.1 hT).1 hne];exact hT,hg⟩
 refine⟨a',_,c',rfl,?_,fun w3 hw3=> ?_⟩
 ·rw [F4];exact hb2.Bcl (i:=1+1) (n:=1) (by simp)
 have hbs:∀k,Vc.blk a'=some k->k≠b:=fun k hk=>by
  rcases hat with e|e
  ·rw [e]at hk;exact(hA k hk).2
  ·rw [e]at hk;cases hk;exact fun e=>Nat.lt_irrefl _ (e▸hb1.lt)
 rw [F4]at hw3
 have hb3:=hb2.set (i:=1+1) hw3
 have hr3:=hr2.kept (w':=w3) fun k hk=>by rw [hw3,heap_setCell,if_neg (fun e=>hbs k hk e.symm)]
 have k2:An (b::(Vc.blk A).toList) w w2:=Nn (k1.mono (by simp)) hg2 fun k hk=> .inl (by simp [hk])
 have k3:An (b::(Vc.blk A).toList) w w3:=by
  subst hw3
  refine⟨k2.os,k2.tape,k2.output,by simpa [World.setCell] using k2.size,fun k hk hn=> ?_⟩
  rw [heap_setCell,if_neg (fun e=>hn (by simp [e]))];exact k2.block k hk hn
 refine⟨_,_,_,h (.pointer (some ⟨b,1,none⟩)),rfl,⟨a',c',xs++(B8 s).map fun n=>Value.int .u8 n,?_,?_,?_,fun k hk=> ?_,.inr rfl⟩,k3⟩
 ·have e:(q.b.buf++B8 s).length=q.b.buf.length+s.length:=by simp [B8]
  show Box w3 b [_,_,.slice a' (q.b.buf++B8 s).length c',_]
  rw [e];exact hb3
 ·have e:(q.b.buf++B8 s).length=q.b.buf.length+s.length:=by simp [B8]
  show Rw w3 0 5 1 a' (q.b.buf++B8 s).length c' _
  rw [e];exact hr3
 ·rw [X2 hel,←List.map_append];exact Tx _ _ _
 ·rcases hat with e|e
  ·exact .inl (by rw [e]at hk;simp [hk])
  ·rw [e]at hk;cases hk;exact .inr k1.size
theorem Av2 (q:Ae) (s:List UInt8) (hq:q.b.buf=B8 s) (K:List UInt8->Prop) (h:K s):G2 q K:=by
 intro m w hm b A C xs A0 C0 hb hA Bn7 hrw hel hle hsl hsp
 obtain⟨T,hT,hg⟩:=Bn7
 have hxs:=X2 hel
 rw [hq]at hrw hxs hT
 have hlen:(B8 s).length=s.length:=by simp [B8]
 rw [hlen]at hrw hT
 subst hxs
 have hbc:Lib.byteCells s=(B8 s).map fun n=>Value.int .u8 n:=by simp [Lib.byteCells,B8]
 rcases hrw.2 with⟨hv,h0⟩|⟨g,cap,cur,hv,_,hh,hn,Bms,hsz,ht⟩
 ·obtain rfl:s=[]:=List.eq_nil_of_length_eq_zero h0
  obtain⟨rfl,rfl⟩:A=none/\C=0:=by simpa using hv
  have hc:=Ao8 Tryz.lays169 Afi b T _ _ _ w hT
  change Calls Tryz.prog 16 _ _ _ at hc
  refine hc.mono ?_
  rintro e w' ⟨rfl,k⟩
  exact⟨_,h,rfl,k.mono (by simp)⟩
 ·cases hv
  by_cases h0:s=[]
  ·subst h0
   by_cases hc0:C=0
   ·subst hc0
    have hc:=Aim Tryz.lays169 Afi b g T _ _ _ cur w hT hh
    change Calls Tryz.prog 16 _ _ _ at hc
    refine hc.mono ?_
    rintro e w' ⟨rfl,k⟩
    exact⟨_,h,rfl,k.mono (by simp)⟩
   ·have hc:=Am5 Tryz.lays169 Afi b g C T _ _ _ w hc0 hT
    change Calls Tryz.prog 16 _ _ _ at hc
    refine hc.mono ?_
    rintro e w' ⟨rfl,k⟩
    exact⟨_,h,rfl,k.mono (by simp)⟩
  ·have hc:=Am4 Tryz.lays169 Afi b g C T _ _ _ cur s w hT hh hn Bms hsz (by rw [hbc];exact ht) h0
   change Calls Tryz.prog 16 _ _ _ at hc
   refine hc.mono ?_
   rintro e w' ⟨rfl,k⟩
   exact⟨_,h,rfl,k.mono (by simp [Vc.blk])⟩
end Go.Proofs.YtcakelelfklhdaaGreatDoor
namespace Go.Proofs.YtcakelelfklhdaaGreatDoor
open Go.Vc
def Zx (K:Value->World->Prop) (w:World):Prop:=
 ∀(b:Nat) (w1:World),b=w.heap.size->w1=w.alloc (.map #[] 0)->
 Bl Tryz.prog (Instr.mapUpdate 115 (.map (some b)) (.string (mkS [124,124])) (.int .i64 17)) (fun _ w2=>
 Bl Tryz.prog (Instr.mapUpdate 115 (.map (some b)) (.string (mkS [38,38])) (.int .i64 16)) (fun _ w3=>
 Bl Tryz.prog (Instr.mapUpdate 115 (.map (some b)) (.string (mkS [61,61])) (.int .i64 10)) (fun _ w4=>
 Bl Tryz.prog (Instr.mapUpdate 115 (.map (some b)) (.string (mkS [33,61])) (.int .i64 11)) (fun _ w5=>
 Bl Tryz.prog (Instr.mapUpdate 115 (.map (some b)) (.string (mkS [60])) (.int .i64 12)) (fun _ w6=>
 Bl Tryz.prog (Instr.mapUpdate 115 (.map (some b)) (.string (mkS [60,61])) (.int .i64 13)) (fun _ w7=>
 Bl Tryz.prog (Instr.mapUpdate 115 (.map (some b)) (.string (mkS [62])) (.int .i64 14)) (fun _ w8=>
 Bl Tryz.prog (Instr.mapUpdate 115 (.map (some b)) (.string (mkS [62,61])) (.int .i64 15)) (fun _ w9=>
 Bl Tryz.prog (Instr.mapUpdate 115 (.map (some b)) (.string (mkS [43])) (.int .i64 5)) (fun _ w10=>
 Bl Tryz.prog (Instr.mapUpdate 115 (.map (some b)) (.string (mkS [45])) (.int .i64 6)) (fun _ w11=>
 Bl Tryz.prog (Instr.mapUpdate 115 (.map (some b)) (.string (mkS [42])) (.int .i64 7)) (fun _ w12=>
 Bl Tryz.prog (Instr.mapUpdate 115 (.map (some b)) (.string (mkS [47])) (.int .i64 8)) (fun _ w13=>
 Bl Tryz.prog (Instr.mapUpdate 115 (.map (some b)) (.string (mkS [37])) (.int .i64 9)) (fun _ w14=>
 K (.map (some b)) w14) w13) w12) w11) w10) w9) w8) w7) w6) w5) w4) w3) w2) w1
theorem Zy (K:Value->World->Prop) (w:World) (h:Zx K w):Calls Tryz.prog 77 #[] w (Ret K):=
 Ao {} Tryz.func77 (by kernel_rfl) h
def Afj (op:Int) (K:Value->World->Prop) (w:World):Prop:=
 cond (op==3)
 (K (.string (mkS [45])) w)
 (cond (op==4)
 (K (.string (mkS [33])) w)
 (Calls Tryz.prog 77 #[] w (Ret fun v w1=>
 ∃(x:Option Nat),v= .map x/\
 Bl Tryz.prog (Instr.range 115 (.map x)) (fun v1 w2=>
 ∃it:Addr,v1= .pointer (some it)/\
 ∃(I:World->Prop) (m:World->Nat),I w2/\
 ∀(_g:Nat->Value) (w3:World),I w3->
 ∃(J:Bool->World->Prop),
 (Bl Tryz.prog (Instr.next (.pointer (some it)) false 0) (fun v2 w4=>
 (v2= .tuple #[.bool false]/\
 J false w4)\/
 (∃(k:Value) (e:Value),v2= .tuple #[.bool true,k,e]/\
 J true w4)) w3)/\
 ∀(_g1:Nat->Value) (x1:Bool) (w5:World),J x1 w5->
 cond (x1)
 (Bl Tryz.prog (Instr.entry (.pointer (some it))) (fun v3 w6=>
 ∃(s:List UInt8) (x2:Int),v3= .tuple #[.string (mkS s),.int .i64 x2]/\
 cond (x2==op)
 (K (.string (mkS s)) w6)
 (I w6/\m w6<m w3)) w5)
 (K (.string (mkS [])) w5)) w1)))
theorem Afk (op:Int) (K:Value->World->Prop) (w:World) (h:Afj op K w):Calls Tryz.prog 48 #[.int .i64 op] w (Ret K):=
 Ao { loops:=[(58,[])],Axo:=[(116,[(13,.bool)])] } Tryz.func48 (by kernel_rfl) h
end Go.Proofs.YtcakelelfklhdaaGreatDoor
namespace Go.Proofs.YtcakelelfklhdaaGreatDoor
open Go.Vc Go.Tk Go.Tm
open Go.ChangeMaps (setBlock)
def Afl:List (List UInt8×Value):=[([124,124],.int .i64 17),([38,38],.int .i64 16),([61,61],.int .i64 10),([33,61],.int .i64 11),([60],.int .i64 12),([60,61],.int .i64 13),([62],.int .i64 14),([62,61],.int .i64 15),([43],.int .i64 5),([45],.int .i64 6),([42],.int .i64 7),([47],.int .i64 8),([37],.int .i64 9)]
theorem J7:Tryz.prog.underlying 115=some (.map 9 3):=by kernel_rfl
theorem Ain (w:World):Calls Tryz.prog 77 #[] w (Ret fun v w'=>∃b,v= .map (some b)/\Wl w' b Afl/\w.heap.size<=b/\Ext w w'):=by
 refine Zy _ _ ?_
 intro b w1 hb hw1
 have m:=Wl.new hb hw1
 have g:w1.grownBy w1 (some b):=⟨rfl,rfl,rfl,Nat.le_refl _,fun _ _ _=>rfl⟩
 refine m.add J7 Kl rfl fun w2 m g2=> ?_
 have g:=Cm g g2;clear g2
 refine m.add J7 Kl rfl fun w2 m g2=> ?_
 have g:=Cm g g2;clear g2
 refine m.add J7 Kl rfl fun w2 m g2=> ?_
 have g:=Cm g g2;clear g2
 refine m.add J7 Kl rfl fun w2 m g2=> ?_
 have g:=Cm g g2;clear g2
 refine m.add J7 Kl rfl fun w2 m g2=> ?_
 have g:=Cm g g2;clear g2
 refine m.add J7 Kl rfl fun w2 m g2=> ?_
 have g:=Cm g g2;clear g2
 refine m.add J7 Kl rfl fun w2 m g2=> ?_
 have g:=Cm g g2;clear g2
 refine m.add J7 Kl rfl fun w2 m g2=> ?_
 have g:=Cm g g2;clear g2
 refine m.add J7 Kl rfl fun w2 m g2=> ?_
 have g:=Cm g g2;clear g2
 refine m.add J7 Kl rfl fun w2 m g2=> ?_
 have g:=Cm g g2;clear g2
 refine m.add J7 Kl rfl fun w2 m g2=> ?_
 have g:=Cm g g2;clear g2
 refine m.add J7 Kl rfl fun w2 m g2=> ?_
 have g:=Cm g g2;clear g2
 refine m.add J7 Kl rfl fun w2 m g2=> ?_
 have g:=Cm g g2;clear g2
 refine⟨b,rfl,m,hb▸Nat.le_refl _,?_⟩
 have e:=Ext.alloc hw1
 have hsz:=e.size
 exact⟨g.os.trans e.os,g.tape.trans e.tape,g.output.trans e.output,Nat.le_trans e.size g.size,fun k hk=>(g.block k (by omega) (fun h=>by cases h;omega)).trans (Go.RowKit.Below.block e k hk)⟩
def Awp:List (List UInt8):=[[45],[33],[43],[45],[42],[47],[37],[61,61],[33,61],[60],[60,61],[62],[62,61],[38,38],[124,124]]
def Wr (op:Int):List UInt8:=if op<3\/17<op then []else Awp.getD (op-3).toNat []
def Ml:Array MapEntry:=(Ez 0 Afl).toArray
theorem Am6:∀e∈Ml.toList,∃k:Int,∃s:List UInt8,e.val= .int .i64 k/\e.key= .string (mkS s)/\5<=k/\k<=17/\s=Wr k:=by
 intro e he
 simp only [Ml,Ez,Afl,List.mem_cons,List.not_mem_nil,or_false]at he
 rcases he with rfl|rfl|rfl|rfl|rfl|rfl|rfl|rfl|rfl|rfl|rfl|rfl|rfl<;>exact⟨_,_,rfl,rfl,by decide,by decide,rfl⟩
theorem Ao9:∀op:Int,5<=op->op<=17->∃e∈Ml.toList,e.val= .int .i64 op:=by
 intro op h1 h2
 have:op=5\/op=6\/op=7\/op=8\/op=9\/op=10\/op=11\/op=12\/op=13\/op=14\/op=15\/op=16\/op=17:=by omega
 simp only [Ml,Ez,Afl,List.mem_cons,List.not_mem_nil,or_false]
 rcases this with rfl|rfl|rfl|rfl|rfl|rfl|rfl|rfl|rfl|rfl|rfl|rfl|rfl<;>simp
theorem M7 (w:World) (r k:Nat) (o:Obj) (hr:r<w.heap.size):(setBlock w r o).heap[k]? =if r=k then some o else w.heap[k]? :=by
 simp only [setBlock,Array.getElem?_setIfInBounds]
 split
 ·rename_i h;subst h;simp
 ·rfl
theorem Am7 (op:Int) (w:World):Calls Tryz.prog 48 #[.int .i64 op] w (Ret fun v w'=>v= .string (mkS (Wr op))/\Ext w w'):=by
 refine Afk _ _ _ (Ab (fun h=> ?_) fun h=> ?_)
 ·have h:op=3:=by simpa using h
  subst h
  exact⟨rfl,Ext.refl _⟩
 have h3:op≠3:=by simpa using h
 refine Ab (fun h=> ?_) fun h=> ?_
 ·have h:op=4:=by simpa using h
  subst h
  exact⟨rfl,Ext.refl _⟩
 have h4:op≠4:=by simpa using h
 refine Aa (Ain w) ?_
 rintro _ w1 ⟨b,rfl,hm,hb,he1⟩
 refine⟨_,rfl,_,_,run_range_map w1 _ _ _ b _ _ J7 hm,_,rfl,?_⟩
 have hbl:b<w1.heap.size:=(Array.getElem?_eq_some_iff.1 hm).1
 have hs1:=he1.size
 generalize hr:w1.heap.size=r at*
 have hne:r≠b:=by omega
 refine⟨fun w3=>∃seen c0,w3.heap[r]? =some (.mapIter (some b) 13 seen c0)/\13<=c0/\w3.heap[b]? =some (.map Ml 13)/\Ext w w3/\∀e∈Ml.toList,seen.contains e.born=true->e.val≠.int .i64 op,
  fun w3=>(leftOf Ml (w3.iterSeen r)).size,⟨#[],13,?_,by omega,?_,he1.trans (.alloc rfl),fun e _ h=>by simp at h⟩,?_⟩
 ·rw [←hr];show(w1.heap.push _)[w1.heap.size]? =_;simp;rfl
 ·exact(Ext.alloc rfl).block hm
 ·rintro _ w3 ⟨seen,c0,hi,hc,hm3,he3,Bmc⟩
  have hrl:r<w3.heap.size:=(Array.getElem?_eq_some_iff.1 hi).1
  have Ci0:(leftOf Ml (w3.iterSeen r)).size=(leftOf Ml seen).size:=by unfold World.iterSeen;rw [hi]
  refine⟨fun x w5=>(x=false/\(leftOf Ml seen).size=0/\Ext w w5)\/(x=true/\∃e∈(leftOf Ml seen).toList,w5.heap[r]? =some (.mapIter (some b) 13 (seen.push e.born) 13)/\w5.heap[b]? =some (.map Ml 13)/\Ext w w5),?_,?_⟩
  ·have hold:∀x∈Ml.toList,x.born<13:=by decide
   rcases run_next_at (P:=Tryz.prog) w3 0 r b 13 c0 seen Ml 13 hi hm3 hold hc with⟨h0,Bb1⟩|⟨e,he,w1',Caz,Bb1⟩
   ·exact⟨_,_,Bb1,.inl ⟨rfl,.inl ⟨rfl,h0,he3⟩⟩⟩
   ·have Bly:w1'.heap=w3.heap:=by rcases Caz with rfl|rfl<;>rfl
    have ex:Ext w w1':=by
     rcases Caz with rfl|rfl
     ·exact he3
     ·exact he3.trans (.drew rfl)
    refine⟨_,_,Bb1,.inr ⟨_,_,rfl,.inr ⟨rfl,e,he,?_,?_,?_⟩⟩⟩
    ·rw [M7 _ _ _ _ (by rw [Bly];exact hrl),if_pos rfl]
    ·rw [M7 _ _ _ _ (by rw [Bly];exact hrl),if_neg hne,Bly];exact hm3
    ·refine⟨ex.os,ex.tape,ex.output,?_,fun k hk=> ?_⟩
     ·show _<=(Array.setIfInBounds _ _ _).size
      rw [Array.size_setIfInBounds]
      exact ex.size
     ·rw [M7 _ _ _ _ (by rw [Bly];exact hrl),if_neg (by omega)]
      exact Go.RowKit.Below.block ex k hk
  ·rintro _ x w5 (⟨rfl,h0,he5⟩|⟨rfl,e,he,hi5,hm5,he5⟩)
   ·refine⟨?_,he5⟩
    congr 2
    unfold Wr
    split
    ·rfl
    ·rename_i hc
     exfalso
     obtain⟨e,hme,hv⟩:=Ao9 op (by omega) (by omega)
     have hs:seen.contains e.born=true:=by
      cases hcc:seen.contains e.born with
      |true=>rfl
      |false=>
       exfalso
       have:e∈leftOf Ml seen:=Array.mem_filter.2 ⟨Array.mem_toList_iff.1 hme,by rw [hcc];rfl⟩
       rw [Array.eq_empty_of_size_eq_zero h0]at this
       simp at this
     exact Bmc e hme hs hv
   ·have hml:=mem_left he
    obtain⟨k,s,hv,hk,h5,h17,hs⟩:=Am6 e hml.1
    have hnd:(Ml.toList.map (·.born)).Nodup:=by decide
    refine⟨_,_,run_entry_at (P:=Tryz.prog) w5 r b 13 seen Ml 13 e hi5 hm5 hml.1 hnd,s,k,by rw [hv,hk],Ab (fun hx=> ?_) fun hx=> ?_⟩
    ·have hx:k=op:=by simpa using hx
     exact⟨by rw [hs,hx],he5⟩
    ·have hx:k≠op:=by simpa using hx
     refine⟨⟨_,13,hi5,Nat.le_refl _,hm5,he5,fun e' he' hc'=> ?_⟩,?_⟩
     ·rw [contains_push]at hc'
      rcases Bool.or_eq_true_iff.1 hc' with h|h
      ·exact Bmc e' he' h
      ·have Ca0:e'.born=e.born:=by simpa using h
       have:e'=e:=by
        have f1:=find_born e' Ml.toList hnd he'
        have f2:=find_born e Ml.toList hnd hml.1
        rw [Ca0]at f1
        rw [f1]at f2
        exact Option.some.inj f2
       rw [this,hv]
       intro hh
       cases hh
       exact hx rfl
     ·show(leftOf Ml (w5.iterSeen r)).size<(leftOf Ml (w3.iterSeen r)).size
      rw [Ci0]
      have:w5.iterSeen r=seen.push e.born:=by unfold World.iterSeen;rw [hi5]
      rw [this]
      exact left_shrinks Ml seen e he
end Go.Proofs.YtcakelelfklhdaaGreatDoor
namespace Go.Proofs.YtcakelelfklhdaaGreatDoor
open Go.Vc Go.Lv Go.Ty Go.Proofs
theorem Aio:Builder.Extra Tryz.prog Tryz.lays156_ren where
 sizeBuilder:=by kernel_rfl
 liesBuilder:=by kernel_rfl
 t5:=Tryz.underlying5
 a5:=Tryz.isAgg5
 z5:=Tryz.sizeOf5
 v5:=Tryz.zeroValue5
 infoByte:=by kernel_rfl
 cellsByte:=by kernel_rfl
 sizeByte:=by kernel_rfl
 neB5:=by decide
theorem Apa:Builder.Extra Tryz.prog Tryz.lays105_ren where
 sizeBuilder:=by kernel_rfl
 liesBuilder:=by kernel_rfl
 t5:=Tryz.underlying5
 a5:=Tryz.isAgg5
 z5:=Tryz.sizeOf5
 v5:=Tryz.zeroValue5
 infoByte:=by kernel_rfl
 cellsByte:=by kernel_rfl
 sizeByte:=by kernel_rfl
 neB5:=by decide
theorem Alr {m:List Nat} {w:World} :∀ {l:List (List UInt8)} {xs:List Value},El Cs m w l xs->xs=l.map fun s=> .string (mkS s)
 |[],_,⟨css,rfl,h⟩=>by cases css with|nil=>rfl|cons=>exact h.elim
 |n::l,_,⟨css,rfl,h⟩=>by
  cases css with
  |nil=>exact h.elim
  |cons cs css=>
   have h1:cs=[.string (mkS n)]:=h.1
   have:=Alr (l:=l) ⟨css,rfl,h.2⟩
   rw [List.flatten_cons,this,h1];rfl
theorem map_mk (l:List (List UInt8)):(l.map mkS).map (·.data.toList)=l:=by
 rw [List.map_map]
 exact List.map_id l
theorem Zz {w w':World} (h:RowKit.Below w.heap.size w w'):An [] w w':=An.Bb0 h
theorem Akl (l:List (List UInt8)) (sep:List UInt8) (hn:l.length<=140737488355328) (hl:(Lib.join l sep).length<=140737488355328) (K:List UInt8->Prop) (h:K (Lib.join l sep)):Jt l sep K:=by
 intro m w _ A C hle hs
 cases l with
 |nil=>
  have hc:=Any.strings_Join_none Tryz.lays156 Aio A C (mkS sep) w
  change Calls Tryz.prog 32 _ _ _ at hc
  refine hc.mono ?_
  rintro e w' ⟨rfl,rfl⟩
  exact⟨[],h,rfl,An.refl _ _⟩
 |cons x l=>
  rcases hs with hs|⟨p,xs,rfl,_,hat,hel⟩
  ·cases hs
  have hxs:=Alr hel
  subst hxs
  have c0:=hat 0 (by simp)
  obtain⟨bk,o,sp⟩:=p
  have hsp:sp=none:=by simpa [Addr.add] using Acd c0
  subst hsp
  have hlt:bk<w.heap.size:=by have:=Ady c0;rwa [F4]at this
  have hc:=Any.strings_Join Tryz.lays156 Aio bk o C ((x::l).map mkS) (mkS sep) w (fun j y hy=>by
   rw [List.getElem?_map]at hy
   obtain⟨z,hz,rfl⟩:=Option.map_eq_some_iff.1 hy
   obtain⟨hj,rfl⟩:=List.getElem?_eq_some_iff.1 hz
   have:=hat j (by rw [List.length_map];exact hj)
   rw [F4,List.getElem_map]at this
   exact this) hlt (by rw [List.length_map];exact hn) (by rw [List.length_map];exact hle) (by rw [map_mk];exact hl)
  rw [map_mk,List.length_map]at hc
  change Calls Tryz.prog 32 _ _ _ at hc
  refine hc.mono ?_
  rintro e w' ⟨rfl,hb⟩
  exact⟨_,h,rfl,Zz hb⟩
theorem Apb (x:UInt8) (n:Nat) (hn:n<=1000000) (K:List UInt8->Prop) (h:K (List.replicate n x)):Nq [x] n K:=by
 intro m w _
 have hc:=Any.strings_Repeat Tryz.lays105 Apa (mkS [x]) n w (by omega) (by show 1*n<=_;omega)
 change Calls Tryz.prog 58 _ _ _ at hc
 refine hc.mono ?_
 rintro e w' ⟨rfl,hb⟩
 refine⟨List.replicate n x,h,?_,Zz hb⟩
 have e1:Lib.repeatL [x] n=List.replicate n x:=by
  have:=Lib.repeatL_replicate x 1 n
  rwa [Nat.mul_one]at this
 show Value.string ⟨(Lib.repeatL [x] n).toArray⟩=_
 rw [e1];rfl
theorem Als (n:Int) (h: -9223372036854775808<=n/\n<=9223372036854775807) (K:List UInt8->Prop) (hK:K (Lib.itoa n)):L5 n K:=by
 intro m w hm
 have hc:=Any.strconv_Itoa Tryz.laysM171 n h.1 h.2 w hm.tab
 change Calls Tryz.prog 30 _ _ _ at hc
 refine hc.mono ?_
 rintro e w' ⟨rfl,k,os,rfl⟩
 refine⟨_,hK,rfl,rfl,rfl,rfl,?_,fun j hj _=> ?_⟩
 ·show w.heap.size<=(w.heap++os).size
  simp
 ·show(w.heap++os)[j]? =_
  rw [Array.getElem?_append_left hj]
theorem Apc (op:Int) (K:List UInt8->Prop) (h:K (Wr op)):Qa op K:=by
 intro m w _
 refine(Am7 op w).mono ?_
 intro e w' he
 cases e with
 |returned v=>obtain⟨hv,hx⟩:=he;exact⟨_,h,hv,An.Bb0 hx⟩
 |_=>exact he.elim
end Go.Proofs.YtcakelelfklhdaaGreatDoor
namespace Go.Proofs.YtcakelelfklhdaaGreatDoor
open Go.Vc Go.Lv Go.Ty Go.Tr Go.Tk Go.Tm
theorem plv (op:Int) (K:Int->Prop) (h:K (B6 op:Nat)):Js op K:=by
 refine Xq _ _ ?_
 unfold Ql
 unfold B6 at h
 refine Ab (fun e=> ?_) fun e=> ?_
 ·rw [if_pos (by simpa using e)]at h;exact h
 rw [if_neg (by simpa using e)]at h
 refine Ab (fun e=> ?_) fun e=> ?_
 ·rw [if_pos (by simpa using e)]at h;exact h
 rw [if_neg (by simpa using e)]at h
 refine Ab (fun e=> ?_) fun e=> ?_
 ·rw [if_pos (by simp at e;omega)]at h;exact h
 rw [if_neg (by simp at e;omega)]at h
 refine Ab (fun e=> ?_) fun e=> ?_
 ·rw [if_pos (by simpa using e)]at h;exact h
 rw [if_neg (by simpa using e)]at h
 refine Ab (fun e=> ?_) fun e=> ?_
 ·rw [if_pos (by simp at e;omega)]at h;exact h
 rw [if_neg (by simp at e;omega)]at h
 refine Ab (fun e=> ?_) fun e=> ?_
 ·rw [if_pos (by simpa using e)]at h;exact h
 rw [if_neg (by simpa using e)]at h
 refine Ab (fun e=> ?_) fun e=> ?_
 ·rw [if_pos (by simpa using e)]at h;exact h
 rw [if_neg (by simpa using e)]at h
 exact h
theorem Ee (w:Ae) (i:Int) (hl:w.l.length<=100000) (K:List Int->Prop) (h:K (G4 w.l i)):Bv w i K:=by
 refine Pe _ _ _ (At4 _ _ _ (H3 _ _ _ (Fb _ _ _ ?_)))
 refine⟨_,Ark w.l i hl,fun pre v=>v=pre,rfl,?_,?_⟩
 ·rintro pre x v hp rfl
  have h1:=hp.length_le
  have h2:=Vu w.l i
  refine⟨?_,rfl⟩
  simp only [List.length_append,List.length_singleton]at h1⊢
  omega
 ·rintro v rfl;exact h
theorem Bm:∀(rs:List R) (p:Nat),(plc p rs).length=rs.length
 |[],_=>rfl
 |_::rs,_=>by rw [plc,List.length_cons,List.length_cons,Bm rs]
def AtR (L:List Ai) (i:Nat) (r:R):Prop:=∃post,L.drop i=r.fl++post
theorem C1 (L:List Ai):∀(rs:List R) (p:Nat) (post:List Ai),L.drop p=rs.flatMap R.fl++post->∀(j:Nat) (r:R),rs[j]? =some r->∃q:Nat,(plc p rs)[j]? =some (q:Int)/\AtR L q r
 |r0::rs,p,post,hd,0,r,hj=>by
  cases hj
  exact⟨p,rfl,rs.flatMap R.fl++post,by rw [hd,List.flatMap_cons,List.append_assoc]⟩
 |r0::rs,p,post,hd,j+1,r,hj=>by
  have hd2:L.drop (p+r0.fl.length)=rs.flatMap R.fl++post:=by
   rw [←List.drop_drop,hd,List.flatMap_cons,List.append_assoc,List.drop_left]
  obtain⟨q,h1,h2⟩:=C1 L rs _ post hd2 j r hj
  exact⟨q,by rw [plc,List.getElem?_cons_succ];exact h1,h2⟩
 |[],_,_,_,j,r,hj=>by simp at hj
theorem AtR.node {L:List Ai} {i:Nat} {x:Ai} {rs:List R} (h:AtR L i (Ar x rs)):i<L.length/\L[i]? =some x/\∃post,L.drop (i+1)=rs.flatMap R.fl++post:=by
 obtain⟨post,hd⟩:=h
 have hx:L[i]? =some x:=by
  have:(L.drop i)[0]? =some x:=by rw [hd];rfl
  rwa [List.getElem?_drop,Nat.add_zero]at this
 refine⟨(List.getElem?_eq_some_iff.1 hx).1,hx,post,?_⟩
 rw [←List.drop_drop,hd];rfl
theorem Acs (l:List (List UInt8)):Lib.join l []=l.flatten:=by
 cases l with
 |nil=>rfl
 |cons a l=>
  rw [Lib.join_cons,List.flatten_cons]
  congr 1
  induction l with
  |nil=>rfl
  |cons b l ih=>simp [Lib.joinTail]
theorem Auh (w:Ae) (parts:List (List UInt8)) (d:Nat) (hd:w.deep=d) (hdn:d<=1000000) (hp:parts.length<=1000000) (hb:w.b.buf.length+(d+parts.flatten.length)<2^31) (K:Ae->Prop)
 (h:∀ad,K ⟨w.l,⟨ad,w.b.buf++B8 (List.replicate d 9++(parts.flatten++[10]))⟩,d⟩):Aw w parts K:=by
 refine Pg _ _ _ ?_
 unfold K5
 rw [hd]
 have hm:IntKind.i64.max=9223372036854775807:=by decide
 refine Apb 9 d hdn _ (Akl _ _ (by omega) (by rw [Acs];omega) _ ?_)
 rw [Acs]
 refine⟨by rw [hm,List.length_replicate];omega,by rw [hm,List.length_append,List.length_replicate,List.length_singleton];omega,?_⟩
 refine Ar2 _ _ (by simp only [List.length_append,List.length_replicate,List.length_singleton];omega) _ fun ad=> ?_
 have:=h ad
 rw [List.append_assoc]
 rw [hd]
 exact this
end Go.Proofs.YtcakelelfklhdaaGreatDoor
namespace Go.Proofs.YtcakelelfklhdaaGreatDoor
open Go.Vc Go.Lv Go.Ty Go.Tr Go.Tk Go.Tm
theorem Aip:∀(f n:Nat) (acc:List UInt8),n<10^(f+1)->Xx (f+1) n acc=Lib.decDigits n++acc
 |f,n,acc,h=>by
  rw [Xx,Lib.decDigits]
  by_cases hn:n<10
  ·rw [if_pos hn,dif_pos hn];rfl
  ·rw [if_neg hn,dif_neg hn]
   cases f with
   |zero=>simp at h;omega
   |succ f=>
    rw [Aip f (n/10) _ (by rw [Nat.pow_succ]at h;omega),List.append_assoc];rfl
theorem Aiq {n:Int} (h0:0<=n) (h1:n<=999999999999999999):Lib.itoa n=Lf n:=by
 unfold Lib.itoa Lf
 rw [if_neg (by omega),Aip 19 n.toNat [] (by omega),List.append_nil]
theorem Qr:IntKind.i64.max=9223372036854775807:=by decide
def TmW (r:R):Prop:=∀(w:Ae) (i:Nat),w.l.length<=100000->AtR w.l i r->(tx r.tm).length<2^30->∀K:List UInt8->Prop,K (tx r.tm)->A1 w i K
theorem Akm {x:Ai} {rs:List R} (ht:TmW (Ar x rs)) (w:Ae) (i:Nat) (hl:w.l.length<=100000) (ha:AtR w.l i (Ar x rs)) (n:Nat) (hb:(tx (Bw (Ar x rs) n)).length<2^30) (K:List UInt8->Prop)
 (h:K (tx (Bw (Ar x rs) n))):Dz w i n K:=by
 refine Pj _ _ _ _ ?_
 unfold K6
 obtain⟨h1,h2,_⟩:=ha.node
 have hx:(Ar x rs).x=x:=rfl
 unfold Bw at h hb
 rw [hx]at h hb
 refine ht w i hl ha ?_ _ ⟨⟨by omega,by omega⟩,fun y hy=>plv _ _ ?_⟩
 ·split at hb
  ·rw [Cl,Cr]at hb
   simp only [List.length_append]at hb
   omega
  ·exact hb
 rw [Int.toNat_natCast,h2]at hy
 cases hy
 refine Ab (fun e=> ?_) fun e=> ?_
 ·have e:B6 x.op<n:=by simpa using e
  rw [if_pos e]at h hb
  have he:tx (.tk sLP::((Ar x rs).tm++[.tk sRP]))=[40]++tx (Ar x rs).tm++[41]:=by
   rw [Cl,Cr,List.append_assoc];rfl
  rw [he]at h hb
  simp only [List.length_append,List.length_singleton]at hb
  rw [Qr]
  refine⟨?_,?_,h⟩
  ·simp only [List.length_singleton];omega
  ·simp only [List.length_append,List.length_singleton];omega
 ·have e:¬B6 x.op<n:=by simpa using e
  rw [if_neg e]at h
  exact h
structure WT (c:UInt8) (r:R):Prop where
 Ca1:Sy r
 out:∃x rs,r=Ar x rs
 term:c=69->TmW r
theorem Un {c:UInt8} {x:Ai} {ds:List UInt8} (h:OkN c x ds) (hn:ds.length<2^39):x.kids=(ds.length:Int):=by
 cases h with
 |sel k a=>simp only [List.length_replicate]at hn⊢;exact Mh (by omega)
 |start s k a=>simp only [List.length_replicate]at hn⊢;exact Mh (by omega)
 |block k a=>simp only [List.length_replicate]at hn⊢;exact Mh (by omega)
 |unit k a=>simp only [List.length_replicate]at hn⊢;exact Mh (by omega)
 |proc s k a=>simp only [List.length_append,List.length_replicate,List.length_singleton]at hn⊢;exact Mh (by omega)
 |clause op s a w ds h=>exact Mh (by omega)
 |_=>rfl
end Go.Proofs.YtcakelelfklhdaaGreatDoor
namespace Go.Proofs.YtcakelelfklhdaaGreatDoor
open Go.Vc Go.Lv Go.Ty Go.Tr Go.Tk Go.Tm
theorem Alu {op:Int} (h1:3<=op) (h2:op<=17):Wr op=sgO op:=by
 have:op=3\/op=4\/op=5\/op=6\/op=7\/op=8\/op=9\/op=10\/op=11\/op=12\/op=13\/op=14\/op=15\/op=16\/op=17:=by omega
 rcases this with rfl|rfl|rfl|rfl|rfl|rfl|rfl|rfl|rfl|rfl|rfl|rfl|rfl|rfl|rfl<;>rfl
theorem Aui (op:Int):B6 op<=7:=by
 unfold B6
 repeat' split
 all_goals omega
theorem Am8 {x:Ai} {ds:List UInt8} {rs:List R} (ho:OkN 69 x ds) (hf:F2 WT ds rs):TmW (Ar x rs):=by
 intro w i hl ha hb K hK
 have hea:∀r∈rs,Sy r:=by
  have:∀(ds:List UInt8) (rs:List R),F2 WT ds rs->∀r∈rs,Sy r:=by
   intro ds
   induction ds with
   |nil=>intro rs h;cases F2.nil h;simp
   |cons d ds ih=>
    intro rs h
    cases rs with
    |nil=>simp
    |cons r rs=>
     intro q hq
     rcases List.mem_cons.1 hq with rfl|hq
     ·exact h.1.Ca1
     ·exact ih rs h.2 q hq
  exact this ds rs hf
 have hxk:x.kids=(rs.length:Int):=by
  rw [←F2.len hf]
  refine Un ho ?_
  cases ho<;>simp
 obtain⟨hi,hx,post,hd⟩:=ha.node
 refine Pf _ _ _ ?_
 unfold K4
 refine⟨fun k o nm n _ _=>k=plc (i+1) rs/\o=x.op/\nm=x.name/\n=x.n,⟨⟨by omega,by omega⟩,fun y hy=>Ee _ _ hl _ ?_⟩,?_⟩
 ·rw [Int.toNat_natCast,hx]at hy
  cases hy
  obtain⟨po,hpo⟩:=ha
  exact⟨Dd hxk hea hpo,rfl,rfl,rfl⟩
 rintro k o nm n _ _ ⟨rfl,rfl,rfl,rfl⟩
 refine plv _ _ ?_
 cases ho with
 |num n a h0 h1=>
  have e:tx (Ar ⟨1,[],n,0,a⟩ rs).tm=Lf n:=by show Lf n++[]=_;exact List.append_nil _
  rw [e]at hK
  exact Als n ⟨by omega,by omega⟩ _ (by rw [Aiq h0 h1];exact hK)
 |name s a hs=>
  have e:tx (Ar ⟨2,s,0,0,a⟩ rs).tm=s:=by show s++[]=_;exact List.append_nil _
  rw [e]at hK
  exact hK
 |un op a hop=>
  obtain⟨r,rfl,hr⟩:=F2.one hf
  obtain⟨y,qs,rfl⟩:=hr.out
  obtain⟨q,hq,hat⟩:=C1 w.l _ (i+1) post hd 0 _ rfl
  have hl6:B6 op=6:=by rcases hop with rfl|rfl<;>rfl
  have e:tx (Ar ⟨op,[],0,1,a⟩ [Ar y qs]).tm=Wr op++tx (Bw (Ar y qs) 6):=by
   rw [Alu (by omega) (by omega)]
   rcases hop with rfl|rfl<;>rfl
  rw [e]at hK hb
  rw [List.length_append]at hb
  refine Ab (fun e=> ?_) fun _=> ?_
  ·have e:op=1:=by simpa using e
   omega
  refine Ab (fun e=> ?_) fun _=> ?_
  ·have e:op=2:=by simpa using e
   omega
  refine Ab (fun _=> ?_) fun e=> ?_
  ·refine⟨⟨by omega,by rw [Bm];simp⟩,fun x3 h3=> ?_⟩
   rw [hq]at h3
   cases h3
   refine Apc _ _ ?_
   show Dz w (q:Int) ((B6 op:Nat):Int) _
   rw [hl6]
   refine Akm (hr.term rfl) w q hl hat 6 (by omega) _ ⟨?_,hK⟩
   rw [Qr];show(((Wr op).length+(tx (Bw (Ar y qs) 6)).length:Nat):Int)<=_;omega
  ·rw [Bm]at e;simp at e
 |bin op a h5 h17=>
  obtain⟨r1,r2,rfl,hr1,hr2⟩:=F2.two hf
  obtain⟨y1,qs1,rfl⟩:=hr1.out
  obtain⟨y2,qs2,rfl⟩:=hr2.out
  obtain⟨q1,hq1,Bdx⟩:=C1 w.l _ (i+1) post hd 0 _ rfl
  obtain⟨q2,hq2,Ci1⟩:=C1 w.l _ (i+1) post hd 1 _ rfl
  have e:tx (Ar ⟨op,[],0,2,a⟩ [Ar y1 qs1,Ar y2 qs2]).tm=tx (Bw (Ar y1 qs1) (Cf op))++[32]++Wr op++[32]++tx (Bw (Ar y2 qs2) (B6 op+1)):=by
   rw [Alu (by omega) h17]
   show tx (tmN _ _)=_
   unfold tmN
   rw [if_neg (by show¬op=1;omega),if_neg (by show¬(op=2\/op=39);omega),if_neg (by show¬op=33;omega),if_neg (by show¬(op=3\/op=4);omega)]
   rw [Cr,Cl,Cl,Cl]
   simp [Ck.tx,sps]
  rw [e]at hK hb
  simp only [List.length_append,List.length_singleton]at hb
  refine Ab (fun e=> ?_) fun _=> ?_
  ·have e:op=1:=by simpa using e
   omega
  refine Ab (fun e=> ?_) fun _=> ?_
  ·have e:op=2:=by simpa using e
   omega
  refine Ab (fun e=> ?_) fun _=> ?_
  ·rw [Bm]at e;simp at e
  refine⟨fun l=>l=((Cf op:Nat):Int),?_,?_⟩
  ·unfold Cf
   refine Ab (fun e=> ?_) fun e=> ?_
   ·have e:((B6 op:Nat):Int)=3:=by simpa using e
    rw [if_pos (by omega)];rfl
   ·have e:¬((B6 op:Nat):Int)=3:=by simpa using e
    rw [if_neg (by omega)]
  rintro _ rfl
  refine⟨⟨by omega,by rw [Bm];simp⟩,fun x6 h6=>⟨⟨by omega,by rw [Bm];simp⟩,fun x7 h7=> ?_⟩⟩
  have h6':some ((q1:Nat):Int)=some x6:=hq1.symm.trans h6
  have h7':some ((q2:Nat):Int)=some x7:=hq2.symm.trans h7
  cases h6'
  cases h7'
  have Ckw:=Aui op
  refine Akm (hr1.term rfl) w q1 hl Bdx (Cf op) (by omega) _ ⟨by rw [Qr];simp only [List.length_singleton];omega,?_⟩
  refine Apc _ _ ⟨by rw [Qr];simp only [List.length_append,List.length_singleton];omega,by rw [Qr];simp only [List.length_append,List.length_singleton];omega,?_⟩
  dsimp only
  rw [Ax (by omega) (by omega),show((B6 op:Nat):Int)+1=((B6 op+1:Nat):Int) by omega]
  refine Akm (hr2.term rfl) w q2 hl Ci1 (B6 op+1) (by omega) _ ⟨by rw [Qr];simp only [List.length_append,List.length_singleton];omega,hK⟩
end Go.Proofs.YtcakelelfklhdaaGreatDoor
namespace Go.Proofs.YtcakelelfklhdaaGreatDoor
open Go.Vc Go.Lv Go.Ty Go.Tr Go.Tk Go.Tm
theorem Ek:∀ {ds:List UInt8} {rs:List R},F2 WT ds rs->∀r∈rs,Sy r
 |[],_,h=>by cases F2.nil h;simp
 |_::ds,[],_=>by simp
 |_::ds,r::rs,h=>fun q hq=>by
  rcases List.mem_cons.1 hq with rfl|hq
  ·exact h.1.Ca1
  ·exact Ek h.2 q hq
def Av3 (r:R):Prop:=∀(w:Ae) (i:Nat),w.l.length<=100000->AtR w.l i r->(tx r.tm).length<2^30->∀K:List UInt8->Prop,K (tx r.tm)->C8 w i K
theorem Air {x:Ai} {ds:List UInt8} {rs:List R} (ho:OkN 82 x ds) (hf:F2 WT ds rs):Av3 (Ar x rs):=by
 intro w i hl ha hb K hK
 have hea:=Ek hf
 have hxk:x.kids=(rs.length:Int):=by
  rw [←F2.len hf]
  refine Un ho ?_
  cases ho<;>simp
 obtain⟨hi,hx,post,hd⟩:=ha.node
 obtain⟨po,hpo⟩:=ha
 refine Qh _ _ _ ?_
 unfold Ll
 refine Ee _ _ hl _ ?_
 rw [Dd hxk hea hpo]
 cases ho with
 |Bc9 s a hs=>
  cases F2.nil hf
  have e:tx (Ar ⟨33,s,0,0,a⟩ []).tm=s:=by show s++[]=_;exact List.append_nil _
  rw [e]at hK
  refine Ab (fun e=> ?_) fun _=> ?_
  ·simp [plc]at e
  ·refine⟨⟨by omega,by omega⟩,fun y hy=> ?_⟩
   rw [Int.toNat_natCast,hx]at hy
   cases hy
   exact hK
 |Bda s a hs=>
  obtain⟨r,rfl,hr⟩:=F2.one hf
  obtain⟨q,hq,hat⟩:=C1 w.l _ (i+1) post hd 0 _ rfl
  have e:tx (Ar ⟨33,s,0,1,a⟩ [r]).tm=s++[91]++tx r.tm++[93]:=by
   show tx (.tk s::.tk sLS::(r.tm++[.tk sRS]))=_
   rw [Cl,Cl,Cr]
   simp only [List.append_assoc];rfl
  rw [e]at hK hb
  simp only [List.length_append,List.length_singleton]at hb
  refine Ab (fun _=> ?_) fun e=> ?_
  ·refine⟨⟨by omega,by rw [Bm];simp⟩,fun x0 h0=>⟨⟨by omega,by omega⟩,fun y hy=> ?_⟩⟩
   rw [Int.toNat_natCast,hx]at hy
   cases hy
   have h0':some ((q:Nat):Int)=some x0:=hq.symm.trans h0
   cases h0'
   dsimp only
   rw [Qr]
   simp only [List.length_append,List.length_singleton]
   refine⟨by omega,hr.term rfl w q hl hat (by omega) _ ⟨by omega,by omega,hK⟩⟩
  ·rw [Bm]at e;simp at e
end Go.Proofs.YtcakelelfklhdaaGreatDoor
namespace Go.Proofs.YtcakelelfklhdaaGreatDoor
open Go.Vc Go.Lv Go.Ty Go.Tr Go.Tk Go.Tm
theorem Gd (a b:List UInt8):B8 (a++b)=B8 a++B8 b:=by simp [B8]
theorem D5 (a:List UInt8):(B8 a).length=a.length:=by simp [B8]
theorem Afm (d:Nat) (cs:List Ck):tx (line d cs)=List.replicate d 9++(tx cs++[10]):=by
 have:∀d:Nat,tx (List.replicate d (Ck.sp 9))=List.replicate d 9:=by
  intro d
  induction d with
  |zero=>rfl
  |succ d ih=>rw [List.replicate_succ,Cl,ih];rfl
 rw [line,Cr,Cr,this];rfl
theorem Hl (w:Ae) (parts:List (List UInt8)) (cs:List Ck) (hp:parts.flatten=tx cs) (d:Nat) (hd:w.deep=d) (hdn:d<=1000000) (hpl:parts.length<=1000000) (hb:w.b.buf.length+(tx (line d cs)).length<2^30) (K:Ae->Prop)
 (h:∀ad,K ⟨w.l,⟨ad,w.b.buf++B8 (tx (line d cs))⟩,d⟩):Aw w parts K:=by
 rw [Afm]at h hb
 simp only [List.length_append,List.length_replicate,List.length_singleton]at hb
 refine Auh w parts d hd (by omega) hpl (by rw [hp];omega) K ?_
 rw [hp];exact h
theorem Z0 {rs:List R} {r:R} (h:r∈rs):r.fl.length<=(rs.flatMap R.fl).length:=by
 induction rs with
 |nil=>cases h
 |cons a rs ih=>
  rw [List.flatMap_cons,List.length_append]
  rcases List.mem_cons.1 h with rfl|h
  ·omega
  ·have:=ih h;omega
def StW (V:Ae->Int->(Ae->Prop)->Prop) (r:R):Prop:=∀(w:Ae) (i d:Nat),w.l.length<=100000->AtR w.l i r->w.deep=d->d+r.fl.length<=200000->w.b.buf.length+(tx (r.st d)).length<2^30->
 ∀K:Ae->Prop,(∀ad,K ⟨w.l,⟨ad,w.b.buf++B8 (tx (r.st d))⟩,d⟩)->V w i K
theorem Vx {rs:List R} {j:Nat} {r:R} (d:Nat) (h:rs[j]? =some r):tx (Br d (rs.take (j+1)))=tx (Br d (rs.take j))++tx (r.st d):=by
 rw [List.take_add_one,h]
 simp [Br,Cr]
theorem Afn {rs:List R} (j d:Nat):(tx (Br d (rs.take j))).length<=(tx (Br d rs)).length:=by
 have:tx (Br d rs)=tx (Br d (rs.take j))++tx (Br d (rs.drop j)):=by
  rw [←Cr];unfold Br;rw [←List.flatMap_append,List.take_append_drop]
 rw [this,List.length_append];omega
theorem Ais {rs:List R} (hst:∀r∈rs,StW A9 r) (w:Ae) (p d:Nat) (post:List Ai) (hdr:w.l.drop p=rs.flatMap R.fl++post) (hl:w.l.length<=100000) (hd:w.deep=d) (hdn:d+1+(rs.flatMap R.fl).length<=200000) (hrs:rs.length<=100000)
 (hb:w.b.buf.length+(tx (Br (d+1) rs)).length<2^30) (K:Ae->Prop) (h:∀ad,K ⟨w.l,⟨ad,w.b.buf++B8 (tx (Br (d+1) rs))⟩,d⟩):Bd w (plc p rs) K:=by
 refine Gy _ _ _ ?_
 unfold D1
 refine⟨fun x ad bf dp n=>∃j:Nat,x=j/\j<=rs.length/\dp=((d+1:Nat):Int)/\bf=w.b.buf++B8 (tx (Br (d+1) (rs.take j)))/\n=rs.length-j,⟨_,0,rfl,by omega,?_,?_,rfl⟩,?_⟩
 ·rw [hd,Ax (by omega) (by omega)];omega
 ·simp [Br,tx,B8]
 rintro x ad bf dp n ⟨j,rfl,hj,rfl,rfl,rfl⟩
 rw [Bm]
 refine Ab (fun e=> ?_) fun e=> ?_
 ·have e:j<rs.length:=by simpa using e
  refine⟨⟨by omega,by omega⟩,fun x1 h1=> ?_⟩
  have hr:rs[j]? =some rs[j]:=List.getElem?_eq_getElem e
  obtain⟨q,hq,hat⟩:=C1 w.l rs p post hdr j _ hr
  rw [Int.toNat_natCast,hq]at h1
  cases h1
  have hbt:=Vx (d+1) hr
  have hle:=Afn (rs:=rs) (j+1) (d+1)
  rw [hbt,List.length_append]at hle
  have hml:=Z0 (List.getElem_mem e)
  refine hst _ (List.getElem_mem e) ⟨w.l,⟨ad,_⟩,_⟩ q (d+1) hl hat rfl (by omega) ?_ _ fun ad'=> ?_
  ·show(w.b.buf++B8 (tx (Br (d+1) (rs.take j)))).length+_<_
   rw [List.length_append,D5];omega
  ·refine⟨rs.length-(j+1),by omega,j+1,by rw [Ax (by omega) (by omega)];omega,by omega,rfl,?_,rfl⟩
   rw [hbt,Gd,List.append_assoc]
 ·have e:¬j<rs.length:=by simpa using e
  have:rs.take j=rs:=List.take_of_length_le (by omega)
  rw [this,Ax (by omega) (by omega),show((d+1:Nat):Int)-1=d by omega]
  exact h ad
end Go.Proofs.YtcakelelfklhdaaGreatDoor
namespace Go.Proofs.YtcakelelfklhdaaGreatDoor
open Go.Vc Go.Lv Go.Ty Go.Tr Go.Tk Go.Tm
theorem Am9 {rs:List R} (hst:∀r∈rs,StW Ct r) (w:Ae) (p d:Nat) (post:List Ai) (hdr:w.l.drop p=rs.flatMap R.fl++post) (hl:w.l.length<=100000) (hd:w.deep=d) (hdn:d+1+(rs.flatMap R.fl).length<=200000) (hrs:rs.length<=100000)
 (hb:w.b.buf.length+(tx (Br (d+1) rs)).length<2^30) (K:Ae->Prop) (h:∀ad,K ⟨w.l,⟨ad,w.b.buf++B8 (tx (Br (d+1) rs))⟩,d⟩):Cq w (plc p rs) K:=by
 refine Gl _ _ _ ?_
 unfold Dv
 refine⟨fun x ad bf dp n=>∃j:Nat,x=j/\j<=rs.length/\dp=((d+1:Nat):Int)/\bf=w.b.buf++B8 (tx (Br (d+1) (rs.take j)))/\n=rs.length-j,⟨_,0,rfl,by omega,?_,?_,rfl⟩,?_⟩
 ·rw [hd,Ax (by omega) (by omega)];omega
 ·simp [Br,tx,B8]
 rintro x ad bf dp n ⟨j,rfl,hj,rfl,rfl,rfl⟩
 rw [Bm]
 refine Ab (fun e=> ?_) fun e=> ?_
 ·have e:j<rs.length:=by simpa using e
  refine⟨⟨by omega,by omega⟩,fun x1 h1=> ?_⟩
  have hr:rs[j]? =some rs[j]:=List.getElem?_eq_getElem e
  obtain⟨q,hq,hat⟩:=C1 w.l rs p post hdr j _ hr
  rw [Int.toNat_natCast,hq]at h1
  cases h1
  have hbt:=Vx (d+1) hr
  have hle:=Afn (rs:=rs) (j+1) (d+1)
  rw [hbt,List.length_append]at hle
  have hml:=Z0 (List.getElem_mem e)
  refine hst _ (List.getElem_mem e) ⟨w.l,⟨ad,_⟩,_⟩ q (d+1) hl hat rfl (by omega) ?_ _ fun ad'=> ?_
  ·show(w.b.buf++B8 (tx (Br (d+1) (rs.take j)))).length+_<_
   rw [List.length_append,D5];omega
  ·refine⟨rs.length-(j+1),by omega,j+1,by rw [Ax (by omega) (by omega)];omega,by omega,rfl,?_,rfl⟩
   rw [hbt,Gd,List.append_assoc]
 ·have e:¬j<rs.length:=by simpa using e
  have:rs.take j=rs:=List.take_of_length_le (by omega)
  rw [this,Ax (by omega) (by omega),show((d+1:Nat):Int)-1=d by omega]
  exact h ad
theorem Oz:∀ {rs:List R},(∀r∈rs,Sy r)->rs.length<=(rs.flatMap R.fl).length
 |[],_=>Nat.le_refl _
 |r::rs,h=>by
  have h1:=(h r (by simp)).1
  have h2:=Oz (rs:=rs) fun q hq=>h q (by simp [hq])
  simp only [List.flatMap_cons,List.length_append,List.length_cons];omega
theorem Ar3 {x:Ai} {rs:List R} (hx:x.op=32) (hk:x.kids=(rs.length:Int)) (hea:∀r∈rs,Sy r) (hst:∀r∈rs,StW A9 r) (w:Ae) (i d:Nat) (hl:w.l.length<=100000) (ha:AtR w.l i (Ar x rs))
 (hd:w.deep=d) (hdn:d+(Ar x rs).fl.length<=200000) (front:List (List UInt8)) (cs:List Ck) (hp:front.flatten=tx cs) (hf:front.length<=1000) (hb:w.b.buf.length+(tx (Bi d cs (Ar x rs))).length<2^30) (K:Ae->Prop)
 (h:∀ad,K ⟨w.l,⟨ad,w.b.buf++B8 (tx (Bi d cs (Ar x rs)))⟩,d⟩):Bc w i front K:=by
 obtain⟨hi,hxi,post,hdr⟩:=ha.node
 obtain⟨po,hpo⟩:=ha
 have hrs:rs.length<=100000:=by
  have h1:=Oz hea
  have h2:=congrArg List.length hdr
  rw [List.length_drop,List.length_append]at h2
  omega
 have Bke:(Ar x rs).st (d+1)=Br (d+1) rs:=by
  show stN x rs (d+1)=_
  unfold stN
  rw [hx];rfl
 have hdn:d+((rs.flatMap R.fl).length+1)<=200000:=hdn
 unfold Bi at h hb
 rw [Bke]at h hb
 rw [Cr,Cr]at h hb
 simp only [List.length_append]at hb
 refine Ou _ _ _ _ ⟨by simp only [List.length_singleton];omega,?_⟩
 refine Hl w _ (cs++[sps,.tk sLB]) (by rw [List.flatten_append,hp,Cr];rfl) d hd (by omega) (by simp only [List.length_append,List.length_singleton];omega) (by omega) _ fun ad=> ?_
 refine Ee _ _ (by exact hl) _ ?_
 dsimp only
 rw [Dd hk hea hpo]
 refine Ais hst _ (i+1) d post (by exact hdr) (by exact hl) (by rfl) (by omega) hrs (by show(w.b.buf++B8 _).length+_<_;rw [List.length_append,D5];omega) _ fun ad2=> ?_
 refine Hl _ _ [.tk sRB] rfl d (by rfl) (by omega) (by simp) (by show((w.b.buf++B8 _)++B8 _).length+_<_;rw [List.length_append,List.length_append,D5,D5];omega) _ fun ad3=> ?_
 have:=h ad3
 rw [Gd,Gd,←List.append_assoc,←List.append_assoc]at this
 exact this
end Go.Proofs.YtcakelelfklhdaaGreatDoor
namespace Go.Proofs.YtcakelelfklhdaaGreatDoor
open Go.Vc Go.Lv Go.Ty Go.Tr Go.Tk Go.Tm
theorem Vy:∀ls:List (List Ck),tx (Bx ls)=Lib.join (ls.map tx) [44,32]
 |[]=>rfl
 |[a]=>by rw [Bx,List.map_cons,List.map_nil,Lib.join_cons];simp [Lib.joinTail]
 |a::b::l=>by
  have ih:=Vy (b::l)
  rw [Bx,Cr,Cl,Cl,ih,List.map_cons,List.map_cons,Lib.join_cons,Lib.join_cons]
  simp [Lib.joinTail,Ck.tx,sps,B2]
theorem Av4 {rs:List R} {r:R} (hr:r∈rs):(tx r.tm).length<=(tx (Bx (rs.map R.tm))).length:=by
 induction rs with
 |nil=>cases hr
 |cons a rs ih=>
  cases rs with
  |nil=>
   rw [List.mem_singleton.1 hr];exact Nat.le_refl _
  |cons b rs=>
   simp only [List.map_cons,Bx]at ih⊢
   rw [Cr,Cl,Cl,List.length_append,List.length_append,List.length_append]
   rcases List.mem_cons.1 hr with rfl|hr
   ·omega
   ·have:=ih hr;omega
theorem Ar4 {rs:List R} (hst:∀r∈rs,TmW r) (w:Ae) (p:Nat) (post:List Ai) (hdr:w.l.drop p=rs.flatMap R.fl++post) (hl:w.l.length<=100000) (hrs:rs.length<=100000)
 (hb:(tx (Bx (rs.map R.tm))).length<2^30) (K:List UInt8->Prop) (h:K (tx (Bx (rs.map R.tm)))):Hx w (plc p rs) K:=by
 refine Ov _ _ _ ?_
 unfold Ke
 rw [Bm]
 refine⟨⟨by omega,by omega⟩,fun out x n=>∃j:Nat,x=j/\j<=rs.length/\out=(rs.take j).map (fun r=>tx r.tm)/\n=rs.length-j,⟨_,0,rfl,by omega,rfl,rfl⟩,?_⟩
 rintro out x n ⟨j,rfl,hj,rfl,rfl⟩
 refine Ab (fun e=> ?_) fun e=> ?_
 ·have e:j<rs.length:=by simpa using e
  refine⟨⟨by omega,by omega⟩,fun x1 h1=> ?_⟩
  have hr:rs[j]? =some rs[j]:=List.getElem?_eq_getElem e
  obtain⟨q,hq,hat⟩:=C1 w.l rs p post hdr j _ hr
  rw [Int.toNat_natCast,hq]at h1
  cases h1
  have hle:=Av4 (List.getElem_mem e)
  refine hst _ (List.getElem_mem e) w q hl hat (by omega) _ ⟨?_,rs.length-(j+1),by omega,j+1,by rw [Ax (by omega) (by omega)];omega,by omega,?_,rfl⟩
  ·simp only [List.length_map,List.length_take,List.length_singleton];omega
  ·rw [List.take_add_one,hr,List.map_append];rfl
 ·have e:¬j<rs.length:=by simpa using e
  have ht:rs.take j=rs:=List.take_of_length_le (by omega)
  rw [ht]
  have hj2:rs.map (fun r=>tx r.tm)=(rs.map R.tm).map tx:=by rw [List.map_map];rfl
  rw [hj2]
  rw [Vy]at h hb
  exact Akl _ _ (by simp only [List.length_map];omega) (by omega) K h
end Go.Proofs.YtcakelelfklhdaaGreatDoor
namespace Go.Proofs.YtcakelelfklhdaaGreatDoor
open Go.Vc Go.Lv Go.Ty Go.Tr Go.Tk Go.Tm
theorem O0 (d:Nat) (a t b:List Ck):(tx t).length<=(tx (line d (a++(t++b)))).length:=by
 rw [Afm,Cr,Cr]
 simp only [List.length_append];omega
structure W2 (c:UInt8) (r:R):Prop where
 wt:WT c r
 rf:c=82->Av3 r
 st:c=83->StW A9 r
 cl:c=67->StW Ct r
 dc:c=68->StW Dy r
 bl:c=66->∃x rs,r=Ar x rs/\x.op=32/\x.kids=(rs.length:Int)/\(∀r∈rs,Sy r)/\∀r∈rs,StW A9 r
 pm:c=80->∃x rs,r=Ar x rs/\x.op=39
theorem Kg:∀ {ds:List UInt8} {rs:List R},F2 W2 ds rs->F2 WT ds rs
 |[],rs,h=>by cases F2.nil h;trivial
 |_::_,[],h=>h.elim
 |_::_,_::_,h=>⟨h.1.wt,Kg h.2⟩
theorem Kq (x:Ai) (ks:List R):(Ar x ks).st=stN x ks:=rfl
theorem Lx {r:R} (ht:TmW r) (w:Ae) (q d:Nat) (hl:w.l.length<=100000) (hat:AtR w.l q r) (hd:w.deep=d) (hdn:d<=1000000) (a b:List Ck) (parts:List UInt8->List (List UInt8)) (hp:(parts (tx r.tm)).flatten=tx (a++(r.tm++b))) (hpl:(parts (tx r.tm)).length<=1000)
 (hb:w.b.buf.length+(tx (line d (a++(r.tm++b)))).length<2^30) (K:Ae->Prop) (h:∀ad,K ⟨w.l,⟨ad,w.b.buf++B8 (tx (line d (a++(r.tm++b))))⟩,d⟩):A1 w q (fun x=>Aw w (parts x) fun r1=>K ⟨w.l,r1.b,r1.deep⟩):=by
 have:=O0 d a r.tm b
 refine ht w q hl hat (by omega) _ (Hl w _ _ hp d hd hdn (by omega) hb _ h)
theorem Apd {op a:Int} {s:Str} {rs:List R} (hop:op=18\/op=19\/op=20) (hf:F2 W2 [69] rs):StW A9 (Ar ⟨op,s,0,1,a⟩ rs):=by
 intro w i d hl ha hd hdn hb K hK
 have hea:=Ek (Kg hf)
 obtain⟨r,rfl,hr⟩:=F2.one hf
 obtain⟨hi,hx,post,hdr⟩:=ha.node
 obtain⟨po,hpo⟩:=ha
 refine Bu _ _ _ ?_
 unfold Bq
 refine⟨fun k o nm n _ _=>k=plc (i+1) [r]/\o=op/\nm=s,⟨⟨by omega,by omega⟩,fun y hy=>Ee _ _ hl _ ?_⟩,?_⟩
 ·rw [Int.toNat_natCast,hx]at hy
  cases hy
  exact⟨Dd rfl hea hpo,rfl,rfl⟩
 rintro k o nm n _ _ ⟨rfl,rfl,rfl⟩
 obtain⟨q,hq,hat⟩:=C1 w.l _ (i+1) post hdr 0 _ rfl
 rcases hop with rfl|rfl|rfl
 ·refine⟨⟨by omega,by rw [Bm];simp⟩,fun x2 h2=> ?_⟩
  have h2':=hq.symm.trans h2
  cases h2'
  exact Lx (hr.wt.term rfl) w q d hl hat hd (by omega) [.tk Pl,sps,.tk nm,sps,.tk sEq,sps] [.tk Av] (fun x=>[[118,97,114,32],nm,[32,61,32],x,[59]]) (by simp [tx,Ck.tx,sps,Pl,sEq,Av]) (by simp) hb K hK
 ·refine⟨⟨by omega,by rw [Bm];simp⟩,fun x2 h2=> ?_⟩
  have h2':=hq.symm.trans h2
  cases h2'
  exact Lx (hr.wt.term rfl) w q d hl hat hd (by omega) [.tk nm,sps,.tk sEq,sps] [.tk Av] (fun x=>[nm,[32,61,32],x,[59]]) (by simp [tx,Ck.tx,sps,sEq,Av]) (by simp) hb K hK
 ·refine⟨⟨by omega,by rw [Bm];simp⟩,fun x2 h2=> ?_⟩
  have h2':=hq.symm.trans h2
  cases h2'
  exact Lx (hr.wt.term rfl) w q d hl hat hd (by omega) [.tk nm,sps,.tk sEq,sps,.tk Gm,.tk sLP] [.tk sRP,.tk Av] (fun x=>[nm,[32,61,32,114,97,110,100,111,109,40],x,[41,59]]) (by simp [tx,Ck.tx,sps,sEq,Av,Gm,sLP,sRP]) (by simp) hb K hK
end Go.Proofs.YtcakelelfklhdaaGreatDoor
namespace Go.Proofs.YtcakelelfklhdaaGreatDoor
open Go.Vc Go.Lv Go.Ty Go.Tr Go.Tk Go.Tm
theorem Ape {op a:Int} {rs:List R} (hop:op=27\/op=28\/op=29) (hf:F2 W2 [69] rs):StW A9 (Ar ⟨op,[],0,1,a⟩ rs):=by
 intro w i d hl ha hd hdn hb K hK
 have hea:=Ek (Kg hf)
 obtain⟨r,rfl,hr⟩:=F2.one hf
 obtain⟨hi,hx,post,hdr⟩:=ha.node
 obtain⟨po,hpo⟩:=ha
 refine Bu _ _ _ ?_
 unfold Bq
 refine⟨fun k o nm n _ _=>k=plc (i+1) [r]/\o=op/\nm=[],⟨⟨by omega,by omega⟩,fun y hy=>Ee _ _ hl _ ?_⟩,?_⟩
 ·rw [Int.toNat_natCast,hx]at hy
  cases hy
  exact⟨Dd rfl hea hpo,rfl,rfl⟩
 rintro k o nm n _ _ ⟨rfl,rfl,rfl⟩
 obtain⟨q,hq,Ayk⟩:=C1 w.l _ (i+1) post hdr 0 _ rfl
 rcases hop with rfl|rfl|rfl
 ·refine⟨⟨by omega,by rw [Bm];simp⟩,fun x hx=> ?_⟩
  have gx:=hq.symm.trans hx
  cases gx
  exact Lx (hr.wt.term rfl) w q d hl Ayk hd (by omega) [.tk Km,sps] [.tk Av] (fun x=>[[115,108,101,101,112,32],x,[59]]) (by simp [tx,Ck.tx,sps,Km,Av]) (by simp) hb K hK
 ·refine⟨⟨by omega,by rw [Bm];simp⟩,fun x hx=> ?_⟩
  have gx:=hq.symm.trans hx
  cases gx
  exact Lx (hr.wt.term rfl) w q d hl Ayk hd (by omega) [.tk Kn,sps] [.tk Av] (fun x=>[[112,114,105,110,116,32],x,[59]]) (by simp [tx,Ck.tx,sps,Kn,Av]) (by simp) hb K hK
 ·refine⟨⟨by omega,by rw [Bm];simp⟩,fun x hx=> ?_⟩
  have gx:=hq.symm.trans hx
  cases gx
  exact Lx (hr.wt.term rfl) w q d hl Ayk hd (by omega) [.tk Hr,sps] [.tk Av] (fun x=>[[97,115,115,101,114,116,32],x,[59]]) (by simp [tx,Ck.tx,sps,Hr,Av]) (by simp) hb K hK
theorem Ana {op a:Int} {rs:List R} (hop:op=30\/op=31) (hf:F2 W2 [] rs):StW A9 (Ar ⟨op,[],0,0,a⟩ rs):=by
 intro w i d hl ha hd hdn hb K hK
 have hea:=Ek (Kg hf)
 cases F2.nil hf
 obtain⟨hi,hx,post,hdr⟩:=ha.node
 obtain⟨po,hpo⟩:=ha
 refine Bu _ _ _ ?_
 unfold Bq
 refine⟨fun k o nm n _ _=>k=plc (i+1) []/\o=op/\nm=[],⟨⟨by omega,by omega⟩,fun y hy=>Ee _ _ hl _ ?_⟩,?_⟩
 ·rw [Int.toNat_natCast,hx]at hy
  cases hy
  exact⟨Dd rfl hea hpo,rfl,rfl⟩
 rintro k o nm n _ _ ⟨rfl,rfl,rfl⟩
 rcases hop with rfl|rfl
 ·exact Hl w [[115,107,105,112,59]] [.tk Nw,.tk Av] (by simp [tx,Ck.tx,Nw,Av]) d hd (by omega) (by simp) (by exact hb) _ hK
 ·exact Hl w [[115,116,111,112,59]] [.tk Nx,.tk Av] (by simp [tx,Ck.tx,Nx,Av]) d hd (by omega) (by simp) (by exact hb) _ hK
theorem Anb {s:Str} {a:Int} {rs:List R} (hf:F2 W2 [82] rs):StW A9 (Ar ⟨22,s,0,1,a⟩ rs):=by
 intro w i d hl ha hd hdn hb K hK
 have hea:=Ek (Kg hf)
 obtain⟨r,rfl,hr⟩:=F2.one hf
 obtain⟨hi,hx,post,hdr⟩:=ha.node
 obtain⟨po,hpo⟩:=ha
 refine Bu _ _ _ ?_
 unfold Bq
 refine⟨fun k o nm n _ _=>k=plc (i+1) [r]/\o=22/\nm=s,⟨⟨by omega,by omega⟩,fun y hy=>Ee _ _ hl _ ?_⟩,?_⟩
 ·rw [Int.toNat_natCast,hx]at hy
  cases hy
  exact⟨Dd rfl hea hpo,rfl,rfl⟩
 rintro k o nm n _ _ ⟨rfl,rfl,rfl⟩
 obtain⟨q,hq,Ayk⟩:=C1 w.l _ (i+1) post hdr 0 _ rfl
 refine⟨⟨by omega,by rw [Bm];simp⟩,fun x hx=> ?_⟩
 have gx:=hq.symm.trans hx
 cases gx
 have est:(Ar ⟨22,nm,0,1,a⟩ [r]).st d=line d (r.tm++[sps,.tk G8,sps,.tk nm,.tk Av]):=rfl
 rw [est]at hK hb
 have hle:=O0 d [] r.tm [sps,.tk G8,sps,.tk nm,.tk Av]
 have hb2:w.b.buf.length+(tx (line d ([]++(r.tm++[sps,.tk G8,sps,.tk nm,.tk Av])))).length<2^30:=hb
 refine hr.rf rfl w q hl Ayk (by omega) _ ?_
 exact Hl w [tx r.tm,[32,63,32],nm,[59]] (r.tm++[sps,.tk G8,sps,.tk nm,.tk Av]) (by simp [tx,Ck.tx,sps,G8,Av]) d hd (by omega) (by simp) (by exact hb) _ hK
theorem Ar5 (a:Int) (r r2:R) (d:Nat):(Ar ⟨21,[],0,2,a⟩ [r,r2]).st d=line d (r.tm++(sps::.tk Db::sps::(r2.tm++[.tk Av]))):=by
 rw [Kq]
 unfold stN
 dsimp only
 simp only [Int.reduceEq,if_false,if_true]
 rfl
theorem Ane {a:Int} {rs:List R} (hf:F2 W2 [82,69] rs):StW A9 (Ar ⟨21,[],0,2,a⟩ rs):=by
 intro w i d hl ha hd hdn hb K hK
 have hea:=Ek (Kg hf)
 obtain⟨r,r2,rfl,hr,hr2⟩:=F2.two hf
 obtain⟨hi,hx,post,hdr⟩:=ha.node
 obtain⟨po,hpo⟩:=ha
 rw [Ar5]at hK hb
 refine Bu _ _ _ ?_
 unfold Bq
 refine⟨fun k o nm n _ _=>k=plc (i+1) [r,r2]/\o=21/\nm=[],⟨⟨by omega,by omega⟩,fun y hy=>Ee _ _ hl _ ?_⟩,?_⟩
 ·rw [Int.toNat_natCast,hx]at hy
  cases hy
  exact⟨Dd rfl hea hpo,rfl,rfl⟩
 rintro k o nm n _ _ ⟨rfl,rfl,rfl⟩
 obtain⟨q,hq,Ayk⟩:=C1 w.l _ (i+1) post hdr 0 _ rfl
 obtain⟨p,hp,Bf0⟩:=C1 w.l _ (i+1) post hdr 1 _ rfl
 have Bf1:=O0 d [] r.tm (sps::.tk Db::sps::(r2.tm++[.tk Av]))
 have e2:[]++(r.tm++(sps::.tk Db::sps::(r2.tm++[.tk Av])))=(r.tm++[sps,.tk Db,sps])++(r2.tm++[.tk Av]):=by simp
 have Be0:=O0 d (r.tm++[sps,.tk Db,sps]) r2.tm [.tk Av]
 rw [←e2]at Be0
 rw [List.nil_append]at Bf1 Be0
 refine A8 rfl (A8 rfl (A8 rfl (Dt rfl ?_)))
 refine⟨⟨by omega,by rw [Bm];simp⟩,fun x hx=>⟨⟨by omega,by rw [Bm];simp⟩,fun y hy=> ?_⟩⟩
 have gx:=hq.symm.trans hx
 cases gx
 have gy:=hp.symm.trans hy
 cases gy
 refine hr.rf rfl w q hl Ayk (by omega) _ ?_
 refine hr2.wt.term rfl w p hl Bf0 (by omega) _ ?_
 exact Hl w [tx r.tm,[32,33,32],tx r2.tm,[59]] (r.tm++(sps::.tk Db::sps::(r2.tm++[.tk Av]))) (by simp [tx,Ck.tx,sps,Db,Av]) d hd (by omega) (by simp) (by exact hb) _ hK
end Go.Proofs.YtcakelelfklhdaaGreatDoor
namespace Go.Proofs.YtcakelelfklhdaaGreatDoor
open Go.Vc Go.Lv Go.Ty Go.Tr Go.Tk Go.Tm
def BlR (r:R):Prop:=∃x rs,r=Ar x rs/\x.op=32/\x.kids=(rs.length:Int)/\(∀r∈rs,Sy r)/\∀r∈rs,StW A9 r
theorem Apf {r:R} (hr:BlR r) (w:Ae) (q d:Nat) (hl:w.l.length<=100000) (hat:AtR w.l q r) (hd:w.deep=d) (hdn:d+r.fl.length<=200000)
 (hb:w.b.buf.length+(tx (r.st (d+1))).length<2^30) (K:Ae->Prop) (h:∀ad,K ⟨w.l,⟨ad,w.b.buf++B8 (tx (r.st (d+1)))⟩,d⟩):Bv w q (fun x=>Bd w x K):=by
 obtain⟨x,rs,rfl,hx,hk,hea,hst⟩:=hr
 obtain⟨hi,hxi,post,hdr⟩:=hat.node
 obtain⟨po,hpo⟩:=hat
 have hrs:rs.length<=100000:=by
  have h1:=Oz hea
  have h2:=congrArg List.length hdr
  rw [List.length_drop,List.length_append]at h2
  omega
 have Bke:(Ar x rs).st (d+1)=Br (d+1) rs:=by
  show stN x rs (d+1)=_
  unfold stN
  rw [hx];rfl
 have hdn:d+((rs.flatMap R.fl).length+1)<=200000:=hdn
 rw [Bke]at h hb
 refine Ee _ _ hl _ ?_
 rw [Dd hk hea hpo]
 exact Ais hst w (q+1) d post hdr hl hd (by omega) hrs hb K h
theorem Auj (a:Int) (r r2:R) (d:Nat):(Ar ⟨23,[],0,2,a⟩ [r,r2]).st d=line d (.tk sIf::sps::(r.tm++[sps,.tk sLB]))++(r2.st (d+1)++line d [.tk sRB]):=by
 rw [Kq]
 unfold stN
 dsimp only
 simp only [Int.reduceEq,if_false,if_true]
 rfl
theorem Auk (a:Int) (r r2 r3:R) (d:Nat):(Ar ⟨23,[],0,3,a⟩ [r,r2,r3]).st d=line d (.tk sIf::sps::(r.tm++[sps,.tk sLB]))++(r2.st (d+1)++(line d [.tk sRB,sps,.tk Dp,sps,.tk sLB]++(r3.st (d+1)++line d [.tk sRB]))):=by
 rw [Kq]
 unfold stN
 dsimp only
 simp only [Int.reduceEq,if_false,if_true]
 rfl
theorem Aul (a:Int) (r r2:R):(Ar ⟨23,[],0,2,a⟩ [r,r2]).fl.length=r.fl.length+r2.fl.length+1:=by simp [Ar]
theorem Aum (a:Int) (r r2 r3:R):(Ar ⟨23,[],0,3,a⟩ [r,r2,r3]).fl.length=r.fl.length+(r2.fl.length+r3.fl.length)+1:=by simp [Ar]
theorem Apg {a:Int} {rs:List R} (hf:F2 W2 [69,66] rs):StW A9 (Ar ⟨23,[],0,2,a⟩ rs):=by
 intro w i d hl ha hd hdn hb K hK
 have hea:=Ek (Kg hf)
 obtain⟨r,r2,rfl,hr,hr2⟩:=F2.two hf
 obtain⟨hi,hx,post,hdr⟩:=ha.node
 obtain⟨po,hpo⟩:=ha
 rw [Auj]at hK hb
 rw [Aul]at hdn
 rw [Cr,Cr]at hK hb
 simp only [List.length_append]at hb
 refine Bu _ _ _ ?_
 unfold Bq
 refine⟨fun k o nm n _ _=>k=plc (i+1) [r,r2]/\o=23/\nm=[],⟨⟨by omega,by omega⟩,fun y hy=>Ee _ _ hl _ ?_⟩,?_⟩
 ·rw [Int.toNat_natCast,hx]at hy
  cases hy
  exact⟨Dd rfl hea hpo,rfl,rfl⟩
 rintro k o nm n _ _ ⟨rfl,rfl,rfl⟩
 obtain⟨q,hq,Ayk⟩:=C1 w.l _ (i+1) post hdr 0 _ rfl
 obtain⟨p,hp,Bf0⟩:=C1 w.l _ (i+1) post hdr 1 _ rfl
 have Bf1:=O0 d [.tk sIf,sps] r.tm [sps,.tk sLB]
 have Bf1:(tx r.tm).length<=(tx (line d (.tk sIf::sps::(r.tm++[sps,.tk sLB])))).length:=Bf1
 refine A8 rfl (A8 rfl (A8 rfl (A8 rfl (A8 rfl (Dt rfl ?_)))))
 refine⟨⟨by omega,by rw [Bm];simp⟩,fun x hx=> ?_⟩
 have gx:=hq.symm.trans hx
 cases gx
 refine hr.wt.term rfl w q hl Ayk (by omega) _ ?_
 refine Hl w _ (.tk sIf::sps::(r.tm++[sps,.tk sLB])) (by simp [tx,Ck.tx,sps,sIf,sLB]) d hd (by omega) (by simp) (by omega) _ fun ad=> ?_
 refine⟨⟨by omega,by rw [Bm];simp⟩,fun y hy=> ?_⟩
 have gy:=hp.symm.trans hy
 cases gy
 refine Apf (hr2.bl rfl) ⟨w.l,⟨ad,_⟩,d⟩ p d hl Bf0 rfl (by omega) (by simp only [List.length_append,D5];omega) _ fun ad2=> ?_
 refine⟨fun ad3 bf dp=>(∃x,ad3=x)/\bf=w.b.buf++B8 (tx (line d (.tk sIf::sps::(r.tm++[sps,.tk sLB]))))++B8 (tx (r2.st (d+1)))/\dp=(d:Int),A8 (by rw [Bm];rfl) ⟨⟨_,rfl⟩,rfl,rfl⟩,?_⟩
 rintro ad3 bf dp ⟨_,rfl,rfl⟩
 refine Hl ⟨w.l,⟨ad3,_⟩,d⟩ _ [.tk sRB] rfl d rfl (by omega) (by simp) (by simp only [List.length_append,D5];omega) _ fun ad4=> ?_
 have:=hK ad4
 rw [Gd,Gd,←List.append_assoc,←List.append_assoc]at this
 exact this
theorem Aph {a:Int} {rs:List R} (hf:F2 W2 [69,66,66] rs):StW A9 (Ar ⟨23,[],0,3,a⟩ rs):=by
 intro w i d hl ha hd hdn hb K hK
 have hea:=Ek (Kg hf)
 obtain⟨r,r2,r3,rfl,hr,hr2,hr3⟩:=F2.three hf
 obtain⟨hi,hx,post,hdr⟩:=ha.node
 obtain⟨po,hpo⟩:=ha
 rw [Auk]at hK hb
 rw [Aum]at hdn
 rw [Cr,Cr,Cr,Cr]at hK hb
 simp only [List.length_append]at hb
 refine Bu _ _ _ ?_
 unfold Bq
 refine⟨fun k o nm n _ _=>k=plc (i+1) [r,r2,r3]/\o=23/\nm=[],⟨⟨by omega,by omega⟩,fun y hy=>Ee _ _ hl _ ?_⟩,?_⟩
 ·rw [Int.toNat_natCast,hx]at hy
  cases hy
  exact⟨Dd rfl hea hpo,rfl,rfl⟩
 rintro k o nm n _ _ ⟨rfl,rfl,rfl⟩
 obtain⟨q,hq,Ayk⟩:=C1 w.l _ (i+1) post hdr 0 _ rfl
 obtain⟨p,hp,Bf0⟩:=C1 w.l _ (i+1) post hdr 1 _ rfl
 obtain⟨p3,hp3,Ca2⟩:=C1 w.l _ (i+1) post hdr 2 _ rfl
 have Bf1:(tx r.tm).length<=(tx (line d (.tk sIf::sps::(r.tm++[sps,.tk sLB])))).length:=O0 d [.tk sIf,sps] r.tm [sps,.tk sLB]
 refine A8 rfl (A8 rfl (A8 rfl (A8 rfl (A8 rfl (Dt rfl ?_)))))
 refine⟨⟨by omega,by rw [Bm];simp⟩,fun x hx=> ?_⟩
 have gx:=hq.symm.trans hx
 cases gx
 refine hr.wt.term rfl w q hl Ayk (by omega) _ ?_
 refine Hl w _ (.tk sIf::sps::(r.tm++[sps,.tk sLB])) (by simp [tx,Ck.tx,sps,sIf,sLB]) d hd (by omega) (by simp) (by omega) _ fun ad=> ?_
 refine⟨⟨by omega,by rw [Bm];simp⟩,fun y hy=> ?_⟩
 have gy:=hp.symm.trans hy
 cases gy
 refine Apf (hr2.bl rfl) ⟨w.l,⟨ad,_⟩,d⟩ p d hl Bf0 rfl (by omega) (by simp only [List.length_append,D5];omega) _ fun ad2=> ?_
 refine⟨fun ad3 bf dp=>(∃x,ad3=x)/\bf=w.b.buf++B8 (tx (line d (.tk sIf::sps::(r.tm++[sps,.tk sLB]))))++B8 (tx (r2.st (d+1)))++B8 (tx (line d [.tk sRB,sps,.tk Dp,sps,.tk sLB]))++B8 (tx (r3.st (d+1)))/\dp=(d:Int),Dt (by rw [Bm];rfl) ?_,?_⟩
 ·refine Hl ⟨w.l,⟨ad2,_⟩,d⟩ _ [.tk sRB,sps,.tk Dp,sps,.tk sLB] (by simp [tx,Ck.tx,sps,sRB,Dp,sLB]) d rfl (by omega) (by simp) (by simp only [List.length_append,D5];omega) _ fun ad4=> ?_
  refine⟨⟨by omega,by rw [Bm];simp⟩,fun z hz=> ?_⟩
  have gz:=hp3.symm.trans hz
  cases gz
  refine Apf (hr3.bl rfl) ⟨w.l,⟨ad4,_⟩,d⟩ p3 d hl Ca2 rfl (by omega) (by simp only [List.length_append,D5];omega) _ fun ad5=> ?_
  exact⟨⟨_,rfl⟩,rfl,rfl⟩
 rintro ad3 bf dp ⟨_,rfl,rfl⟩
 refine Hl ⟨w.l,⟨ad3,_⟩,d⟩ _ [.tk sRB] rfl d rfl (by omega) (by simp) (by simp only [List.length_append,D5];omega) _ fun ad4=> ?_
 have:=hK ad4
 rw [Gd,Gd,Gd,Gd,←List.append_assoc,←List.append_assoc,←List.append_assoc,←List.append_assoc]at this
 exact this
theorem Ar6 (a:Int) (r r2:R) (d:Nat):(Ar ⟨24,[],0,2,a⟩ [r,r2]).st d=Bi d (.tk F9::sps::r.tm) r2:=rfl
theorem Z2 (d:Nat) (cs:List Ck) (r:R):(tx cs).length<=(tx (Bi d cs r)).length:=by
 unfold Bi
 rw [Cr,Afm,Cr]
 simp only [List.length_append];omega
theorem Z3 {r:R} (hr:BlR r) (w:Ae) (q d:Nat) (hl:w.l.length<=100000) (hat:AtR w.l q r) (hd:w.deep=d) (hdn:d+r.fl.length<=200000) (front:List (List UInt8)) (cs:List Ck) (hp:front.flatten=tx cs) (hf:front.length<=1000)
 (hb:w.b.buf.length+(tx (Bi d cs r)).length<2^30) (K:Ae->Prop) (h:∀ad,K ⟨w.l,⟨ad,w.b.buf++B8 (tx (Bi d cs r))⟩,d⟩):Bc w q front K:=by
 obtain⟨x,rs,rfl,hx,hk,hea,hst⟩:=hr
 exact Ar3 hx hk hea hst w q d hl hat hd hdn front cs hp hf hb K h
theorem Anf {a:Int} {rs:List R} (hf:F2 W2 [69,66] rs):StW A9 (Ar ⟨24,[],0,2,a⟩ rs):=by
 intro w i d hl ha hd hdn hb K hK
 have hea:=Ek (Kg hf)
 obtain⟨r,r2,rfl,hr,hr2⟩:=F2.two hf
 obtain⟨hi,hx,post,hdr⟩:=ha.node
 obtain⟨po,hpo⟩:=ha
 rw [Ar6]at hK hb
 have hdn:d+(r.fl.length+r2.fl.length+1)<=200000:=by
  rw [show(Ar ⟨24,[],0,2,a⟩ [r,r2]).fl.length=r.fl.length+r2.fl.length+1 by simp [Ar]]at hdn;exact hdn
 refine Bu _ _ _ ?_
 unfold Bq
 refine⟨fun k o nm n _ _=>k=plc (i+1) [r,r2]/\o=24/\nm=[],⟨⟨by omega,by omega⟩,fun y hy=>Ee _ _ hl _ ?_⟩,?_⟩
 ·rw [Int.toNat_natCast,hx]at hy
  cases hy
  exact⟨Dd rfl hea hpo,rfl,rfl⟩
 rintro k o nm n _ _ ⟨rfl,rfl,rfl⟩
 obtain⟨q,hq,Ayk⟩:=C1 w.l _ (i+1) post hdr 0 _ rfl
 obtain⟨p,hp,Bf0⟩:=C1 w.l _ (i+1) post hdr 1 _ rfl
 have Ci2:=Z2 d (.tk F9::sps::r.tm) r2
 have Bf1:(tx r.tm).length<=(tx (.tk F9::sps::r.tm)).length:=by rw [Cl,Cl];simp only [List.length_append];omega
 refine A8 rfl (A8 rfl (A8 rfl (A8 rfl (A8 rfl (A8 rfl (Dt rfl ?_))))))
 refine⟨⟨by omega,by rw [Bm];simp⟩,fun y hy=>⟨⟨by omega,by rw [Bm];simp⟩,fun x hx=> ?_⟩⟩
 have gx:=hq.symm.trans hx
 cases gx
 have gy:=hp.symm.trans hy
 cases gy
 refine hr.wt.term rfl w q hl Ayk (by omega) _ ?_
 exact Z3 (hr2.bl rfl) w p d hl Bf0 hd (by omega) _ (.tk F9::sps::r.tm) (by simp [tx,Ck.tx,sps,F9]) (by simp) (by exact hb) _ hK
theorem Aun (k a:Int) (rs:List R) (d:Nat):(Ar ⟨25,[],0,k,a⟩ rs).st d=line d [.tk Ej,sps,.tk sLB]++(Br (d+1) rs++line d [.tk sRB]):=by
 rw [Kq]
 unfold stN
 dsimp only
 simp only [Int.reduceEq,if_false,if_true]
theorem Z4 {Q:UInt8->R->Prop} {c:UInt8} {k:Nat} {rs:List R} (h:F2 Q (List.replicate k c) rs):rs.length=k/\∀r∈rs,Q c r:=F2.rep h
theorem Q9 (x:Ai) (rs:List R):(Ar x rs).fl.length=(rs.flatMap R.fl).length+1:=rfl
theorem Api {k:Nat} {a:Int} {rs:List R} (hk:k<2^39) (hf:F2 W2 (List.replicate k 67) rs):StW A9 (Ar ⟨25,[],0,wr k,a⟩ rs):=by
 intro w i d hl ha hd hdn hb K hK
 have hea:=Ek (Kg hf)
 obtain⟨hlen,Aw4⟩:=Z4 hf
 obtain⟨hi,hx,post,hdr⟩:=ha.node
 obtain⟨po,hpo⟩:=ha
 rw [Q9]at hdn
 rw [Aun]at hK hb
 rw [Cr,Cr]at hK hb
 simp only [List.length_append]at hb
 have hkk:(⟨25,[],0,wr k,a⟩:Ai).kids=(rs.length:Int):=by show wr k=_;rw [hlen];exact Mh (by omega)
 have hrs:rs.length<=100000:=by
  have h1:=Oz hea
  have h2:=congrArg List.length hdr
  rw [List.length_drop,List.length_append]at h2
  omega
 refine Bu _ _ _ ?_
 unfold Bq
 refine⟨fun kk o nm n _ _=>kk=plc (i+1) rs/\o=25/\nm=[],⟨⟨by omega,by omega⟩,fun y hy=>Ee _ _ hl _ ?_⟩,?_⟩
 ·rw [Int.toNat_natCast,hx]at hy
  cases hy
  exact⟨Dd hkk hea hpo,rfl,rfl⟩
 rintro kk o nm n _ _ ⟨rfl,rfl,rfl⟩
 refine A8 rfl (A8 rfl (A8 rfl (A8 rfl (A8 rfl (A8 rfl (A8 rfl (Dt rfl ?_)))))))
 refine Hl w _ [.tk Ej,sps,.tk sLB] (by simp [tx,Ck.tx,sps,Ej,sLB]) d hd (by omega) (by simp) (by omega) _ fun ad=> ?_
 refine Am9 (fun r hr=>(Aw4 r hr).cl rfl) ⟨w.l,⟨ad,_⟩,d⟩ (i+1) d post hdr hl rfl (by omega) hrs (by simp only [List.length_append,D5];omega) _ fun ad2=> ?_
 refine Hl ⟨w.l,⟨ad2,_⟩,d⟩ _ [.tk sRB] rfl d rfl (by omega) (by simp) (by simp only [List.length_append,D5];omega) _ fun ad4=> ?_
 have:=hK ad4
 rw [Gd,Gd,←List.append_assoc,←List.append_assoc]at this
 exact this
theorem Apj (s:Str) (k a:Int) (rs:List R) (d:Nat):(Ar ⟨26,s,0,k,a⟩ rs).st d=line d (.tk Fc::sps::.tk s::.tk sLP::(Bx (rs.map R.tm)++[.tk sRP,.tk Av])):=by
 rw [Kq]
 unfold stN
 dsimp only
 simp only [Int.reduceEq,if_false,if_true]
theorem Akn {s:Str} {k:Nat} {a:Int} {rs:List R} (hk:k<2^39) (hf:F2 W2 (List.replicate k 69) rs):StW A9 (Ar ⟨26,s,0,wr k,a⟩ rs):=by
 intro w i d hl ha hd hdn hb K hK
 have hea:=Ek (Kg hf)
 obtain⟨hlen,Aw4⟩:=Z4 hf
 obtain⟨hi,hx,post,hdr⟩:=ha.node
 obtain⟨po,hpo⟩:=ha
 rw [Apj]at hK hb
 have hkk:(⟨26,s,0,wr k,a⟩:Ai).kids=(rs.length:Int):=by show wr k=_;rw [hlen];exact Mh (by omega)
 have hrs:rs.length<=100000:=by
  have h1:=Oz hea
  have h2:=congrArg List.length hdr
  rw [List.length_drop,List.length_append]at h2
  omega
 have hle:=O0 d [.tk Fc,sps,.tk s,.tk sLP] (Bx (rs.map R.tm)) [.tk sRP,.tk Av]
 have hle:(tx (Bx (rs.map R.tm))).length<=(tx (line d (.tk Fc::sps::.tk s::.tk sLP::(Bx (rs.map R.tm)++[.tk sRP,.tk Av])))).length:=hle
 refine Bu _ _ _ ?_
 unfold Bq
 refine⟨fun kk o nm n _ _=>kk=plc (i+1) rs/\o=26/\nm=s,⟨⟨by omega,by omega⟩,fun y hy=>Ee _ _ hl _ ?_⟩,?_⟩
 ·rw [Int.toNat_natCast,hx]at hy
  cases hy
  exact⟨Dd hkk hea hpo,rfl,rfl⟩
 rintro kk o nm n _ _ ⟨rfl,rfl,rfl⟩
 refine A8 rfl (A8 rfl (A8 rfl (A8 rfl (A8 rfl (A8 rfl (A8 rfl (A8 rfl (Dt rfl ?_))))))))
 refine Ar4 (fun r hr=>(Aw4 r hr).wt.term rfl) w (i+1) post hdr hl hrs (by omega) _ ?_
 exact Hl w _ (.tk Fc::sps::.tk nm::.tk sLP::(Bx (rs.map R.tm)++[.tk sRP,.tk Av])) (by simp [tx,Ck.tx,sps,Fc,sLP,sRP,Av]) d hd (by omega) (by simp) (by exact hb) _ hK
end Go.Proofs.YtcakelelfklhdaaGreatDoor
namespace Go.Proofs.YtcakelelfklhdaaGreatDoor
open Go.Vc Go.Lv Go.Ty Go.Tr Go.Tk Go.Tm
theorem Auo (a:Int) (b:R) (d:Nat):(Ar ⟨37,[],0,1,a⟩ [b]).st d=Bi d [.tk Dp] b:=by
 rw [Kq]
 unfold stN
 dsimp only
 simp only [Int.reduceEq,if_false,if_true]
 rfl
theorem Qs {x:Ai} {rs:List R} {b:R} (h:b∈rs):b.fl.length+1<=(Ar x rs).fl.length:=by
 have:=Z0 h
 rw [Q9];omega
theorem Apk {a:Int} {rs:List R} (hf:F2 W2 [66] rs):StW Ct (Ar ⟨37,[],0,1,a⟩ rs):=by
 intro w i d hl ha hd hdn hb K hK
 have hea:=Ek (Kg hf)
 obtain⟨b,rfl,hr⟩:=F2.one hf
 obtain⟨hi,hx,post,hdr⟩:=ha.node
 obtain⟨po,hpo⟩:=ha
 have hfl:=Qs (x:=⟨37,[],0,1,a⟩) (rs:=[b]) (b:=b) (by simp)
 rw [Auo]at hK hb
 refine Jh _ _ _ ?_
 unfold Gk
 refine⟨fun k o nm n _ _=>k=plc (i+1) [b]/\o=37/\nm=[]/\n=0,⟨⟨by omega,by omega⟩,fun y hy=>Ee _ _ hl _ ?_⟩,?_⟩
 ·rw [Int.toNat_natCast,hx]at hy
  cases hy
  exact⟨Dd rfl hea hpo,rfl,rfl,rfl⟩
 rintro k o nm n _ _ ⟨rfl,rfl,rfl,rfl⟩
 obtain⟨q,hq,Ayk⟩:=C1 w.l _ (i+1) post hdr 0 _ rfl
 refine⟨fun k1 _=>k1=plc (i+1) [b],A8 rfl rfl,?_⟩
 rintro _ _ rfl
 refine A8 rfl (A8 rfl (A8 rfl ⟨⟨by omega,by rw [Bm];simp⟩,fun x hx=> ?_⟩))
 have gx:=hq.symm.trans hx
 cases gx
 exact Z3 (hr.bl rfl) w q d hl Ayk hd (by omega) _ [.tk Dp] rfl (by simp) (by exact hb) _ hK
def wn (w:Bool):Int:=if w then 1 else 0
def gs (w:Bool):List UInt8:=if w then [69]else []
theorem Ar7 (s:Str) (k a:Int) (w:Bool) (g:List R) (hg:F2 W2 (gs w) g) (r b:R) (d:Nat):(Ar ⟨34,s,wn w,k,a⟩ (g++[r,b])).st d=Bi d (Eb ⟨34,s,wn w,k,a⟩ (g++[r,b])++(r.tm++[sps,.tk G8,sps,.tk s])) b:=by
 rw [Kq]
 unfold stN
 dsimp only
 simp only [Int.reduceEq,if_false,if_true]
 cases w with
 |false=>cases F2.nil hg;rfl
 |true=>obtain⟨x,rfl,_⟩:=F2.one hg;rfl
theorem Ang (s:Str) (k a:Int) (w:Bool) (g:List R) (hg:F2 W2 (gs w) g) (r e b:R) (d:Nat):(Ar ⟨35,s,wn w,k,a⟩ (g++[r,e,b])).st d=Bi d (Eb ⟨35,s,wn w,k,a⟩ (g++[r,e,b])++(r.tm++(sps::.tk Db::sps::e.tm))) b:=by
 rw [Kq]
 unfold stN
 dsimp only
 simp only [Int.reduceEq,if_false,if_true]
 cases w with
 |false=>cases F2.nil hg;rfl
 |true=>obtain⟨x,rfl,_⟩:=F2.one hg;rfl
theorem Apl (s:Str) (k a:Int) (w:Bool) (g:List R) (hg:F2 W2 (gs w) g) (e b:R) (d:Nat):(Ar ⟨36,s,wn w,k,a⟩ (g++[e,b])).st d=Bi d (Eb ⟨36,s,wn w,k,a⟩ (g++[e,b])++(.tk Ea::sps::e.tm)) b:=by
 rw [Kq]
 unfold stN
 dsimp only
 simp only [Int.reduceEq,if_false,if_true]
 cases w with
 |false=>cases F2.nil hg;rfl
 |true=>obtain⟨x,rfl,_⟩:=F2.one hg;rfl
theorem Alv (a b:List Ck):(tx (a++b)).length=(tx a).length+(tx b).length:=by rw [Cr,List.length_append]
theorem Qt (a:Ck) (b:List Ck):(tx (a::b)).length=a.tx.length+(tx b).length:=by rw [Cl,List.length_append]
theorem Vz (d:Nat) (F A:List Ck) (b:R):(tx F).length+(tx A).length<=(tx (Bi d (F++A) b)).length:=by
 have:=Z2 d (F++A) b
 rw [Cr,List.length_append]at this
 exact this
theorem Anh (x:Ai) (hn:x.n=1) (g:R) (rs:List R):tx (Eb x (g::rs))=[99,97,115,101,32]++(([119,104,101,110,32]++tx g.tm)++[58,32]):=by
 unfold Eb
 rw [if_pos hn]
 simp [tx,Ck.tx,kd,sps,B1,D9,D8]
theorem Ani (x:Ai) (hn:x.n=0) (rs:List R):tx (Eb x rs)=[99,97,115,101,32]:=by
 unfold Eb
 rw [if_neg (by omega)]
 simp [tx,Ck.tx,sps,B1]
def Awq (w:Ae) (op:Int) (s:Str) (K:Ae->Prop) (k1:List Int) (front:List UInt8):Prop:=
 cond (op==34)
 (((0:Int)<=1/\1<(k1.length:Int))/\
 ∀x4,k1[1]? =some x4->
 ((0:Int)<=0/\0<(k1.length:Int))/\
 ∀x5,k1[0]? =some x5->
 C8 w x5 (fun x6=>
 Bc w x4 ([front,x6,[32,63,32],s]:List (List UInt8)) (fun r=>
 K (⟨w.l,r.b,r.deep⟩:Ae))))
 (cond (op==35)
 (((0:Int)<=2/\2<(k1.length:Int))/\
 ∀x7,k1[2]? =some x7->
 ((0:Int)<=0/\0<(k1.length:Int))/\
 ∀x8,k1[0]? =some x8->
 ((0:Int)<=1/\1<(k1.length:Int))/\
 ∀x9,k1[1]? =some x9->
 C8 w x8 (fun x10=>
 A1 w x9 (fun x11=>
 Bc w x7 ([front,x10,[32,33,32],x11]:List (List UInt8)) (fun r1=>
 K (⟨w.l,r1.b,r1.deep⟩:Ae)))))
 (cond (op==36)
 (((0:Int)<=1/\1<(k1.length:Int))/\
 ∀x12,k1[1]? =some x12->
 ((0:Int)<=0/\0<(k1.length:Int))/\
 ∀x13,k1[0]? =some x13->
 A1 w x13 (fun x14=>
 Bc w x12 ([front,[97,102,116,101,114,32],x14]:List (List UInt8)) (fun r2=>
 K (⟨w.l,r2.b,r2.deep⟩:Ae))))
 (((0:Int)<=0/\0<(k1.length:Int))/\
 ∀x15,k1[0]? =some x15->
 Bc w x15 ([[101,108,115,101]]:List (List UInt8)) (fun r3=>
 K (⟨w.l,r3.b,r3.deep⟩:Ae)))))
theorem V0 {op:Int} {s:Str} {a:Int} {w0:Bool} {ds:List UInt8} {g rs:List R} (hds:ds.length<=3) (hg:F2 W2 (gs w0) g) (hf:F2 W2 ds rs) (w:Ae) (i:Nat) (hl:w.l.length<=100000)
 (ha:AtR w.l i (Ar ⟨op,s,wn w0,wr (gs w0++ds).length,a⟩ (g++rs))) (hb:(tx (Eb ⟨op,s,wn w0,wr (gs w0++ds).length,a⟩ (g++rs))).length<2^30) (K:Ae->Prop)
 (h:∀(p:Nat) (post:List Ai),w.l.drop p=rs.flatMap R.fl++post->Awq w op s K (plc p rs) (tx (Eb ⟨op,s,wn w0,wr (gs w0++ds).length,a⟩ (g++rs)))):Ct w i K:=by
 have hf2:F2 W2 (gs w0++ds) (g++rs):=by
  cases w0 with
  |false=>cases F2.nil hg;exact hf
  |true=>obtain⟨x,rfl,hx⟩:=F2.one hg;exact⟨hx,hf⟩
 have hea:=Ek (Kg hf2)
 have hkk:wr (gs w0++ds).length=((g++rs).length:Int):=by
  rw [←F2.len hf2]
  refine Mh ?_
  rw [List.length_append]
  cases w0<;>simp only [gs,if_true,if_false,List.length_cons,List.length_nil,Bool.false_eq_true]<;>omega
 obtain⟨hi,hx,post,hdr⟩:=ha.node
 obtain⟨po,hpo⟩:=ha
 refine Jh _ _ _ ?_
 unfold Gk
 refine⟨fun k o nm n _ _=>k=plc (i+1) (g++rs)/\o=op/\nm=s/\n=wn w0,⟨⟨by omega,by omega⟩,fun y hy=>Ee _ _ hl _ ?_⟩,?_⟩
 ·rw [Int.toNat_natCast,hx]at hy
  cases hy
  exact⟨Dd hkk hea hpo,rfl,rfl,rfl⟩
 rintro k o nm n _ _ ⟨rfl,rfl,rfl,rfl⟩
 refine⟨fun k1 fr=>∃(p:Nat) (post:List Ai),w.l.drop p=rs.flatMap R.fl++post/\k1=plc p rs/\fr=tx (Eb ⟨o,nm,wn w0,wr (gs w0++ds).length,a⟩ (g++rs)),?_,?_⟩
 ·cases w0 with
  |false=>
   cases F2.nil hg
   exact A8 rfl ⟨i+1,post,hdr,rfl,(Ani _ rfl _).symm⟩
  |true=>
   obtain⟨x,rfl,hx⟩:=F2.one hg
   obtain⟨q,hq,Ayk⟩:=C1 w.l _ (i+1) post hdr 0 _ rfl
   have htx:=Anh ⟨o,nm,wn true,wr (gs true++ds).length,a⟩ rfl x rs
   have hb:(tx (Eb ⟨o,nm,wn true,wr (gs true++ds).length,a⟩ (x::rs))).length<2^30:=hb
   rw [htx]at hb
   simp only [List.length_append,List.length_cons,List.length_nil]at hb
   refine Dt rfl ⟨⟨by omega,by rw [Bm];simp⟩,fun y hy=> ?_⟩
   have gy:=hq.symm.trans hy
   cases gy
   refine hx.wt.term rfl w q hl Ayk (by omega) _ ?_
   rw [Qr]
   refine⟨by simp only [List.length_cons,List.length_nil];omega,by simp only [List.length_append,List.length_cons,List.length_nil];omega,by simp only [List.length_append,List.length_cons,List.length_nil];omega,⟨by omega,by rw [Bm];simp;omega⟩,i+1+x.fl.length,post,?_,rfl,htx.symm⟩
   have hdr:w.l.drop (i+1)=(x::rs).flatMap R.fl++post:=hdr
   rw [←List.drop_drop,hdr,List.flatMap_cons,List.append_assoc,List.drop_left]
 ·rintro k1 fr ⟨p,post,hp,rfl,rfl⟩
  exact h p post hp
theorem Ait {op:Int} {s:Str} {a:Int} {w0:Bool} {ds:List UInt8} {rs:List R} (h:(op=34/\Tk.Be s=true/\ds=[82,66])\/(op=35/\s=[]/\ds=[82,69,66])\/(op=36/\s=[]/\ds=[69,66]))
 (hf:F2 W2 (gs w0++ds) rs):StW Ct (Ar ⟨op,s,wn w0,wr (gs w0++ds).length,a⟩ rs):=by
 intro w i d hl ha hd hdn hb K hK
 obtain⟨g,rs,rfl,hg,hf⟩:=F2.split hf
 rcases h with⟨rfl,hn,rfl⟩|⟨rfl,rfl,rfl⟩|⟨rfl,rfl,rfl⟩
 ·obtain⟨r,b,rfl,hr,hbl⟩:=F2.two hf
  rw [Ar7 s _ a w0 g hg]at hK hb
  have hfl:=Qs (x:=⟨34,s,wn w0,wr (gs w0++[82,66]).length,a⟩) (rs:=g++[r,b]) (b:=b) (by simp)
  have hle:=Vz d (Eb ⟨34,s,wn w0,wr (gs w0++[82,66]).length,a⟩ (g++[r,b])) (r.tm++[sps,.tk G8,sps,.tk s]) b
  have Be0:=hle
  rw [Alv]at Be0
  refine V0 (by decide) hg hf w i hl ha (by omega) K fun p post hp=> ?_
  obtain⟨q,hq,Ayk⟩:=C1 w.l _ p post hp 0 _ rfl
  obtain⟨q2,hq2,Be1⟩:=C1 w.l _ p post hp 1 _ rfl
  refine Dt rfl ⟨⟨by omega,by rw [Bm];simp⟩,fun y hy=>⟨⟨by omega,by rw [Bm];simp⟩,fun x hx=> ?_⟩⟩
  have gx:=hq.symm.trans hx
  cases gx
  have gy:=hq2.symm.trans hy
  cases gy
  refine hr.rf rfl w q hl Ayk (by omega) _ ?_
  exact Z3 (hbl.bl rfl) w q2 d hl Be1 hd (by omega) _ _ (by rw [Cr,Cr];simp [tx,Ck.tx,sps,G8]) (by simp) (by exact hb) _ hK
 ·obtain⟨r,e,b,rfl,hr,he,hbl⟩:=F2.three hf
  rw [Ang [] _ a w0 g hg]at hK hb
  have hfl:=Qs (x:=⟨35,[],wn w0,wr (gs w0++[82,69,66]).length,a⟩) (rs:=g++[r,e,b]) (b:=b) (by simp)
  have hle:=Vz d (Eb ⟨35,[],wn w0,wr (gs w0++[82,69,66]).length,a⟩ (g++[r,e,b])) (r.tm++(sps::.tk Db::sps::e.tm)) b
  have Be0:=hle
  rw [Alv,Qt,Qt,Qt]at Be0
  refine V0 (by decide) hg hf w i hl ha (by omega) K fun p post hp=> ?_
  obtain⟨q,hq,Ayk⟩:=C1 w.l _ p post hp 0 _ rfl
  obtain⟨q1,hq1,Ca3⟩:=C1 w.l _ p post hp 1 _ rfl
  obtain⟨q2,hq2,Be1⟩:=C1 w.l _ p post hp 2 _ rfl
  refine A8 rfl (Dt rfl ⟨⟨by omega,by rw [Bm];simp⟩,fun y hy=>⟨⟨by omega,by rw [Bm];simp⟩,fun x hx=>⟨⟨by omega,by rw [Bm];simp⟩,fun z hz=> ?_⟩⟩⟩)
  have gx:=hq.symm.trans hx
  cases gx
  have gy:=hq2.symm.trans hy
  cases gy
  have gz:=hq1.symm.trans hz
  cases gz
  refine hr.rf rfl w q hl Ayk (by omega) _ ?_
  refine he.wt.term rfl w q1 hl Ca3 (by omega) _ ?_
  exact Z3 (hbl.bl rfl) w q2 d hl Be1 hd (by omega) _ _ (by rw [Cr,Cr,Cl,Cl,Cl];simp [Ck.tx,sps,Db]) (by simp) (by exact hb) _ hK
 ·obtain⟨e,b,rfl,he,hbl⟩:=F2.two hf
  rw [Apl [] _ a w0 g hg]at hK hb
  have hfl:=Qs (x:=⟨36,[],wn w0,wr (gs w0++[69,66]).length,a⟩) (rs:=g++[e,b]) (b:=b) (by simp)
  have hle:=Vz d (Eb ⟨36,[],wn w0,wr (gs w0++[69,66]).length,a⟩ (g++[e,b])) (.tk Ea::sps::e.tm) b
  have Be0:=hle
  rw [Qt,Qt]at Be0
  refine V0 (by decide) hg hf w i hl ha (by omega) K fun p post hp=> ?_
  obtain⟨q,hq,Ayk⟩:=C1 w.l _ p post hp 0 _ rfl
  obtain⟨q2,hq2,Be1⟩:=C1 w.l _ p post hp 1 _ rfl
  refine A8 rfl (A8 rfl (Dt rfl ⟨⟨by omega,by rw [Bm];simp⟩,fun y hy=>⟨⟨by omega,by rw [Bm];simp⟩,fun x hx=> ?_⟩⟩))
  have gx:=hq.symm.trans hx
  cases gx
  have gy:=hq2.symm.trans hy
  cases gy
  refine he.wt.term rfl w q hl Ayk (by omega) _ ?_
  exact Z3 (hbl.bl rfl) w q2 d hl Be1 hd (by omega) _ _ (by rw [Cr,Cl,Cl];simp [Ck.tx,sps,Ea]) (by simp) (by exact hb) _ hK
end Go.Proofs.YtcakelelfklhdaaGreatDoor
namespace Go.Proofs.YtcakelelfklhdaaGreatDoor
open Go.Vc Go.Lv Go.Ty Go.Tr Go.Tk Go.Tm
theorem Ar8 (a:Int) (b:R) (d:Nat):(Ar ⟨41,[],0,1,a⟩ [b]).st d=Bi d [.tk Ny] b:=by
 rw [Kq]
 unfold stN
 dsimp only
 simp only [Int.reduceEq,if_false,if_true]
 rfl
theorem Anj {a:Int} {rs:List R} (hf:F2 W2 [66] rs):StW Dy (Ar ⟨41,[],0,1,a⟩ rs):=by
 intro w i d hl ha hd hdn hb K hK
 have hea:=Ek (Kg hf)
 obtain⟨b,rfl,hr⟩:=F2.one hf
 obtain⟨hi,hx,post,hdr⟩:=ha.node
 obtain⟨po,hpo⟩:=ha
 have hfl:=Qs (x:=⟨41,[],0,1,a⟩) (rs:=[b]) (b:=b) (by simp)
 rw [Ar8]at hK hb
 refine Gw _ _ _ ?_
 unfold Fj
 refine⟨fun k o nm n _ _=>k=plc (i+1) [b]/\o=41,⟨⟨by omega,by omega⟩,fun y hy=>Ee _ _ hl _ ?_⟩,?_⟩
 ·rw [Int.toNat_natCast,hx]at hy
  cases hy
  exact⟨Dd rfl hea hpo,rfl⟩
 rintro k o nm n _ _ ⟨rfl,rfl⟩
 obtain⟨q,hq,Ayk⟩:=C1 w.l _ (i+1) post hdr 0 _ rfl
 refine A8 rfl (A8 rfl ⟨⟨by omega,by rw [Bm];simp⟩,fun x hx=> ?_⟩)
 have gx:=hq.symm.trans hx
 cases gx
 exact Z3 (hr.bl rfl) w q d hl Ayk hd (by omega) _ [.tk Ny] rfl (by simp) (by exact hb) _ hK
theorem Ar9 (s:Str) (n a:Int) (d:Nat):(Ar ⟨38,s,n,0,a⟩ []).st d=line d (.tk Gf::sps::.tk s::(if 0<n then [.tk sLS,.tk (Lf n),.tk sRS,.tk Av]else [.tk Av])):=by
 rw [Kq]
 unfold stN
 dsimp only
 simp only [Int.reduceEq,if_false,if_true]
theorem Ank {s:Str} {n a:Int} {rs:List R} (h0:0<=n) (h1:n<=16) (hf:F2 W2 [] rs):StW Dy (Ar ⟨38,s,n,0,a⟩ rs):=by
 intro w i d hl ha hd hdn hb K hK
 have hea:=Ek (Kg hf)
 cases F2.nil hf
 obtain⟨hi,hx,post,hdr⟩:=ha.node
 obtain⟨po,hpo⟩:=ha
 rw [Ar9]at hK hb
 refine Gw _ _ _ ?_
 unfold Fj
 refine⟨fun k o nm n' _ _=>k=plc (i+1) []/\o=38/\nm=s/\n'=n,⟨⟨by omega,by omega⟩,fun y hy=>Ee _ _ hl _ ?_⟩,?_⟩
 ·rw [Int.toNat_natCast,hx]at hy
  cases hy
  exact⟨Dd rfl hea hpo,rfl,rfl,rfl⟩
 rintro k o nm n' _ _ ⟨rfl,rfl,rfl,rfl⟩
 refine Dt rfl (Ab (fun e=> ?_) fun e=> ?_)
 ·have e:n'>0:=by simpa using e
  rw [if_pos (by omega)]at hK hb
  refine Als n' ⟨by omega,by omega⟩ _ ?_
  rw [Aiq (by omega) (by omega)]
  exact Hl w _ _ (by simp [tx,Ck.tx,sps,Gf,sLS,sRS,Av]) d hd (by omega) (by simp) (by exact hb) _ hK
 ·have e:¬n'>0:=by simpa using e
  rw [if_neg (by omega)]at hK hb
  exact Hl w _ _ (by simp [tx,Ck.tx,sps,Gf,Av]) d hd (by omega) (by simp) (by exact hb) _ hK
theorem Asa (s:Str) (k a:Int) (ps:List R) (b:R) (d:Nat):(Ar ⟨40,s,0,k,a⟩ (ps++[b])).st d=Bi d (.tk Hk::sps::.tk s::.tk sLP::(Bx (ps.map R.tm)++[.tk sRP])) b:=by
 rw [Kq]
 unfold stN
 dsimp only
 simp only [Int.reduceEq,if_false,if_true]
 have e1:(ps++[b]).length-1=ps.length:=by simp
 have e2:kd (ps++[b]) ps.length=b:=by unfold kd;simp [List.getD_eq_getElem?_getD]
 rw [e1,e2,List.take_left]
theorem Z5:∀(ps qs:List R) (p:Nat),(plc p (ps++qs)).take ps.length=plc p ps
 |[],_,_=>by simp [plc]
 |r::ps,qs,p=>by
  rw [List.cons_append,plc,List.length_cons,List.take_succ_cons,Z5 ps qs,plc]
theorem Anl {s:Str} {k:Nat} {a:Int} {rs:List R} (hk:k+1<2^39) (hf:F2 W2 (List.replicate k 80++[66]) rs):StW Dy (Ar ⟨40,s,0,wr (k+1),a⟩ rs):=by
 intro w i d hl ha hd hdn hb K hK
 have hea:=Ek (Kg hf)
 have Cje:=F2.len hf
 obtain⟨ps,bs,rfl,hps,hbs⟩:=F2.split hf
 obtain⟨b,rfl,hbl⟩:=F2.one hbs
 obtain⟨hlen,Aw4⟩:=Z4 hps
 obtain⟨hi,hx,post,hdr⟩:=ha.node
 obtain⟨po,hpo⟩:=ha
 have hfl:=Qs (x:=⟨40,s,0,wr (k+1),a⟩) (rs:=ps++[b]) (b:=b) (by simp)
 rw [Asa]at hK hb
 have Ci2:=Z2 d (.tk Hk::sps::.tk s::.tk sLP::(Bx (ps.map R.tm)++[.tk sRP])) b
 have Bf1:(tx (Bx (ps.map R.tm))).length<=(tx (.tk Hk::sps::.tk s::.tk sLP::(Bx (ps.map R.tm)++[.tk sRP]))).length:=by
  rw [Cl,Cl,Cl,Cl,Cr];simp only [List.length_append];omega
 have hcm:(tx (Bx (ps.map R.tm))).length<2^30:=by omega
 have hkk:(⟨40,s,0,wr (k+1),a⟩:Ai).kids=((ps++[b]).length:Int):=by
  show wr (k+1)=_
  rw [List.length_append,hlen];exact Mh (by omega)
 have hrs:(ps++[b]).length<=100000:=by
  have h1:=Oz hea
  have h2:=congrArg List.length hdr
  rw [List.length_drop,List.length_append]at h2
  omega
 rw [List.length_append,List.length_singleton]at hrs
 refine Gw _ _ _ ?_
 unfold Fj
 refine⟨fun kk o nm n _ _=>kk=plc (i+1) (ps++[b])/\o=40/\nm=s,⟨⟨by omega,by omega⟩,fun y hy=>Ee _ _ hl _ ?_⟩,?_⟩
 ·rw [Int.toNat_natCast,hx]at hy
  cases hy
  exact⟨Dd hkk hea hpo,rfl,rfl⟩
 rintro kk o nm n _ _ ⟨rfl,rfl,rfl⟩
 have hw:IntKind.i64.wrap (((plc (i+1) (ps++[b])).length:Int)-1)=(ps.length:Int):=by
  rw [Bm,List.length_append,List.length_singleton,Ax (by omega) (by omega)];omega
 rw [hw,Int.toNat_natCast,Z5]
 simp only [Bm,List.length_append,List.length_singleton]
 refine A8 rfl (Dt rfl ⟨⟨by omega,by omega⟩,⟨by omega,by omega⟩,?_⟩)
 refine⟨fun names x n=>∃j:Nat,x=j/\j<=ps.length/\names=(ps.take j).map (fun r=>tx r.tm)/\n=ps.length-j,⟨_,0,rfl,by omega,rfl,rfl⟩,?_⟩
 rintro names x n ⟨j,rfl,hj,rfl,rfl⟩
 refine Ab (fun e=> ?_) fun e=> ?_
 ·have e:j<ps.length:=by simpa using e
  refine⟨⟨by omega,by omega⟩,fun x4 h4=> ?_⟩
  have hr:(ps++[b])[j]? =some ps[j]:=by rw [List.getElem?_append_left e];exact List.getElem?_eq_getElem e
  obtain⟨q,hq,hat⟩:=C1 w.l _ (i+1) post hdr j _ hr
  rw [Int.toNat_natCast,←Z5 ps [b],List.getElem?_take,if_pos e,hq]at h4
  cases h4
  obtain⟨y,ys,hy,hyo⟩:=(Aw4 _ (List.getElem_mem e)).pm rfl
  rw [hy]at hat
  obtain⟨hqi,hqx,_⟩:=hat.node
  refine⟨⟨by omega,by omega⟩,fun x5 h5=> ?_⟩
  rw [Int.toNat_natCast,hqx]at h5
  cases h5
  refine⟨by simp only [List.length_map,List.length_take,List.length_singleton];omega,ps.length-(j+1),by omega,j+1,by rw [Ax (by omega) (by omega)];omega,by omega,?_,rfl⟩
  rw [List.take_add_one,List.getElem?_eq_getElem e,List.map_append]
  show _=_++[tx ps[j].tm]
  rw [hy]
  congr 2
  show y.name=tx (tmN y ys)
  unfold tmN
  rw [if_neg (by omega),if_pos (.inr hyo)]
  simp [tx,Ck.tx]
 ·have e:¬j<ps.length:=by simpa using e
  have ht:ps.take j=ps:=List.take_of_length_le (by omega)
  rw [ht]
  refine⟨⟨by omega,by omega⟩,fun x6 h6=> ?_⟩
  have hr:(ps++[b])[ps.length]? =some b:=by simp
  obtain⟨q,hq,hat⟩:=C1 w.l _ (i+1) post hdr ps.length _ hr
  have gx:=hq.symm.trans h6
  cases gx
  have hj2:ps.map (fun r=>tx r.tm)=(ps.map R.tm).map tx:=by rw [List.map_map];rfl
  rw [hj2]
  have htc:=Vy (ps.map R.tm)
  refine Akl _ _ (by simp only [List.length_map];omega) (by rw [←htc];omega) _ ?_
  rw [←htc]
  exact Z3 (hbl.bl rfl) w q d hl hat hd (by omega) _ _ (by simp [tx,Ck.tx,sps,Hk,sLP,sRP]) (by simp) (by exact hb) _ hK
end Go.Proofs.YtcakelelfklhdaaGreatDoor
namespace Go.Proofs.YtcakelelfklhdaaGreatDoor
open Go.Vc Go.Lv Go.Ty Go.Tk Go.Tm
def Aiu (v:Str):Bool:=match v with|c::_=>Tk.Bj c|[]=>false
def eqs (v:Str):Bool:=decide (v=[61]\/v=[33]\/v=[60]\/v=[62])
def okH (v:Str) (r:Str):Prop:=match r with|[]=>True|c::_=>(Aiu v=true->Tk.Bj c=false)/\(eqs v=true->c≠61)
def kdS (v:Str):Int:=match v with|c::_=>if Hy c then(if decide (v∈words)then 3 else 1)else if C3 c then 2 else 4|[]=>0
def nvS (v:Str):Int:=match v with|c::_=>if C3 c then((Je v:Nat):Int)else 0|[]=>0
theorem N0 (c:UInt8) (v:Str):kdS (c::v)=if Hy c then(if decide (c::v∈words)then 3 else 1)else if C3 c then 2 else 4:=rfl
theorem Uo (c:UInt8) (v:Str):nvS (c::v)=if C3 c then((Je (c::v):Nat):Int)else 0:=rfl
structure GT (v:Str):Prop where
 ne:v≠[]
 hd:∀c,v.head? =some c->c≠10/\c≠35/\c≠9/\c≠13/\c≠32
 tok:∀(r:Str) (p:Nat),okH v r->Mc (v++r) p=(⟨kdS v,v,nvS v,p⟩,p+v.length,0)
theorem M8 {p:UInt8->Bool} :∀ {v r:Str},v.all p=true->(match r with|[]=>True|c::_=>p c=false)->(v++r).takeWhile p=v
 |[],[],_,_=>rfl
 |[],c::r,_,h=>by
  show(c::r).takeWhile p=[]
  rw [List.takeWhile_cons,h];rfl
 |a::v,r,h,k=>by
  rw [List.all_cons,Bool.and_eq_true]at h
  rw [List.cons_append,List.takeWhile_cons,h.1,if_pos rfl,M8 h.2 k]
theorem Qu {c:UInt8} (h:Hy c=true):Tk.Bj c=true:=by
 unfold Tk.Bj O6;unfold Hy at h;rw [h];rfl
theorem Up {c:UInt8} (h:C3 c=true):Tk.Bj c=true:=by
 unfold Tk.Bj O6;unfold C3 at h;rw [h];simp
theorem X7 {c:UInt8} (h:C3 c=true):Hy c=false:=by
 unfold C3 T1 at h
 simp only [Bool.and_eq_true,decide_eq_true_eq]at h
 have:=h.1;have:=h.2
 unfold Hy Za
 simp only [Bool.or_eq_false_iff,Bool.and_eq_false_iff,decide_eq_false_iff_not,beq_eq_false_iff_ne]
 omega
theorem Aiv {c:UInt8} (h:Tk.Bj c=true):c≠10/\c≠35/\c≠9/\c≠13/\c≠32:=by
 refine⟨?_,?_,?_,?_,?_⟩<;>(rintro rfl;revert h;decide)
theorem Em {c:UInt8} {v:Str} (h1:Hy c=true) (h2:v.all Tk.Bj=true) (h3:v.length<=15):GT (c::v) where
 ne:=by simp
 hd:=fun d hd=>by
  have:d=c:=by simpa using hd.symm
  rw [this];exact Aiv (Qu h1)
 tok:=fun r p hr=>by
  have hw:((c::v)++r).takeWhile Tk.Bj=c::v:=M8 (by rw [List.all_cons,Qu h1,h2];rfl) (by
   cases r with
   |nil=>trivial
   |cons d r=>exact hr.1 (by unfold Aiu;exact Qu h1))
  rw [List.cons_append]at hw⊢
  rw [Hj,if_pos h1,hw,if_neg (by simp only [List.length_cons];omega)]
  have hdg:C3 c=false:=by
   cases hd:C3 c with
   |false=>rfl
   |true=>rw [X7 hd]at h1;cases h1
  rw [N0,Uo,hdg,if_pos h1,if_neg (show¬(false=true) by simp)]
theorem E8 {s:Str} (h:Tk.Be s=true):GT s/\kdS s=1:=by
 cases s with
 |nil=>exact absurd h (by decide)
 |cons c v=>
  rw [Oq]at h
  simp only [Bool.and_eq_true,decide_eq_true_eq,Bool.not_eq_true',decide_eq_false_iff_not,List.length_cons,List.all_cons]at h
  refine⟨Em h.2.1 h.2.2.1.2 (by omega),?_⟩
  rw [N0,if_pos h.2.1,if_neg (by simpa using h.2.2.2)]
theorem Aup {c:UInt8} {v:Str} (h1:(c::v).all C3=true) (h2:v.length<=17) (h3:c=48->v=[]):GT (c::v) where
 ne:=by simp
 hd:=fun d hd=>by
  have:d=c:=by simpa using hd.symm
  rw [this];rw [List.all_cons,Bool.and_eq_true]at h1;exact Aiv (Up h1.1)
 tok:=fun r p hr=>by
  have hc:C3 c=true:=by rw [List.all_cons,Bool.and_eq_true]at h1;exact h1.1
  have hr':∀d r',r=d::r'->Tk.Bj d=false:=fun d r' e=>by subst e;exact hr.1 (by unfold Aiu;exact Up hc)
  have hw:((c::v)++r).takeWhile C3=c::v:=M8 h1 (by
   cases r with
   |nil=>trivial
   |cons d r=>
    have:=hr' d r rfl
    show C3 d=false
    cases hd:C3 d with
    |false=>rfl
    |true=>rw [Up hd]at this;cases this)
  have hdr:((c::v)++r).drop (c::v).length=r:=List.drop_left
  rw [List.cons_append]at hw hdr⊢
  have hn:Fa (c::v) r=(((Je (c::v):Nat):Int),(0:Int)):=by
   unfold Fa
   rw [if_neg (by
    simp only [List.getD_cons_zero,Bool.and_eq_true,beq_iff_eq,decide_eq_true_eq,List.length_cons,not_and,Nat.not_lt]
    intro e;rw [h3 e];simp),if_neg (by simp only [List.length_cons];omega),if_neg (by
    cases r with
    |nil=>simp [X3]
    |cons d r=>
     have:=hr' d r rfl
     unfold X3
     intro e
     rw [Qu e]at this;cases this)]
  rw [Hj,if_neg (by rw [X7 hc];simp),if_pos hc,hw,hdr,hn,if_pos rfl]
  rw [N0,Uo,if_neg (by rw [X7 hc];simp),if_pos hc,if_pos hc]
theorem Qv (a b c d:UInt8) (r:Str):Gt [a,b] (c::d::r)=((c==a)&&(d==b)):=by
 unfold Gt
 rw [Bool.eq_iff_iff];simp
theorem Av5 (a b c:UInt8):Gt [a,b] [c]=false:=by
 unfold Gt
 cases h:(List.take [a,b].length [c]==[a,b])with
 |false=>rfl
 |true=>simp at h
theorem Apm {c:UInt8} {r:Str} (hc:Le.contains c=true) (hr:okH [c] r):Gu (c::r)=[c]:=by
 have h2:Mb.find? (Gt · (c::r))=none:=by
  rw [List.find?_eq_none]
  intro s hs
  cases r with
  |nil=>
   simp only [Mb,List.mem_cons,List.not_mem_nil,or_false]at hs
   rcases hs with rfl|rfl|rfl|rfl|rfl|rfl<;>rw [Av5]<;>simp
  |cons d r=>
   have hd:=hr.2
   simp only [Mb,List.mem_cons,List.not_mem_nil,or_false]at hs
   rcases hs with rfl|rfl|rfl|rfl|rfl|rfl<;>rw [Qv]<;>simp only [Bool.and_eq_true,beq_iff_eq,not_and]<;>rintro rfl
   ·exact hd (by decide)
   ·exact hd (by decide)
   ·exact hd (by decide)
   ·exact hd (by decide)
   ·exact absurd hc (by decide)
   ·exact absurd hc (by decide)
 unfold Gu
 rw [h2]
 show(if Le.contains c=true then [c]else [])=[c]
 rw [if_pos hc]
theorem Aiw {c:UInt8} (hc:Le.contains c=true):Hy c=false/\C3 c=false/\c≠10/\c≠35/\c≠9/\c≠13/\c≠32:=by
 have:∀d∈Le,Hy d=false/\C3 d=false/\d≠10/\d≠35/\d≠9/\d≠13/\d≠32:=by decide
 exact this c (List.contains_iff_mem.1 hc)
theorem E4 {c:UInt8} (hc:Le.contains c=true):GT [c] where
 ne:=by simp
 hd:=fun d hd=>by
  have:d=c:=by simpa using hd.symm
  rw [this];exact(Aiw hc).2.2
 tok:=fun r p hr=>by
  obtain⟨h1,h2,_⟩:=Aiw hc
  show Mc (c::r) p=_
  rw [Hj,if_neg (by rw [h1];simp),if_neg (by rw [h2];simp),Apm hc hr,if_neg (by simp)]
  rw [N0,Uo,if_neg (by rw [h1];simp),if_neg (by rw [h2];simp),if_neg (by rw [h2];simp)]
theorem Apn {v:Str} (hv:v∈Mb):GT v where
 ne:=by rintro rfl;revert hv;decide
 hd:=by
  have:∀v∈Mb,∀c,v.head? =some c->c≠10/\c≠35/\c≠9/\c≠13/\c≠32:=by
   intro v hv c hc
   simp only [Mb,List.mem_cons,List.not_mem_nil,or_false]at hv
   rcases hv with rfl|rfl|rfl|rfl|rfl|rfl<;>cases hc<;>decide
  exact this v hv
 tok:=fun r p hr=>by
  simp only [Mb,List.mem_cons,List.not_mem_nil,or_false]at hv
  rcases hv with rfl|rfl|rfl|rfl|rfl|rfl<;>
  ·show Mc (_::_::r) p=_
   rw [Hj,if_neg (by decide),if_neg (by decide)]
   simp [Gu,Mb,Qv,List.find?,kdS,nvS,Hy,Za,C3,T1]
def Fx:List Ck->Str->Prop
 |[],_=>True
 | .sp c::l,r=>(c=9\/c=10\/c=32)/\Fx l r
 | .tk v::l,r=>GT v/\okH v (tx l++r)/\Fx l r
theorem B7:∀ {a b:List Ck} {r:Str},Fx (a++b) r↔Fx a (tx b++r)/\Fx b r
 |[],b,r=>by simp [Fx]
 | .sp c::a,b,r=>by
  show((c=9\/c=10\/c=32)/\Fx (a++b) r)↔((c=9\/c=10\/c=32)/\Fx a (tx b++r))/\Fx b r
  rw [B7,and_assoc]
 | .tk v::a,b,r=>by
  show(GT v/\okH v (tx (a++b)++r)/\Fx (a++b) r)↔(GT v/\okH v (tx a++(tx b++r))/\Fx a (tx b++r))/\Fx b r
  rw [B7,Cr,List.append_assoc,and_assoc,and_assoc]
def Uq:List Ck->Nat->List Tok
 |[],_=>[]
 | .sp _::l,a=>Uq l (a+1)
 | .tk v::l,a=>⟨kdS v,v,nvS v,a⟩::Uq l (a+v.length)
theorem Ako {s:Str} {a:Nat} {c:UInt8} {l:Str} (h:s.drop a=c::l) (hc:c=9\/c=10\/c=32):C4 s (a:Int)=C4 s ((a+1:Nat):Int):=by
 have hlt:a<s.length:=by
  have:=congrArg List.length h
  simp at this;omega
 have hd:s.drop (a+1)=l:=by rw [←List.drop_drop,h];rfl
 have hb:Dk false (c::l)=Dk false l+1:=by
  rcases hc with rfl|rfl|rfl<;>simp [Dk]
 unfold C4
 rw [if_neg (by omega),if_neg (by omega)]
 simp only [Int.toNat_natCast]
 rw [h,hd,hb,show a+(Dk false l+1)=a+1+Dk false l by omega]
theorem Apo {s:Str} {a:Nat} {v r:Str} (h:s.drop a=v++r) (hv:GT v) (hr:okH v r):C4 s (a:Int)=(⟨kdS v,v,nvS v,a⟩,a+v.length,0):=by
 have hlt:a<s.length:=by
  have:=congrArg List.length h
  have hp:=List.length_pos_iff.2 hv.ne
  simp at this;omega
 have hb:Dk false (v++r)=0:=by
  cases v with
  |nil=>exact absurd rfl hv.ne
  |cons c v=>
   obtain⟨h1,h2,h3,h4,h5⟩:=hv.hd c rfl
   simp [Dk,h1,h2,h3,h4,h5]
 unfold C4
 rw [if_neg (by omega)]
 simp only [Int.toNat_natCast]
 rw [h,hb,Nat.add_zero,h,hv.tok r a hr]
theorem Akp (s:Str):∀(cs:List Ck) (a f:Nat) (acc:List Tok),a<=s.length->s.drop a=tx cs->Fx cs []->s.length<f+a->Fz s f a acc=(acc++(Uq cs a++[⟨0,[],0,s.length⟩]),(s.length:Int),0)
 |_,a,0,_,h1,_,_,h4=>by omega
 |[],a,f+1,acc,h1,h2,_,_=>by
  have ha:a=s.length:=by
   have:=congrArg List.length h2
   simp [tx]at this;omega
  have hn:C4 s (a:Int)=(⟨0,[],0,a⟩,a,0):=by
   unfold C4
   rw [if_neg (by omega)]
   simp only [Int.toNat_natCast]
   rw [h2]
   show Mc (s.drop (a+Dk false [])) _=_
   rw [show Dk false []=0 by rfl,Nat.add_zero,h2]
   rfl
  unfold Fz
  rw [hn,if_neg (by simp),if_pos rfl]
  simp only [Uq,List.nil_append,←ha]
 | .sp c::cs,a,f+1,acc,h1,h2,h3,h4=>by
  rw [Cl]at h2
  have hlt:a<s.length:=by
   have:=congrArg List.length h2
   simp [Ck.tx]at this;omega
  have h:=Akp s cs (a+1) (f+1) acc (by omega) (by rw [←List.drop_drop,h2];rfl) h3.2 (by omega)
  have e:=Ako (c:=c) h2 h3.1
  unfold Fz at h⊢
  rw [e]
  exact h
 | .tk v::cs,a,f+1,acc,h1,h2,h3,h4=>by
  rw [Cl]at h2
  obtain⟨hg,ho,hs⟩:=h3
  rw [List.append_nil]at ho
  have hp:=List.length_pos_iff.2 hg.ne
  have hle:a+v.length<=s.length:=by
   have:=congrArg List.length h2
   simp [Ck.tx]at this;omega
  have h:=Akp s cs (a+v.length) f (acc++[⟨kdS v,v,nvS v,a⟩]) hle (by rw [←List.drop_drop,h2];exact List.drop_left) hs (by omega)
  have e:C4 s (a:Int)=(⟨kdS v,v,nvS v,a⟩,a+v.length,0):=Apo h2 hg ho
  have hk:kdS v≠0:=by
   cases v with
   |nil=>exact absurd rfl hg.ne
   |cons c v=>rw [N0];repeat' split
              all_goals decide
  unfold Fz
  rw [e]
  dsimp only
  rw [if_neg (by simp),if_neg hk]
  show Fz s f (a+v.length) _=_
  rw [h]
  simp only [Uq,List.append_assoc,List.singleton_append,List.cons_append,List.nil_append]
theorem Asb (cs:List Ck) (h:Fx cs []) (hl:(tx cs).length<=65536):Oo (tx cs)=(Uq cs 0++[⟨0,[],0,(tx cs).length⟩],((tx cs).length:Int),0):=by
 unfold Oo
 rw [if_neg (by omega)]
 have:=Akp (tx cs) cs 0 ((tx cs).length+1) [] (Nat.zero_le _) rfl h (by omega)
 rw [List.nil_append]at this
 exact this
end Go.Proofs.YtcakelelfklhdaaGreatDoor
namespace Go.Proofs.YtcakelelfklhdaaGreatDoor
open Go.Vc Go.Lv Go.Ty Go.Tk Go.Tm
def Aix (s:Str):Prop:=match s with|[]=>True|c::_=>Tk.Bj c=false/\c≠61
theorem Fm {v s:Str} (h:Aix s):okH v s:=by
 cases s with
 |nil=>trivial
 |cons c s=>exact⟨fun _=>h.1,fun _=>h.2⟩
theorem Asc {v:Str} (h1:Aiu v=false) (h2:eqs v=false) (s:Str):okH v s:=by
 cases s with
 |nil=>trivial
 |cons c s=>exact⟨fun h=>(by rw [h1]at h;cases h),fun h=>(by rw [h2]at h;cases h)⟩
structure Abv (l:List Ck):Prop where
 sep:∀s,Aix s->Fx l s
 beg:∃c t,tx l=c::t/\c≠61
theorem Apq:GT sLB:=E4 (by decide)
theorem Apr:GT sRB:=E4 (by decide)
theorem Asd:GT sLP:=E4 (by decide)
theorem Ase:GT sRP:=E4 (by decide)
theorem Av6:GT sLS:=E4 (by decide)
theorem Av7:GT sRS:=E4 (by decide)
theorem Qw:GT Av:=E4 (by decide)
theorem Asf:GT B2:=E4 (by decide)
theorem Asg:GT D8:=E4 (by decide)
theorem Akq:GT Db:=E4 (by decide)
theorem Aps:GT G8:=E4 (by decide)
theorem Auq:GT sEq:=E4 (by decide)
theorem Av8:GT Pl:=Em (by decide) (by decide) (by decide)
theorem Ash:GT Fc:=Em (by decide) (by decide) (by decide)
theorem Asi:GT Km:=Em (by decide) (by decide) (by decide)
theorem Asj:GT Kn:=Em (by decide) (by decide) (by decide)
theorem Apt:GT Hr:=Em (by decide) (by decide) (by decide)
theorem Aur:GT Nw:=Em (by decide) (by decide) (by decide)
theorem Aus:GT Nx:=Em (by decide) (by decide) (by decide)
theorem Asl:GT F9:=Em (by decide) (by decide) (by decide)
theorem Av9:GT sIf:=Em (by decide) (by decide) (by decide)
theorem Apu:GT Dp:=Em (by decide) (by decide) (by decide)
theorem Apv:GT Ej:=Em (by decide) (by decide) (by decide)
theorem Aut:GT B1:=Em (by decide) (by decide) (by decide)
theorem Auu:GT D9:=Em (by decide) (by decide) (by decide)
theorem Alw:GT Ea:=Em (by decide) (by decide) (by decide)
theorem Apw:GT Gm:=Em (by decide) (by decide) (by decide)
theorem Apx:GT Gf:=Em (by decide) (by decide) (by decide)
theorem Auv:GT Hk:=Em (by decide) (by decide) (by decide)
theorem Auw:GT Ny:=Em (by decide) (by decide) (by decide)
theorem ops {op:Int} (h:3<=op/\op<=17):op=3\/op=4\/op=5\/op=6\/op=7\/op=8\/op=9\/op=10\/op=11\/op=12\/op=13\/op=14\/op=15\/op=16\/op=17:=by omega
theorem Awr {op:Int} (h:3<=op/\op<=17):GT (sgO op):=by
 rcases ops h with rfl|rfl|rfl|rfl|rfl|rfl|rfl|rfl|rfl|rfl|rfl|rfl|rfl|rfl|rfl
 all_goals first|exact E4 (by decide)|exact Apn (by decide)
theorem Lh {l:List Ck} {s:Str} (h:Fx l s):Fx (sps::l) s:=⟨.inr (.inr rfl),h⟩
theorem Hm {v:Str} {l:List Ck} {s:Str} (hg:GT v) (ho:okH v (tx l++s)) (h:Fx l s):Fx (.tk v::l) s:=⟨hg,ho,h⟩
theorem B9 {v:Str} {l:List Ck} {s:Str} (hg:GT v) (h:Fx l s):Fx (.tk v::sps::l) s:=⟨hg,Fm ⟨by decide,by decide⟩,Lh h⟩
theorem Cd {v:Str} {l:List Ck} {s:Str} (hg:GT v) (h1:Aiu v=false) (h2:eqs v=false) (h:Fx l s):Fx (.tk v::l) s:=⟨hg,Asc h1 h2 _,h⟩
theorem De {d:Nat} {cs:List Ck} {s:Str} (h:∀s,Fx cs (10::s)):Fx (line d cs) s:=by
 unfold line
 rw [B7]
 refine⟨?_,B7.2 ⟨h s,.inr (.inl rfl),trivial⟩⟩
 generalize tx (cs++[Ck.sp 10])++s=z
 induction d with
 |zero=>trivial
 |succ d ih=>rw [List.replicate_succ];exact⟨.inl rfl,ih⟩
theorem Afo {r:R} (n:Nat) (h:Abv r.tm):Abv (Bw r n):=by
 unfold Bw
 split
 ·refine⟨fun s hs=>Cd Asd rfl rfl (B7.2 ⟨h.sep _ ⟨by decide,by decide⟩,Cd Ase rfl rfl trivial⟩),⟨40,_,rfl,by decide⟩⟩
 ·exact h
theorem Asm {a:List Ck} (b:List Ck) (h:∃c t,tx a=c::t/\c≠61):∃c t,tx (a++b)=c::t/\c≠61:=by
 obtain⟨c,t,h1,h2⟩:=h
 exact⟨c,t++tx b,by rw [Cr,h1];rfl,h2⟩
theorem Apy {c:UInt8} (h:Tk.Bj c=true):c≠61:=by rintro rfl;revert h;decide
theorem X8 {s:Str} (h:Tk.Be s=true):Abv [.tk s] where
 sep:=fun z hz=>Hm (E8 h).1 (Fm hz) trivial
 beg:=by
  cases s with
  |nil=>exact absurd h (by decide)
  |cons c v=>
   rw [Oq]at h
   simp only [Bool.and_eq_true]at h
   exact⟨c,_,rfl,Apy (Qu h.2.1)⟩
theorem Afp:∀(f n:Nat) (acc:Str),n<10^f->0<f->∃c v,Xx f n acc=c::(v++acc)/\(c::v).all C3=true/\v.length+1<=f/\(c=48->v=[]/\n=0)/\∀k,(c::v).foldl (fun n c=>10*n+(c.toNat-48)) k=k*10^(v.length+1)+n
 |0,_,_,_,h=>absurd h (Nat.lt_irrefl _)
 |f+1,n,acc,hn,_=>by
  have hd:∀k,k<10->C3 (UInt8.ofNat (48+k))=true/\(UInt8.ofNat (48+k)).toNat-48=k/\(UInt8.ofNat (48+k)=48->k=0):=by
   intro k hk
   have:(UInt8.ofNat (48+k)).toNat=48+k:=by simp;omega
   refine⟨by unfold C3 T1;rw [this];simp;omega,by omega,fun e=> ?_⟩
   have:=congrArg UInt8.toNat e
   rw [‹(UInt8.ofNat (48+k)).toNat=48+k›]at this
   simp at this;omega
  unfold Xx
  by_cases h10:n<10
  ·obtain⟨h1,h2,h3⟩:=hd n h10
   rw [if_pos h10]
   refine⟨_,[],rfl,by rw [List.all_cons,h1];rfl,by simp,fun e=>⟨rfl,h3 e⟩,fun k=> ?_⟩
   simp only [List.foldl_cons,List.foldl_nil,h2,List.length_nil,Nat.zero_add,Nat.pow_one]
   omega
  ·rw [if_neg h10]
   obtain⟨h1,h2,_⟩:=hd (n%10) (by omega)
   have hf:0<f:=by
    rcases Nat.eq_zero_or_pos f with rfl|h
    ·simp at hn;omega
    ·exact h
   obtain⟨c,v,e,ha,hl,hz,hv⟩:=Afp f (n/10) (UInt8.ofNat (48+n%10)::acc) (by rw [Nat.pow_succ]at hn;omega) hf
   refine⟨c,v++[UInt8.ofNat (48+n%10)],by rw [e];simp,?_,by simp;omega,fun hc=> ?_,fun k=> ?_⟩
   ·rw [←List.cons_append,List.all_append,ha,List.all_cons,h1];rfl
   ·have:=(hz hc).2;omega
   ·rw [←List.cons_append,List.foldl_append,hv k]
    simp only [List.foldl_cons,List.foldl_nil,h2,List.length_append,List.length_cons,List.length_nil]
    have:k*10^(v.length+(0+1)+1)=10*(k*10^(v.length+1)):=by
     rw [show v.length+(0+1)+1=(v.length+1)+1 by omega,Nat.pow_succ 10 (v.length+1),Nat.mul_comm (10^(v.length+1)) 10,Nat.mul_left_comm]
    rw [this]
    omega
theorem Ur:∀(f g n:Nat) (acc:Str),n<10^f->n<10^g->0<f->0<g->Xx f n acc=Xx g n acc
 |0,_,_,_,_,_,h,_=>absurd h (Nat.lt_irrefl _)
 |_,0,_,_,_,_,_,h=>absurd h (Nat.lt_irrefl _)
 |f+1,g+1,n,acc,h1,h2,_,_=>by
  unfold Xx
  split
  ·rfl
  ·rename_i h10
   refine Ur f g _ _ (by rw [Nat.pow_succ]at h1;omega) (by rw [Nat.pow_succ]at h2;omega) ?_ ?_
   ·rcases Nat.eq_zero_or_pos f with rfl|h
    ·simp at h1;omega
    ·exact h
   ·rcases Nat.eq_zero_or_pos g with rfl|h
    ·simp at h2;omega
    ·exact h
structure Awa (n:Int):Prop where
 gt:GT (Lf n)
 kd:kdS (Lf n)=2
 nv:nvS (Lf n)=n
 beg:∃c t,Lf n=c::t/\c≠61
theorem V1 {n:Int} (h0:0<=n) (h1:n<=999999999999999999):Awa n:=by
 have e:Lf n=Xx 18 n.toNat []:=Ur 20 18 _ _ (by omega) (by omega) (by omega) (by omega)
 obtain⟨c,v,e2,ha,hl,hz,hv⟩:=Afp 18 n.toNat [] (by omega) (by omega)
 rw [List.append_nil]at e2
 rw [e2]at e
 have hc:C3 c=true:=by rw [List.all_cons,Bool.and_eq_true]at ha;exact ha.1
 refine⟨?_,?_,?_,?_⟩
 ·rw [e];exact Aup ha (by omega) fun h=>(hz h).1
 ·rw [e,N0,if_neg (by rw [X7 hc];simp),if_pos hc]
 ·rw [e,Uo,if_pos hc]
  have:=hv 0
  unfold Je
  rw [this];omega
 ·exact⟨c,v,e,Apy (Up hc)⟩
end Go.Proofs.YtcakelelfklhdaaGreatDoor
namespace Go.Proofs.YtcakelelfklhdaaGreatDoor
open Go.Vc Go.Lv Go.Ty Go.Tk Go.Tm
def V2 (c:UInt8) (r:R):Prop:=if c=69\/c=82\/c=80 then Abv r.tm else∀d s,Fx (r.st d) s
theorem Gp {c:UInt8} {r:R} (hc:c=69\/c=82\/c=80) (h:V2 c r):Abv r.tm:=by unfold V2 at h;rwa [if_pos hc]at h
theorem La {c:UInt8} {r:R} (hc:¬(c=69\/c=82\/c=80)) (h:V2 c r):∀d s,Fx (r.st d) s:=by unfold V2 at h;rwa [if_neg hc]at h
theorem Z6 {c:UInt8} {r:R} (hc:c=69\/c=82\/c=80) (h:Abv r.tm):V2 c r:=by unfold V2;rwa [if_pos hc]
theorem Hn {c:UInt8} {r:R} (hc:¬(c=69\/c=82\/c=80)) (h:∀d s,Fx (r.st d) s):V2 c r:=by unfold V2;rwa [if_neg hc]
theorem Qx {d:Nat} {s:Str} :∀ {ks:List R},(∀k∈ks,∀d s,Fx (k.st d) s)->Fx (Br d ks) s
 |[],_=>trivial
 |k::ks,h=>by
  show Fx (k.st d++Br d ks) s
  exact B7.2 ⟨h k (by simp) _ _,Qx (fun k hk=>h k (by simp [hk]))⟩
theorem Sz:∀ {l:List (List Ck)},(∀a∈l,Abv a)->∀ {s},Aix s->Fx (Bx l) s
 |[],_,_,_=>trivial
 |[a],h,_,hs=>(h a (by simp)).sep _ hs
 |a::b::l,h,s,hs=>by
  show Fx (a++(.tk B2::sps::Bx (b::l))) s
  refine B7.2 ⟨(h a (by simp)).sep _ ⟨by decide,by decide⟩,B9 Asf (Sz (fun x hx=>h x (List.mem_cons_of_mem _ hx)) hs)⟩
theorem N2 {d:Nat} {front:List Ck} {r:R} {s:Str} (hf:∀s,Aix s->Fx front s) (hr:∀d s,Fx (r.st d) s):Fx (Bi d front r) s:=by
 unfold Bi
 refine B7.2 ⟨De (fun s=> ?_),B7.2 ⟨hr _ _,De (fun s=>Cd Apr rfl rfl trivial)⟩⟩
 exact B7.2 ⟨hf _ ⟨by decide,by decide⟩,Lh (Cd Apq rfl rfl trivial)⟩
theorem N3 {l:List Ck} {s:Str} (h:Abv l):Fx (l++[.tk Av]) s:=
 B7.2 ⟨h.sep _ ⟨by decide,by decide⟩,Cd Qw rfl rfl trivial⟩
theorem Anm {x:Ai} {ks:List R} {s:Str} (h:x.n=1->Abv (kd ks 0).tm):Fx (Eb x ks) s:=by
 unfold Eb
 refine B9 Aut ?_
 split
 ·rename_i h1
  exact B9 Auu (B7.2 ⟨(h h1).sep _ ⟨by decide,by decide⟩,Cd Asg rfl rfl (Lh trivial)⟩)
 ·trivial
theorem Kr {x:Ai} {ks:List R} {l:List Ck} {r:R} (h:x.n=1->Abv (kd ks 0).tm) (hl:∀s,Aix s->Fx l s) (hr:∀d s,Fx (r.st d) s) {d:Nat} {s:Str} :Fx (Bi d (Eb x ks++l) r) s:=
 N2 (fun s hs=>B7.2 ⟨Anm h,hl s hs⟩) hr
theorem Apz (c:UInt8) (x:Ai) (ds:List UInt8) (ks:List R) (h:OkN c x ds) (hk:F2 V2 ds ks):V2 c (Ar x ks):=by
 cases h with
 |num n a h0 h1=>
  exact Z6 (.inl rfl) ⟨fun s hs=>Hm (V1 h0 h1).gt (Fm hs) trivial,by
   obtain⟨c,t,h1,h2⟩:=(V1 h0 h1).beg
   exact⟨c,t++[],by show Lf n++[]=_;rw [h1];rfl,h2⟩⟩
 |name s a hn=>exact Z6 (.inl rfl) (X8 hn)
 |un op a ho=>
  obtain⟨k,rfl,hq⟩:=hk.one
  have hT:=Afo 6 (Gp (.inl rfl) hq)
  refine Z6 (.inl rfl) ?_
  obtain⟨c,t,h1,h2⟩:=hT.beg
  rcases ho with rfl|rfl
  ·exact⟨fun s hs=>Cd (v:=[45]) (E4 (by decide)) rfl rfl (hT.sep s hs),⟨45,_,rfl,by decide⟩⟩
  ·refine⟨fun s hs=>Hm (v:=[33]) (E4 (by decide)) ?_ (hT.sep s hs),⟨33,_,rfl,by decide⟩⟩
   rw [show tx (Bw ([k].getD 0 R0) 6)=c::t from h1]
   exact⟨fun h=>(by cases h),fun _=>h2⟩
 |bin op a h5 h17=>
  obtain⟨k,k',rfl,hq,hq'⟩:=hk.two
  have hT:=Afo (Cf op) (Gp (.inl rfl) hq)
  have hT':=Afo (B6 op+1) (Gp (.inl rfl) hq')
  refine Z6 (.inl rfl) ?_
  have e:(Ar ⟨op,[],0,2,a⟩ [k,k']).tm=Bw k (Cf op)++(sps::.tk (sgO op)::sps::Bw k' (B6 op+1)):=by
   show tmN _ _=_
   unfold tmN
   dsimp only
   rw [if_neg (by omega),if_neg (by omega),if_neg (by omega),if_neg (by omega)]
   rfl
  rw [e]
  exact⟨fun s hs=>B7.2 ⟨hT.sep _ ⟨by decide,by decide⟩,Lh (B9 (Awr (by omega)) (hT'.sep s hs))⟩,Asm _ hT.beg⟩
 |set op s a ho hn=>
  obtain⟨k,rfl,hq⟩:=hk.one
  have hT:=Gp (.inl rfl) hq
  refine Hn (by decide) fun d z=> ?_
  rcases ho with rfl|rfl|rfl
  ·exact De (fun s=>B9 Av8 (B9 (E8 hn).1 (B9 Auq (N3 hT))))
  ·exact De (fun s=>B9 (E8 hn).1 (B9 Auq (N3 hT)))
  ·exact De (fun s=>B9 (E8 hn).1 (B9 Auq (Hm Apw (Fm ⟨by decide,by decide⟩) (Cd Asd rfl rfl (B7.2 ⟨hT.sep _ ⟨by decide,by decide⟩,Cd Ase rfl rfl (Cd Qw rfl rfl trivial)⟩)))))
 |send a=>
  obtain⟨k,k',rfl,hq,hq'⟩:=hk.two
  exact Hn (by decide) fun d z=>De (fun s=>B7.2 ⟨(Gp (.inr (.inl rfl)) hq).sep _ ⟨by decide,by decide⟩,Lh (B9 Akq (N3 (Gp (.inl rfl) hq')))⟩)
 |recv s a hn=>
  obtain⟨k,rfl,hq⟩:=hk.one
  exact Hn (by decide) fun d z=>De (fun _=>B7.2 ⟨(Gp (.inr (.inl rfl)) hq).sep _ ⟨by decide,by decide⟩,Lh (B9 Aps (Hm (E8 hn).1 (Fm ⟨by decide,by decide⟩) (Cd Qw rfl rfl trivial)))⟩)
 |if2 a=>
  obtain⟨k,k',rfl,hq,hq'⟩:=hk.two
  refine Hn (by decide) fun d z=> ?_
  exact B7.2 ⟨De (fun s=>B9 Av9 (B7.2 ⟨(Gp (.inl rfl) hq).sep _ ⟨by decide,by decide⟩,Lh (Cd Apq rfl rfl trivial)⟩)),B7.2 ⟨La (by decide) hq' _ _,De (fun s=>Cd Apr rfl rfl trivial)⟩⟩
 |if3 a=>
  obtain⟨k,k',k'',rfl,hq,hq',Azl⟩:=hk.three
  refine Hn (by decide) fun d z=> ?_
  show Fx (line d (.tk sIf::sps::(k.tm++[sps,.tk sLB]))++(k'.st (d+1)++(line d [.tk sRB,sps,.tk Dp,sps,.tk sLB]++(k''.st (d+1)++line d [.tk sRB])))) z
  refine B7.2 ⟨De fun s=> ?_,B7.2 ⟨La (by decide) hq' _ _,B7.2 ⟨De fun s=> ?_,B7.2 ⟨La (by decide) Azl _ _,De fun s=> ?_⟩⟩⟩⟩
  ·exact B9 Av9 (B7.2 ⟨(Gp (.inl rfl) hq).sep _ ⟨by decide,by decide⟩,Lh (Cd Apq rfl rfl trivial)⟩)
  ·exact B9 Apr (B9 Apu (Cd Apq rfl rfl trivial))
  ·exact Cd Apr rfl rfl trivial
 |Bfz a=>
  obtain⟨k,k',rfl,hq,hq'⟩:=hk.two
  exact Hn (by decide) fun d z=>N2 (fun s hs=>B9 Asl ((Gp (.inl rfl) hq).sep _ hs)) (La (by decide) hq')
 |sel k a h1=>
  refine Hn (by decide) fun d z=> ?_
  exact B7.2 ⟨De (fun s=>B9 Apv (Cd Apq rfl rfl trivial)),B7.2 ⟨Qx (fun k hk'=>La (by decide) (hk.rep.2 k hk')),De (fun s=>Cd Apr rfl rfl trivial)⟩⟩
 |start s k a hn=>
  refine Hn (by decide) fun d z=> ?_
  refine De (fun _=>B9 Ash (Hm (E8 hn).1 (Fm ⟨by decide,by decide⟩) (Cd Asd rfl rfl (B7.2 ⟨Sz (fun x hx=> ?_) ⟨by decide,by decide⟩,Cd Ase rfl rfl (Cd Qw rfl rfl trivial)⟩))))
  obtain⟨r,hr,rfl⟩:=List.mem_map.1 hx
  exact Gp (.inl rfl) (hk.rep.2 r hr)
 |one op a ho=>
  obtain⟨k,rfl,hq⟩:=hk.one
  have hT:=Gp (.inl rfl) hq
  refine Hn (by decide) fun d z=> ?_
  rcases ho with rfl|rfl|rfl
  ·exact De (fun s=>B9 Asi (N3 hT))
  ·exact De (fun s=>B9 Asj (N3 hT))
  ·exact De (fun s=>B9 Apt (N3 hT))
 |none op a ho=>
  refine Hn (by decide) fun d z=> ?_
  rcases ho with rfl|rfl
  ·exact De (fun s=>Hm Aur (Fm ⟨by decide,by decide⟩) (Cd Qw rfl rfl trivial))
  ·exact De (fun s=>Hm Aus (Fm ⟨by decide,by decide⟩) (Cd Qw rfl rfl trivial))
 |els a=>
  obtain⟨k,rfl,hq⟩:=hk.one
  exact Hn (by decide) fun d z=>N2 (fun s hs=>Hm Apu (Fm hs) trivial) (La (by decide) hq)
 |clause op s a w ds' ho=>
  have e34:∀(n:Int) (kids:Int) (ks:List R) (d:Nat),(Ar ⟨34,s,n,kids,a⟩ ks).st d=Bi d (Eb ⟨34,s,n,kids,a⟩ ks++((kd ks n.toNat).tm++[sps,.tk G8,sps,.tk s])) (kd ks (n.toNat+1)):=fun _ _ _ _=>rfl
  have e35:∀(n:Int) (kids:Int) (ks:List R) (d:Nat),(Ar ⟨35,s,n,kids,a⟩ ks).st d=Bi d (Eb ⟨35,s,n,kids,a⟩ ks++((kd ks n.toNat).tm++(sps::.tk Db::sps::(kd ks (n.toNat+1)).tm))) (kd ks (n.toNat+2)):=fun _ _ _ _=>rfl
  have e36:∀(n:Int) (kids:Int) (ks:List R) (d:Nat),(Ar ⟨36,s,n,kids,a⟩ ks).st d=Bi d (Eb ⟨36,s,n,kids,a⟩ ks++(.tk Ea::sps::(kd ks n.toNat).tm)) (kd ks (n.toNat+1)):=fun _ _ _ _=>rfl
  refine Hn (by decide) fun d z=> ?_
  cases w with
  |false=>
   rcases ho with⟨rfl,hn,rfl⟩|⟨rfl,rfl,rfl⟩|⟨rfl,rfl,rfl⟩
   ·obtain⟨k,k',rfl,hq,hq'⟩:=F2.two (a:=82) (a':=66) hk
    rw [e34]
    refine Kr (fun h=>absurd h (show¬(0:Int)=1 by decide)) (fun s hs=> ?_) (La (by decide) hq')
    exact B7.2 ⟨(Gp (.inr (.inl rfl)) hq).sep _ ⟨by decide,by decide⟩,Lh (B9 Aps (Hm (E8 hn).1 (Fm hs) trivial))⟩
   ·obtain⟨k,k',k'',rfl,hq,hq',Azl⟩:=F2.three (a:=82) (a':=69) (a'':=66) hk
    rw [e35]
    refine Kr (fun h=>absurd h (show¬(0:Int)=1 by decide)) (fun s hs=> ?_) (La (by decide) Azl)
    exact B7.2 ⟨(Gp (.inr (.inl rfl)) hq).sep _ ⟨by decide,by decide⟩,Lh (B9 Akq ((Gp (.inl rfl) hq').sep _ hs))⟩
   ·obtain⟨k,k',rfl,hq,hq'⟩:=F2.two (a:=69) (a':=66) hk
    rw [e36]
    refine Kr (fun h=>absurd h (show¬(0:Int)=1 by decide)) (fun s hs=> ?_) (La (by decide) hq')
    exact B9 Alw ((Gp (.inl rfl) hq).sep _ hs)
  |true=>
   rcases ho with⟨rfl,hn,rfl⟩|⟨rfl,rfl,rfl⟩|⟨rfl,rfl,rfl⟩
   ·obtain⟨k0,k,k',rfl,hq0,hq,hq'⟩:=F2.three (a:=69) (a':=82) (a'':=66) hk
    rw [e34]
    refine Kr (ks:=[k0,k,k']) (fun _=>Gp (c:=69) (r:=k0) (.inl rfl) hq0) (fun s hs=> ?_) (La (by decide) hq')
    exact B7.2 ⟨(Gp (.inr (.inl rfl)) hq).sep _ ⟨by decide,by decide⟩,Lh (B9 Aps (Hm (E8 hn).1 (Fm hs) trivial))⟩
   ·obtain⟨l1,l2,rfl,h1,h2⟩:=F2.split (l:=[69]) (l':=[82,69,66]) hk
    obtain⟨k0,rfl,hq0⟩:=h1.one
    obtain⟨k,k',k'',rfl,hq,hq',Azl⟩:=h2.three
    rw [e35]
    refine Kr (ks:=[k0]++[k,k',k'']) (fun _=>Gp (c:=69) (r:=k0) (.inl rfl) hq0) (fun s hs=> ?_) (La (by decide) Azl)
    exact B7.2 ⟨(Gp (.inr (.inl rfl)) hq).sep _ ⟨by decide,by decide⟩,Lh (B9 Akq ((Gp (.inl rfl) hq').sep _ hs))⟩
   ·obtain⟨k0,k,k',rfl,hq0,hq,hq'⟩:=F2.three (a:=69) (a':=69) (a'':=66) hk
    rw [e36]
    refine Kr (ks:=[k0,k,k']) (fun _=>Gp (c:=69) (r:=k0) (.inl rfl) hq0) (fun s hs=> ?_) (La (by decide) hq')
    exact B9 Alw ((Gp (.inl rfl) hq).sep _ hs)
 |Bc9 s a hn=>
  cases hk.nil
  exact Z6 (.inr (.inl rfl)) (X8 hn)
 |Bda s a hn=>
  obtain⟨k,rfl,hq⟩:=hk.one
  refine Z6 (.inr (.inl rfl)) ⟨fun z hz=>Hm (E8 hn).1 (Fm ⟨by decide,by decide⟩) (Cd Av6 rfl rfl (B7.2 ⟨(Gp (.inl rfl) hq).sep _ ⟨by decide,by decide⟩,Cd Av7 rfl rfl trivial⟩)),?_⟩
  obtain⟨c,t,h1,h2⟩:=(X8 hn).beg
  refine⟨c,t++tx (.tk sLS::(k.tm++[.tk sRS])),?_,h2⟩
  show tx (.tk s::.tk sLS::(k.tm++[.tk sRS]))=_
  rw [Cl]
  have:(Ck.tk s).tx=c::t:=by simpa [tx,Ck.tx] using h1
  rw [this];rfl
 |block k a=>exact Hn (by decide) fun d z=>Qx (fun k hk'=>La (by decide) (hk.rep.2 k hk'))
 |param s a hn=>exact Z6 (.inr (.inr rfl)) (X8 hn)
 |unit k a=>exact Hn (by decide) fun d z=>Qx (fun k hk'=>La (by decide) (hk.rep.2 k hk'))
 |chan s n a hn h0 h1=>
  refine Hn (by decide) fun d z=>De (fun y=> ?_)
  dsimp only
  split
  ·exact B9 Apx (Hm (E8 hn).1 (Fm ⟨by decide,by decide⟩) (Cd Av6 rfl rfl (Hm (V1 h0 (by omega)).gt (Fm ⟨by decide,by decide⟩) (Cd Av7 rfl rfl (Cd Qw rfl rfl trivial)))))
  ·exact B9 Apx (Hm (E8 hn).1 (Fm ⟨by decide,by decide⟩) (Cd Qw rfl rfl trivial))
 |main a=>
  obtain⟨k,rfl,hq⟩:=hk.one
  exact Hn (by decide) fun d z=>N2 (fun s hs=>Hm Auw (Fm hs) trivial) (La (by decide) hq)
 |proc s k a hn=>
  obtain⟨ps,bs,rfl,h1,h2⟩:=hk.split
  obtain⟨b,rfl,hq⟩:=h2.one
  refine Hn (by decide) fun d z=> ?_
  have e:(Ar ⟨40,s,0,wr (k+1),a⟩ (ps++[b])).st d=Bi d (.tk Hk::sps::.tk s::.tk sLP::(Bx (ps.map R.tm)++[.tk sRP])) b:=by
   show stN ⟨40,s,0,wr (k+1),a⟩ (ps++[b]) d=_
   unfold stN
   simp [kd]
  rw [e]
  refine N2 (fun s' hs=>B9 Auv (Hm (E8 hn).1 (Fm ⟨by decide,by decide⟩) (Cd Asd rfl rfl (B7.2 ⟨Sz (fun x hx=> ?_) ⟨by decide,by decide⟩,Cd Ase rfl rfl trivial⟩)))) (La (by decide) hq)
  obtain⟨r,hr,rfl⟩:=List.mem_map.1 hx
  exact Gp (.inr (.inr rfl)) (h1.rep.2 r hr)
theorem Asn {cs:List UInt8} {f:Fo} (h:WfF cs f):F2 V2 cs (Lg f):=Oy V2 Apz h
end Go.Proofs.YtcakelelfklhdaaGreatDoor
