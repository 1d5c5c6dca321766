/- The law retracelaw28.MachineNews returns true for every input, and the input reads afterwards as it read before. -/
import Derived.Test.YthkbhlmijkegiaaGreatM11
import Derived.Test.YthkbhlmijkegiaaGreatRows
import Derived.WalkKit
import Derived.ProofKit
import Derived.OpenShut
import Derived.ShutString
import Derived.ChangeOld
import Derived.Below
namespace Go.Proofs.YthkbhlmijkegiaaGreat.VE
open Go.ChangeShapes Go.WideShapes Go.ChangeAt Go.RowKit
open Go.ChangeMaps (open_string shut_string)
open Go.Vc
theorem own:ownKnob Tryz.prog.godebug=none:=by kernel_rfl
theorem laidOut:laidOutB Tryz.prog=true:=by kernel_rfl
theorem Bbz {c:Go.Ty.Ah} (k:VD c):HA c:=⟨fun d hd=>Nat.lt_of_le_of_lt (k.2.1.2 d hd).1 (by decide),fun d hd=>Nat.lt_of_le_of_lt (k.2.2.1.2 d hd).1 (by decide)⟩
set_option maxRecDepth 100000 in
theorem lifted (os:Os) (started:os.Started) (H:Type) (enc:TypeId×Value->H): ReturnsInHanded {} Tryz.checked os 4 .any (Rows.machineNewsSpec.pre6 enc Tryz.prog Tryz.f4 Rows.machineNewsRow.domain false) (Rows.machineNewsSpec.post enc Tryz.prog Tryz.f4 false true false false):=by
 refine returnsInHanded_of_change (C:=Tryz.checked) own started (by kernel_rfl) Tryz.func4
  (ChangeSpec.witness6 (enc:=enc) (C:=Tryz.checked) false ⟨#[],#[.agg #[.slice none 0 0,.slice none 0 0,.slice none 0 0,.int .i64 0,.int .i64 0],.int .i64 0],[]⟩ 8 (by kernel_rfl) (by kernel_rfl) (by kernel_rfl) (by kernel_rfl)) ?_
 intro W base args ds gs before VF hW _ _;have HE:∀(j:Nat) t v,Tryz.f4.params[j]? =some t->args[j]? =some v->Value.okWide Tryz.prog W .any base t v:=VF;have hW':=hW;obtain⟨p,q,zf,hV,rfl,hfz,ns⟩:=hW;have hA:DataW.TrodAll enc Tryz.prog W 0 (fun _=>true) true Tryz.f4.params.toList args.toList ds p:=zf;rw [Tryz.params4]at hA HE;obtain⟨v0,vs0,d0,nr,p0,q0,PY,rfl,rfl,h0,r0⟩:=trodAll_cons hA;obtain⟨v1,vs1,d1,np,p1,q1,rfl,rfl,rfl,h1,r1⟩:=trodAll_cons r0;obtain⟨rfl,rfl,rfl⟩:=trodAll_nil r1;obtain rfl:args= #[v0,v1]:=by cases args;simp_all
 obtain⟨rfl,rfl⟩:=trodVars_none hV;have wV:Go.Lv.sized=true->∀k∈d0.weights Tryz.prog 26,k<=reachBytes:=fun h=>absurd (show false=true from h) Bool.false_ne_true
 have k0:=h0;have lt0:∀x∈p0,x.block<W.heap.size:=by obtain⟨m,hm⟩:=k0;exact DataW.trod_lt m _ _ _ hm
 obtain⟨c_,rfl⟩:∃cs,v0=Value.agg cs:=by
  have h:=HE 0 26 v0 rfl rfl;unfold Value.okWide at h;rw [Tryz.underlying26]at h;obtain⟨cs,e,_⟩:=h;exact⟨cs,e⟩
 obtain⟨m0,VG⟩:=gu.ofW k0 wV;obtain⟨x0,rp0,q0⟩:=Aps m0 _ VG;clear VG;obtain⟨a1,rfl,rfl,rfl,w1⟩:=open_int Tryz.underlying3 (HE 1 3 v1 rfl rfl) h1;clear zf VF;refine Calls.mono (Xd x0 a1 (Bbz q0) c_ W rp0) fun e W' qD=> ?_
 cases e with
 |panicked c=>exact qD.elim
 |outgrown=>exact qD.elim
 |returned v=>
  obtain⟨he,VH⟩:=qD;subst he;exact⟨_,rfl,_,_,_,[],_,[],hW',trodAll_mk1 (shut_bool Tryz.underlying4 _),(trodAll_cons_mk (Below.trod laidOut (by kernel_rfl) (of_decide_eq_true (by kernel_rfl)) k0 VH lt0) (trodAll_cons_mk (shut_int Tryz.underlying3 w1) trodAll_mk0)),rfl,Below.frame VH _,fun h=>by cases h⟩
theorem Bb0:Tryz.prog.inPlace 4=Rows.machineNewsRow.inPlace:=by kernel_rfl
theorem Bb1:Tryz.prog.unfollowed 4=Rows.machineNewsRow.unfollowed:=by kernel_rfl
theorem Bb2:Tryz.prog.recurses 4=Rows.machineNewsRow.recurses:=by kernel_rfl
theorem Bb3:Tryz.prog.varsNamed 4=Rows.machineNewsRow.named:=by kernel_rfl
set_option maxRecDepth 100000 in
theorem Bak:joinedFacts Tryz.prog 4 Tryz.f4 Rows.machineNewsSpec Rows.machineNewsRow=true:=by
 unfold joinedFacts;rw [Bb0,Bb1,Bb2,Bb3,laidOut];kernel_rfl
set_option maxRecDepth 100000 in
theorem D0:Rows.machineNewsRow.holds Tryz.pinned (OpenSpec.ofChange Rows.machineNewsSpec):=
 OpenClaim.holds_of_wide 4 Tryz.f4 rfl rfl rfl rfl rfl rfl rfl ⟨rfl,rfl,rfl,rfl,rfl⟩ rfl rfl rfl rfl rfl (by kernel_rfl) Tryz.func4 Bak
  (of_decide_eq_true (by kernel_rfl)) (by unfold Func.isWrapper;first|(rw [if_pos (by decide+kernel)];kernel_rfl)|(rw [if_neg (by decide+kernel)];exact⟨rfl,rfl⟩))
  (fun os started H enc _=>lifted os started H enc)
end Go.Proofs.YthkbhlmijkegiaaGreat.VE
namespace Go.Proofs.YthkbhlmijkegiaaGreat
theorem machineNews_holds:Rows.MachineNewsSaid:=VE.D0
end Go.Proofs.YthkbhlmijkegiaaGreat
#print axioms Go.Proofs.YthkbhlmijkegiaaGreat.machineNews_holds
