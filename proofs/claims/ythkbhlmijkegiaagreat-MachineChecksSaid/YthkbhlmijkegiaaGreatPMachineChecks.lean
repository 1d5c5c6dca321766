/- The law retracelaw28.MachineChecks returns true for every input, and the input reads afterwards as it read before. -/
import Derived.Test.YthkbhlmijkegiaaGreatM11
import Derived.Test.YthkbhlmijkegiaaGreatRows
import Derived.WalkKit
import Derived.ProofKit
import Derived.OpenShut
import Derived.ShutString
import Derived.ChangeOld
import Derived.Below
namespace Go.Proofs.YthkbhlmijkegiaaGreat.machineChecks
open Go.ChangeShapes Go.WideShapes Go.ChangeAt Go.RowKit
open Go.ChangeMaps (open_string shut_string)
open Go.Vc
theorem own:ownKnob Tryz.prog.godebug=none:=by kernel_rfl
theorem laidOut:laidOutB Tryz.prog=true:=by kernel_rfl
theorem Ba1 {c:Go.Ty.Ah} (k:VO c):GJ c:=⟨fun d hd=>Nat.lt_of_le_of_lt (k.2.1.2 d hd).1 (by decide),fun d hd=>Nat.lt_of_le_of_lt (k.2.2.1.2 d hd).1 (by decide)⟩
set_option maxRecDepth 100000 in
theorem lifted (os:Os) (started:os.Started) (H:Type) (enc:TypeId×Value->H): ReturnsInHanded {} Tryz.checked os 3 .any (Rows.machineChecksSpec.pre6 enc Tryz.prog Tryz.f3 Rows.machineChecksRow.domain false) (Rows.machineChecksSpec.post enc Tryz.prog Tryz.f3 false true false false):=by
 refine returnsInHanded_of_change (C:=Tryz.checked) own started (by kernel_rfl) Tryz.func3
  (ChangeSpec.witness6 (enc:=enc) (C:=Tryz.checked) false ⟨#[],#[.agg #[.slice none 0 0,.slice none 0 0,.slice none 0 0,.int .i64 0,.int .i64 0],.agg #[.int .i64 0,.int .i64 0,.int .i64 0,.int .i64 0,.int .i64 0,.slice none 0 0,.slice none 0 0]],[]⟩ 8 (by kernel_rfl) (by kernel_rfl) (by kernel_rfl) (by kernel_rfl)) ?_
 intro W base args ds gs before VR hW _ _;have GK:∀(j:Nat) t v,Tryz.f3.params[j]? =some t->args[j]? =some v->Value.okWide Tryz.prog W .any base t v:=VR;have hW':=hW;obtain⟨p,q,y1,hV,rfl,hfz,nP⟩:=hW;have hA:DataW.TrodAll enc Tryz.prog W 0 (fun _=>true) true Tryz.f3.params.toList args.toList ds p:=y1;rw [Tryz.params3]at hA GK;obtain⟨v0,vs0,d0,nO,p0,q0,RN,rfl,rfl,h0,r0⟩:=trodAll_cons hA;obtain⟨v1,vs1,d1,nM,p1,q1,rfl,rfl,rfl,h1,r1⟩:=trodAll_cons r0;obtain⟨rfl,rfl,rfl⟩:=trodAll_nil r1;obtain rfl:args= #[v0,v1]:=by cases args;simp_all
 obtain⟨rfl,rfl⟩:=trodVars_none hV;have wK:Go.Lv.sized=true->∀k∈d0.weights Tryz.prog 26,k<=reachBytes:=fun h=>absurd (show false=true from h) Bool.false_ne_true
 have k0:=h0;have lt0:∀x∈p0,x.block<W.heap.size:=by obtain⟨m,hm⟩:=k0;exact DataW.trod_lt m _ _ _ hm
 obtain⟨fk,rfl⟩:∃cs,v0=Value.agg cs:=by
  have h:=GK 0 26 v0 rfl rfl;unfold Value.okWide at h;rw [Tryz.underlying26]at h;obtain⟨cs,e,_⟩:=h;exact⟨cs,e⟩
 obtain⟨m0,VS⟩:=de.UG k0 wK;obtain⟨x0,rp0,q0⟩:=Aow m0 _ VS;clear VS;have aX:Go.Lv.sized=true->∀k∈d1.weights Tryz.prog 30,k<=reachBytes:=fun h=>absurd (show false=true from h) Bool.false_ne_true
 have k1:=h1;have rA:∀x∈p1,x.block<W.heap.size:=by obtain⟨m,hm⟩:=k1;exact DataW.trod_lt m _ _ _ hm
 obtain⟨gC,rfl⟩:∃cs,v1=Value.agg cs:=by
  have h:=GK 1 30 v1 rfl rfl;unfold Value.okWide at h;rw [Tryz.underlying30]at h;obtain⟨cs,e,_⟩:=h;exact⟨cs,e⟩
 obtain⟨m1,VT⟩:=de.UG k1 aX;obtain⟨x1,rp1,q1⟩:=Am2 m1 _ VT;clear VT;clear y1 VR;refine Calls.mono (Tq x0 x1 (Ba1 q0) fk gC W rp0 rp1) fun e W' qJ=> ?_
 cases e with
 |panicked c=>exact qJ.elim
 |outgrown=>exact qJ.elim
 |returned v=>
  obtain⟨he,GL⟩:=qJ;subst he;exact⟨_,rfl,_,_,_,[],_,[],hW',trodAll_mk1 (shut_bool Tryz.underlying4 _),(trodAll_cons_mk (Below.trod laidOut (by kernel_rfl) (of_decide_eq_true (by kernel_rfl)) k0 GL lt0) (trodAll_cons_mk (Below.trod laidOut (by kernel_rfl) (of_decide_eq_true (by kernel_rfl)) k1 GL rA) trodAll_mk0)),rfl,Below.frame GL _,fun h=>by cases h⟩
theorem Ba2:Tryz.prog.inPlace 3=Rows.machineChecksRow.inPlace:=by kernel_rfl
theorem Ba3:Tryz.prog.unfollowed 3=Rows.machineChecksRow.unfollowed:=by kernel_rfl
theorem Ba4:Tryz.prog.recurses 3=Rows.machineChecksRow.recurses:=by kernel_rfl
theorem Ba5:Tryz.prog.varsNamed 3=Rows.machineChecksRow.named:=by kernel_rfl
set_option maxRecDepth 100000 in
theorem Azm:joinedFacts Tryz.prog 3 Tryz.f3 Rows.machineChecksSpec Rows.machineChecksRow=true:=by
 unfold joinedFacts;rw [Ba2,Ba3,Ba4,Ba5,laidOut];kernel_rfl
set_option maxRecDepth 100000 in
theorem over:Rows.machineChecksRow.holds Tryz.pinned (OpenSpec.ofChange Rows.machineChecksSpec):=
 OpenClaim.holds_of_wide 3 Tryz.f3 rfl rfl rfl rfl rfl rfl rfl ⟨rfl,rfl,rfl,rfl,rfl⟩ rfl rfl rfl rfl rfl (by kernel_rfl) Tryz.func3 Azm
  (of_decide_eq_true (by kernel_rfl)) (by unfold Func.isWrapper;first|(rw [if_pos (by decide+kernel)];kernel_rfl)|(rw [if_neg (by decide+kernel)];exact⟨rfl,rfl⟩))
  (fun os started H enc _=>lifted os started H enc)
end Go.Proofs.YthkbhlmijkegiaaGreat.machineChecks
namespace Go.Proofs.YthkbhlmijkegiaaGreat
theorem machineChecks_holds:Rows.MachineChecksSaid:=machineChecks.over
end Go.Proofs.YthkbhlmijkegiaaGreat
#print axioms Go.Proofs.YthkbhlmijkegiaaGreat.machineChecks_holds
