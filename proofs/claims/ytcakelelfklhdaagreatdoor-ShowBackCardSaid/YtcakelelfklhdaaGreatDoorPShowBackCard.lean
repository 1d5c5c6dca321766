/- The law retracelaw12.ShowBack returns true for every input, and the input reads afterwards as it read before. -/
import Derived.Test.YtcakelelfklhdaaGreatDoorM10
import Derived.Test.YtcakelelfklhdaaGreatDoorRows
import Derived.Test.YtcakelelfklhdaaGreatDoorCards
import Derived.Test.YtcakelelfklhdaaGreatDoorTie
import Derived.LaidMore
import Derived.LaidSub
import Derived.MakeChecks
import Derived.Lib.LaidTab
import Derived.Stop.Joined
import Derived.SevenTiedAt
import Derived.WalkKit
import Derived.ProofKit
import Derived.OpenShut
import Derived.ShutString
import Derived.ChangeOld
import Derived.Below
namespace Go.Proofs.YtcakelelfklhdaaGreatDoor.showBack
open Go.ChangeShapes Go.WideShapes Go.ChangeAt Go.RowKit
open Go.ChangeMaps (open_string shut_string)
open Go.Vc
theorem own:ownKnob Tryz.prog.godebug=none:=by kernel_rfl
theorem laidOut:laidOutB Tryz.prog=true:=by kernel_rfl
theorem Af2 {W:World} (h:laidMetH Tryz.prog Rows.showBackRow.laid W):Go.Lv.held.T W:=by
 have h1:=h.filter (fun x=>x.1== "internal/strconv.uint64pow10")
 rw [MakeChecks.laidMetH_plain _ _ _ (by kernel_rfl)]at h1
 exact Lib.tabIs_of_head (g:=0) (t:=144) (e:=134) (n:=20) (rest:=[]) (by kernel_rfl) (by kernel_rfl) (by kernel_rfl) (by kernel_rfl) (by kernel_rfl) (by kernel_rfl) h1
theorem Aq2 {l:List Go.Ty.Ai} (h:∀x∈l,Al8 x):∀x∈l,x.name.length<2^62/\x.kids<=9223372036854775807:=fun x hx=>⟨Nat.lt_of_le_of_lt (h x hx).2.1 (by decide),Int.le_trans (h x hx).2.2.2.1.2 (by decide)⟩
theorem Aq3 (os:Os) (args:Array Value):laidMetH Tryz.prog Rows.showBackRow.laid ((World.doorLaid Tryz.prog 400 os).forCall (fun _ _=>0) ⟨#[],args,[]⟩).memory:=
 laidMetH_of_parts3 (fuel:=8) (laidMet_of_run' 8 (by kernel_rfl) (by kernel_rfl)) (by kernel_rfl) (by kernel_rfl)
set_option maxRecDepth 100000 in
theorem lifted (os:Os) (started:os.Started) (H:Type) (enc:TypeId×Value->H):
 ReturnsInHanded {} Tryz.checked os 3 .any (fun w args=>(Rows.showBackSpec.pre enc Tryz.prog Tryz.f3 [] false w args/\laidMetH Tryz.prog Rows.showBackRow.laid w)/\sizedMet enc Tryz.prog Tryz.f3 (OpenSpec.ofChange Rows.showBackSpec) false w args)
 (Rows.showBackSpec.post enc Tryz.prog Tryz.f3 false true false false):=by
 refine returnsInHanded_of_change_and (C:=Tryz.checked) (X:=fun w _=>laidMetH Tryz.prog Rows.showBackRow.laid w) (fun _ _ _ hh h=>h.of_heap hh) own started (by kernel_rfl) Tryz.func3
  (ChangeSpec.witness_shaped (enc:=enc) (C:=Tryz.checked) (os:=os) (X:=fun w _=>laidMetH Tryz.prog Rows.showBackRow.laid w) false (World.doorLaid Tryz.prog 400 os) #[.slice none 0 0] 8 rfl (World.shaped_of_RefB (by kernel_rfl) (by kernel_rfl)) (by kernel_rfl) (by kernel_rfl) (by kernel_rfl) (Aq3 os _)) ?_
 intro W base args ds gs before Bme hW _ Ci5 hL _
 have Ca9:Go.Lv.held.T W:=Af2 hL
 have Cba:∀(j:Nat) t v,Tryz.f3.params[j]? =some t->args[j]? =some v->Value.okWide Tryz.prog W .any base t v:=Bme
 have hW':=hW
 obtain⟨p,q,hA0,hV,rfl,hfz,hnd⟩:=hW
 have hA:DataW.TrodAll enc Tryz.prog W 0 (fun _=>true) true Tryz.f3.params.toList args.toList ds p:=hA0
 rw [Tryz.params3]at hA Cba
 obtain⟨v0,vs0,d0,ds0,p0,q0,Cjf,rfl,rfl,h0,r0⟩:=trodAll_cons hA
 obtain⟨rfl,rfl,rfl⟩:=trodAll_nil r0
 obtain rfl:args= #[v0]:=by cases args;simp_all
 obtain⟨rfl,rfl⟩:=trodVars_none hV
 have Ci6:(DataW.weightsEach Tryz.prog [22] [d0]).all (·<=reachBytes)=true:=Ci5
 have hw0:Go.Lv.sized=true->∀k∈d0.weights Tryz.prog 22,k<=reachBytes:=fun _ k hk=>of_decide_eq_true (List.all_eq_true.1 Ci6 k (Lk (i:=0) rfl rfl hk))
 have k0:=h0
 have lt0:∀x∈p0,x.block<W.heap.size:=by obtain⟨m,hm⟩:=k0;exact DataW.trod_lt m _ _ _ hm
 obtain⟨a0,n0,c0,rfl⟩:=okWide_slice Tryz.underlying22 (Cba 0 22 v0 rfl rfl)
 obtain⟨m0,Cbb⟩:=Trd.ofW k0 hw0
 obtain⟨s0,rfl,lc0,_,sl0,q0⟩:=Go.Lv.Opn.list Ak6 Tryz.underlying22 (by kernel_rfl) Cbb
 clear Cbb
 clear hA0 Bme
 refine Calls.mono (Abw s0 (Aq2 q0) W Ca9 a0 c0 lc0 sl0) fun e W' Bgy=> ?_
 cases e with
 |panicked c=>exact Bgy.elim
 |outgrown=>exact Bgy.elim
 |returned v=>
  obtain⟨he,bel⟩:=Bgy
  subst he
  exact⟨_,rfl,_,_,_,[],_,[],hW',trodAll_mk1 (shut_bool Tryz.underlying4 _),(trodAll_cons_mk (Below.trod laidOut (by kernel_rfl) (of_decide_eq_true (by kernel_rfl)) k0 bel lt0) trodAll_mk0),rfl,Below.frame bel _,fun h=>by cases h⟩
theorem Awg:Tryz.prog.inPlace 3=Rows.showBackRow.inPlace:=by kernel_rfl
theorem Awh:Tryz.prog.unfollowed 3=Rows.showBackRow.unfollowed:=by kernel_rfl
theorem Awi:Tryz.prog.recurses 3=Rows.showBackRow.recurses:=by kernel_rfl
theorem Awj:Tryz.prog.varsNamed 3=Rows.showBackRow.named:=by kernel_rfl
set_option maxRecDepth 100000 in
theorem Avo:joinedFacts Tryz.prog 3 Tryz.f3 Rows.showBackSpec Rows.showBackRow=true:=by
 unfold joinedFacts
 rw [Awg,Awh,Awi,Awj,laidOut]
 kernel_rfl
set_option maxRecDepth 100000 in
theorem over:Rows.showBackRow.holds Tryz.pinned (OpenSpec.ofChange Rows.showBackSpec):=
 OpenClaim.holds_of_wide 3 Tryz.f3 rfl rfl rfl rfl rfl rfl rfl ⟨rfl,rfl,rfl,rfl,rfl⟩ rfl rfl rfl rfl rfl (by kernel_rfl) Tryz.func3 Avo
  (of_decide_eq_true (by kernel_rfl)) (by unfold Func.isWrapper;first|(rw [if_pos (by decide+kernel)];kernel_rfl)|(rw [if_neg (by decide+kernel)];exact⟨rfl,rfl⟩))
  (fun os started H enc _=>lifted os started H enc)
end Go.Proofs.YtcakelelfklhdaaGreatDoor.showBack
namespace Go.Proofs.YtcakelelfklhdaaGreatDoor
theorem Af3:Rows.ShowBackSaid:=showBack.over
theorem showBackCard_holds:Rows.ShowBackCardSaid:=
 Claim7.holds_tied_plain_at .later [] [.data,.data,.data] true (true,"46b1ecfdafa7c75403c27294b5f5da2dd3bfe1889b7c0855d4315591e54a095e") false
  Af3 (fun _ h=>by cases h) (by kernel_rfl) (fun _ h=>by cases h) showBack_row_tie rfl ⟨rfl,rfl⟩ (by kernel_rfl) rfl
  (fun f fn hf hfn=>by
   obtain rfl:f=3:=Option.some.inj ((show Tryz.prog.funcNamed "retrace/retracelaw12.ShowBack" =some 3 by kernel_rfl).symm.trans hf)|>.symm
   obtain rfl:fn=Tryz.f3:=(Option.some.inj (Tryz.func3.symm.trans hfn)).symm
   exact⟨by kernel_rfl,fun j t ht=>by
    rw [Tryz.params3]at ht
    have hm:t∈[22]:=by simpa using Array.mem_of_getElem? ht
    have Aw4:([22].all fun u=> !Tryz.prog.wantsStandIn u)=true:=by kernel_rfl
    exact(show Tryz.prog.wantsStandIn t=false by simpa using List.all_eq_true.1 Aw4 t hm)⟩)
  (by kernel_rfl)
end Go.Proofs.YtcakelelfklhdaaGreatDoor
#print axioms Go.Proofs.YtcakelelfklhdaaGreatDoor.showBackCard_holds
