/- The law retracelaw12.ShowOnce returns true for every input, and the input reads afterwards as it read before. -/
import Derived.Test.YtcakelelfklhdaaGreatDoorM10
import Derived.Test.YtcakelelfklhdaaGreatDoorRows
import Derived.Test.YtcakelelfklhdaaGreatDoorCards
import Derived.Test.YtcakelelfklhdaaGreatDoorTie
import Derived.LaidMore
import Derived.LaidSub
import Derived.MakeChecks
import Derived.Lib.LaidTab
import Derived.Stop.Joined
import Derived.SevenTiedAt
import Derived.WalkKit
import Derived.ProofKit
import Derived.OpenShut
import Derived.ShutString
import Derived.ChangeOld
import Derived.Below
namespace Go.Proofs.YtcakelelfklhdaaGreatDoor.showOnce
open Go.ChangeShapes Go.WideShapes Go.ChangeAt Go.RowKit
open Go.ChangeMaps (open_string shut_string)
open Go.Vc
theorem own:ownKnob Tryz.prog.godebug=none:=by kernel_rfl
theorem laidOut:laidOutB Tryz.prog=true:=by kernel_rfl
theorem Ae3 {W:World} (h:laidMetH Tryz.prog Rows.showOnceRow.laid W):Go.Lv.held.T W:=by
 have h1:=h.filter (fun x=>x.1== "internal/strconv.uint64pow10")
 rw [MakeChecks.laidMetH_plain _ _ _ (by kernel_rfl)]at h1
 exact Lib.tabIs_of_head (g:=0) (t:=144) (e:=134) (n:=20) (rest:=[]) (by kernel_rfl) (by kernel_rfl) (by kernel_rfl) (by kernel_rfl) (by kernel_rfl) (by kernel_rfl) h1
theorem Apo (os:Os) (args:Array Value):laidMetH Tryz.prog Rows.showOnceRow.laid ((World.doorLaid Tryz.prog 400 os).forCall (fun _ _=>0) ⟨#[],args,[]⟩).memory:=
 laidMetH_of_parts3 (fuel:=8) (laidMet_of_run' 8 (by kernel_rfl) (by kernel_rfl)) (by kernel_rfl) (by kernel_rfl)
set_option maxRecDepth 100000 in
theorem lifted (os:Os) (started:os.Started) (H:Type) (enc:TypeId×Value->H):
 ReturnsInHanded {} Tryz.checked os 4 .any (fun w args=>(Rows.showOnceSpec.pre enc Tryz.prog Tryz.f4 [] false w args/\laidMetH Tryz.prog Rows.showOnceRow.laid w)/\sizedMet enc Tryz.prog Tryz.f4 (OpenSpec.ofChange Rows.showOnceSpec) false w args)
 (Rows.showOnceSpec.post enc Tryz.prog Tryz.f4 false true false false):=by
 refine returnsInHanded_of_change_and (C:=Tryz.checked) (X:=fun w _=>laidMetH Tryz.prog Rows.showOnceRow.laid w) (fun _ _ _ hh h=>h.of_heap hh) own started (by kernel_rfl) Tryz.func4
  (ChangeSpec.witness_shaped (enc:=enc) (C:=Tryz.checked) (os:=os) (X:=fun w _=>laidMetH Tryz.prog Rows.showOnceRow.laid w) false (World.doorLaid Tryz.prog 400 os) #[.string ByteArray.empty] 8 rfl (World.shaped_of_RefB (by kernel_rfl) (by kernel_rfl)) (by kernel_rfl) (by kernel_rfl) (by kernel_rfl) (Apo os _)) ?_
 intro W base args ds gs before Bk9 hW _ Ch5 hL _
 have Bz7:Go.Lv.held.T W:=Ae3 hL
 have Bz8:∀(j:Nat) t v,Tryz.f4.params[j]? =some t->args[j]? =some v->Value.okWide Tryz.prog W .any base t v:=Bk9
 have hW':=hW
 obtain⟨p,q,hA0,hV,rfl,hfz,hnd⟩:=hW
 have hA:DataW.TrodAll enc Tryz.prog W 0 (fun _=>true) true Tryz.f4.params.toList args.toList ds p:=hA0
 rw [Tryz.params4]at hA Bz8
 obtain⟨v0,vs0,d0,ds0,p0,q0,Cie,rfl,rfl,h0,r0⟩:=trodAll_cons hA
 obtain⟨rfl,rfl,rfl⟩:=trodAll_nil r0
 obtain rfl:args= #[v0]:=by cases args;simp_all
 obtain⟨rfl,rfl⟩:=trodVars_none hV
 have Cjx:(DataW.weightsEach Tryz.prog [9] [d0]).all (·<=reachBytes)=true:=Ch5
 obtain⟨a0,rfl,rfl,rfl,w0⟩:=open_string Tryz.underlying9 (Bz8 0 9 v0 rfl rfl) h0
 clear hA0 Bk9
 refine Calls.mono (Aa9 a0 W Bz7) fun e W' Bfg=> ?_
 cases e with
 |panicked c=>exact Bfg.elim
 |outgrown=>exact Bfg.elim
 |returned v=>
  obtain⟨he,bel⟩:=Bfg
  subst he
  exact⟨_,rfl,_,_,_,[],_,[],hW',trodAll_mk1 (shut_bool Tryz.underlying4 _),(trodAll_cons_mk (shut_string Tryz.underlying9 w0) trodAll_mk0),rfl,Below.frame bel _,fun h=>by cases h⟩
theorem Avn:Tryz.prog.inPlace 4=Rows.showOnceRow.inPlace:=by kernel_rfl
theorem Avo:Tryz.prog.unfollowed 4=Rows.showOnceRow.unfollowed:=by kernel_rfl
theorem Avp:Tryz.prog.recurses 4=Rows.showOnceRow.recurses:=by kernel_rfl
theorem Avq:Tryz.prog.varsNamed 4=Rows.showOnceRow.named:=by kernel_rfl
set_option maxRecDepth 100000 in
theorem Auq:joinedFacts Tryz.prog 4 Tryz.f4 Rows.showOnceSpec Rows.showOnceRow=true:=by
 unfold joinedFacts
 rw [Avn,Avo,Avp,Avq,laidOut]
 kernel_rfl
set_option maxRecDepth 100000 in
theorem over:Rows.showOnceRow.holds Tryz.pinned (OpenSpec.ofChange Rows.showOnceSpec):=
 OpenClaim.holds_of_wide 4 Tryz.f4 rfl rfl rfl rfl rfl rfl rfl ⟨rfl,rfl,rfl,rfl,rfl⟩ rfl rfl rfl rfl rfl (by kernel_rfl) Tryz.func4 Auq
  (of_decide_eq_true (by kernel_rfl)) (by unfold Func.isWrapper;first|(rw [if_pos (by decide+kernel)];kernel_rfl)|(rw [if_neg (by decide+kernel)];exact⟨rfl,rfl⟩))
  (fun os started H enc _=>lifted os started H enc)
end Go.Proofs.YtcakelelfklhdaaGreatDoor.showOnce
namespace Go.Proofs.YtcakelelfklhdaaGreatDoor
theorem Ae4:Rows.ShowOnceSaid:=showOnce.over
theorem showOnceCard_holds:Rows.ShowOnceCardSaid:=
 Claim7.holds_tied_plain_at .later [] [.data,.data,.data] true (true,"46b1ecfdafa7c75403c27294b5f5da2dd3bfe1889b7c0855d4315591e54a095e") false
  Ae4 (fun _ h=>by cases h) (by kernel_rfl) (fun _ h=>by cases h) showOnce_row_tie rfl ⟨rfl,rfl⟩ (by kernel_rfl) rfl
  (fun f fn hf hfn=>by
   obtain rfl:f=4:=Option.some.inj ((show Tryz.prog.funcNamed "retrace/retracelaw12.ShowOnce" =some 4 by kernel_rfl).symm.trans hf)|>.symm
   obtain rfl:fn=Tryz.f4:=(Option.some.inj (Tryz.func4.symm.trans hfn)).symm
   exact⟨by kernel_rfl,fun j t ht=>by
    rw [Tryz.params4]at ht
    have hm:t∈[9]:=by simpa using Array.mem_of_getElem? ht
    have Awn:([9].all fun u=> !Tryz.prog.wantsStandIn u)=true:=by kernel_rfl
    exact(show Tryz.prog.wantsStandIn t=false by simpa using List.all_eq_true.1 Awn t hm)⟩)
  (by kernel_rfl)
end Go.Proofs.YtcakelelfklhdaaGreatDoor
#print axioms Go.Proofs.YtcakelelfklhdaaGreatDoor.showOnceCard_holds
