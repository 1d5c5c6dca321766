/- The law retracelaw18.EmitReckons returns true for every input, and the input reads afterwards as it read before. -/
import Derived.Test.YtpdccfgpbkagcaaGreatM11
import Derived.Test.YtpdccfgpbkagcaaGreatRows
import Derived.WalkKit
import Derived.ProofKit
import Derived.OpenShut
import Derived.ShutString
import Derived.ChangeOld
import Derived.Below
namespace Go.Proofs.YtpdccfgpbkagcaaGreat.emitReckons
open Go.ChangeShapes Go.WideShapes Go.ChangeAt Go.RowKit
open Go.ChangeMaps (open_string shut_string)
open Go.Vc
theorem own:ownKnob Tryz.prog.godebug=none:=by kernel_rfl
theorem laidOut:laidOutB Tryz.prog=true:=by kernel_rfl
theorem Auk {l:List Go.Ty.Ag} (h:∀x∈l,Ao1 x):∀x∈l,x.name.length<2^63/\x.kids<=9223372036854775807:=fun x hx=>⟨Nat.lt_of_le_of_lt (h x hx).2.1 (by decide),Int.le_trans (h x hx).2.2.2.1.2 (by decide)⟩
theorem Ba6 {l:List Int} (h:∀v∈l,IntKind.i64.min<=v/\v<=IntKind.i64.max):∀v∈l,Go.Proofs.YtpdccfgpbkagcaaGreat.gC v:=fun v hv=>⟨Int.le_trans (by decide) (h v hv).1,Int.le_trans (h v hv).2 (by decide)⟩
set_option maxRecDepth 100000 in
theorem lifted (os:Os) (started:os.Started) (H:Type) (enc:TypeId×Value->H): ReturnsInHanded {} Tryz.checked os 3 .any (Rows.emitReckonsSpec.pre6 enc Tryz.prog Tryz.f3 Rows.emitReckonsRow.domain false) (Rows.emitReckonsSpec.post enc Tryz.prog Tryz.f3 false true false false):=by
 refine returnsInHanded_of_change (C:=Tryz.checked) own started (by kernel_rfl) Tryz.func3
  (ChangeSpec.witness6 (enc:=enc) (C:=Tryz.checked) false ⟨#[],#[.slice none 0 0,.int .i64 0,.slice none 0 0],[]⟩ 8 (by kernel_rfl) (by kernel_rfl) (by kernel_rfl) (by kernel_rfl)) ?_
 intro W base args ds gs before Bmb hW _ _;have DG:∀(j:Nat) t v,Tryz.f3.params[j]? =some t->args[j]? =some v->Value.okWide Tryz.prog W .any base t v:=Bmb;have hW':=hW;obtain⟨p,q,kY,hV,rfl,Ih,f_⟩:=hW;have hA:DataW.TrodAll enc Tryz.prog W 0 (fun _=>true) true Tryz.f3.params.toList args.toList ds p:=kY;rw [Tryz.params3]at hA DG;obtain⟨v0,vs0,d0,pB,p0,q0,Bl8,rfl,rfl,h0,r0⟩:=trodAll_cons hA;obtain⟨v1,vs1,d1,ug,p1,q1,rfl,rfl,rfl,h1,r1⟩:=trodAll_cons r0;obtain⟨v2,oa,d2,CU,p2,q2,rfl,rfl,rfl,h2,r2⟩:=trodAll_cons r1;obtain⟨rfl,rfl,rfl⟩:=trodAll_nil r2;obtain rfl:args= #[v0,v1,v2]:=by cases args;simp_all
 obtain⟨rfl,rfl⟩:=trodVars_none hV;have zi:Go.Lv.sized=true->∀k∈d0.weights Tryz.prog 22,k<=reachBytes:=fun h=>absurd (show false=true from h) Bool.false_ne_true
 have k0:=h0;have lt0:∀x∈p0,x.block<W.heap.size:=by obtain⟨m,hm⟩:=k0;exact DataW.trod_lt m _ _ _ hm
 obtain⟨a0,n0,c0,rfl⟩:=okWide_slice Tryz.underlying22 (DG 0 22 v0 rfl rfl);obtain⟨m0,Bqf⟩:=jK.ofW k0 zi;obtain⟨s0,rfl,y8,_,pk,q0⟩:=Go.Lv.uh.list Anp Tryz.underlying22 (by kernel_rfl) Bqf;clear Bqf;obtain⟨a1,rfl,rfl,rfl,w1⟩:=open_int Tryz.underlying3 (DG 1 3 v1 rfl rfl) h1;have bR:Go.Lv.sized=true->∀k∈d2.weights Tryz.prog 23,k<=reachBytes:=fun h=>absurd (show false=true from h) Bool.false_ne_true
 have k2:=h2;have qY:∀x∈p2,x.block<W.heap.size:=by obtain⟨m,hm⟩:=k2;exact DataW.trod_lt m _ _ _ hm
 obtain⟨a2,n2,c2,rfl⟩:=okWide_slice Tryz.underlying23 (DG 2 23 v2 rfl rfl);obtain⟨m2,Bqg⟩:=jK.ofW k2 bR;obtain⟨s2,rfl,DE,_,DF,q2⟩:=Go.Lv.uh.list (Go.Lv.Ul Tryz.underlying3) Tryz.underlying23 (by kernel_rfl) Bqg;clear Bqg;clear kY Bmb;refine Calls.mono (V6 s0 a1 s2 (Auk q0) (Ba6 q2) W a0 c0 y8 pk a2 c2 DE DF) fun e W' wm=> ?_
 cases e with
 |panicked c=>exact wm.elim
 |outgrown=>exact wm.elim
 |returned v=>
  obtain⟨he,LQ⟩:=wm;subst he;exact⟨_,rfl,_,_,_,[],_,[],hW',trodAll_mk1 (shut_bool Tryz.underlying4 _),(trodAll_cons_mk (Below.trod laidOut (by kernel_rfl) (of_decide_eq_true (by kernel_rfl)) k0 LQ lt0) (trodAll_cons_mk (shut_int Tryz.underlying3 w1) (trodAll_cons_mk (Below.trod laidOut (by kernel_rfl) (of_decide_eq_true (by kernel_rfl)) k2 LQ qY) trodAll_mk0))),rfl,Below.frame LQ _,fun h=>by cases h⟩
theorem Ban:Tryz.prog.inPlace 3=Rows.emitReckonsRow.inPlace:=by kernel_rfl
theorem Bao:Tryz.prog.unfollowed 3=Rows.emitReckonsRow.unfollowed:=by kernel_rfl
theorem Bap:Tryz.prog.recurses 3=Rows.emitReckonsRow.recurses:=by kernel_rfl
theorem Baq:Tryz.prog.varsNamed 3=Rows.emitReckonsRow.named:=by kernel_rfl
set_option maxRecDepth 100000 in
theorem Ayw:joinedFacts Tryz.prog 3 Tryz.f3 Rows.emitReckonsSpec Rows.emitReckonsRow=true:=by
 unfold joinedFacts;rw [Ban,Bao,Bap,Baq,laidOut];kernel_rfl
set_option maxRecDepth 100000 in
theorem over:Rows.emitReckonsRow.holds Tryz.pinned (OpenSpec.ofChange Rows.emitReckonsSpec):=
 OpenClaim.holds_of_wide 3 Tryz.f3 rfl rfl rfl rfl rfl rfl rfl ⟨rfl,rfl,rfl,rfl,rfl⟩ rfl rfl rfl rfl rfl (by kernel_rfl) Tryz.func3 Ayw
  (of_decide_eq_true (by kernel_rfl)) (by unfold Func.isWrapper;first|(rw [if_pos (by decide+kernel)];kernel_rfl)|(rw [if_neg (by decide+kernel)];exact⟨rfl,rfl⟩))
  (fun os started H enc _=>lifted os started H enc)
end Go.Proofs.YtpdccfgpbkagcaaGreat.emitReckons
namespace Go.Proofs.YtpdccfgpbkagcaaGreat
theorem emitReckons_holds:Rows.EmitReckonsSaid:=emitReckons.over
end Go.Proofs.YtpdccfgpbkagcaaGreat
#print axioms Go.Proofs.YtpdccfgpbkagcaaGreat.emitReckons_holds
