/- The law retracelaw35.ReplayNone returns true for every input, and the input reads afterwards as it read before. -/
import Derived.Test.YtnnifojbanocgaaGreatRows
import Derived.Test.YtnnifojbanocgaaGreatNoneQ
import Derived.WalkKit
import Derived.ProofKit
import Derived.OpenShut
import Derived.ShutString
import Derived.ChangeOld
import Derived.Below
namespace Go.Proofs.YtnnifojbanocgaaGreat.replayNone
open Go.ChangeShapes Go.WideShapes Go.ChangeAt Go.RowKit
open Go.ChangeMaps (open_string shut_string)
open Go.Vc

theorem own : ownKnob Tryz.prog.godebug = none := by kernel_rfl
theorem laidOut : laidOutB Tryz.prog = true := by kernel_rfl

set_option maxRecDepth 100000 in
theorem lifted (os : Os) (started : os.Started) (H : Type) (enc : TypeId × Value → H) :
    ReturnsInHanded {} Tryz.checked os 4 .any (Rows.replayNoneSpec.pre6 enc Tryz.prog Tryz.f4 Rows.replayNoneRow.domain false) (Rows.replayNoneSpec.post enc Tryz.prog Tryz.f4 false true false false) := by
  refine returnsInHanded_of_change (C := Tryz.checked) own started (by kernel_rfl) Tryz.func4
    (ChangeSpec.witness6 (enc := enc) (C := Tryz.checked) false ⟨#[], #[.int .i64 0, .int .u32 0], []⟩ 8 (by kernel_rfl) (by kernel_rfl) (by kernel_rfl) (by kernel_rfl)) ?_
  intro W base args ds gs before hval0 hW _ _
  have hval : ∀ (j : Nat) t v, Tryz.f4.params[j]? = some t → args[j]? = some v → Value.okWide Tryz.prog W .any base t v := hval0
  have hW' := hW
  obtain ⟨p, q, hA0, hV, rfl, hfz, hnd⟩ := hW
  have hA : DataW.TrodAll enc Tryz.prog W 0 (fun _ => true) true Tryz.f4.params.toList args.toList ds p := hA0
  rw [Tryz.params4] at hA hval
  obtain ⟨v0, vs0, d0, ds0, p0, q0, hargs, rfl, rfl, h0, r0⟩ := trodAll_cons hA
  obtain ⟨v1, vs1, d1, ds1, p1, q1, rfl, rfl, rfl, h1, r1⟩ := trodAll_cons r0
  obtain ⟨rfl, rfl, rfl⟩ := trodAll_nil r1
  obtain rfl : args = #[v0, v1] := by cases args; simp_all
  obtain ⟨rfl, rfl⟩ := trodVars_none hV
  obtain ⟨a0, rfl, rfl, rfl, w0⟩ := open_int Tryz.underlying3 (hval 0 3 v0 rfl rfl) h0
  obtain ⟨a1, rfl, rfl, rfl, w1⟩ := open_int Tryz.underlying46 (hval 1 46 v1 rfl rfl) h1
  clear hA0 hval0
  refine Calls.mono (Go.Proofs.YtnnifojbanocgaaGreat.replayNone.replayNone_spec a0 a1 (of_decide_eq_true (Bool.and_eq_true_iff.1 w0).1) (of_decide_eq_true (Bool.and_eq_true_iff.1 w0).2) (of_decide_eq_true (Bool.and_eq_true_iff.1 w1).1) (of_decide_eq_true (Bool.and_eq_true_iff.1 w1).2) W) fun e W' hret => ?_
  cases e with
  | panicked c => exact hret.elim
  | outgrown => exact hret.elim
  | returned v =>
    obtain ⟨he, bel⟩ := hret
    subst he
    exact ⟨_, rfl, _, _, _, [], _, [], hW', trodAll_mk1 (shut_bool Tryz.underlying4 _), (trodAll_cons_mk (shut_int Tryz.underlying3 w0) (trodAll_cons_mk (shut_int Tryz.underlying46 w1) trodAll_mk0)), rfl, Below.frame bel _, fun h => by cases h⟩

theorem fact1 : Tryz.prog.inPlace 4 = Rows.replayNoneRow.inPlace := by kernel_rfl
theorem fact2 : Tryz.prog.unfollowed 4 = Rows.replayNoneRow.unfollowed := by kernel_rfl
theorem fact3 : Tryz.prog.recurses 4 = Rows.replayNoneRow.recurses := by kernel_rfl
theorem fact4 : Tryz.prog.varsNamed 4 = Rows.replayNoneRow.named := by kernel_rfl
set_option maxRecDepth 100000 in
theorem joined : joinedFacts Tryz.prog 4 Tryz.f4 Rows.replayNoneSpec Rows.replayNoneRow = true := by
  unfold joinedFacts
  rw [fact1, fact2, fact3, fact4, laidOut]
  kernel_rfl
set_option maxRecDepth 100000 in
theorem over : Rows.replayNoneRow.holds Tryz.pinned (OpenSpec.ofChange Rows.replayNoneSpec) :=
  OpenClaim.holds_of_wide 4 Tryz.f4 rfl rfl rfl rfl rfl rfl rfl ⟨rfl, rfl, rfl, rfl, rfl⟩ rfl rfl rfl rfl rfl (by kernel_rfl) Tryz.func4 joined
    (of_decide_eq_true (by kernel_rfl)) (by unfold Func.isWrapper; first | (rw [if_pos (by decide +kernel)]; kernel_rfl) | (rw [if_neg (by decide +kernel)]; exact ⟨rfl, rfl⟩))
    (fun os started H enc _ => lifted os started H enc)
end Go.Proofs.YtnnifojbanocgaaGreat.replayNone
namespace Go.Proofs.YtnnifojbanocgaaGreat
/-- The statement. -/
theorem replayNone_holds : Rows.ReplayNoneSaid := replayNone.over
end Go.Proofs.YtnnifojbanocgaaGreat
#print axioms Go.Proofs.YtnnifojbanocgaaGreat.replayNone_holds
