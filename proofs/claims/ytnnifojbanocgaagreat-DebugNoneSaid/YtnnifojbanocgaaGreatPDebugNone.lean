/- The law retracelaw39.DebugNone returns true for every input, and the input reads afterwards as it read before. -/
import Derived.Test.YtnnifojbanocgaaGreatRows
import Derived.Test.YtnnifojbanocgaaGreatNoneE
import Derived.WalkKit
import Derived.ProofKit
import Derived.OpenShut
import Derived.ShutString
import Derived.ChangeOld
import Derived.Below
namespace Go.Proofs.YtnnifojbanocgaaGreat.debugNone
open Go.ChangeShapes Go.WideShapes Go.ChangeAt Go.RowKit
open Go.ChangeMaps (open_string shut_string)
open Go.Vc

theorem own : ownKnob Tryz.prog.godebug = none := by kernel_rfl
theorem laidOut : laidOutB Tryz.prog = true := by kernel_rfl

set_option maxRecDepth 100000 in
theorem lifted (os : Os) (started : os.Started) (H : Type) (enc : TypeId × Value → H) :
    ReturnsInHanded {} Tryz.checked os 5 .any (Rows.debugNoneSpec.pre6 enc Tryz.prog Tryz.f5 Rows.debugNoneRow.domain false) (Rows.debugNoneSpec.post enc Tryz.prog Tryz.f5 false true false false) := by
  refine returnsInHanded_of_change (C := Tryz.checked) own started (by kernel_rfl) Tryz.func5
    (ChangeSpec.witness6 (enc := enc) (C := Tryz.checked) false ⟨#[], #[.agg #[.int .i64 0, .int .i64 0, .int .i64 0, .int .i64 0]], []⟩ 8 (by kernel_rfl) (by kernel_rfl) (by kernel_rfl) (by kernel_rfl)) ?_
  intro W base args ds gs before hval0 hW _ _
  have hval : ∀ (j : Nat) t v, Tryz.f5.params[j]? = some t → args[j]? = some v → Value.okWide Tryz.prog W .any base t v := hval0
  have hW' := hW
  obtain ⟨p, q, hA0, hV, rfl, hfz, hnd⟩ := hW
  have hA : DataW.TrodAll enc Tryz.prog W 0 (fun _ => true) true Tryz.f5.params.toList args.toList ds p := hA0
  rw [Tryz.params5] at hA hval
  obtain ⟨v0, vs0, d0, ds0, p0, q0, hargs, rfl, rfl, h0, r0⟩ := trodAll_cons hA
  obtain ⟨rfl, rfl, rfl⟩ := trodAll_nil r0
  obtain rfl : args = #[v0] := by cases args; simp_all
  obtain ⟨rfl, rfl⟩ := trodVars_none hV
  have k0 := h0
  have lt0 : ∀ x ∈ p0, x.block < W.heap.size := by obtain ⟨m, hm⟩ := k0; exact DataW.trod_lt m _ _ _ hm
  obtain ⟨cs0, rfl, hz0, hr0⟩ : ∃ cs, v0 = Value.agg cs ∧ cs.size = 4 ∧ Row.okWide Tryz.prog W .any base 71 cs := by
    have h := hval 0 71 v0 rfl rfl
    unfold Value.okWide at h
    rw [Tryz.underlying71] at h
    obtain ⟨cs, e, hz, hr⟩ := h
    exact ⟨cs, e, hz.trans (by kernel_rfl), hr⟩
  clear hA0 hval0
  refine Calls.mono (Go.Proofs.YtnnifojbanocgaaGreat.debugNone.debugNone_spec cs0 hz0 (Go.Proofs.YtnnifojbanocgaaGreat.debugNone.row_ones hr0) W) fun e W' hret => ?_
  cases e with
  | panicked c => exact hret.elim
  | outgrown => exact hret.elim
  | returned v =>
    obtain ⟨he, bel⟩ := hret
    subst he
    exact ⟨_, rfl, _, _, _, [], _, [], hW', trodAll_mk1 (shut_bool Tryz.underlying4 _), (trodAll_cons_mk (Below.trod laidOut (by kernel_rfl) (of_decide_eq_true (by kernel_rfl)) k0 bel lt0) trodAll_mk0), rfl, Below.frame bel _, fun h => by cases h⟩

theorem fact1 : Tryz.prog.inPlace 5 = Rows.debugNoneRow.inPlace := by kernel_rfl
theorem fact2 : Tryz.prog.unfollowed 5 = Rows.debugNoneRow.unfollowed := by kernel_rfl
theorem fact3 : Tryz.prog.recurses 5 = Rows.debugNoneRow.recurses := by kernel_rfl
theorem fact4 : Tryz.prog.varsNamed 5 = Rows.debugNoneRow.named := by kernel_rfl
set_option maxRecDepth 100000 in
theorem joined : joinedFacts Tryz.prog 5 Tryz.f5 Rows.debugNoneSpec Rows.debugNoneRow = true := by
  unfold joinedFacts
  rw [fact1, fact2, fact3, fact4, laidOut]
  kernel_rfl
set_option maxRecDepth 100000 in
theorem over : Rows.debugNoneRow.holds Tryz.pinned (OpenSpec.ofChange Rows.debugNoneSpec) :=
  OpenClaim.holds_of_wide 5 Tryz.f5 rfl rfl rfl rfl rfl rfl rfl ⟨rfl, rfl, rfl, rfl, rfl⟩ rfl rfl rfl rfl rfl (by kernel_rfl) Tryz.func5 joined
    (of_decide_eq_true (by kernel_rfl)) (by unfold Func.isWrapper; first | (rw [if_pos (by decide +kernel)]; kernel_rfl) | (rw [if_neg (by decide +kernel)]; exact ⟨rfl, rfl⟩))
    (fun os started H enc _ => lifted os started H enc)
end Go.Proofs.YtnnifojbanocgaaGreat.debugNone
namespace Go.Proofs.YtnnifojbanocgaaGreat
/-- The statement. -/
theorem debugNone_holds : Rows.DebugNoneSaid := debugNone.over
end Go.Proofs.YtnnifojbanocgaaGreat
#print axioms Go.Proofs.YtnnifojbanocgaaGreat.debugNone_holds
