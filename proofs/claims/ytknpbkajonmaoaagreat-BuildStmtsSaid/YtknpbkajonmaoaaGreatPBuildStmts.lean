/- The law retracelaw19.BuildStmts returns true for every input, and the input reads afterwards as it read before. -/
import Derived.Test.YtknpbkajonmaoaaGreatRows
import Derived.Test.YtknpbkajonmaoaaGreatBuildA
import Derived.Test.YtknpbkajonmaoaaGreatOpnB
import Derived.WalkKit
import Derived.ProofKit
import Derived.OpenShut
import Derived.ShutString
import Derived.ChangeOld
import Derived.Below
namespace Go.Proofs.YtknpbkajonmaoaaGreat.buildStmts
open Go.ChangeShapes Go.WideShapes Go.ChangeAt Go.RowKit
open Go.ChangeMaps (open_string shut_string)
open Go.Vc

theorem own : ownKnob Tryz.prog.godebug = none := by kernel_rfl
theorem laidOut : laidOutB Tryz.prog = true := by kernel_rfl

set_option maxRecDepth 100000 in
theorem lifted (os : Os) (started : os.Started) (H : Type) (enc : TypeId × Value → H) :
    ReturnsInHanded {} Tryz.checked os 3 .any (Rows.buildStmtsSpec.pre6 enc Tryz.prog Tryz.f3 Rows.buildStmtsRow.domain false) (Rows.buildStmtsSpec.post enc Tryz.prog Tryz.f3 false true false false) := by
  refine returnsInHanded_of_change (C := Tryz.checked) own started (by kernel_rfl) Tryz.func3
    (ChangeSpec.witness6 (enc := enc) (C := Tryz.checked) false ⟨#[], #[.slice none 0 0, .int .i64 0], []⟩ 8 (by kernel_rfl) (by kernel_rfl) (by kernel_rfl) (by kernel_rfl)) ?_
  intro W base args ds gs before hval0 hW _ _
  have hval : ∀ (j : Nat) t v, Tryz.f3.params[j]? = some t → args[j]? = some v → Value.okWide Tryz.prog W .any base t v := hval0
  have hW' := hW
  obtain ⟨p, q, hA0, hV, rfl, hfz, hnd⟩ := hW
  have hA : DataW.TrodAll enc Tryz.prog W 0 (fun _ => true) true Tryz.f3.params.toList args.toList ds p := hA0
  rw [Tryz.params3] at hA hval
  obtain ⟨v0, vs0, d0, ds0, p0, q0, hargs, rfl, rfl, h0, r0⟩ := trodAll_cons hA
  obtain ⟨v1, vs1, d1, ds1, p1, q1, rfl, rfl, rfl, h1, r1⟩ := trodAll_cons r0
  obtain ⟨rfl, rfl, rfl⟩ := trodAll_nil r1
  obtain rfl : args = #[v0, v1] := by cases args; simp_all
  obtain ⟨rfl, rfl⟩ := trodVars_none hV
  have hw0 : Go.Lv.sized = true → ∀ k ∈ d0.weights Tryz.prog 22, k ≤ reachBytes := fun h => absurd (show false = true from h) Bool.false_ne_true
  have k0 := h0
  have lt0 : ∀ x ∈ p0, x.block < W.heap.size := by obtain ⟨m, hm⟩ := k0; exact DataW.trod_lt m _ _ _ hm
  obtain ⟨a0, n0, c0, rfl⟩ := okWide_slice Tryz.underlying22 (hval 0 22 v0 rfl rfl)
  obtain ⟨m0, trd0⟩ := Trd.ofW k0 hw0
  obtain ⟨s0, rfl, lc0, _, sl0, q0⟩ := Go.Lv.Opn.list open_GNode Tryz.underlying22 (by kernel_rfl) trd0
  clear trd0
  obtain ⟨a1, rfl, rfl, rfl, w1⟩ := open_int Tryz.underlying3 (hval 1 3 v1 rfl rfl) h1
  clear hA0 hval0
  refine Calls.mono (BuildStmts_spec s0 a1 a0 c0 lc0 W sl0) fun e W' hret => ?_
  cases e with
  | panicked c => exact hret.elim
  | outgrown => exact hret.elim
  | returned v =>
    obtain ⟨he, bel⟩ := hret
    subst he
    exact ⟨_, rfl, _, _, _, [], _, [], hW', trodAll_mk1 (shut_bool Tryz.underlying4 _), (trodAll_cons_mk (Below.trod laidOut (by kernel_rfl) (of_decide_eq_true (by kernel_rfl)) k0 bel lt0) (trodAll_cons_mk (shut_int Tryz.underlying3 w1) trodAll_mk0)), rfl, Below.frame bel _, fun h => by cases h⟩

theorem fact1 : Tryz.prog.inPlace 3 = Rows.buildStmtsRow.inPlace := by kernel_rfl
theorem fact2 : Tryz.prog.unfollowed 3 = Rows.buildStmtsRow.unfollowed := by kernel_rfl
theorem fact3 : Tryz.prog.recurses 3 = Rows.buildStmtsRow.recurses := by kernel_rfl
theorem fact4 : Tryz.prog.varsNamed 3 = Rows.buildStmtsRow.named := by kernel_rfl
set_option maxRecDepth 100000 in
theorem joined : joinedFacts Tryz.prog 3 Tryz.f3 Rows.buildStmtsSpec Rows.buildStmtsRow = true := by
  unfold joinedFacts
  rw [fact1, fact2, fact3, fact4, laidOut]
  kernel_rfl
set_option maxRecDepth 100000 in
theorem over : Rows.buildStmtsRow.holds Tryz.pinned (OpenSpec.ofChange Rows.buildStmtsSpec) :=
  OpenClaim.holds_of_wide 3 Tryz.f3 rfl rfl rfl rfl rfl rfl rfl ⟨rfl, rfl, rfl, rfl, rfl⟩ rfl rfl rfl rfl rfl (by kernel_rfl) Tryz.func3 joined
    (of_decide_eq_true (by kernel_rfl)) (by unfold Func.isWrapper; first | (rw [if_pos (by decide +kernel)]; kernel_rfl) | (rw [if_neg (by decide +kernel)]; exact ⟨rfl, rfl⟩))
    (fun os started H enc _ => lifted os started H enc)
end Go.Proofs.YtknpbkajonmaoaaGreat.buildStmts
namespace Go.Proofs.YtknpbkajonmaoaaGreat
/-- The statement. -/
theorem buildStmts_holds : Rows.BuildStmtsSaid := buildStmts.over
end Go.Proofs.YtknpbkajonmaoaaGreat
#print axioms Go.Proofs.YtknpbkajonmaoaaGreat.buildStmts_holds
