/- The law retracelaw42.ExploreKeys returns true for every input, and the input reads afterwards as it read before. -/
import Derived.Test.YtfcemnnlmlggoaaGreatRows
import Derived.Test.YtfcemnnlmlggoaaGreatKeyF
import Derived.Test.YtfcemnnlmlggoaaGreatOpnX
import Derived.WalkKit
import Derived.ProofKit
import Derived.OpenShut
import Derived.ShutString
import Derived.ChangeOld
import Derived.Below
namespace Go.Proofs.YtfcemnnlmlggoaaGreat.exploreKeys
open Go.ChangeShapes Go.WideShapes Go.ChangeAt Go.RowKit
open Go.ChangeMaps (open_string shut_string)
open Go.Vc

theorem own : ownKnob Tryz.prog.godebug = none := by kernel_rfl
theorem laidOut : laidOutB Tryz.prog = true := by kernel_rfl
theorem j64_of {n : Int} (h : IntKind.i64.min ≤ n ∧ n ≤ IntKind.i64.max) : Go.Iv.J64 n := ⟨Int.le_trans (by decide) h.1, Int.le_trans h.2 (by decide)⟩
theorem rgs_of {s : Go.Ty.GState} (k : okGState s) : RgS s := ⟨(j64_of k.1), (j64_of k.2.1), (j64_of k.2.2.1), (j64_of k.2.2.2.1), (j64_of k.2.2.2.2.1), fun p hp => have q := k.2.2.2.2.2.1.2 p hp
  ⟨(j64_of q.1), (j64_of q.2.1), fun v hv => j64_of (q.2.2.1.2 v hv), (j64_of q.2.2.2.1), (j64_of q.2.2.2.2.1), (j64_of q.2.2.2.2.2.1), (j64_of q.2.2.2.2.2.2.1), (j64_of q.2.2.2.2.2.2.2.1), (j64_of q.2.2.2.2.2.2.2.2.1), (j64_of q.2.2.2.2.2.2.2.2.2.1), fun a ha => have g := q.2.2.2.2.2.2.2.2.2.2.2 a ha
  ⟨(j64_of g.1), (j64_of g.2.1), (j64_of g.2.2.1), (j64_of g.2.2.2.1), (j64_of g.2.2.2.2)⟩⟩, fun v hv => j64_of (k.2.2.2.2.2.2.2 v hv)⟩

set_option maxRecDepth 100000 in
theorem lifted (os : Os) (started : os.Started) (H : Type) (enc : TypeId × Value → H) :
    ReturnsInHanded {} Tryz.checked os 3 .any (Rows.exploreKeysSpec.pre6 enc Tryz.prog Tryz.f3 Rows.exploreKeysRow.domain false) (Rows.exploreKeysSpec.post enc Tryz.prog Tryz.f3 false true false false) := by
  refine returnsInHanded_of_change (C := Tryz.checked) own started (by kernel_rfl) Tryz.func3
    (ChangeSpec.witness6 (enc := enc) (C := Tryz.checked) false ⟨#[], #[.agg #[.int .i64 0, .int .i64 0, .int .i64 0, .int .i64 0, .int .i64 0, .slice none 0 0, .slice none 0 0], .agg #[.int .i64 0, .int .i64 0, .int .i64 0, .int .i64 0, .int .i64 0, .slice none 0 0, .slice none 0 0], .int .i64 0], []⟩ 8 (by kernel_rfl) (by kernel_rfl) (by kernel_rfl) (by kernel_rfl)) ?_
  intro W base args ds gs before hval0 hW _ _
  have hval : ∀ (j : Nat) t v, Tryz.f3.params[j]? = some t → args[j]? = some v → Value.okWide Tryz.prog W .any base t v := hval0
  have hW' := hW
  obtain ⟨p, q, hA0, hV, rfl, hfz, hnd⟩ := hW
  have hA : DataW.TrodAll enc Tryz.prog W 0 (fun _ => true) true Tryz.f3.params.toList args.toList ds p := hA0
  rw [Tryz.params3] at hA hval
  obtain ⟨v0, vs0, d0, ds0, p0, q0, hargs, rfl, rfl, h0, r0⟩ := trodAll_cons hA
  obtain ⟨v1, vs1, d1, ds1, p1, q1, rfl, rfl, rfl, h1, r1⟩ := trodAll_cons r0
  obtain ⟨v2, vs2, d2, ds2, p2, q2, rfl, rfl, rfl, h2, r2⟩ := trodAll_cons r1
  obtain ⟨rfl, rfl, rfl⟩ := trodAll_nil r2
  obtain rfl : args = #[v0, v1, v2] := by cases args; simp_all
  obtain ⟨rfl, rfl⟩ := trodVars_none hV
  have hw0 : Go.Lv.sized = true → ∀ k ∈ d0.weights Tryz.prog 25, k ≤ reachBytes := fun h => absurd (show false = true from h) Bool.false_ne_true
  have k0 := h0
  have lt0 : ∀ x ∈ p0, x.block < W.heap.size := by obtain ⟨m, hm⟩ := k0; exact DataW.trod_lt m _ _ _ hm
  obtain ⟨cs0, rfl⟩ : ∃ cs, v0 = Value.agg cs := by
    have h := hval 0 25 v0 rfl rfl
    unfold Value.okWide at h
    rw [Tryz.underlying25] at h
    obtain ⟨cs, e, _⟩ := h
    exact ⟨cs, e⟩
  obtain ⟨m0, trd0⟩ := Trd.ofW k0 hw0
  obtain ⟨x0, rp0, q0⟩ := open_GState m0 _ trd0
  clear trd0
  have hw1 : Go.Lv.sized = true → ∀ k ∈ d1.weights Tryz.prog 25, k ≤ reachBytes := fun h => absurd (show false = true from h) Bool.false_ne_true
  have k1 := h1
  have lt1 : ∀ x ∈ p1, x.block < W.heap.size := by obtain ⟨m, hm⟩ := k1; exact DataW.trod_lt m _ _ _ hm
  obtain ⟨cs1, rfl⟩ : ∃ cs, v1 = Value.agg cs := by
    have h := hval 1 25 v1 rfl rfl
    unfold Value.okWide at h
    rw [Tryz.underlying25] at h
    obtain ⟨cs, e, _⟩ := h
    exact ⟨cs, e⟩
  obtain ⟨m1, trd1⟩ := Trd.ofW k1 hw1
  obtain ⟨x1, rp1, q1⟩ := open_GState m1 _ trd1
  clear trd1
  obtain ⟨a2, rfl, rfl, rfl, w2⟩ := open_int Tryz.underlying3 (hval 2 3 v2 rfl rfl) h2
  clear hA0 hval0
  refine Calls.mono (ExploreKeys_spec x0 x1 a2 (rgs_of q0) (rgs_of q1) q0.2.2.2.2.2.1.1 q1.2.2.2.2.2.1.1 cs0 cs1 W rp0 rp1) fun e W' hret => ?_
  cases e with
  | panicked c => exact hret.elim
  | outgrown => exact hret.elim
  | returned v =>
    obtain ⟨he, bel⟩ := hret
    subst he
    exact ⟨_, rfl, _, _, _, [], _, [], hW', trodAll_mk1 (shut_bool Tryz.underlying4 _), (trodAll_cons_mk (Below.trod laidOut (by kernel_rfl) (of_decide_eq_true (by kernel_rfl)) k0 bel lt0) (trodAll_cons_mk (Below.trod laidOut (by kernel_rfl) (of_decide_eq_true (by kernel_rfl)) k1 bel lt1) (trodAll_cons_mk (shut_int Tryz.underlying3 w2) trodAll_mk0))), rfl, Below.frame bel _, fun h => by cases h⟩

theorem fact1 : Tryz.prog.inPlace 3 = Rows.exploreKeysRow.inPlace := by kernel_rfl
theorem fact2 : Tryz.prog.unfollowed 3 = Rows.exploreKeysRow.unfollowed := by kernel_rfl
theorem fact3 : Tryz.prog.recurses 3 = Rows.exploreKeysRow.recurses := by kernel_rfl
theorem fact4 : Tryz.prog.varsNamed 3 = Rows.exploreKeysRow.named := by kernel_rfl
set_option maxRecDepth 100000 in
theorem joined : joinedFacts Tryz.prog 3 Tryz.f3 Rows.exploreKeysSpec Rows.exploreKeysRow = true := by
  unfold joinedFacts
  rw [fact1, fact2, fact3, fact4, laidOut]
  kernel_rfl
set_option maxRecDepth 100000 in
theorem over : Rows.exploreKeysRow.holds Tryz.pinned (OpenSpec.ofChange Rows.exploreKeysSpec) :=
  OpenClaim.holds_of_wide 3 Tryz.f3 rfl rfl rfl rfl rfl rfl rfl ⟨rfl, rfl, rfl, rfl, rfl⟩ rfl rfl rfl rfl rfl (by kernel_rfl) Tryz.func3 joined
    (of_decide_eq_true (by kernel_rfl)) (by unfold Func.isWrapper; first | (rw [if_pos (by decide +kernel)]; kernel_rfl) | (rw [if_neg (by decide +kernel)]; exact ⟨rfl, rfl⟩))
    (fun os started H enc _ => lifted os started H enc)
end Go.Proofs.YtfcemnnlmlggoaaGreat.exploreKeys
namespace Go.Proofs.YtfcemnnlmlggoaaGreat
/-- The statement. -/
theorem exploreKeys_holds : Rows.ExploreKeysSaid := exploreKeys.over
end Go.Proofs.YtfcemnnlmlggoaaGreat
#print axioms Go.Proofs.YtfcemnnlmlggoaaGreat.exploreKeys_holds
