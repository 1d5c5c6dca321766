/- The law retracelaw40.LookStates returns true for every input, and the input reads afterwards as it read before. -/
import Derived.Test.YtpigkempbnmioaaDoorRows
import Derived.Test.YtpigkempbnmioaaDoorCards
import Derived.Test.YtpigkempbnmioaaDoorTie
import Derived.LaidMore
import Derived.LaidSub
import Derived.MakeChecks
import Derived.Lib.LaidTab
import Derived.Stop.Joined
import Derived.SevenTiedAt
import Derived.Test.YtpigkempbnmioaaDoorLookF
import Derived.Test.YtpigkempbnmioaaDoorOpnK
import Derived.WalkKit
import Derived.ProofKit
import Derived.OpenShut
import Derived.ShutString
import Derived.ChangeOld
import Derived.Below
namespace Go.Proofs.YtpigkempbnmioaaDoor.lookStates
open Go.ChangeShapes Go.WideShapes Go.ChangeAt Go.RowKit
open Go.ChangeMaps (open_string shut_string)
open Go.Vc

theorem own : ownKnob Tryd.prog.godebug = none := by kernel_rfl
theorem laidOut : laidOutB Tryd.prog = true := by kernel_rfl
theorem i64_of {n : Int} (h : IntKind.i64.min ≤ n ∧ n ≤ IntKind.i64.max) : I64 n := ⟨Int.le_trans (by decide) h.1, Int.le_trans h.2 (by decide)⟩
theorem fit_of {c : Go.Ty.GCode} (h : okGCode c) : Fit c := ⟨fun d hd => Nat.le_trans (h.2.1.2 d hd).1 (by decide), fun d hd => Nat.le_trans (h.2.2.1.2 d hd).1 (by decide)⟩
theorem fit2_of {p : Go.Ty.GPlan} {c : Go.Ty.GCode} (g : okGPlan p) (h : okGCode c) : Fit2 p c := ⟨fun r hr v hv => Nat.le_trans ((g.2.1.2 r hr).2.2.2.2 v hv) (by decide), fun r hr => Nat.le_trans (g.2.1.2 r hr).2.2.2.1 (by decide), fun d hd => Nat.le_trans (h.2.1.2 d hd).1 (by decide), fun d hd => Nat.le_trans (h.2.2.1.2 d hd).1 (by decide)⟩
theorem rgc_of {c : Go.Ty.GCode} (h : okGCode c) : RgC c := fun x hx => i64_of (h.1.2 x hx).2.1
theorem rgh_of {h : Go.Ty.GHappen} (k : okGHappen h) : RgH h := ⟨i64_of k.2.1, i64_of k.2.2.1, i64_of k.2.2.2.1, i64_of k.2.2.2.2⟩
theorem rgs_of {s : Go.Ty.GState} (k : okGState s) : RgS0 s := ⟨i64_of k.1, i64_of k.2.2.2.2.1, i64_of k.2.2.2.1, fun v hv => i64_of (k.2.2.2.2.2.2.2 v hv), fun x hx => have q := k.2.2.2.2.2.1.2 x hx
  ⟨i64_of q.2.2.2.2.2.2.1, i64_of q.2.2.2.2.2.1, i64_of q.2.2.2.2.2.2.2.2.1, i64_of q.1, fun v hv => i64_of (q.2.2.1.2 v hv)⟩⟩
theorem held_of_laid {W : World} (h : laidMetH Tryd.prog Rows.lookStatesRow.laid W) : Go.Lv.held.T W := by
  have h1 := h.filter (fun x => x.1 == "internal/strconv.uint64pow10")
  rw [MakeChecks.laidMetH_plain _ _ _ (by kernel_rfl)] at h1
  exact Lib.tabIs_of_head (g := 1) (t := 168) (e := 127) (n := 20) (rest := []) (by kernel_rfl) (by kernel_rfl) (by kernel_rfl) (by kernel_rfl) (by kernel_rfl) (by kernel_rfl) h1

theorem door_met (os : Os) (args : Array Value) : laidMetH Tryd.prog Rows.lookStatesRow.laid ((World.doorLaid Tryd.prog 400 os).forCall (fun _ _ => 0) ⟨#[], args, []⟩).memory :=
  laidMetH_of_parts3 (fuel := 8) (laidMet_of_run' 8 (by kernel_rfl) (by kernel_rfl)) (by kernel_rfl) (by kernel_rfl)
set_option maxRecDepth 100000 in
theorem lifted (os : Os) (started : os.Started) (H : Type) (enc : TypeId × Value → H) :
    ReturnsInHanded {} Tryd.checked os 4 .any (fun w args => (Rows.lookStatesSpec.pre enc Tryd.prog Tryd.f4 [] false w args ∧ laidMetH Tryd.prog Rows.lookStatesRow.laid w) ∧ sizedMet enc Tryd.prog Tryd.f4 (OpenSpec.ofChange Rows.lookStatesSpec) false w args)
      (Rows.lookStatesSpec.post enc Tryd.prog Tryd.f4 false true false false) := by
  refine returnsInHanded_of_change_and (C := Tryd.checked) (X := fun w _ => laidMetH Tryd.prog Rows.lookStatesRow.laid w) (fun _ _ _ hh h => h.of_heap hh) own started (by kernel_rfl) Tryd.func4
    (ChangeSpec.witness_shaped (enc := enc) (C := Tryd.checked) (os := os) (X := fun w _ => laidMetH Tryd.prog Rows.lookStatesRow.laid w) false (World.doorLaid Tryd.prog 400 os) #[.agg #[.slice none 0 0, .slice none 0 0, .int .i64 0, .slice none 0 0], .agg #[.slice none 0 0, .slice none 0 0, .slice none 0 0, .int .i64 0, .int .i64 0], .agg #[.int .i64 0, .int .i64 0, .int .i64 0, .int .i64 0, .int .i64 0, .slice none 0 0, .slice none 0 0]] 8 rfl (World.shaped_of_RefB (by kernel_rfl) (by kernel_rfl)) (by kernel_rfl) (by kernel_rfl) (by kernel_rfl) (door_met os _)) ?_
  intro W base args ds gs before hval0 hW _ hsz0 hL _
  have hheld : Go.Lv.held.T W := held_of_laid hL
  have hval : ∀ (j : Nat) t v, Tryd.f4.params[j]? = some t → args[j]? = some v → Value.okWide Tryd.prog W .any base t v := hval0
  have hW' := hW
  obtain ⟨p, q, hA0, hV, rfl, hfz, hnd⟩ := hW
  have hA : DataW.TrodAll enc Tryd.prog W 0 (fun _ => true) true Tryd.f4.params.toList args.toList ds p := hA0
  rw [Tryd.params4] at hA hval
  obtain ⟨v0, vs0, d0, ds0, p0, q0, hargs, rfl, rfl, h0, r0⟩ := trodAll_cons hA
  obtain ⟨v1, vs1, d1, ds1, p1, q1, rfl, rfl, rfl, h1, r1⟩ := trodAll_cons r0
  obtain ⟨v2, vs2, d2, ds2, p2, q2, rfl, rfl, rfl, h2, r2⟩ := trodAll_cons r1
  obtain ⟨rfl, rfl, rfl⟩ := trodAll_nil r2
  obtain rfl : args = #[v0, v1, v2] := by cases args; simp_all
  obtain ⟨rfl, rfl⟩ := trodVars_none hV
  have hszl : (DataW.weightsEach Tryd.prog [33, 26, 36] [d0, d1, d2]).all (· ≤ reachBytes) = true := hsz0
  have hw0 : Go.Lv.sized = true → ∀ k ∈ d0.weights Tryd.prog 33, k ≤ reachBytes := fun _ k hk => of_decide_eq_true (List.all_eq_true.1 hszl k (weightsEach_mem (i := 0) rfl rfl hk))
  have k0 := h0
  have lt0 : ∀ x ∈ p0, x.block < W.heap.size := by obtain ⟨m, hm⟩ := k0; exact DataW.trod_lt m _ _ _ hm
  obtain ⟨cs0, rfl⟩ : ∃ cs, v0 = Value.agg cs := by
    have h := hval 0 33 v0 rfl rfl
    unfold Value.okWide at h
    rw [Tryd.underlying33] at h
    obtain ⟨cs, e, _⟩ := h
    exact ⟨cs, e⟩
  obtain ⟨m0, trd0⟩ := Trd.ofW k0 hw0
  obtain ⟨x0, rp0, q0⟩ := open_GPlan m0 _ trd0
  clear trd0
  have hw1 : Go.Lv.sized = true → ∀ k ∈ d1.weights Tryd.prog 26, k ≤ reachBytes := fun _ k hk => of_decide_eq_true (List.all_eq_true.1 hszl k (weightsEach_mem (i := 1) rfl rfl hk))
  have k1 := h1
  have lt1 : ∀ x ∈ p1, x.block < W.heap.size := by obtain ⟨m, hm⟩ := k1; exact DataW.trod_lt m _ _ _ hm
  obtain ⟨cs1, rfl⟩ : ∃ cs, v1 = Value.agg cs := by
    have h := hval 1 26 v1 rfl rfl
    unfold Value.okWide at h
    rw [Tryd.underlying26] at h
    obtain ⟨cs, e, _⟩ := h
    exact ⟨cs, e⟩
  obtain ⟨m1, trd1⟩ := Trd.ofW k1 hw1
  obtain ⟨x1, rp1, q1⟩ := open_GCode m1 _ trd1
  clear trd1
  have hw2 : Go.Lv.sized = true → ∀ k ∈ d2.weights Tryd.prog 36, k ≤ reachBytes := fun _ k hk => of_decide_eq_true (List.all_eq_true.1 hszl k (weightsEach_mem (i := 2) rfl rfl hk))
  have k2 := h2
  have lt2 : ∀ x ∈ p2, x.block < W.heap.size := by obtain ⟨m, hm⟩ := k2; exact DataW.trod_lt m _ _ _ hm
  obtain ⟨cs2, rfl⟩ : ∃ cs, v2 = Value.agg cs := by
    have h := hval 2 36 v2 rfl rfl
    unfold Value.okWide at h
    rw [Tryd.underlying36] at h
    obtain ⟨cs, e, _⟩ := h
    exact ⟨cs, e⟩
  obtain ⟨m2, trd2⟩ := Trd.ofW k2 hw2
  obtain ⟨x2, rp2, q2⟩ := open_GState m2 _ trd2
  clear trd2
  clear hA0 hval0
  refine Calls.mono (LookStates_spec x0 x1 (fit2_of q0 q1) (rgc_of q1) x2 (rgs_of q2) cs0 cs1 cs2 W hheld rp0 rp1 rp2) fun e W' hret => ?_
  cases e with
  | panicked c => exact hret.elim
  | outgrown => exact hret.elim
  | returned v =>
    obtain ⟨he, bel⟩ := hret
    subst he
    exact ⟨_, rfl, _, _, _, [], _, [], hW', trodAll_mk1 (shut_bool Tryd.underlying4 _), (trodAll_cons_mk (Below.trod laidOut (by kernel_rfl) (of_decide_eq_true (by kernel_rfl)) k0 bel lt0) (trodAll_cons_mk (Below.trod laidOut (by kernel_rfl) (of_decide_eq_true (by kernel_rfl)) k1 bel lt1) (trodAll_cons_mk (Below.trod laidOut (by kernel_rfl) (of_decide_eq_true (by kernel_rfl)) k2 bel lt2) trodAll_mk0))), rfl, Below.frame bel _, fun h => by cases h⟩

theorem over : Rows.lookStatesRow.holds Tryd.pinned (OpenSpec.ofChange Rows.lookStatesSpec) :=
  OpenClaim.holds_of_wide 4 Tryd.f4 rfl rfl rfl rfl rfl rfl rfl ⟨rfl, rfl, rfl, rfl, rfl⟩ rfl rfl rfl rfl rfl (by kernel_rfl) Tryd.func4 (by kernel_rfl)
    (of_decide_eq_true (by kernel_rfl)) (by unfold Func.isWrapper; first | (rw [if_pos (by decide +kernel)]; kernel_rfl) | (rw [if_neg (by decide +kernel)]; exact ⟨rfl, rfl⟩))
    (fun os started H enc _ => lifted os started H enc)
end Go.Proofs.YtpigkempbnmioaaDoor.lookStates
namespace Go.Proofs.YtpigkempbnmioaaDoor
/-- The row's statement. -/
theorem lookStates_row : Rows.LookStatesSaid := lookStates.over
/-- The statement: the tied card. -/
theorem lookStatesCard_holds : Rows.LookStatesCardSaid :=
  Claim7.holds_tied_plain_at .later [] [.data, .data, .data] true (true, "e004d38ca546def2cc8b2f3f648f207467c74079882cf6095f45060f0a58a920") true
    lookStates_row (fun _ h => by cases h) (by kernel_rfl) (fun _ h => by cases h) lookStates_row_tie rfl ⟨rfl, rfl⟩ (by kernel_rfl) rfl
    (fun f fn hf hfn => by
      obtain rfl : f = 4 := Option.some.inj ((show Tryd.prog.funcNamed "retrace/retracelaw40.LookStates" = some 4 by kernel_rfl).symm.trans hf) |>.symm
      obtain rfl : fn = Tryd.f4 := (Option.some.inj (Tryd.func4.symm.trans hfn)).symm
      exact ⟨by kernel_rfl, fun j t ht => by
        rw [Tryd.params4] at ht
        have hm : t ∈ [33, 26, 36] := by simpa using Array.mem_of_getElem? ht
        have hall : ([33, 26, 36].all fun u => !Tryd.prog.wantsStandIn u) = true := by kernel_rfl
        exact (show Tryd.prog.wantsStandIn t = false by simpa using List.all_eq_true.1 hall t hm)⟩)
    (by kernel_rfl)
end Go.Proofs.YtpigkempbnmioaaDoor
#print axioms Go.Proofs.YtpigkempbnmioaaDoor.lookStatesCard_holds
