/- The law retracelaw44.ScriptLines returns true for every input, and the input reads afterwards as it read before. -/
import Derived.Test.YtojfilbjdnnoeaaDoorRows
import Derived.Test.YtojfilbjdnnoeaaDoorCards
import Derived.Test.YtojfilbjdnnoeaaDoorTie
import Derived.LaidMore
import Derived.LaidSub
import Derived.MakeChecks
import Derived.Lib.LaidTab
import Derived.Stop.LaidErr
import Derived.Shelf.Vars
import Derived.Stop.Joined
import Derived.SevenTiedAt
import Derived.Test.YtojfilbjdnnoeaaDoorScrF
import Derived.Test.YtojfilbjdnnoeaaDoorScrW
import Derived.Test.YtojfilbjdnnoeaaDoorOpnS
import Derived.WalkKit
import Derived.ProofKit
import Derived.OpenShut
import Derived.ShutString
import Derived.ChangeOld
import Derived.Below
namespace Go.Proofs.YtojfilbjdnnoeaaDoor.scriptLines
open Go.ChangeShapes Go.WideShapes Go.ChangeAt Go.RowKit
open Go.ChangeMaps (open_string shut_string)
open Go.Vc

theorem own : ownKnob Tryd.prog.godebug = none := by kernel_rfl
theorem laidOut : laidOutB Tryd.prog = true := by kernel_rfl
theorem held_of_laid {W : World} (h : laidMetH Tryd.prog Rows.scriptLinesRow.laid W) (hs : W.ShapedOpen Tryd.prog) : Go.Lv.held.T W := by
  refine ⟨?_, ?_, ?_, ?_⟩
  · have h1 := h.filter (fun x => x.1 == "internal/strconv.uint64pow10")
    rw [MakeChecks.laidMetH_plain _ _ _ (by kernel_rfl)] at h1
    exact Lib.tabIs_of_head (g := 1) (t := 108) (e := 79) (n := 20) (rest := []) (by kernel_rfl) (by kernel_rfl) (by kernel_rfl) (by kernel_rfl) (by kernel_rfl) (by kernel_rfl) h1
  · exact cell_of_shapedOpen_int (g := 0) (t := 3) (zero := #[.int .i64 0]) hs (of_decide_eq_true (by kernel_rfl)) (by kernel_rfl) rfl (by kernel_rfl) (by kernel_rfl) (by kernel_rfl)
  · have h1 := h.filter (fun x => x.1 == "strconv.ErrSyntax")
    rw [MakeChecks.laidMetH_plain _ _ _ (by kernel_rfl)] at h1
    obtain ⟨a, s, hv, _⟩ := laid_sentinel (g := 2) (ti := 73) (tp := 124) (te := 126) (ts := 9) (r := []) h1 (by kernel_rfl) (by kernel_rfl) Tryd.underlying73 (fun u h => typeName_ptr_named (nm := "errors.errorString") (by rw [show "*" ++ "errors.errorString" = "*errors.errorString" by decide]; kernel_rfl) (by kernel_rfl) (by decide) u (by rw [show "*" ++ "errors.errorString" = "*errors.errorString" by decide]; exact h)) Tryd.underlying124 Tryd.underlying126 rfl rfl Tryd.underlying9 (by kernel_rfl) (by kernel_rfl)
    exact ⟨_, _, hv⟩
  · have h1 := h.filter (fun x => x.1 == "strconv.ErrRange")
    rw [MakeChecks.laidMetH_plain _ _ _ (by kernel_rfl)] at h1
    obtain ⟨a, s, hv, _⟩ := laid_sentinel (g := 3) (ti := 73) (tp := 124) (te := 126) (ts := 9) (r := []) h1 (by kernel_rfl) (by kernel_rfl) Tryd.underlying73 (fun u h => typeName_ptr_named (nm := "errors.errorString") (by rw [show "*" ++ "errors.errorString" = "*errors.errorString" by decide]; kernel_rfl) (by kernel_rfl) (by decide) u (by rw [show "*" ++ "errors.errorString" = "*errors.errorString" by decide]; exact h)) Tryd.underlying124 Tryd.underlying126 rfl rfl Tryd.underlying9 (by kernel_rfl) (by kernel_rfl)
    exact ⟨_, _, hv⟩
theorem j64o {n : Int} (h : IntKind.i64.min ≤ n ∧ n ≤ IntKind.i64.max) : J64s n := ⟨Int.le_trans (by decide) h.1, Int.le_trans h.2 (by decide)⟩
theorem jco {x : Go.Ty.GCommand} (h : okGCommand x) : Jc x := ⟨j64o h.2.1, j64o h.2.2.2⟩

theorem door_met (os : Os) (args : Array Value) : laidMetH Tryd.prog Rows.scriptLinesRow.laid ((World.doorLaid Tryd.prog 400 os).forCall (fun _ _ => 0) ⟨#[], args, []⟩).memory :=
  laidMetH_of_parts3 (fuel := 8) (laidMet_of_run' 8 (by kernel_rfl) (by kernel_rfl)) (by kernel_rfl) (by kernel_rfl)
set_option maxRecDepth 100000 in
theorem lifted (os : Os) (started : os.Started) (H : Type) (enc : TypeId × Value → H) :
    ReturnsInHanded {} Tryd.checked os 3 .any (fun w args => (Rows.scriptLinesSpec.pre enc Tryd.prog Tryd.f3 [] false w args ∧ laidMetH Tryd.prog Rows.scriptLinesRow.laid w) ∧ sizedMet enc Tryd.prog Tryd.f3 (OpenSpec.ofChange Rows.scriptLinesSpec) false w args)
      (Rows.scriptLinesSpec.post enc Tryd.prog Tryd.f3 false true false false) := by
  refine Go.Lv.returnsInHanded_of_change_shaped (C := Tryd.checked) (X := fun w _ => laidMetH Tryd.prog Rows.scriptLinesRow.laid w) (fun _ _ _ hh h => h.of_heap hh) own started (by kernel_rfl) Tryd.func3
    (ChangeSpec.witness_shaped (enc := enc) (C := Tryd.checked) (os := os) (X := fun w _ => laidMetH Tryd.prog Rows.scriptLinesRow.laid w) false (World.doorLaid Tryd.prog 400 os) #[.agg #[.int .i64 0, .int .i64 0, .int .i64 0, .int .i64 0]] 8 rfl (World.shaped_of_RefB (by kernel_rfl) (by kernel_rfl)) (by kernel_rfl) (by kernel_rfl) (by kernel_rfl) (door_met os _)) ?_
  intro W base args ds gs before hval0 hW _ hsz0 hL hSh
  have hheld : Go.Lv.held.T W := held_of_laid hL hSh
  have hval : ∀ (j : Nat) t v, Tryd.f3.params[j]? = some t → args[j]? = some v → Value.okWide Tryd.prog W .any base t v := hval0
  have hW' := hW
  obtain ⟨p, q, hA0, hV, rfl, hfz, hnd⟩ := hW
  have hA : DataW.TrodAll enc Tryd.prog W 0 (fun _ => true) true Tryd.f3.params.toList args.toList ds p := hA0
  rw [Tryd.params3] at hA hval
  obtain ⟨v0, vs0, d0, ds0, p0, q0, hargs, rfl, rfl, h0, r0⟩ := trodAll_cons hA
  obtain ⟨rfl, rfl, rfl⟩ := trodAll_nil r0
  obtain rfl : args = #[v0] := by cases args; simp_all
  obtain ⟨rfl, rfl⟩ := trodVars_none hV
  have hszl : (DataW.weightsEach Tryd.prog [25] [d0]).all (· ≤ reachBytes) = true := hsz0
  have hw0 : Go.Lv.sized = true → ∀ k ∈ d0.weights Tryd.prog 25, k ≤ reachBytes := fun _ k hk => of_decide_eq_true (List.all_eq_true.1 hszl k (weightsEach_mem (i := 0) rfl rfl hk))
  have k0 := h0
  have lt0 : ∀ x ∈ p0, x.block < W.heap.size := by obtain ⟨m, hm⟩ := k0; exact DataW.trod_lt m _ _ _ hm
  obtain ⟨cs0, rfl⟩ : ∃ cs, v0 = Value.agg cs := by
    have h := hval 0 25 v0 rfl rfl
    unfold Value.okWide at h
    rw [Tryd.underlying25] at h
    obtain ⟨cs, e, _⟩ := h
    exact ⟨cs, e⟩
  obtain ⟨m0, trd0⟩ := Trd.ofW k0 hw0
  obtain ⟨x0, rp0, q0⟩ := open_GCommand m0 _ trd0
  clear trd0
  clear hA0 hval0
  refine Calls.mono (ScriptLines_spec x0 (jco q0) cs0 W hheld rp0) fun e W' hret => ?_
  cases e with
  | panicked c => exact hret.elim
  | outgrown => exact hret.elim
  | returned v =>
    obtain ⟨he, bel⟩ := hret
    subst he
    exact ⟨_, rfl, _, _, _, [], _, [], hW', trodAll_mk1 (shut_bool Tryd.underlying4 _), (trodAll_cons_mk (Below.trod laidOut (by kernel_rfl) (of_decide_eq_true (by kernel_rfl)) k0 bel lt0) trodAll_mk0), rfl, Below.frame bel _, fun h => by cases h⟩

theorem fact1 : Tryd.prog.inPlace 3 = Rows.scriptLinesRow.inPlace := by kernel_rfl
theorem fact2 : Tryd.prog.unfollowed 3 = Rows.scriptLinesRow.unfollowed := by kernel_rfl
theorem fact3 : Tryd.prog.recurses 3 = Rows.scriptLinesRow.recurses := by kernel_rfl
theorem fact4 : Tryd.prog.varsNamed 3 = Rows.scriptLinesRow.named := by kernel_rfl
set_option maxRecDepth 100000 in
theorem joined : joinedFacts Tryd.prog 3 Tryd.f3 Rows.scriptLinesSpec Rows.scriptLinesRow = true := by
  unfold joinedFacts
  rw [fact1, fact2, fact3, fact4, laidOut]
  kernel_rfl
set_option maxRecDepth 100000 in
theorem over : Rows.scriptLinesRow.holds Tryd.pinned (OpenSpec.ofChange Rows.scriptLinesSpec) :=
  OpenClaim.holds_of_wide 3 Tryd.f3 rfl rfl rfl rfl rfl rfl rfl ⟨rfl, rfl, rfl, rfl, rfl⟩ rfl rfl rfl rfl rfl (by kernel_rfl) Tryd.func3 joined
    (of_decide_eq_true (by kernel_rfl)) (by unfold Func.isWrapper; first | (rw [if_pos (by decide +kernel)]; kernel_rfl) | (rw [if_neg (by decide +kernel)]; exact ⟨rfl, rfl⟩))
    (fun os started H enc _ => lifted os started H enc)
end Go.Proofs.YtojfilbjdnnoeaaDoor.scriptLines
namespace Go.Proofs.YtojfilbjdnnoeaaDoor
/-- The row's statement. -/
theorem scriptLines_row : Rows.ScriptLinesSaid := scriptLines.over
/-- The statement: the tied card. -/
theorem scriptLinesCard_holds : Rows.ScriptLinesCardSaid :=
  Claim7.holds_tied_plain_at .later [] [.data, .data, .data, .sentinel, .sentinel] true (true, "8faac2f07d832ba667b0bd5c574cbdb6b5887db3eba9c2e4c11f1362886eaaa9") true
    scriptLines_row (fun _ h => by cases h) (by kernel_rfl) (fun _ h => by cases h) scriptLines_row_tie rfl ⟨rfl, rfl⟩ (by kernel_rfl) rfl
    (fun f fn hf hfn => by
      obtain rfl : f = 3 := Option.some.inj ((show Tryd.prog.funcNamed "retrace/retracelaw44.ScriptLines" = some 3 by kernel_rfl).symm.trans hf) |>.symm
      obtain rfl : fn = Tryd.f3 := (Option.some.inj (Tryd.func3.symm.trans hfn)).symm
      exact ⟨by kernel_rfl, fun j t ht => by
        rw [Tryd.params3] at ht
        have hm : t ∈ [25] := by simpa using Array.mem_of_getElem? ht
        have hall : ([25].all fun u => !Tryd.prog.wantsStandIn u) = true := by kernel_rfl
        exact (show Tryd.prog.wantsStandIn t = false by simpa using List.all_eq_true.1 hall t hm)⟩)
    (by kernel_rfl)
end Go.Proofs.YtojfilbjdnnoeaaDoor
#print axioms Go.Proofs.YtojfilbjdnnoeaaDoor.scriptLinesCard_holds
