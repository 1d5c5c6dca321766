/- The law InsTells returns true for every instruction: runs of the machine over intervals. -/
import Derived.Test.YtknpbkajonmaoaaDoorInsL
namespace Go.Proofs.YtknpbkajonmaoaaDoor.insTells
open Go.Am Go.Vc
open Go.RowKit (Below)
def coarse : List Iv := [((-9223372036854775808), -1), (0, 0), (1, 9223372036854775807)]
def fine : List Iv := [((-9223372036854775808), 2), (3, 3), (4, 4), (5, 5), (6, 6), (7, 7), (8, 8), (9, 9), (10, 10), (11, 11), (12, 12), (13, 13), (14, 14), (15, 15), (16, 16), (17, 17), (18, 9223372036854775807)]
def clsA (o : Iv) : List Iv := cond (decide (o.1 = 5)) fine coarse
def ops : List Iv := [((-9223372036854775808), 0), (1, 1), (2, 2), (3, 3), (4, 4), (5, 5), (6, 6), (7, 7), (8, 8), (9, 9), (10, 10), (11, 11), (12, 12), (13, 13), (14, 14), (15, 15), (16, 16), (17, 17), (18, 18), (19, 19), (20, 20), (21, 21), (22, 22), (23, 23), (24, 24), (25, 25), (26, 9223372036854775807)]
noncomputable def runOf (o a b : Iv) : Option AV := funK Tryd.prog (knownE (R := AV) 18 (.bool true)) 12 60 10 [.agg [avI .i64 o, avI .i64 a, avS 0 .i64 b]] Tr.nil 1 (fun av _ _ => some av)
noncomputable def runO (o : Iv) : Bool := (clsA o).all fun a => coarse.all fun b => trueB (runOf o a b)
theorem r0 : runO ((-9223372036854775808), 0) = true := by kernel_rfl
theorem r1 : runO (1, 1) = true := by kernel_rfl
theorem r2 : runO (2, 2) = true := by kernel_rfl
theorem r3 : runO (3, 3) = true := by kernel_rfl
theorem r4 : runO (4, 4) = true := by kernel_rfl
theorem r5 : runO (5, 5) = true := by kernel_rfl
theorem r6 : runO (6, 6) = true := by kernel_rfl
theorem r7 : runO (7, 7) = true := by kernel_rfl
theorem r8 : runO (8, 8) = true := by kernel_rfl
theorem r9 : runO (9, 9) = true := by kernel_rfl
theorem r10 : runO (10, 10) = true := by kernel_rfl
theorem r11 : runO (11, 11) = true := by kernel_rfl
theorem r12 : runO (12, 12) = true := by kernel_rfl
theorem r13 : runO (13, 13) = true := by kernel_rfl
theorem r14 : runO (14, 14) = true := by kernel_rfl
theorem r15 : runO (15, 15) = true := by kernel_rfl
theorem r16 : runO (16, 16) = true := by kernel_rfl
theorem r17 : runO (17, 17) = true := by kernel_rfl
theorem r18 : runO (18, 18) = true := by kernel_rfl
theorem r19 : runO (19, 19) = true := by kernel_rfl
theorem r20 : runO (20, 20) = true := by kernel_rfl
theorem r21 : runO (21, 21) = true := by kernel_rfl
theorem r22 : runO (22, 22) = true := by kernel_rfl
theorem r23 : runO (23, 23) = true := by kernel_rfl
theorem r24 : runO (24, 24) = true := by kernel_rfl
theorem r25 : runO (25, 25) = true := by kernel_rfl
theorem r26 : runO (26, 9223372036854775807) = true := by kernel_rfl
theorem all_runs : ∀ o ∈ ops, runO o = true := List.forall_mem_cons.2 ⟨r0, List.forall_mem_cons.2 ⟨r1, List.forall_mem_cons.2 ⟨r2, List.forall_mem_cons.2 ⟨r3, List.forall_mem_cons.2 ⟨r4, List.forall_mem_cons.2 ⟨r5, List.forall_mem_cons.2 ⟨r6, List.forall_mem_cons.2 ⟨r7, List.forall_mem_cons.2 ⟨r8, List.forall_mem_cons.2 ⟨r9, List.forall_mem_cons.2 ⟨r10, List.forall_mem_cons.2 ⟨r11, List.forall_mem_cons.2 ⟨r12, List.forall_mem_cons.2 ⟨r13, List.forall_mem_cons.2 ⟨r14, List.forall_mem_cons.2 ⟨r15, List.forall_mem_cons.2 ⟨r16, List.forall_mem_cons.2 ⟨r17, List.forall_mem_cons.2 ⟨r18, List.forall_mem_cons.2 ⟨r19, List.forall_mem_cons.2 ⟨r20, List.forall_mem_cons.2 ⟨r21, List.forall_mem_cons.2 ⟨r22, List.forall_mem_cons.2 ⟨r23, List.forall_mem_cons.2 ⟨r24, List.forall_mem_cons.2 ⟨r25, List.forall_mem_cons.2 ⟨r26, nofun⟩⟩⟩⟩⟩⟩⟩⟩⟩⟩⟩⟩⟩⟩⟩⟩⟩⟩⟩⟩⟩⟩⟩⟩⟩⟩⟩
theorem cov_ops : contig (-9223372036854775808) ops 9223372036854775807 = true := by kernel_rfl
theorem cov_coarse : contig (-9223372036854775808) coarse 9223372036854775807 = true := by kernel_rfl
theorem cov_fine : contig (-9223372036854775808) fine 9223372036854775807 = true := by kernel_rfl
theorem cov_A (o : Iv) : contig (-9223372036854775808) (clsA o) 9223372036854775807 = true := by
  unfold clsA
  cases decide (o.1 = 5)
  · exact cov_coarse
  · exact cov_fine
theorem gbR : Nat.ble (Nat.succ (10 : FuncId)) YB = true := by kernel_rfl
theorem okR : callOk Tryd.prog 10 = true := by kernel_rfl
set_option maxRecDepth 100000 in
theorem insTells_spec (ns : List Int) (hl : ns.length = 3) (hr : ∀ n ∈ ns, IntKind.i64.has n) (W : World) : Calls Tryd.prog 10 #[.agg ⟨ns.map (.int .i64)⟩] W (Ret fun v w' => v = .bool true ∧ Below W.heap.size W w') := by
  obtain ⟨x, a, b, rfl⟩ : ∃ x a b, ns = [x, a, b] := by
    match ns, hl with
    | [x, a, b], _ => exact ⟨x, a, b, rfl⟩
  obtain ⟨o, ho, ho1, ho2⟩ := Go.Am.cover cov_ops (show (-9223372036854775808) ≤ x from (hr x (by simp)).1) (show x ≤ 9223372036854775807 from (hr x (by simp)).2)
  obtain ⟨p, hp, hp1, hp2⟩ := Go.Am.cover (cov_A o) (show (-9223372036854775808) ≤ a from (hr a (by simp)).1) (show a ≤ 9223372036854775807 from (hr a (by simp)).2)
  obtain ⟨q, hq, hq1, hq2⟩ := Go.Am.cover cov_coarse (show (-9223372036854775808) ≤ b from (hr b (by simp)).1) (show b ≤ 9223372036854775807 from (hr b (by simp)).2)
  have h := all_runs o ho
  unfold runO at h
  have h := trueB_eq (List.all_eq_true.1 (List.all_eq_true.1 h p hp) q hq)
  exact @run_sym Tryd.prog mixed (knownE 18 (.bool true)) (@knownE_ok _ Tryd.prog 18 (.bool true) gb16 live16) 12 60 10 (.bool true) [.agg [avI .i64 o, avI .i64 p, avS 0 .i64 q]] gbR okR (fun _ => b) 1 h [.agg ⟨[.int .i64 x, .int .i64 a, .int .i64 b]⟩]
    (by
      have h1 := avI_rep (k := .i64) ho1 ho2 (symE (fun _ => b) 1)
      have h2 := avI_rep (k := .i64) hp1 hp2 (symE (fun _ => b) 1)
      have h3 := avS_rep (s := fun _ => b) (k0 := 1) (i := 0) (k := .i64) (by omega) hq1 hq2
      simp only [AV.repL]
      refine ⟨_, _, rfl, ?_, rfl⟩
      rw [AV.rep]
      exact ⟨_, rfl, by simp only [AV.repL]; exact ⟨_, _, rfl, h1, _, _, rfl, h2, _, _, rfl, h3, rfl⟩⟩) W
end Go.Proofs.YtknpbkajonmaoaaDoor.insTells
