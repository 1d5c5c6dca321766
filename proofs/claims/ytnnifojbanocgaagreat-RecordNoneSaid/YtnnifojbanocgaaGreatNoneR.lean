/- The law of a nil recorder returns true for every number: three runs of the machine. -/
import Derived.Test.YtnnifojbanocgaaGreatNoneL
namespace Go.Proofs.YtnnifojbanocgaaGreat
open Go.Am Go.Vc
open Go.RowKit (Below)
theorem gbR : Nat.ble (Nat.succ (3 : FuncId)) YB = true := by kernel_rfl
theorem okR : callOk Tryz.prog 3 = true := by kernel_rfl
theorem run_lo : funK Tryz.prog (knownE (R := AV) 15 (.bool true)) 12 60 3 [.ival .i64 (-9223372036854775808) 0] Tr.nil 0 (fun av _ _ => some av) = some (.lit (.bool true)) := by kernel_rfl
set_option maxRecDepth 100000 in
theorem recordNone_lo (a : Int) (h1 : -9223372036854775808 ≤ a) (h2 : a ≤ 0) (W : World) : Calls Tryz.prog 3 ⟨[.int .i64 a]⟩ W (Ret fun v w' => v = .bool true ∧ Below W.heap.size W w') :=
  @run_args Tryz.prog mixed (knownE 15 (.bool true)) (@knownE_ok _ Tryz.prog 15 (.bool true) gb34 live34) 12 60 3 (.bool true) [.ival .i64 (-9223372036854775808) 0] gbR okR run_lo [.int .i64 a] (by simp only [AV.repL, AV.rep]; exact ⟨_, _, rfl, ⟨a, rfl, h1, h2⟩, rfl⟩) W
theorem run_mid : funK Tryz.prog (knownE (R := AV) 15 (.bool true)) 12 60 3 [.ival .i64 1 1048576] Tr.nil 0 (fun av _ _ => some av) = some (.lit (.bool true)) := by kernel_rfl
set_option maxRecDepth 100000 in
theorem recordNone_mid (a : Int) (h1 : 1 ≤ a) (h2 : a ≤ 1048576) (W : World) : Calls Tryz.prog 3 ⟨[.int .i64 a]⟩ W (Ret fun v w' => v = .bool true ∧ Below W.heap.size W w') :=
  @run_args Tryz.prog mixed (knownE 15 (.bool true)) (@knownE_ok _ Tryz.prog 15 (.bool true) gb34 live34) 12 60 3 (.bool true) [.ival .i64 1 1048576] gbR okR run_mid [.int .i64 a] (by simp only [AV.repL, AV.rep]; exact ⟨_, _, rfl, ⟨a, rfl, h1, h2⟩, rfl⟩) W
theorem run_hi : funK Tryz.prog (knownE (R := AV) 15 (.bool true)) 12 60 3 [.ival .i64 1048577 9223372036854775807] Tr.nil 0 (fun av _ _ => some av) = some (.lit (.bool true)) := by kernel_rfl
set_option maxRecDepth 100000 in
theorem recordNone_hi (a : Int) (h1 : 1048577 ≤ a) (h2 : a ≤ 9223372036854775807) (W : World) : Calls Tryz.prog 3 ⟨[.int .i64 a]⟩ W (Ret fun v w' => v = .bool true ∧ Below W.heap.size W w') :=
  @run_args Tryz.prog mixed (knownE 15 (.bool true)) (@knownE_ok _ Tryz.prog 15 (.bool true) gb34 live34) 12 60 3 (.bool true) [.ival .i64 1048577 9223372036854775807] gbR okR run_hi [.int .i64 a] (by simp only [AV.repL, AV.rep]; exact ⟨_, _, rfl, ⟨a, rfl, h1, h2⟩, rfl⟩) W
set_option maxRecDepth 100000 in
theorem recordNone_spec (a : Int) (h1 : -9223372036854775808 ≤ a) (h2 : a ≤ 9223372036854775807) (W : World) : Calls Tryz.prog 3 #[.int .i64 a] W (Ret fun v w' => v = .bool true ∧ Below W.heap.size W w') := by
  by_cases g1 : a ≤ 0
  · exact recordNone_lo a h1 g1 W
  · by_cases g2 : a ≤ 1048576
    · exact recordNone_mid a (by omega) g2 W
    · exact recordNone_hi a (by omega) h2 W
end Go.Proofs.YtnnifojbanocgaaGreat
