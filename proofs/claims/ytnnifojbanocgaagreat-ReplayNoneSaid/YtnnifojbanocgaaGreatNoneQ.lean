/- The law of a nil player returns true for every number and every sum: three runs of the machine. -/
import Derived.Test.YtnnifojbanocgaaGreatNoneN
import Derived.Test.YtnnifojbanocgaaGreatNoneO
import Derived.Test.YtnnifojbanocgaaGreatNoneP
namespace Go.Proofs.YtnnifojbanocgaaGreat.replayNone
open Go.Am Go.Vc
open Go.RowKit (Below)
theorem gbR : Nat.ble (Nat.succ (4 : FuncId)) YB = true := by kernel_rfl
theorem okR : callOk Tryz.prog 4 = true := by kernel_rfl
set_option maxRecDepth 100000 in
theorem replayNone_lo (a c : Int) (h1 : -9223372036854775808 ≤ a) (h2 : a ≤ 9223372036854775807) (g1 : 0 ≤ c) (g2 : c ≤ 2170182490) (W : World) : Calls Tryz.prog 4 ⟨[.int .i64 a, .int .u32 c]⟩ W (Ret fun v w' => v = .bool true ∧ Below W.heap.size W w') :=
  @run_args Tryz.prog mixed (knownE 24 (.bool true)) (@knownE_ok _ Tryz.prog 24 (.bool true) gb35 live35) 12 60 4 (.bool true) [.ival .i64 (-9223372036854775808) 9223372036854775807, .ival .u32 0 2170182490] gbR okR run_lo [.int .i64 a, .int .u32 c] (by simp only [AV.repL, AV.rep]; exact ⟨_, _, rfl, ⟨a, rfl, h1, h2⟩, _, _, rfl, ⟨c, rfl, g1, g2⟩, rfl⟩) W
set_option maxRecDepth 100000 in
theorem replayNone_is (a c : Int) (h1 : -9223372036854775808 ≤ a) (h2 : a ≤ 9223372036854775807) (g1 : c = 2170182491) (W : World) : Calls Tryz.prog 4 ⟨[.int .i64 a, .int .u32 c]⟩ W (Ret fun v w' => v = .bool true ∧ Below W.heap.size W w') :=
  @run_args Tryz.prog mixed (knownE 24 (.bool true)) (@knownE_ok _ Tryz.prog 24 (.bool true) gb35 live35) 12 60 4 (.bool true) [.ival .i64 (-9223372036854775808) 9223372036854775807, .lit (.int .u32 2170182491)] gbR okR run_is [.int .i64 a, .int .u32 c] (by simp only [AV.repL, AV.rep]; exact ⟨_, _, rfl, ⟨a, rfl, h1, h2⟩, _, _, rfl, by rw [g1], rfl⟩) W
set_option maxRecDepth 100000 in
theorem replayNone_hi (a c : Int) (h1 : -9223372036854775808 ≤ a) (h2 : a ≤ 9223372036854775807) (g1 : 2170182492 ≤ c) (g2 : c ≤ 4294967295) (W : World) : Calls Tryz.prog 4 ⟨[.int .i64 a, .int .u32 c]⟩ W (Ret fun v w' => v = .bool true ∧ Below W.heap.size W w') :=
  @run_args Tryz.prog mixed (knownE 24 (.bool true)) (@knownE_ok _ Tryz.prog 24 (.bool true) gb35 live35) 12 60 4 (.bool true) [.ival .i64 (-9223372036854775808) 9223372036854775807, .ival .u32 2170182492 4294967295] gbR okR run_hi [.int .i64 a, .int .u32 c] (by simp only [AV.repL, AV.rep]; exact ⟨_, _, rfl, ⟨a, rfl, h1, h2⟩, _, _, rfl, ⟨c, rfl, g1, g2⟩, rfl⟩) W
set_option maxRecDepth 100000 in
theorem replayNone_spec (a c : Int) (h1 : -9223372036854775808 ≤ a) (h2 : a ≤ 9223372036854775807) (g1 : 0 ≤ c) (g2 : c ≤ 4294967295) (W : World) : Calls Tryz.prog 4 #[.int .i64 a, .int .u32 c] W (Ret fun v w' => v = .bool true ∧ Below W.heap.size W w') := by
  by_cases k1 : c ≤ 2170182490
  · exact replayNone_lo a c h1 h2 g1 k1 W
  · by_cases k2 : c = 2170182491
    · exact replayNone_is a c h1 h2 k2 W
    · exact replayNone_hi a c h1 h2 (by omega) g2 W
end Go.Proofs.YtnnifojbanocgaaGreat.replayNone
