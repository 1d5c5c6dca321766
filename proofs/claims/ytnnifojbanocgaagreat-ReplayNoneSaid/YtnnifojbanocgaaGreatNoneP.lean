/- The law of a nil player: a run of the machine. -/
import Derived.Test.YtnnifojbanocgaaGreatNoneM
namespace Go.Proofs.YtnnifojbanocgaaGreat.replayNone
open Go.Am Go.Vc
open Go.RowKit (Below)
theorem run_hi : funK Tryz.prog (knownE (R := AV) 24 (.bool true)) 12 60 4 [.ival .i64 (-9223372036854775808) 9223372036854775807, .ival .u32 2170182492 4294967295] Tr.nil 0 (fun av _ _ => some av) = some (.lit (.bool true)) := by kernel_rfl
end Go.Proofs.YtnnifojbanocgaaGreat.replayNone
