/- The example of the law 35 runs to its end, in every world. -/
import Derived.Test.YtnnifojbanocgaaGreatRows
import Derived.Test.YtnnifojbanocgaaGreatAmI
import Derived.KernelRfl
namespace Go.Proofs.YtnnifojbanocgaaGreat.replayNone
open Go.Am
theorem mixed : Tryz.prog.follows .mixedOrders = true := by kernel_rfl
theorem run35 : funK Tryz.prog (fun c : CallK AV => c) 12 60 24 [] Tr.nil 0 (fun av _ _ => some av) = some (.lit (.bool true)) := by kernel_rfl
theorem gb35 : Nat.ble (Nat.succ (24 : FuncId)) YB = true := by kernel_rfl
set_option maxRecDepth 100000 in
theorem live35 : Closed Tryz.prog 24 (.bool true) := @closed_of Tryz.prog mixed (fun c => c) (ext_none Tryz.prog) 12 60 24 (.bool true) gb35 run35
end Go.Proofs.YtnnifojbanocgaaGreat.replayNone
