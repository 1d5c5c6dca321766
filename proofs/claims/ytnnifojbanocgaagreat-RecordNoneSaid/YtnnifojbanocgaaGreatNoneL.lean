/- The example of the law 34 runs to its end, in every world. -/
import Derived.Test.YtnnifojbanocgaaGreatRows
import Derived.Test.YtnnifojbanocgaaGreatAmI
import Derived.KernelRfl
namespace Go.Proofs.YtnnifojbanocgaaGreat
open Go.Am
theorem mixed : Tryz.prog.follows .mixedOrders = true := by kernel_rfl
theorem run34 : funK Tryz.prog (fun c : CallK AV => c) 12 60 15 [] Tr.nil 0 (fun av _ _ => some av) = some (.lit (.bool true)) := by kernel_rfl
theorem gb34 : Nat.ble (Nat.succ (15 : FuncId)) YB = true := by kernel_rfl
set_option maxRecDepth 100000 in
theorem live34 : Closed Tryz.prog 15 (.bool true) := @closed_of Tryz.prog mixed (fun c => c) (ext_none Tryz.prog) 12 60 15 (.bool true) gb34 run34
end Go.Proofs.YtnnifojbanocgaaGreat
