/- The example of the law 19 runs to its end, in every world. -/
import Derived.Test.YtknpbkajonmaoaaGreatRows
import Derived.Test.YtknpbkajonmaoaaGreatAmI
import Derived.KernelRfl
namespace Go.Proofs.YtknpbkajonmaoaaGreat.buildStmts
open Go.Am
theorem mixed : Tryz.prog.follows .mixedOrders = true := by kernel_rfl
theorem run19 : funK Tryz.prog (fun c : CallK AV => c) 12 60 4 [] Tr.nil 0 (fun av _ _ => some av) = some (.lit (.bool true)) := by kernel_rfl
theorem gb19 : Nat.ble (Nat.succ (4 : FuncId)) YB = true := by kernel_rfl
theorem ok19 : Go.Vc.callOk Tryz.prog 4 = true := by kernel_rfl
set_option maxRecDepth 100000 in
theorem live19 : Closed Tryz.prog 4 (.bool true) := @closed_of Tryz.prog mixed (fun c => c) (ext_none Tryz.prog) 12 60 4 (.bool true) gb19 run19
open Go.Vc in
set_option maxRecDepth 100000 in
theorem calls19 (w : World) : Calls Tryz.prog 4 #[] w (Ret fun u w' => u = .bool true ∧ Go.RowKit.Below w.heap.size w w') := closed_calls ok19 live19 w
end Go.Proofs.YtknpbkajonmaoaaGreat.buildStmts
