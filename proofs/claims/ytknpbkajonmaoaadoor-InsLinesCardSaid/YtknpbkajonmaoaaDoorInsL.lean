/- The example of the law 16 runs to its end, in every world. -/
import Derived.Test.YtknpbkajonmaoaaDoorRows
import Derived.Test.YtknpbkajonmaoaaDoorAmR
import Derived.KernelRfl
namespace Go.Proofs.YtknpbkajonmaoaaDoor.insTells
open Go.Am
theorem mixed : Tryd.prog.follows .mixedOrders = true := by kernel_rfl
theorem run16 : funK Tryd.prog (fun c : CallK AV => c) 12 60 18 [] Tr.nil 0 (fun av _ _ => some av) = some (.lit (.bool true)) := by kernel_rfl
theorem gb16 : Nat.ble (Nat.succ (18 : FuncId)) YB = true := by kernel_rfl
set_option maxRecDepth 100000 in
theorem live16 : Closed Tryd.prog 18 (.bool true) := @closed_of Tryd.prog mixed (fun c => c) (ext_none Tryd.prog) 12 60 18 (.bool true) gb16 run16
theorem ok16 : Go.Vc.callOk Tryd.prog 18 = true := by kernel_rfl
open Go.Vc in
set_option maxRecDepth 100000 in
theorem calls16 (w : World) : Calls Tryd.prog 18 #[] w (Ret fun u w' => u = .bool true ∧ Go.RowKit.Below w.heap.size w w') := closed_calls ok16 live16 w
end Go.Proofs.YtknpbkajonmaoaaDoor.insTells
