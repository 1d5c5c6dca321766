/- The example of the law 42 runs to its end, in every world. -/
import Derived.Test.YtfcemnnlmlggoaaGreatRows
import Derived.Test.YtfcemnnlmlggoaaGreatAmR
import Derived.KernelRfl
namespace Go.Proofs.YtfcemnnlmlggoaaGreat.exploreKeys
open Go.Am
theorem mixed : Tryz.prog.follows .mixedOrders = true := by kernel_rfl
theorem run42 : funK Tryz.prog (fun c : CallK AV => c) 12 60 5 [] Tr.nil 0 (fun av _ _ => some av) = some (.lit (.bool true)) := by kernel_rfl
theorem gb42 : Nat.ble (Nat.succ (5 : FuncId)) YB = true := by kernel_rfl
set_option maxRecDepth 100000 in
theorem live42 : Closed Tryz.prog 5 (.bool true) := @closed_of Tryz.prog mixed (fun c => c) (ext_none Tryz.prog) 12 60 5 (.bool true) gb42 run42
theorem ok42 : Go.Vc.callOk Tryz.prog 5 = true := by kernel_rfl
open Go.Vc in
set_option maxRecDepth 100000 in
theorem calls42 (w : World) : Calls Tryz.prog 5 #[] w (Ret fun u w' => u = .bool true ∧ Go.RowKit.Below w.heap.size w w') := closed_calls ok42 live42 w
end Go.Proofs.YtfcemnnlmlggoaaGreat.exploreKeys
