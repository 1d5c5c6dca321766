/- The example of the law 39 runs to its end, in every world. -/
import Derived.Test.YtnnifojbanocgaaGreatRows
import Derived.Test.YtnnifojbanocgaaGreatAmO
import Derived.KernelRfl
namespace Go.Proofs.YtnnifojbanocgaaGreat.debugNone
open Go.Am Go.Vc
theorem mixed : Tryz.prog.follows .mixedOrders = true := by kernel_rfl
theorem gbO : Nat.ble (Nat.succ (313 : FuncId)) YB = true := by kernel_rfl
theorem run39 : funK Tryz.prog (overE (R := AV) 313) 12 60 31 [] Tr.nil 0 (fun av _ _ => some av) = some (.lit (.bool true)) := by kernel_rfl
theorem gb39 : Nat.ble (Nat.succ (31 : FuncId)) YB = true := by kernel_rfl
theorem find1 : Extern.findNext Tryz.f313 = none := by kernel_rfl
theorem find2 : Extern.find Tryz.f313 = some (Extern.SlicesOverlaps.overlaps #[41, 41] #[4]) := by kernel_rfl
theorem inf : (Tryz.prog.info? 3).map (·.size) = some 1 := by kernel_rfl
theorem size_one {P : Program} {t : TypeId} (h : (P.info? t).map (·.size) = some 1) (w : World) : (sizeOf t).run P w = .ok 1 w := by
  obtain ⟨i, hi, hz⟩ := Option.map_eq_some_iff.1 h
  simp [sizeOf, typeInfo, Sem.run_bind, run_program, hi, hz]
set_option maxRecDepth 100000 in
theorem overO : OverOk Tryz.prog 313 41 4 3 1 :=
  ⟨fun args w => run_callFunc_extern Tryz.func313 (by kernel_rfl) (by kernel_rfl) find1 find2 args w, Tryz.underlying41, size_one inf⟩
set_option maxRecDepth 100000 in
theorem live39 : Closed Tryz.prog 31 (.bool true) := @closed_of Tryz.prog mixed (overE 313) (@overE_ok _ Tryz.prog 313 41 4 3 1 gbO overO) 12 60 31 (.bool true) gb39 run39
end Go.Proofs.YtnnifojbanocgaaGreat.debugNone
