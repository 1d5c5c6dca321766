/- The chapter's example. -/
import Derived.Test.YtpigkempbnmioaaDoorXxK
import Derived.KernelRfl
namespace Go.Proofs.YtpigkempbnmioaaDoor
open Go.Vc Go.Lv Go.Ty
theorem live_run : L40_live_ex 100 = some true := by kernel_rfl
theorem live_v (K : Bool → Prop) (h : K true) : V_L40_live K := L40_live_exok live_run K h
end Go.Proofs.YtpigkempbnmioaaDoor
