/- The chapter's example. -/
import Derived.Test.YtldcgfpcnemhpaaGreatXxG
import Derived.KernelRfl
namespace Go.Proofs.YtldcgfpcnemhpaaGreat
open Go.Vc Go.Lv Go.Ty
theorem live_run : L29_live_ex 300 = some true := by kernel_rfl
theorem live_v (K : Bool → Prop) (h : K true) : V_L29_live K := L29_live_exok live_run K h
end Go.Proofs.YtldcgfpcnemhpaaGreat
