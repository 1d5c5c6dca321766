/- Script: the functions of forms, as values. -/
import Derived.Test.YtojfilbjdnnoeaaDoorLtS
namespace Go.Proofs.YtojfilbjdnnoeaaDoor
open Go.Vc Go.Lv Go.Ty

theorem ok_none : callOk Tryd.prog 26 = true := by kernel_rfl
theorem ok_to : callOk Tryd.prog 27 = true := by kernel_rfl
theorem ok_break : callOk Tryd.prog 29 = true := by kernel_rfl
set_option maxRecDepth 10000 in
theorem dyn_none (x : GCommand) (words : List (List UInt8)) (K : Bool → GCommand → Prop) (h : K true x) : V_dyn_script_breakpoint (.func (.func 26) #[] #[]) x words K := by
  intro m w hm b cs hb hbx hr A C hl hs
  refine callV_of (P := Tryd.prog) (g := 26) rfl ok_none (call_then (script_forms_1_lift x words (fun r => r = true) rfl m w hm b cs hb hbx hr A C hl hs) ?_)
  rintro _ w' ⟨r, rfl, rfl, hbx', k⟩
  obtain rfl := GCommand_out hr
  exact ⟨true, x, h, rfl, ⟨_, hbx', GCommand_in x⟩, k⟩
set_option maxRecDepth 10000 in
theorem dyn_to (x : GCommand) (words : List (List UInt8)) (K : Bool → GCommand → Prop) (h : V_script_forms_2 x words K) : V_dyn_script_breakpoint (.func (.func 27) #[] #[]) x words K := by
  intro m w hm b cs hb hbx hr A C hl hs
  exact callV_of (P := Tryd.prog) (g := 27) rfl ok_to (h m w hm b cs hb hbx hr A C hl hs)
set_option maxRecDepth 10000 in
theorem dyn_break (x : GCommand) (words : List (List UInt8)) (K : Bool → GCommand → Prop) (h : V_script_breakpoint x words K) : V_dyn_script_breakpoint (.func (.func 29) #[] #[]) x words K := by
  intro m w hm b cs hb hbx hr A C hl hs
  exact callV_of (P := Tryd.prog) (g := 29) rfl ok_break (h m w hm b cs hb hbx hr A C hl hs)
end Go.Proofs.YtojfilbjdnnoeaaDoor
