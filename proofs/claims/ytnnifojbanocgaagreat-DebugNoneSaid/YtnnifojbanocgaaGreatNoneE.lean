/- The law of a nil debugger returns true for every command: one run of the machine. -/
import Derived.Test.YtnnifojbanocgaaGreatNoneD
import GoSem.ClaimWide
namespace Go.Proofs.YtnnifojbanocgaaGreat.debugNone
open Go.Am Go.Vc
open Go.RowKit (Below)
theorem okWide_one {P : Program} {w : World} {r : Reach} {base : Nat} {t : TypeId} {v : Value} (h : Cell.okWide P w r base t v) : v.oneCell' = true := by
  cases v <;> first | rfl | (exfalso; unfold Cell.okWide at h; split at h <;> first | (simp_all; done) | (unfold Cell.ok at h; split at h <;> simp_all))
theorem row_ones {P : Program} {w : World} {r : Reach} {base : Nat} {t : TypeId} {cs : Array Value} (h : Row.okWide P w r base t cs) : ∀ x ∈ cs.toList, x.oneCell' = true := by
  obtain ⟨ts, _, _, h⟩ := h
  intro x hx
  obtain ⟨i, hi⟩ := List.getElem?_of_mem hx
  obtain ⟨u, _, hu⟩ := h i x (by simpa using hi)
  exact okWide_one hu
theorem ones_unk (e : Env) : ∀ (l : List Value), (∀ x ∈ l, x.oneCell' = true) → AV.repL e (List.replicate l.length .unk) l
  | [], _ => by simp [AV.repL]
  | x :: l, h => by
    simp only [List.length_cons, List.replicate_succ, AV.repL]
    exact ⟨x, l, rfl, by simp only [AV.rep]; exact h x (by simp), ones_unk e l fun y hy => h y (by simp [hy])⟩
theorem run_law : funK Tryz.prog (knownE (R := AV) 31 (.bool true)) 12 60 5 [.agg [.unk, .unk, .unk, .unk]] Tr.nil 0 (fun av _ _ => some av) = some (.lit (.bool true)) := by kernel_rfl
theorem gbR : Nat.ble (Nat.succ (5 : FuncId)) YB = true := by kernel_rfl
theorem okR : callOk Tryz.prog 5 = true := by kernel_rfl
set_option maxRecDepth 100000 in
theorem debugNone_spec (cs : Array Value) (hz : cs.size = 4) (hc : ∀ x ∈ cs.toList, x.oneCell' = true) (W : World) : Calls Tryz.prog 5 #[.agg cs] W (Ret fun v w' => v = .bool true ∧ Below W.heap.size W w') :=
  @run_args Tryz.prog mixed (knownE 31 (.bool true)) (@knownE_ok _ Tryz.prog 31 (.bool true) gb39 live39) 12 60 5 (.bool true) [.agg [.unk, .unk, .unk, .unk]] gbR okR run_law [.agg cs]
    (by
      have h := ones_unk (fun _ => none) cs.toList hc
      have hl : cs.toList.length = 4 := by simpa using hz
      rw [hl] at h
      simp only [AV.repL, AV.rep]
      exact ⟨_, _, rfl, ⟨cs.toList, rfl, by simpa only [List.replicate, AV.repL, AV.rep] using h⟩, rfl⟩) W
end Go.Proofs.YtnnifojbanocgaaGreat.debugNone
