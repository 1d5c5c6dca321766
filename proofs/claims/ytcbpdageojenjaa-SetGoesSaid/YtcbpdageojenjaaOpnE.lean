/- Arguments, opened (printed by opens.py). -/
import Derived.Test.YtcbpdageojenjaaRows
import Derived.Test.YtcbpdageojenjaaOpenLv
import Derived.Test.YtcbpdageojenjaaTyE
namespace Go.Proofs.Ytcbpdageojenjaa
open Go.Vc Go.Lv Go.Ty
def okGL06_Act (x : GL06_Act) : Prop := (IntKind.i64.min ≤ x.kind ∧ x.kind ≤ IntKind.i64.max) ∧ (IntKind.i64.min ≤ x.x ∧ x.x ≤ IntKind.i64.max)
theorem open_GL06_Act {w : World} : Opn Try.prog w 92 cGL06_Act okGL06_Act := by
  intro m cs h
  obtain ⟨m', rfl, hl, hx⟩ := h.struct Try.underlying92
  have hl' : cs.length = 2 := hl.trans (by kernel_rfl)
  have k0 : Try.prog.cellsOf 3 = 1 := by kernel_rfl
  have g0 : Trd Try.prog w m' 3 ((cs.drop 0).take (Try.prog.cellsOf 3)) := hx 0 _ rfl
  rw [k0] at g0
  obtain ⟨x0, r0, q0⟩ := (opn_int Try.underlying3) m' _ g0
  have k1 : Try.prog.cellsOf 3 = 1 := by kernel_rfl
  have g1 : Trd Try.prog w m' 3 ((cs.drop 1).take (Try.prog.cellsOf 3)) := hx 1 _ rfl
  rw [k1] at g1
  obtain ⟨x1, r1, q1⟩ := (opn_int Try.underlying3) m' _ g1
  exact ⟨⟨x0, x1⟩, pair_open r0 (last_open (by omega) r1), q0, q1⟩
end Go.Proofs.Ytcbpdageojenjaa
