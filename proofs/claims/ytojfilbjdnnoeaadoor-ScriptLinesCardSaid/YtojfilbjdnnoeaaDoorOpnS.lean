/- Arguments, opened (printed by opens.py). -/
import Derived.Test.YtojfilbjdnnoeaaDoorRows
import Derived.Test.YtojfilbjdnnoeaaDoorOpenLv
import Derived.Test.YtojfilbjdnnoeaaDoorTyS
namespace Go.Proofs.YtojfilbjdnnoeaaDoor
open Go.Vc Go.Lv Go.Ty
def okGBreak (x : GBreak) : Prop := (IntKind.i64.min ≤ x.kind ∧ x.kind ≤ IntKind.i64.max) ∧ (IntKind.i64.min ≤ x.n ∧ x.n ≤ IntKind.i64.max)
theorem open_GBreak {w : World} : Opn Tryd.prog w 23 cGBreak okGBreak := by
  intro m cs h
  obtain ⟨m', rfl, hl, hx⟩ := h.struct Tryd.underlying23
  have hl' : cs.length = 2 := hl.trans (by kernel_rfl)
  have k0 : Tryd.prog.cellsOf 3 = 1 := by kernel_rfl
  have g0 : Trd Tryd.prog w m' 3 ((cs.drop 0).take (Tryd.prog.cellsOf 3)) := hx 0 _ rfl
  rw [k0] at g0
  obtain ⟨x0, r0, q0⟩ := (opn_int Tryd.underlying3) m' _ g0
  have k1 : Tryd.prog.cellsOf 3 = 1 := by kernel_rfl
  have g1 : Trd Tryd.prog w m' 3 ((cs.drop 1).take (Tryd.prog.cellsOf 3)) := hx 1 _ rfl
  rw [k1] at g1
  obtain ⟨x1, r1, q1⟩ := (opn_int Tryd.underlying3) m' _ g1
  exact ⟨⟨x0, x1⟩, pair_open r0 (last_open (by omega) r1), q0, q1⟩

def okGCommand (x : GCommand) : Prop := (IntKind.i64.min ≤ x.kind ∧ x.kind ≤ IntKind.i64.max) ∧ (IntKind.i64.min ≤ x.n ∧ x.n ≤ IntKind.i64.max) ∧ okGBreak x.break_
theorem open_GCommand {w : World} : Opn Tryd.prog w 25 cGCommand okGCommand := by
  intro m cs h
  obtain ⟨m', rfl, hl, hx⟩ := h.struct Tryd.underlying25
  have hl' : cs.length = 4 := hl.trans (by kernel_rfl)
  have k0 : Tryd.prog.cellsOf 3 = 1 := by kernel_rfl
  have g0 : Trd Tryd.prog w m' 3 ((cs.drop 0).take (Tryd.prog.cellsOf 3)) := hx 0 _ rfl
  rw [k0] at g0
  obtain ⟨x0, r0, q0⟩ := (opn_int Tryd.underlying3) m' _ g0
  have k1 : Tryd.prog.cellsOf 3 = 1 := by kernel_rfl
  have g1 : Trd Tryd.prog w m' 3 ((cs.drop 1).take (Tryd.prog.cellsOf 3)) := hx 1 _ rfl
  rw [k1] at g1
  obtain ⟨x1, r1, q1⟩ := (opn_int Tryd.underlying3) m' _ g1
  have k2 : Tryd.prog.cellsOf 23 = 2 := by kernel_rfl
  have g2 : Trd Tryd.prog w m' 23 ((cs.drop 2).take (Tryd.prog.cellsOf 23)) := hx 2 _ rfl
  rw [k2] at g2
  obtain ⟨x2, r2, q2⟩ := open_GBreak m' _ g2
  exact ⟨⟨x0, x1, x2⟩, pair_open r0 (pair_open r1 (last_open (by omega) r2)), q0, q1, q2⟩
end Go.Proofs.YtojfilbjdnnoeaaDoor
