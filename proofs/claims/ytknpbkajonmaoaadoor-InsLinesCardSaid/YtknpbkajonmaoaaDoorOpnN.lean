/- Arguments, opened (printed by opens.py). -/
import Derived.Test.YtknpbkajonmaoaaDoorRows
import Derived.Test.YtknpbkajonmaoaaDoorOpenLv
import Derived.Test.YtknpbkajonmaoaaDoorTyN
namespace Go.Proofs.YtknpbkajonmaoaaDoor
open Go.Vc Go.Lv Go.Ty
def okGIns (x : GIns) : Prop := (IntKind.i64.min ≤ x.op ∧ x.op ≤ IntKind.i64.max) ∧ (IntKind.i64.min ≤ x.a ∧ x.a ≤ IntKind.i64.max) ∧ (IntKind.i64.min ≤ x.b ∧ x.b ≤ IntKind.i64.max)
theorem open_GIns {w : World} : Opn Tryd.prog w 55 cGIns okGIns := by
  intro m cs h
  obtain ⟨m', rfl, hl, hx⟩ := h.struct Tryd.underlying55
  have hl' : cs.length = 3 := hl.trans (by kernel_rfl)
  have k0 : Tryd.prog.cellsOf 3 = 1 := by kernel_rfl
  have g0 : Trd Tryd.prog w m' 3 ((cs.drop 0).take (Tryd.prog.cellsOf 3)) := hx 0 _ rfl
  rw [k0] at g0
  obtain ⟨x0, r0, q0⟩ := (opn_int Tryd.underlying3) m' _ g0
  have k1 : Tryd.prog.cellsOf 3 = 1 := by kernel_rfl
  have g1 : Trd Tryd.prog w m' 3 ((cs.drop 1).take (Tryd.prog.cellsOf 3)) := hx 1 _ rfl
  rw [k1] at g1
  obtain ⟨x1, r1, q1⟩ := (opn_int Tryd.underlying3) m' _ g1
  have k2 : Tryd.prog.cellsOf 3 = 1 := by kernel_rfl
  have g2 : Trd Tryd.prog w m' 3 ((cs.drop 2).take (Tryd.prog.cellsOf 3)) := hx 2 _ rfl
  rw [k2] at g2
  obtain ⟨x2, r2, q2⟩ := (opn_int Tryd.underlying3) m' _ g2
  exact ⟨⟨x0, x1, x2⟩, pair_open r0 (pair_open r1 (last_open (by omega) r2)), q0, q1, q2⟩
end Go.Proofs.YtknpbkajonmaoaaDoor
