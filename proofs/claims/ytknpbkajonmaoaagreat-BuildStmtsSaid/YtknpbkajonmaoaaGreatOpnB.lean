/- Arguments, opened (printed by opens.py). -/
import Derived.Test.YtknpbkajonmaoaaGreatRows
import Derived.Test.YtknpbkajonmaoaaGreatOpenLv
import Derived.Test.YtknpbkajonmaoaaGreatTyB
namespace Go.Proofs.YtknpbkajonmaoaaGreat
open Go.Vc Go.Lv Go.Ty
def okGNode (x : GNode) : Prop := (IntKind.i64.min ≤ x.op ∧ x.op ≤ IntKind.i64.max) ∧ (x.name).length ≤ lim ∧ (IntKind.i64.min ≤ x.n ∧ x.n ≤ IntKind.i64.max) ∧ (IntKind.i64.min ≤ x.kids ∧ x.kids ≤ IntKind.i64.max) ∧ (IntKind.i64.min ≤ x.at_ ∧ x.at_ ≤ IntKind.i64.max)
theorem open_GNode {w : World} : Opn Tryz.prog w 37 cGNode okGNode := by
  intro m cs h
  obtain ⟨m', rfl, hl, hx⟩ := h.struct Tryz.underlying37
  have hl' : cs.length = 5 := hl.trans (by kernel_rfl)
  have k0 : Tryz.prog.cellsOf 3 = 1 := by kernel_rfl
  have g0 : Trd Tryz.prog w m' 3 ((cs.drop 0).take (Tryz.prog.cellsOf 3)) := hx 0 _ rfl
  rw [k0] at g0
  obtain ⟨x0, r0, q0⟩ := (opn_int Tryz.underlying3) m' _ g0
  have k1 : Tryz.prog.cellsOf 9 = 1 := by kernel_rfl
  have g1 : Trd Tryz.prog w m' 9 ((cs.drop 1).take (Tryz.prog.cellsOf 9)) := hx 1 _ rfl
  rw [k1] at g1
  obtain ⟨x1, r1, q1⟩ := (opn_str Tryz.underlying9) m' _ g1
  have k2 : Tryz.prog.cellsOf 3 = 1 := by kernel_rfl
  have g2 : Trd Tryz.prog w m' 3 ((cs.drop 2).take (Tryz.prog.cellsOf 3)) := hx 2 _ rfl
  rw [k2] at g2
  obtain ⟨x2, r2, q2⟩ := (opn_int Tryz.underlying3) m' _ g2
  have k3 : Tryz.prog.cellsOf 3 = 1 := by kernel_rfl
  have g3 : Trd Tryz.prog w m' 3 ((cs.drop 3).take (Tryz.prog.cellsOf 3)) := hx 3 _ rfl
  rw [k3] at g3
  obtain ⟨x3, r3, q3⟩ := (opn_int Tryz.underlying3) m' _ g3
  have k4 : Tryz.prog.cellsOf 3 = 1 := by kernel_rfl
  have g4 : Trd Tryz.prog w m' 3 ((cs.drop 4).take (Tryz.prog.cellsOf 3)) := hx 4 _ rfl
  rw [k4] at g4
  obtain ⟨x4, r4, q4⟩ := (opn_int Tryz.underlying3) m' _ g4
  exact ⟨⟨x0, x1, x2, x3, x4⟩, pair_open r0 (pair_open r1 (pair_open r2 (pair_open r3 (last_open (by omega) r4)))), q0, q1, q2, q3, q4⟩
end Go.Proofs.YtknpbkajonmaoaaGreat
