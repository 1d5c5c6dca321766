/- Arguments, opened (printed by opens.py). -/
import Derived.Test.YtcbpdageojenjaaRows
import Derived.Test.YtcbpdageojenjaaOpenLv
import Derived.Test.YtcbpdageojenjaaTyE
namespace Go.Proofs.Ytcbpdageojenjaa
open Go.Vc Go.Lv Go.Ty
def okGL06_Act (x : GL06_Act) : Prop := (IntKind.i64.min ≤ x.kind ∧ x.kind ≤ IntKind.i64.max) ∧ (IntKind.i64.min ≤ x.x ∧ x.x ≤ IntKind.i64.max)
theorem open_GL06_Act {w : World} : Opn Try.prog w 92 cGL06_Act okGL06_Act := by
  intro m cs h
  obtain ⟨m', rfl, hl, hx⟩ := h.struct Try.underlying92
  have hl' : cs.length = 2 := hl.trans (by kernel_rfl)
  have k0 : Try.prog.cellsOf 3 = 1 := by kernel_rfl
  have g0 : Trd Try.prog w m' 3 ((cs.drop 0).take (Try.prog.cellsOf 3)) := hx 0 _ rfl
  rw [k0] at g0
  obtain ⟨x0, r0, q0⟩ := (opn_int Try.underlying3) m' _ g0
  have k1 : Try.prog.cellsOf 3 = 1 := by kernel_rfl
  have g1 : Trd Try.prog w m' 3 ((cs.drop 1).take (Try.prog.cellsOf 3)) := hx 1 _ rfl
  rw [k1] at g1
  obtain ⟨x1, r1, q1⟩ := (opn_int Try.underlying3) m' _ g1
  exact ⟨⟨x0, x1⟩, pair_open r0 (last_open (by omega) r1), q0, q1⟩

def okGBreak (x : GBreak) : Prop := (IntKind.i64.min ≤ x.kind ∧ x.kind ≤ IntKind.i64.max) ∧ (IntKind.i64.min ≤ x.n ∧ x.n ≤ IntKind.i64.max)
theorem open_GBreak {w : World} : Opn Try.prog w 24 cGBreak okGBreak := by
  intro m cs h
  obtain ⟨m', rfl, hl, hx⟩ := h.struct Try.underlying24
  have hl' : cs.length = 2 := hl.trans (by kernel_rfl)
  have k0 : Try.prog.cellsOf 3 = 1 := by kernel_rfl
  have g0 : Trd Try.prog w m' 3 ((cs.drop 0).take (Try.prog.cellsOf 3)) := hx 0 _ rfl
  rw [k0] at g0
  obtain ⟨x0, r0, q0⟩ := (opn_int Try.underlying3) m' _ g0
  have k1 : Try.prog.cellsOf 3 = 1 := by kernel_rfl
  have g1 : Trd Try.prog w m' 3 ((cs.drop 1).take (Try.prog.cellsOf 3)) := hx 1 _ rfl
  rw [k1] at g1
  obtain ⟨x1, r1, q1⟩ := (opn_int Try.underlying3) m' _ g1
  exact ⟨⟨x0, x1⟩, pair_open r0 (last_open (by omega) r1), q0, q1⟩

def okGHappen (x : GHappen) : Prop := (IntKind.i64.min ≤ x.kind ∧ x.kind ≤ IntKind.i64.max) ∧ (IntKind.i64.min ≤ x.who ∧ x.who ≤ IntKind.i64.max) ∧ (IntKind.i64.min ≤ x.stmt ∧ x.stmt ≤ IntKind.i64.max) ∧ (IntKind.i64.min ≤ x.chan ∧ x.chan ≤ IntKind.i64.max) ∧ (IntKind.i64.min ≤ x.peer ∧ x.peer ≤ IntKind.i64.max)
theorem open_GHappen {w : World} : Opn Try.prog w 26 cGHappen okGHappen := by
  intro m cs h
  obtain ⟨m', rfl, hl, hx⟩ := h.struct Try.underlying26
  have hl' : cs.length = 5 := hl.trans (by kernel_rfl)
  have k0 : Try.prog.cellsOf 3 = 1 := by kernel_rfl
  have g0 : Trd Try.prog w m' 3 ((cs.drop 0).take (Try.prog.cellsOf 3)) := hx 0 _ rfl
  rw [k0] at g0
  obtain ⟨x0, r0, q0⟩ := (opn_int Try.underlying3) m' _ g0
  have k1 : Try.prog.cellsOf 3 = 1 := by kernel_rfl
  have g1 : Trd Try.prog w m' 3 ((cs.drop 1).take (Try.prog.cellsOf 3)) := hx 1 _ rfl
  rw [k1] at g1
  obtain ⟨x1, r1, q1⟩ := (opn_int Try.underlying3) m' _ g1
  have k2 : Try.prog.cellsOf 3 = 1 := by kernel_rfl
  have g2 : Trd Try.prog w m' 3 ((cs.drop 2).take (Try.prog.cellsOf 3)) := hx 2 _ rfl
  rw [k2] at g2
  obtain ⟨x2, r2, q2⟩ := (opn_int Try.underlying3) m' _ g2
  have k3 : Try.prog.cellsOf 3 = 1 := by kernel_rfl
  have g3 : Trd Try.prog w m' 3 ((cs.drop 3).take (Try.prog.cellsOf 3)) := hx 3 _ rfl
  rw [k3] at g3
  obtain ⟨x3, r3, q3⟩ := (opn_int Try.underlying3) m' _ g3
  have k4 : Try.prog.cellsOf 3 = 1 := by kernel_rfl
  have g4 : Trd Try.prog w m' 3 ((cs.drop 4).take (Try.prog.cellsOf 3)) := hx 4 _ rfl
  rw [k4] at g4
  obtain ⟨x4, r4, q4⟩ := (opn_int Try.underlying3) m' _ g4
  exact ⟨⟨x0, x1, x2, x3, x4⟩, pair_open r0 (pair_open r1 (pair_open r2 (pair_open r3 (last_open (by omega) r4)))), q0, q1, q2, q3, q4⟩

def okGL37_Act (x : GL37_Act) : Prop := (IntKind.i64.min ≤ x.kind ∧ x.kind ≤ IntKind.i64.max) ∧ okGBreak x.b ∧ okGHappen x.h_
theorem open_GL37_Act {w : World} : Opn Try.prog w 42 cGL37_Act okGL37_Act := by
  intro m cs h
  obtain ⟨m', rfl, hl, hx⟩ := h.struct Try.underlying42
  have hl' : cs.length = 8 := hl.trans (by kernel_rfl)
  have k0 : Try.prog.cellsOf 3 = 1 := by kernel_rfl
  have g0 : Trd Try.prog w m' 3 ((cs.drop 0).take (Try.prog.cellsOf 3)) := hx 0 _ rfl
  rw [k0] at g0
  obtain ⟨x0, r0, q0⟩ := (opn_int Try.underlying3) m' _ g0
  have k1 : Try.prog.cellsOf 24 = 2 := by kernel_rfl
  have g1 : Trd Try.prog w m' 24 ((cs.drop 1).take (Try.prog.cellsOf 24)) := hx 1 _ rfl
  rw [k1] at g1
  obtain ⟨x1, r1, q1⟩ := open_GBreak m' _ g1
  have k2 : Try.prog.cellsOf 26 = 5 := by kernel_rfl
  have g2 : Trd Try.prog w m' 26 ((cs.drop 3).take (Try.prog.cellsOf 26)) := hx 2 _ rfl
  rw [k2] at g2
  obtain ⟨x2, r2, q2⟩ := open_GHappen m' _ g2
  exact ⟨⟨x0, x1, x2⟩, pair_open r0 (pair_open r1 (last_open (by omega) r2)), q0, q1, q2⟩
end Go.Proofs.Ytcbpdageojenjaa
