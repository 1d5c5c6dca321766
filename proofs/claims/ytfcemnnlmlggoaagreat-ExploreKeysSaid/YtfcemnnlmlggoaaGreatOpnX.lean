/- Arguments, opened (printed by opens.py). -/
import Derived.Test.YtfcemnnlmlggoaaGreatRows
import Derived.Test.YtfcemnnlmlggoaaGreatOpenLv
import Derived.Test.YtfcemnnlmlggoaaGreatTyX
namespace Go.Proofs.YtfcemnnlmlggoaaGreat
open Go.Vc Go.Lv Go.Ty
def okGAlt (x : GAlt) : Prop := (IntKind.i64.min ≤ x.kind ∧ x.kind ≤ IntKind.i64.max) ∧ (IntKind.i64.min ≤ x.chan ∧ x.chan ≤ IntKind.i64.max) ∧ (IntKind.i64.min ≤ x.val ∧ x.val ≤ IntKind.i64.max) ∧ (IntKind.i64.min ≤ x.slot ∧ x.slot ≤ IntKind.i64.max) ∧ (IntKind.i64.min ≤ x.goto ∧ x.goto ≤ IntKind.i64.max)
theorem open_GAlt {w : World} : Opn Tryz.prog w 57 cGAlt okGAlt := by
  intro m cs h
  obtain ⟨m', rfl, hl, hx⟩ := h.struct Tryz.underlying57
  have hl' : cs.length = 5 := hl.trans (by kernel_rfl)
  have k0 : Tryz.prog.cellsOf 3 = 1 := by kernel_rfl
  have g0 : Trd Tryz.prog w m' 3 ((cs.drop 0).take (Tryz.prog.cellsOf 3)) := hx 0 _ rfl
  rw [k0] at g0
  obtain ⟨x0, r0, q0⟩ := (opn_int Tryz.underlying3) m' _ g0
  have k1 : Tryz.prog.cellsOf 3 = 1 := by kernel_rfl
  have g1 : Trd Tryz.prog w m' 3 ((cs.drop 1).take (Tryz.prog.cellsOf 3)) := hx 1 _ rfl
  rw [k1] at g1
  obtain ⟨x1, r1, q1⟩ := (opn_int Tryz.underlying3) m' _ g1
  have k2 : Tryz.prog.cellsOf 3 = 1 := by kernel_rfl
  have g2 : Trd Tryz.prog w m' 3 ((cs.drop 2).take (Tryz.prog.cellsOf 3)) := hx 2 _ rfl
  rw [k2] at g2
  obtain ⟨x2, r2, q2⟩ := (opn_int Tryz.underlying3) m' _ g2
  have k3 : Tryz.prog.cellsOf 3 = 1 := by kernel_rfl
  have g3 : Trd Tryz.prog w m' 3 ((cs.drop 3).take (Tryz.prog.cellsOf 3)) := hx 3 _ rfl
  rw [k3] at g3
  obtain ⟨x3, r3, q3⟩ := (opn_int Tryz.underlying3) m' _ g3
  have k4 : Tryz.prog.cellsOf 3 = 1 := by kernel_rfl
  have g4 : Trd Tryz.prog w m' 3 ((cs.drop 4).take (Tryz.prog.cellsOf 3)) := hx 4 _ rfl
  rw [k4] at g4
  obtain ⟨x4, r4, q4⟩ := (opn_int Tryz.underlying3) m' _ g4
  exact ⟨⟨x0, x1, x2, x3, x4⟩, pair_open r0 (pair_open r1 (pair_open r2 (pair_open r3 (last_open (by omega) r4)))), q0, q1, q2, q3, q4⟩

def okGProc (x : GProc) : Prop := (IntKind.i64.min ≤ x.def_ ∧ x.def_ ≤ IntKind.i64.max) ∧ (IntKind.i64.min ≤ x.at_ ∧ x.at_ ≤ IntKind.i64.max) ∧ ((x.vars).length ≤ maxLen ∧ ∀ y ∈ x.vars, (IntKind.i64.min ≤ y ∧ y ≤ IntKind.i64.max)) ∧ (IntKind.i64.min ≤ x.fuel ∧ x.fuel ≤ IntKind.i64.max) ∧ (IntKind.i64.min ≤ x.mode ∧ x.mode ≤ IntKind.i64.max) ∧ (IntKind.i64.min ≤ x.chan ∧ x.chan ≤ IntKind.i64.max) ∧ (IntKind.i64.min ≤ x.val ∧ x.val ≤ IntKind.i64.max) ∧ (IntKind.i64.min ≤ x.slot ∧ x.slot ≤ IntKind.i64.max) ∧ (IntKind.i64.min ≤ x.until_ ∧ x.until_ ≤ IntKind.i64.max) ∧ (IntKind.i64.min ≤ x.since ∧ x.since ≤ IntKind.i64.max) ∧ ((x.alts).length ≤ maxLen ∧ ∀ y ∈ x.alts, okGAlt y)
theorem open_GProc {w : World} : Opn Tryz.prog w 38 cGProc okGProc := by
  intro m cs h
  obtain ⟨m', rfl, hl, hx⟩ := h.struct Tryz.underlying38
  have hl' : cs.length = 11 := hl.trans (by kernel_rfl)
  have k0 : Tryz.prog.cellsOf 3 = 1 := by kernel_rfl
  have g0 : Trd Tryz.prog w m' 3 ((cs.drop 0).take (Tryz.prog.cellsOf 3)) := hx 0 _ rfl
  rw [k0] at g0
  obtain ⟨x0, r0, q0⟩ := (opn_int Tryz.underlying3) m' _ g0
  have k1 : Tryz.prog.cellsOf 3 = 1 := by kernel_rfl
  have g1 : Trd Tryz.prog w m' 3 ((cs.drop 1).take (Tryz.prog.cellsOf 3)) := hx 1 _ rfl
  rw [k1] at g1
  obtain ⟨x1, r1, q1⟩ := (opn_int Tryz.underlying3) m' _ g1
  have k2 : Tryz.prog.cellsOf 23 = 1 := by kernel_rfl
  have g2 : Trd Tryz.prog w m' 23 ((cs.drop 2).take (Tryz.prog.cellsOf 23)) := hx 2 _ rfl
  rw [k2] at g2
  obtain ⟨x2, r2, q2⟩ := (opn_slice (opn_int Tryz.underlying3) Tryz.underlying23 (by kernel_rfl)) m' _ g2
  have k3 : Tryz.prog.cellsOf 3 = 1 := by kernel_rfl
  have g3 : Trd Tryz.prog w m' 3 ((cs.drop 3).take (Tryz.prog.cellsOf 3)) := hx 3 _ rfl
  rw [k3] at g3
  obtain ⟨x3, r3, q3⟩ := (opn_int Tryz.underlying3) m' _ g3
  have k4 : Tryz.prog.cellsOf 3 = 1 := by kernel_rfl
  have g4 : Trd Tryz.prog w m' 3 ((cs.drop 4).take (Tryz.prog.cellsOf 3)) := hx 4 _ rfl
  rw [k4] at g4
  obtain ⟨x4, r4, q4⟩ := (opn_int Tryz.underlying3) m' _ g4
  have k5 : Tryz.prog.cellsOf 3 = 1 := by kernel_rfl
  have g5 : Trd Tryz.prog w m' 3 ((cs.drop 5).take (Tryz.prog.cellsOf 3)) := hx 5 _ rfl
  rw [k5] at g5
  obtain ⟨x5, r5, q5⟩ := (opn_int Tryz.underlying3) m' _ g5
  have k6 : Tryz.prog.cellsOf 3 = 1 := by kernel_rfl
  have g6 : Trd Tryz.prog w m' 3 ((cs.drop 6).take (Tryz.prog.cellsOf 3)) := hx 6 _ rfl
  rw [k6] at g6
  obtain ⟨x6, r6, q6⟩ := (opn_int Tryz.underlying3) m' _ g6
  have k7 : Tryz.prog.cellsOf 3 = 1 := by kernel_rfl
  have g7 : Trd Tryz.prog w m' 3 ((cs.drop 7).take (Tryz.prog.cellsOf 3)) := hx 7 _ rfl
  rw [k7] at g7
  obtain ⟨x7, r7, q7⟩ := (opn_int Tryz.underlying3) m' _ g7
  have k8 : Tryz.prog.cellsOf 3 = 1 := by kernel_rfl
  have g8 : Trd Tryz.prog w m' 3 ((cs.drop 8).take (Tryz.prog.cellsOf 3)) := hx 8 _ rfl
  rw [k8] at g8
  obtain ⟨x8, r8, q8⟩ := (opn_int Tryz.underlying3) m' _ g8
  have k9 : Tryz.prog.cellsOf 3 = 1 := by kernel_rfl
  have g9 : Trd Tryz.prog w m' 3 ((cs.drop 9).take (Tryz.prog.cellsOf 3)) := hx 9 _ rfl
  rw [k9] at g9
  obtain ⟨x9, r9, q9⟩ := (opn_int Tryz.underlying3) m' _ g9
  have k10 : Tryz.prog.cellsOf 36 = 1 := by kernel_rfl
  have g10 : Trd Tryz.prog w m' 36 ((cs.drop 10).take (Tryz.prog.cellsOf 36)) := hx 10 _ rfl
  rw [k10] at g10
  obtain ⟨x10, r10, q10⟩ := (opn_slice open_GAlt Tryz.underlying36 (by kernel_rfl)) m' _ g10
  exact ⟨⟨x0, x1, x2, x3, x4, x5, x6, x7, x8, x9, x10⟩, pair_open r0 (pair_open r1 (pair_open r2 (pair_open r3 (pair_open r4 (pair_open r5 (pair_open r6 (pair_open r7 (pair_open r8 (pair_open r9 (last_open (by omega) r10)))))))))), q0, q1, q2, q3, q4, q5, q6, q7, q8, q9, q10⟩

def okGState (x : GState) : Prop := (IntKind.i64.min ≤ x.now ∧ x.now ≤ IntKind.i64.max) ∧ (IntKind.i64.min ≤ x.since ∧ x.since ≤ IntKind.i64.max) ∧ (IntKind.i64.min ≤ x.halt ∧ x.halt ≤ IntKind.i64.max) ∧ (IntKind.i64.min ≤ x.fault ∧ x.fault ≤ IntKind.i64.max) ∧ (IntKind.i64.min ≤ x.who ∧ x.who ≤ IntKind.i64.max) ∧ ((x.procs).length ≤ maxLen ∧ ∀ y ∈ x.procs, okGProc y) ∧ ((x.out).length ≤ maxLen ∧ ∀ y ∈ x.out, (IntKind.i64.min ≤ y ∧ y ≤ IntKind.i64.max))
theorem open_GState {w : World} : Opn Tryz.prog w 25 cGState okGState := by
  intro m cs h
  obtain ⟨m', rfl, hl, hx⟩ := h.struct Tryz.underlying25
  have hl' : cs.length = 7 := hl.trans (by kernel_rfl)
  have k0 : Tryz.prog.cellsOf 3 = 1 := by kernel_rfl
  have g0 : Trd Tryz.prog w m' 3 ((cs.drop 0).take (Tryz.prog.cellsOf 3)) := hx 0 _ rfl
  rw [k0] at g0
  obtain ⟨x0, r0, q0⟩ := (opn_int Tryz.underlying3) m' _ g0
  have k1 : Tryz.prog.cellsOf 3 = 1 := by kernel_rfl
  have g1 : Trd Tryz.prog w m' 3 ((cs.drop 1).take (Tryz.prog.cellsOf 3)) := hx 1 _ rfl
  rw [k1] at g1
  obtain ⟨x1, r1, q1⟩ := (opn_int Tryz.underlying3) m' _ g1
  have k2 : Tryz.prog.cellsOf 3 = 1 := by kernel_rfl
  have g2 : Trd Tryz.prog w m' 3 ((cs.drop 2).take (Tryz.prog.cellsOf 3)) := hx 2 _ rfl
  rw [k2] at g2
  obtain ⟨x2, r2, q2⟩ := (opn_int Tryz.underlying3) m' _ g2
  have k3 : Tryz.prog.cellsOf 3 = 1 := by kernel_rfl
  have g3 : Trd Tryz.prog w m' 3 ((cs.drop 3).take (Tryz.prog.cellsOf 3)) := hx 3 _ rfl
  rw [k3] at g3
  obtain ⟨x3, r3, q3⟩ := (opn_int Tryz.underlying3) m' _ g3
  have k4 : Tryz.prog.cellsOf 3 = 1 := by kernel_rfl
  have g4 : Trd Tryz.prog w m' 3 ((cs.drop 4).take (Tryz.prog.cellsOf 3)) := hx 4 _ rfl
  rw [k4] at g4
  obtain ⟨x4, r4, q4⟩ := (opn_int Tryz.underlying3) m' _ g4
  have k5 : Tryz.prog.cellsOf 22 = 1 := by kernel_rfl
  have g5 : Trd Tryz.prog w m' 22 ((cs.drop 5).take (Tryz.prog.cellsOf 22)) := hx 5 _ rfl
  rw [k5] at g5
  obtain ⟨x5, r5, q5⟩ := (opn_slice open_GProc Tryz.underlying22 (by kernel_rfl)) m' _ g5
  have k6 : Tryz.prog.cellsOf 23 = 1 := by kernel_rfl
  have g6 : Trd Tryz.prog w m' 23 ((cs.drop 6).take (Tryz.prog.cellsOf 23)) := hx 6 _ rfl
  rw [k6] at g6
  obtain ⟨x6, r6, q6⟩ := (opn_slice (opn_int Tryz.underlying3) Tryz.underlying23 (by kernel_rfl)) m' _ g6
  exact ⟨⟨x0, x1, x2, x3, x4, x5, x6⟩, pair_open r0 (pair_open r1 (pair_open r2 (pair_open r3 (pair_open r4 (pair_open r5 (last_open (by omega) r6)))))), q0, q1, q2, q3, q4, q5, q6⟩
end Go.Proofs.YtfcemnnlmlggoaaGreat
