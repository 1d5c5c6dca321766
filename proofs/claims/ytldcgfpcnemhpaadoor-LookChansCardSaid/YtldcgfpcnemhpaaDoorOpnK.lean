/- Arguments, opened (printed by opens.py). -/
import Derived.Test.YtldcgfpcnemhpaaDoorRows
import Derived.Test.YtldcgfpcnemhpaaDoorOpenLv
import Derived.Test.YtldcgfpcnemhpaaDoorTyK
namespace Go.Proofs.YtldcgfpcnemhpaaDoor
open Go.Vc Go.Lv Go.Ty
def okGIns (x : GIns) : Prop := (IntKind.i64.min ≤ x.op ∧ x.op ≤ IntKind.i64.max) ∧ (IntKind.i64.min ≤ x.a ∧ x.a ≤ IntKind.i64.max) ∧ (IntKind.i64.min ≤ x.b ∧ x.b ≤ IntKind.i64.max)
theorem open_GIns {w : World} : Opn Tryd.prog w 61 cGIns okGIns := by
  intro m cs h
  obtain ⟨m', rfl, hl, hx⟩ := h.struct Tryd.underlying61
  have hl' : cs.length = 3 := hl.trans (by kernel_rfl)
  have k0 : Tryd.prog.cellsOf 3 = 1 := by kernel_rfl
  have g0 : Trd Tryd.prog w m' 3 ((cs.drop 0).take (Tryd.prog.cellsOf 3)) := hx 0 _ rfl
  rw [k0] at g0
  obtain ⟨x0, r0, q0⟩ := (opn_int Tryd.underlying3) m' _ g0
  have k1 : Tryd.prog.cellsOf 3 = 1 := by kernel_rfl
  have g1 : Trd Tryd.prog w m' 3 ((cs.drop 1).take (Tryd.prog.cellsOf 3)) := hx 1 _ rfl
  rw [k1] at g1
  obtain ⟨x1, r1, q1⟩ := (opn_int Tryd.underlying3) m' _ g1
  have k2 : Tryd.prog.cellsOf 3 = 1 := by kernel_rfl
  have g2 : Trd Tryd.prog w m' 3 ((cs.drop 2).take (Tryd.prog.cellsOf 3)) := hx 2 _ rfl
  rw [k2] at g2
  obtain ⟨x2, r2, q2⟩ := (opn_int Tryd.underlying3) m' _ g2
  exact ⟨⟨x0, x1, x2⟩, pair_open r0 (pair_open r1 (last_open (by omega) r2)), q0, q1, q2⟩

def okGDef (x : GDef) : Prop := (x.name).length ≤ maxLen ∧ (IntKind.i64.min ≤ x.entry ∧ x.entry ≤ IntKind.i64.max) ∧ (IntKind.i64.min ≤ x.params ∧ x.params ≤ IntKind.i64.max) ∧ (IntKind.i64.min ≤ x.vars ∧ x.vars ≤ IntKind.i64.max)
theorem open_GDef {w : World} : Opn Tryd.prog w 71 cGDef okGDef := by
  intro m cs h
  obtain ⟨m', rfl, hl, hx⟩ := h.struct Tryd.underlying71
  have hl' : cs.length = 4 := hl.trans (by kernel_rfl)
  have k0 : Tryd.prog.cellsOf 9 = 1 := by kernel_rfl
  have g0 : Trd Tryd.prog w m' 9 ((cs.drop 0).take (Tryd.prog.cellsOf 9)) := hx 0 _ rfl
  rw [k0] at g0
  obtain ⟨x0, r0, q0⟩ := (opn_str Tryd.underlying9) m' _ g0
  have k1 : Tryd.prog.cellsOf 3 = 1 := by kernel_rfl
  have g1 : Trd Tryd.prog w m' 3 ((cs.drop 1).take (Tryd.prog.cellsOf 3)) := hx 1 _ rfl
  rw [k1] at g1
  obtain ⟨x1, r1, q1⟩ := (opn_int Tryd.underlying3) m' _ g1
  have k2 : Tryd.prog.cellsOf 3 = 1 := by kernel_rfl
  have g2 : Trd Tryd.prog w m' 3 ((cs.drop 2).take (Tryd.prog.cellsOf 3)) := hx 2 _ rfl
  rw [k2] at g2
  obtain ⟨x2, r2, q2⟩ := (opn_int Tryd.underlying3) m' _ g2
  have k3 : Tryd.prog.cellsOf 3 = 1 := by kernel_rfl
  have g3 : Trd Tryd.prog w m' 3 ((cs.drop 3).take (Tryd.prog.cellsOf 3)) := hx 3 _ rfl
  rw [k3] at g3
  obtain ⟨x3, r3, q3⟩ := (opn_int Tryd.underlying3) m' _ g3
  exact ⟨⟨x0, x1, x2, x3⟩, pair_open r0 (pair_open r1 (pair_open r2 (last_open (by omega) r3))), q0, q1, q2, q3⟩

def okGChan (x : GChan) : Prop := (x.name).length ≤ maxLen ∧ (IntKind.i64.min ≤ x.base ∧ x.base ≤ IntKind.i64.max) ∧ (IntKind.i64.min ≤ x.size ∧ x.size ≤ IntKind.i64.max)
theorem open_GChan {w : World} : Opn Tryd.prog w 73 cGChan okGChan := by
  intro m cs h
  obtain ⟨m', rfl, hl, hx⟩ := h.struct Tryd.underlying73
  have hl' : cs.length = 3 := hl.trans (by kernel_rfl)
  have k0 : Tryd.prog.cellsOf 9 = 1 := by kernel_rfl
  have g0 : Trd Tryd.prog w m' 9 ((cs.drop 0).take (Tryd.prog.cellsOf 9)) := hx 0 _ rfl
  rw [k0] at g0
  obtain ⟨x0, r0, q0⟩ := (opn_str Tryd.underlying9) m' _ g0
  have k1 : Tryd.prog.cellsOf 3 = 1 := by kernel_rfl
  have g1 : Trd Tryd.prog w m' 3 ((cs.drop 1).take (Tryd.prog.cellsOf 3)) := hx 1 _ rfl
  rw [k1] at g1
  obtain ⟨x1, r1, q1⟩ := (opn_int Tryd.underlying3) m' _ g1
  have k2 : Tryd.prog.cellsOf 3 = 1 := by kernel_rfl
  have g2 : Trd Tryd.prog w m' 3 ((cs.drop 2).take (Tryd.prog.cellsOf 3)) := hx 2 _ rfl
  rw [k2] at g2
  obtain ⟨x2, r2, q2⟩ := (opn_int Tryd.underlying3) m' _ g2
  exact ⟨⟨x0, x1, x2⟩, pair_open r0 (pair_open r1 (last_open (by omega) r2)), q0, q1, q2⟩

def okGCode (x : GCode) : Prop := ((x.ins).length ≤ maxLen ∧ ∀ y ∈ x.ins, okGIns y) ∧ ((x.defs).length ≤ maxLen ∧ ∀ y ∈ x.defs, okGDef y) ∧ ((x.chans).length ≤ maxLen ∧ ∀ y ∈ x.chans, okGChan y) ∧ (IntKind.i64.min ≤ x.main ∧ x.main ≤ IntKind.i64.max) ∧ (IntKind.i64.min ≤ x.stmts ∧ x.stmts ≤ IntKind.i64.max)
theorem open_GCode {w : World} : Opn Tryd.prog w 26 cGCode okGCode := by
  intro m cs h
  obtain ⟨m', rfl, hl, hx⟩ := h.struct Tryd.underlying26
  have hl' : cs.length = 5 := hl.trans (by kernel_rfl)
  have k0 : Tryd.prog.cellsOf 22 = 1 := by kernel_rfl
  have g0 : Trd Tryd.prog w m' 22 ((cs.drop 0).take (Tryd.prog.cellsOf 22)) := hx 0 _ rfl
  rw [k0] at g0
  obtain ⟨x0, r0, q0⟩ := (opn_slice open_GIns Tryd.underlying22 (by kernel_rfl)) m' _ g0
  have k1 : Tryd.prog.cellsOf 23 = 1 := by kernel_rfl
  have g1 : Trd Tryd.prog w m' 23 ((cs.drop 1).take (Tryd.prog.cellsOf 23)) := hx 1 _ rfl
  rw [k1] at g1
  obtain ⟨x1, r1, q1⟩ := (opn_slice open_GDef Tryd.underlying23 (by kernel_rfl)) m' _ g1
  have k2 : Tryd.prog.cellsOf 24 = 1 := by kernel_rfl
  have g2 : Trd Tryd.prog w m' 24 ((cs.drop 2).take (Tryd.prog.cellsOf 24)) := hx 2 _ rfl
  rw [k2] at g2
  obtain ⟨x2, r2, q2⟩ := (opn_slice open_GChan Tryd.underlying24 (by kernel_rfl)) m' _ g2
  have k3 : Tryd.prog.cellsOf 3 = 1 := by kernel_rfl
  have g3 : Trd Tryd.prog w m' 3 ((cs.drop 3).take (Tryd.prog.cellsOf 3)) := hx 3 _ rfl
  rw [k3] at g3
  obtain ⟨x3, r3, q3⟩ := (opn_int Tryd.underlying3) m' _ g3
  have k4 : Tryd.prog.cellsOf 3 = 1 := by kernel_rfl
  have g4 : Trd Tryd.prog w m' 3 ((cs.drop 4).take (Tryd.prog.cellsOf 3)) := hx 4 _ rfl
  rw [k4] at g4
  obtain ⟨x4, r4, q4⟩ := (opn_int Tryd.underlying3) m' _ g4
  exact ⟨⟨x0, x1, x2, x3, x4⟩, pair_open r0 (pair_open r1 (pair_open r2 (pair_open r3 (last_open (by omega) r4)))), q0, q1, q2, q3, q4⟩
end Go.Proofs.YtldcgfpcnemhpaaDoor
