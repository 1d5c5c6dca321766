/- Arguments, opened (printed by opens.py). -/
import Derived.Test.YtpigkempbnmioaaDoorRows
import Derived.Test.YtpigkempbnmioaaDoorOpenLv
import Derived.Test.YtpigkempbnmioaaDoorTyK
namespace Go.Proofs.YtpigkempbnmioaaDoor
open Go.Vc Go.Lv Go.Ty
def okGIns (x : GIns) : Prop := (IntKind.i64.min ≤ x.op ∧ x.op ≤ IntKind.i64.max) ∧ (IntKind.i64.min ≤ x.a ∧ x.a ≤ IntKind.i64.max) ∧ (IntKind.i64.min ≤ x.b ∧ x.b ≤ IntKind.i64.max)
theorem open_GIns {w : World} : Opn Tryd.prog w 78 cGIns okGIns := by
  intro m cs h
  obtain ⟨m', rfl, hl, hx⟩ := h.struct Tryd.underlying78
  have hl' : cs.length = 3 := hl.trans (by kernel_rfl)
  have k0 : Tryd.prog.cellsOf 3 = 1 := by kernel_rfl
  have g0 : Trd Tryd.prog w m' 3 ((cs.drop 0).take (Tryd.prog.cellsOf 3)) := hx 0 _ rfl
  rw [k0] at g0
  obtain ⟨x0, r0, q0⟩ := (opn_int Tryd.underlying3) m' _ g0
  have k1 : Tryd.prog.cellsOf 3 = 1 := by kernel_rfl
  have g1 : Trd Tryd.prog w m' 3 ((cs.drop 1).take (Tryd.prog.cellsOf 3)) := hx 1 _ rfl
  rw [k1] at g1
  obtain ⟨x1, r1, q1⟩ := (opn_int Tryd.underlying3) m' _ g1
  have k2 : Tryd.prog.cellsOf 3 = 1 := by kernel_rfl
  have g2 : Trd Tryd.prog w m' 3 ((cs.drop 2).take (Tryd.prog.cellsOf 3)) := hx 2 _ rfl
  rw [k2] at g2
  obtain ⟨x2, r2, q2⟩ := (opn_int Tryd.underlying3) m' _ g2
  exact ⟨⟨x0, x1, x2⟩, pair_open r0 (pair_open r1 (last_open (by omega) r2)), q0, q1, q2⟩

def okGDef (x : GDef) : Prop := (x.name).length ≤ lim ∧ (IntKind.i64.min ≤ x.entry ∧ x.entry ≤ IntKind.i64.max) ∧ (IntKind.i64.min ≤ x.params ∧ x.params ≤ IntKind.i64.max) ∧ (IntKind.i64.min ≤ x.vars ∧ x.vars ≤ IntKind.i64.max)
theorem open_GDef {w : World} : Opn Tryd.prog w 72 cGDef okGDef := by
  intro m cs h
  obtain ⟨m', rfl, hl, hx⟩ := h.struct Tryd.underlying72
  have hl' : cs.length = 4 := hl.trans (by kernel_rfl)
  have k0 : Tryd.prog.cellsOf 9 = 1 := by kernel_rfl
  have g0 : Trd Tryd.prog w m' 9 ((cs.drop 0).take (Tryd.prog.cellsOf 9)) := hx 0 _ rfl
  rw [k0] at g0
  obtain ⟨x0, r0, q0⟩ := (opn_str Tryd.underlying9) m' _ g0
  have k1 : Tryd.prog.cellsOf 3 = 1 := by kernel_rfl
  have g1 : Trd Tryd.prog w m' 3 ((cs.drop 1).take (Tryd.prog.cellsOf 3)) := hx 1 _ rfl
  rw [k1] at g1
  obtain ⟨x1, r1, q1⟩ := (opn_int Tryd.underlying3) m' _ g1
  have k2 : Tryd.prog.cellsOf 3 = 1 := by kernel_rfl
  have g2 : Trd Tryd.prog w m' 3 ((cs.drop 2).take (Tryd.prog.cellsOf 3)) := hx 2 _ rfl
  rw [k2] at g2
  obtain ⟨x2, r2, q2⟩ := (opn_int Tryd.underlying3) m' _ g2
  have k3 : Tryd.prog.cellsOf 3 = 1 := by kernel_rfl
  have g3 : Trd Tryd.prog w m' 3 ((cs.drop 3).take (Tryd.prog.cellsOf 3)) := hx 3 _ rfl
  rw [k3] at g3
  obtain ⟨x3, r3, q3⟩ := (opn_int Tryd.underlying3) m' _ g3
  exact ⟨⟨x0, x1, x2, x3⟩, pair_open r0 (pair_open r1 (pair_open r2 (last_open (by omega) r3))), q0, q1, q2, q3⟩

def okGChan (x : GChan) : Prop := (x.name).length ≤ lim ∧ (IntKind.i64.min ≤ x.base ∧ x.base ≤ IntKind.i64.max) ∧ (IntKind.i64.min ≤ x.size ∧ x.size ≤ IntKind.i64.max)
theorem open_GChan {w : World} : Opn Tryd.prog w 74 cGChan okGChan := by
  intro m cs h
  obtain ⟨m', rfl, hl, hx⟩ := h.struct Tryd.underlying74
  have hl' : cs.length = 3 := hl.trans (by kernel_rfl)
  have k0 : Tryd.prog.cellsOf 9 = 1 := by kernel_rfl
  have g0 : Trd Tryd.prog w m' 9 ((cs.drop 0).take (Tryd.prog.cellsOf 9)) := hx 0 _ rfl
  rw [k0] at g0
  obtain ⟨x0, r0, q0⟩ := (opn_str Tryd.underlying9) m' _ g0
  have k1 : Tryd.prog.cellsOf 3 = 1 := by kernel_rfl
  have g1 : Trd Tryd.prog w m' 3 ((cs.drop 1).take (Tryd.prog.cellsOf 3)) := hx 1 _ rfl
  rw [k1] at g1
  obtain ⟨x1, r1, q1⟩ := (opn_int Tryd.underlying3) m' _ g1
  have k2 : Tryd.prog.cellsOf 3 = 1 := by kernel_rfl
  have g2 : Trd Tryd.prog w m' 3 ((cs.drop 2).take (Tryd.prog.cellsOf 3)) := hx 2 _ rfl
  rw [k2] at g2
  obtain ⟨x2, r2, q2⟩ := (opn_int Tryd.underlying3) m' _ g2
  exact ⟨⟨x0, x1, x2⟩, pair_open r0 (pair_open r1 (last_open (by omega) r2)), q0, q1, q2⟩

def okGCode (x : GCode) : Prop := ((x.ins).length ≤ maxLen ∧ ∀ y ∈ x.ins, okGIns y) ∧ ((x.defs).length ≤ maxLen ∧ ∀ y ∈ x.defs, okGDef y) ∧ ((x.chans).length ≤ maxLen ∧ ∀ y ∈ x.chans, okGChan y) ∧ (IntKind.i64.min ≤ x.main ∧ x.main ≤ IntKind.i64.max) ∧ (IntKind.i64.min ≤ x.stmts ∧ x.stmts ≤ IntKind.i64.max)
theorem open_GCode {w : World} : Opn Tryd.prog w 26 cGCode okGCode := by
  intro m cs h
  obtain ⟨m', rfl, hl, hx⟩ := h.struct Tryd.underlying26
  have hl' : cs.length = 5 := hl.trans (by kernel_rfl)
  have k0 : Tryd.prog.cellsOf 22 = 1 := by kernel_rfl
  have g0 : Trd Tryd.prog w m' 22 ((cs.drop 0).take (Tryd.prog.cellsOf 22)) := hx 0 _ rfl
  rw [k0] at g0
  obtain ⟨x0, r0, q0⟩ := (opn_slice open_GIns Tryd.underlying22 (by kernel_rfl)) m' _ g0
  have k1 : Tryd.prog.cellsOf 23 = 1 := by kernel_rfl
  have g1 : Trd Tryd.prog w m' 23 ((cs.drop 1).take (Tryd.prog.cellsOf 23)) := hx 1 _ rfl
  rw [k1] at g1
  obtain ⟨x1, r1, q1⟩ := (opn_slice open_GDef Tryd.underlying23 (by kernel_rfl)) m' _ g1
  have k2 : Tryd.prog.cellsOf 24 = 1 := by kernel_rfl
  have g2 : Trd Tryd.prog w m' 24 ((cs.drop 2).take (Tryd.prog.cellsOf 24)) := hx 2 _ rfl
  rw [k2] at g2
  obtain ⟨x2, r2, q2⟩ := (opn_slice open_GChan Tryd.underlying24 (by kernel_rfl)) m' _ g2
  have k3 : Tryd.prog.cellsOf 3 = 1 := by kernel_rfl
  have g3 : Trd Tryd.prog w m' 3 ((cs.drop 3).take (Tryd.prog.cellsOf 3)) := hx 3 _ rfl
  rw [k3] at g3
  obtain ⟨x3, r3, q3⟩ := (opn_int Tryd.underlying3) m' _ g3
  have k4 : Tryd.prog.cellsOf 3 = 1 := by kernel_rfl
  have g4 : Trd Tryd.prog w m' 3 ((cs.drop 4).take (Tryd.prog.cellsOf 3)) := hx 4 _ rfl
  rw [k4] at g4
  obtain ⟨x4, r4, q4⟩ := (opn_int Tryd.underlying3) m' _ g4
  exact ⟨⟨x0, x1, x2, x3, x4⟩, pair_open r0 (pair_open r1 (pair_open r2 (pair_open r3 (last_open (by omega) r4)))), q0, q1, q2, q3, q4⟩

def okGHappen (x : GHappen) : Prop := (IntKind.i64.min ≤ x.kind ∧ x.kind ≤ IntKind.i64.max) ∧ (IntKind.i64.min ≤ x.who ∧ x.who ≤ IntKind.i64.max) ∧ (IntKind.i64.min ≤ x.stmt ∧ x.stmt ≤ IntKind.i64.max) ∧ (IntKind.i64.min ≤ x.chan ∧ x.chan ≤ IntKind.i64.max) ∧ (IntKind.i64.min ≤ x.peer ∧ x.peer ≤ IntKind.i64.max)
theorem open_GHappen {w : World} : Opn Tryd.prog w 28 cGHappen okGHappen := by
  intro m cs h
  obtain ⟨m', rfl, hl, hx⟩ := h.struct Tryd.underlying28
  have hl' : cs.length = 5 := hl.trans (by kernel_rfl)
  have k0 : Tryd.prog.cellsOf 3 = 1 := by kernel_rfl
  have g0 : Trd Tryd.prog w m' 3 ((cs.drop 0).take (Tryd.prog.cellsOf 3)) := hx 0 _ rfl
  rw [k0] at g0
  obtain ⟨x0, r0, q0⟩ := (opn_int Tryd.underlying3) m' _ g0
  have k1 : Tryd.prog.cellsOf 3 = 1 := by kernel_rfl
  have g1 : Trd Tryd.prog w m' 3 ((cs.drop 1).take (Tryd.prog.cellsOf 3)) := hx 1 _ rfl
  rw [k1] at g1
  obtain ⟨x1, r1, q1⟩ := (opn_int Tryd.underlying3) m' _ g1
  have k2 : Tryd.prog.cellsOf 3 = 1 := by kernel_rfl
  have g2 : Trd Tryd.prog w m' 3 ((cs.drop 2).take (Tryd.prog.cellsOf 3)) := hx 2 _ rfl
  rw [k2] at g2
  obtain ⟨x2, r2, q2⟩ := (opn_int Tryd.underlying3) m' _ g2
  have k3 : Tryd.prog.cellsOf 3 = 1 := by kernel_rfl
  have g3 : Trd Tryd.prog w m' 3 ((cs.drop 3).take (Tryd.prog.cellsOf 3)) := hx 3 _ rfl
  rw [k3] at g3
  obtain ⟨x3, r3, q3⟩ := (opn_int Tryd.underlying3) m' _ g3
  have k4 : Tryd.prog.cellsOf 3 = 1 := by kernel_rfl
  have g4 : Trd Tryd.prog w m' 3 ((cs.drop 4).take (Tryd.prog.cellsOf 3)) := hx 4 _ rfl
  rw [k4] at g4
  obtain ⟨x4, r4, q4⟩ := (opn_int Tryd.underlying3) m' _ g4
  exact ⟨⟨x0, x1, x2, x3, x4⟩, pair_open r0 (pair_open r1 (pair_open r2 (pair_open r3 (last_open (by omega) r4)))), q0, q1, q2, q3, q4⟩

def okGAlt (x : GAlt) : Prop := (IntKind.i64.min ≤ x.kind ∧ x.kind ≤ IntKind.i64.max) ∧ (IntKind.i64.min ≤ x.chan ∧ x.chan ≤ IntKind.i64.max) ∧ (IntKind.i64.min ≤ x.val ∧ x.val ≤ IntKind.i64.max) ∧ (IntKind.i64.min ≤ x.slot ∧ x.slot ≤ IntKind.i64.max) ∧ (IntKind.i64.min ≤ x.goto ∧ x.goto ≤ IntKind.i64.max)
theorem open_GAlt {w : World} : Opn Tryd.prog w 148 cGAlt okGAlt := by
  intro m cs h
  obtain ⟨m', rfl, hl, hx⟩ := h.struct Tryd.underlying148
  have hl' : cs.length = 5 := hl.trans (by kernel_rfl)
  have k0 : Tryd.prog.cellsOf 3 = 1 := by kernel_rfl
  have g0 : Trd Tryd.prog w m' 3 ((cs.drop 0).take (Tryd.prog.cellsOf 3)) := hx 0 _ rfl
  rw [k0] at g0
  obtain ⟨x0, r0, q0⟩ := (opn_int Tryd.underlying3) m' _ g0
  have k1 : Tryd.prog.cellsOf 3 = 1 := by kernel_rfl
  have g1 : Trd Tryd.prog w m' 3 ((cs.drop 1).take (Tryd.prog.cellsOf 3)) := hx 1 _ rfl
  rw [k1] at g1
  obtain ⟨x1, r1, q1⟩ := (opn_int Tryd.underlying3) m' _ g1
  have k2 : Tryd.prog.cellsOf 3 = 1 := by kernel_rfl
  have g2 : Trd Tryd.prog w m' 3 ((cs.drop 2).take (Tryd.prog.cellsOf 3)) := hx 2 _ rfl
  rw [k2] at g2
  obtain ⟨x2, r2, q2⟩ := (opn_int Tryd.underlying3) m' _ g2
  have k3 : Tryd.prog.cellsOf 3 = 1 := by kernel_rfl
  have g3 : Trd Tryd.prog w m' 3 ((cs.drop 3).take (Tryd.prog.cellsOf 3)) := hx 3 _ rfl
  rw [k3] at g3
  obtain ⟨x3, r3, q3⟩ := (opn_int Tryd.underlying3) m' _ g3
  have k4 : Tryd.prog.cellsOf 3 = 1 := by kernel_rfl
  have g4 : Trd Tryd.prog w m' 3 ((cs.drop 4).take (Tryd.prog.cellsOf 3)) := hx 4 _ rfl
  rw [k4] at g4
  obtain ⟨x4, r4, q4⟩ := (opn_int Tryd.underlying3) m' _ g4
  exact ⟨⟨x0, x1, x2, x3, x4⟩, pair_open r0 (pair_open r1 (pair_open r2 (pair_open r3 (last_open (by omega) r4)))), q0, q1, q2, q3, q4⟩

def okGProc (x : GProc) : Prop := (IntKind.i64.min ≤ x.def_ ∧ x.def_ ≤ IntKind.i64.max) ∧ (IntKind.i64.min ≤ x.at_ ∧ x.at_ ≤ IntKind.i64.max) ∧ ((x.vars).length ≤ maxLen ∧ ∀ y ∈ x.vars, (IntKind.i64.min ≤ y ∧ y ≤ IntKind.i64.max)) ∧ (IntKind.i64.min ≤ x.fuel ∧ x.fuel ≤ IntKind.i64.max) ∧ (IntKind.i64.min ≤ x.mode ∧ x.mode ≤ IntKind.i64.max) ∧ (IntKind.i64.min ≤ x.chan ∧ x.chan ≤ IntKind.i64.max) ∧ (IntKind.i64.min ≤ x.val ∧ x.val ≤ IntKind.i64.max) ∧ (IntKind.i64.min ≤ x.slot ∧ x.slot ≤ IntKind.i64.max) ∧ (IntKind.i64.min ≤ x.until_ ∧ x.until_ ≤ IntKind.i64.max) ∧ (IntKind.i64.min ≤ x.since ∧ x.since ≤ IntKind.i64.max) ∧ ((x.alts).length ≤ maxLen ∧ ∀ y ∈ x.alts, okGAlt y)
theorem open_GProc {w : World} : Opn Tryd.prog w 44 cGProc okGProc := by
  intro m cs h
  obtain ⟨m', rfl, hl, hx⟩ := h.struct Tryd.underlying44
  have hl' : cs.length = 11 := hl.trans (by kernel_rfl)
  have k0 : Tryd.prog.cellsOf 3 = 1 := by kernel_rfl
  have g0 : Trd Tryd.prog w m' 3 ((cs.drop 0).take (Tryd.prog.cellsOf 3)) := hx 0 _ rfl
  rw [k0] at g0
  obtain ⟨x0, r0, q0⟩ := (opn_int Tryd.underlying3) m' _ g0
  have k1 : Tryd.prog.cellsOf 3 = 1 := by kernel_rfl
  have g1 : Trd Tryd.prog w m' 3 ((cs.drop 1).take (Tryd.prog.cellsOf 3)) := hx 1 _ rfl
  rw [k1] at g1
  obtain ⟨x1, r1, q1⟩ := (opn_int Tryd.underlying3) m' _ g1
  have k2 : Tryd.prog.cellsOf 31 = 1 := by kernel_rfl
  have g2 : Trd Tryd.prog w m' 31 ((cs.drop 2).take (Tryd.prog.cellsOf 31)) := hx 2 _ rfl
  rw [k2] at g2
  obtain ⟨x2, r2, q2⟩ := (opn_slice (opn_int Tryd.underlying3) Tryd.underlying31 (by kernel_rfl)) m' _ g2
  have k3 : Tryd.prog.cellsOf 3 = 1 := by kernel_rfl
  have g3 : Trd Tryd.prog w m' 3 ((cs.drop 3).take (Tryd.prog.cellsOf 3)) := hx 3 _ rfl
  rw [k3] at g3
  obtain ⟨x3, r3, q3⟩ := (opn_int Tryd.underlying3) m' _ g3
  have k4 : Tryd.prog.cellsOf 3 = 1 := by kernel_rfl
  have g4 : Trd Tryd.prog w m' 3 ((cs.drop 4).take (Tryd.prog.cellsOf 3)) := hx 4 _ rfl
  rw [k4] at g4
  obtain ⟨x4, r4, q4⟩ := (opn_int Tryd.underlying3) m' _ g4
  have k5 : Tryd.prog.cellsOf 3 = 1 := by kernel_rfl
  have g5 : Trd Tryd.prog w m' 3 ((cs.drop 5).take (Tryd.prog.cellsOf 3)) := hx 5 _ rfl
  rw [k5] at g5
  obtain ⟨x5, r5, q5⟩ := (opn_int Tryd.underlying3) m' _ g5
  have k6 : Tryd.prog.cellsOf 3 = 1 := by kernel_rfl
  have g6 : Trd Tryd.prog w m' 3 ((cs.drop 6).take (Tryd.prog.cellsOf 3)) := hx 6 _ rfl
  rw [k6] at g6
  obtain ⟨x6, r6, q6⟩ := (opn_int Tryd.underlying3) m' _ g6
  have k7 : Tryd.prog.cellsOf 3 = 1 := by kernel_rfl
  have g7 : Trd Tryd.prog w m' 3 ((cs.drop 7).take (Tryd.prog.cellsOf 3)) := hx 7 _ rfl
  rw [k7] at g7
  obtain ⟨x7, r7, q7⟩ := (opn_int Tryd.underlying3) m' _ g7
  have k8 : Tryd.prog.cellsOf 3 = 1 := by kernel_rfl
  have g8 : Trd Tryd.prog w m' 3 ((cs.drop 8).take (Tryd.prog.cellsOf 3)) := hx 8 _ rfl
  rw [k8] at g8
  obtain ⟨x8, r8, q8⟩ := (opn_int Tryd.underlying3) m' _ g8
  have k9 : Tryd.prog.cellsOf 3 = 1 := by kernel_rfl
  have g9 : Trd Tryd.prog w m' 3 ((cs.drop 9).take (Tryd.prog.cellsOf 3)) := hx 9 _ rfl
  rw [k9] at g9
  obtain ⟨x9, r9, q9⟩ := (opn_int Tryd.underlying3) m' _ g9
  have k10 : Tryd.prog.cellsOf 42 = 1 := by kernel_rfl
  have g10 : Trd Tryd.prog w m' 42 ((cs.drop 10).take (Tryd.prog.cellsOf 42)) := hx 10 _ rfl
  rw [k10] at g10
  obtain ⟨x10, r10, q10⟩ := (opn_slice open_GAlt Tryd.underlying42 (by kernel_rfl)) m' _ g10
  exact ⟨⟨x0, x1, x2, x3, x4, x5, x6, x7, x8, x9, x10⟩, pair_open r0 (pair_open r1 (pair_open r2 (pair_open r3 (pair_open r4 (pair_open r5 (pair_open r6 (pair_open r7 (pair_open r8 (pair_open r9 (last_open (by omega) r10)))))))))), q0, q1, q2, q3, q4, q5, q6, q7, q8, q9, q10⟩

def okGState (x : GState) : Prop := (IntKind.i64.min ≤ x.now ∧ x.now ≤ IntKind.i64.max) ∧ (IntKind.i64.min ≤ x.since ∧ x.since ≤ IntKind.i64.max) ∧ (IntKind.i64.min ≤ x.halt ∧ x.halt ≤ IntKind.i64.max) ∧ (IntKind.i64.min ≤ x.fault ∧ x.fault ≤ IntKind.i64.max) ∧ (IntKind.i64.min ≤ x.who ∧ x.who ≤ IntKind.i64.max) ∧ ((x.procs).length ≤ maxLen ∧ ∀ y ∈ x.procs, okGProc y) ∧ ((x.out).length ≤ maxLen ∧ ∀ y ∈ x.out, (IntKind.i64.min ≤ y ∧ y ≤ IntKind.i64.max))
theorem open_GState {w : World} : Opn Tryd.prog w 36 cGState okGState := by
  intro m cs h
  obtain ⟨m', rfl, hl, hx⟩ := h.struct Tryd.underlying36
  have hl' : cs.length = 7 := hl.trans (by kernel_rfl)
  have k0 : Tryd.prog.cellsOf 3 = 1 := by kernel_rfl
  have g0 : Trd Tryd.prog w m' 3 ((cs.drop 0).take (Tryd.prog.cellsOf 3)) := hx 0 _ rfl
  rw [k0] at g0
  obtain ⟨x0, r0, q0⟩ := (opn_int Tryd.underlying3) m' _ g0
  have k1 : Tryd.prog.cellsOf 3 = 1 := by kernel_rfl
  have g1 : Trd Tryd.prog w m' 3 ((cs.drop 1).take (Tryd.prog.cellsOf 3)) := hx 1 _ rfl
  rw [k1] at g1
  obtain ⟨x1, r1, q1⟩ := (opn_int Tryd.underlying3) m' _ g1
  have k2 : Tryd.prog.cellsOf 3 = 1 := by kernel_rfl
  have g2 : Trd Tryd.prog w m' 3 ((cs.drop 2).take (Tryd.prog.cellsOf 3)) := hx 2 _ rfl
  rw [k2] at g2
  obtain ⟨x2, r2, q2⟩ := (opn_int Tryd.underlying3) m' _ g2
  have k3 : Tryd.prog.cellsOf 3 = 1 := by kernel_rfl
  have g3 : Trd Tryd.prog w m' 3 ((cs.drop 3).take (Tryd.prog.cellsOf 3)) := hx 3 _ rfl
  rw [k3] at g3
  obtain ⟨x3, r3, q3⟩ := (opn_int Tryd.underlying3) m' _ g3
  have k4 : Tryd.prog.cellsOf 3 = 1 := by kernel_rfl
  have g4 : Trd Tryd.prog w m' 3 ((cs.drop 4).take (Tryd.prog.cellsOf 3)) := hx 4 _ rfl
  rw [k4] at g4
  obtain ⟨x4, r4, q4⟩ := (opn_int Tryd.underlying3) m' _ g4
  have k5 : Tryd.prog.cellsOf 34 = 1 := by kernel_rfl
  have g5 : Trd Tryd.prog w m' 34 ((cs.drop 5).take (Tryd.prog.cellsOf 34)) := hx 5 _ rfl
  rw [k5] at g5
  obtain ⟨x5, r5, q5⟩ := (opn_slice open_GProc Tryd.underlying34 (by kernel_rfl)) m' _ g5
  have k6 : Tryd.prog.cellsOf 31 = 1 := by kernel_rfl
  have g6 : Trd Tryd.prog w m' 31 ((cs.drop 6).take (Tryd.prog.cellsOf 31)) := hx 6 _ rfl
  rw [k6] at g6
  obtain ⟨x6, r6, q6⟩ := (opn_slice (opn_int Tryd.underlying3) Tryd.underlying31 (by kernel_rfl)) m' _ g6
  exact ⟨⟨x0, x1, x2, x3, x4, x5, x6⟩, pair_open r0 (pair_open r1 (pair_open r2 (pair_open r3 (pair_open r4 (pair_open r5 (last_open (by omega) r6)))))), q0, q1, q2, q3, q4, q5, q6⟩

def okGRoutine (x : GRoutine) : Prop := (x.name).length ≤ lim ∧ (IntKind.i64.min ≤ x.node ∧ x.node ≤ IntKind.i64.max) ∧ (IntKind.i64.min ≤ x.params ∧ x.params ≤ IntKind.i64.max) ∧ ((x.vars).length ≤ maxLen ∧ ∀ y ∈ x.vars, (y).length ≤ lim)
theorem open_GRoutine {w : World} : Opn Tryd.prog w 70 cGRoutine okGRoutine := by
  intro m cs h
  obtain ⟨m', rfl, hl, hx⟩ := h.struct Tryd.underlying70
  have hl' : cs.length = 4 := hl.trans (by kernel_rfl)
  have k0 : Tryd.prog.cellsOf 9 = 1 := by kernel_rfl
  have g0 : Trd Tryd.prog w m' 9 ((cs.drop 0).take (Tryd.prog.cellsOf 9)) := hx 0 _ rfl
  rw [k0] at g0
  obtain ⟨x0, r0, q0⟩ := (opn_str Tryd.underlying9) m' _ g0
  have k1 : Tryd.prog.cellsOf 3 = 1 := by kernel_rfl
  have g1 : Trd Tryd.prog w m' 3 ((cs.drop 1).take (Tryd.prog.cellsOf 3)) := hx 1 _ rfl
  rw [k1] at g1
  obtain ⟨x1, r1, q1⟩ := (opn_int Tryd.underlying3) m' _ g1
  have k2 : Tryd.prog.cellsOf 3 = 1 := by kernel_rfl
  have g2 : Trd Tryd.prog w m' 3 ((cs.drop 2).take (Tryd.prog.cellsOf 3)) := hx 2 _ rfl
  rw [k2] at g2
  obtain ⟨x2, r2, q2⟩ := (opn_int Tryd.underlying3) m' _ g2
  have k3 : Tryd.prog.cellsOf 68 = 1 := by kernel_rfl
  have g3 : Trd Tryd.prog w m' 68 ((cs.drop 3).take (Tryd.prog.cellsOf 68)) := hx 3 _ rfl
  rw [k3] at g3
  obtain ⟨x3, r3, q3⟩ := (opn_slice (opn_str Tryd.underlying9) Tryd.underlying68 (by kernel_rfl)) m' _ g3
  exact ⟨⟨x0, x1, x2, x3⟩, pair_open r0 (pair_open r1 (pair_open r2 (last_open (by omega) r3))), q0, q1, q2, q3⟩

def okGPlan (x : GPlan) : Prop := ((x.chans).length ≤ maxLen ∧ ∀ y ∈ x.chans, okGChan y) ∧ ((x.routines).length ≤ maxLen ∧ ∀ y ∈ x.routines, okGRoutine y) ∧ (IntKind.i64.min ≤ x.main ∧ x.main ≤ IntKind.i64.max) ∧ ((x.nums).length ≤ maxLen ∧ ∀ y ∈ x.nums, (IntKind.i64.min ≤ y ∧ y ≤ IntKind.i64.max))
theorem open_GPlan {w : World} : Opn Tryd.prog w 33 cGPlan okGPlan := by
  intro m cs h
  obtain ⟨m', rfl, hl, hx⟩ := h.struct Tryd.underlying33
  have hl' : cs.length = 4 := hl.trans (by kernel_rfl)
  have k0 : Tryd.prog.cellsOf 24 = 1 := by kernel_rfl
  have g0 : Trd Tryd.prog w m' 24 ((cs.drop 0).take (Tryd.prog.cellsOf 24)) := hx 0 _ rfl
  rw [k0] at g0
  obtain ⟨x0, r0, q0⟩ := (opn_slice open_GChan Tryd.underlying24 (by kernel_rfl)) m' _ g0
  have k1 : Tryd.prog.cellsOf 30 = 1 := by kernel_rfl
  have g1 : Trd Tryd.prog w m' 30 ((cs.drop 1).take (Tryd.prog.cellsOf 30)) := hx 1 _ rfl
  rw [k1] at g1
  obtain ⟨x1, r1, q1⟩ := (opn_slice open_GRoutine Tryd.underlying30 (by kernel_rfl)) m' _ g1
  have k2 : Tryd.prog.cellsOf 3 = 1 := by kernel_rfl
  have g2 : Trd Tryd.prog w m' 3 ((cs.drop 2).take (Tryd.prog.cellsOf 3)) := hx 2 _ rfl
  rw [k2] at g2
  obtain ⟨x2, r2, q2⟩ := (opn_int Tryd.underlying3) m' _ g2
  have k3 : Tryd.prog.cellsOf 31 = 1 := by kernel_rfl
  have g3 : Trd Tryd.prog w m' 31 ((cs.drop 3).take (Tryd.prog.cellsOf 31)) := hx 3 _ rfl
  rw [k3] at g3
  obtain ⟨x3, r3, q3⟩ := (opn_slice (opn_int Tryd.underlying3) Tryd.underlying31 (by kernel_rfl)) m' _ g3
  exact ⟨⟨x0, x1, x2, x3⟩, pair_open r0 (pair_open r1 (pair_open r2 (last_open (by omega) r3))), q0, q1, q2, q3⟩
end Go.Proofs.YtpigkempbnmioaaDoor
