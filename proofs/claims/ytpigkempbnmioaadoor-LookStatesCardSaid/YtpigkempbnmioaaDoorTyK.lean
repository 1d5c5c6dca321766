/- Structures of the program, and how they lie in cells. -/
import Derived.Test.YtpigkempbnmioaaDoorLv
namespace Go.Ty
open Go.Vc Go.Lv
structure GIns where
  op : Int
  a : Int
  b : Int
  deriving DecidableEq, Inhabited

def cGIns : Cod GIns := cMap (fun x => (x.op, x.a, x.b)) (cPair (cInt .i64) (cPair (cInt .i64) (cInt .i64)))
theorem GIns_out {m : List Nat} {w : World} {x : GIns} {cs : List Value} (h : cGIns.rep m w x cs) : cs = [.int .i64 x.op, .int .i64 x.a, .int .i64 x.b] := by
  obtain ⟨_, _, rfl, rfl, ⟨_, _, rfl, rfl, rfl⟩⟩ := h
  exact rfl

theorem GIns_in {m : List Nat} {w : World} (x : GIns)   : cGIns.rep m w x [.int .i64 x.op, .int .i64 x.a, .int .i64 x.b] := ⟨[.int .i64 x.op], [.int .i64 x.a, .int .i64 x.b], rfl, rfl, ⟨[.int .i64 x.a], [.int .i64 x.b], rfl, rfl, rfl⟩⟩

structure GDef where
  name : List UInt8
  entry : Int
  params : Int
  vars : Int
  deriving DecidableEq, Inhabited

def cGDef : Cod GDef := cMap (fun x => (x.name, x.entry, x.params, x.vars)) (cPair cStr (cPair (cInt .i64) (cPair (cInt .i64) (cInt .i64))))
theorem GDef_out {m : List Nat} {w : World} {x : GDef} {cs : List Value} (h : cGDef.rep m w x cs) : cs = [.string (mkS x.name), .int .i64 x.entry, .int .i64 x.params, .int .i64 x.vars] := by
  obtain ⟨_, _, rfl, rfl, ⟨_, _, rfl, rfl, ⟨_, _, rfl, rfl, rfl⟩⟩⟩ := h
  exact rfl

theorem GDef_in {m : List Nat} {w : World} (x : GDef)   : cGDef.rep m w x [.string (mkS x.name), .int .i64 x.entry, .int .i64 x.params, .int .i64 x.vars] := ⟨[.string (mkS x.name)], [.int .i64 x.entry, .int .i64 x.params, .int .i64 x.vars], rfl, rfl, ⟨[.int .i64 x.entry], [.int .i64 x.params, .int .i64 x.vars], rfl, rfl, ⟨[.int .i64 x.params], [.int .i64 x.vars], rfl, rfl, rfl⟩⟩⟩

structure GChan where
  name : List UInt8
  base : Int
  size : Int
  deriving DecidableEq, Inhabited

def cGChan : Cod GChan := cMap (fun x => (x.name, x.base, x.size)) (cPair cStr (cPair (cInt .i64) (cInt .i64)))
theorem GChan_out {m : List Nat} {w : World} {x : GChan} {cs : List Value} (h : cGChan.rep m w x cs) : cs = [.string (mkS x.name), .int .i64 x.base, .int .i64 x.size] := by
  obtain ⟨_, _, rfl, rfl, ⟨_, _, rfl, rfl, rfl⟩⟩ := h
  exact rfl

theorem GChan_in {m : List Nat} {w : World} (x : GChan)   : cGChan.rep m w x [.string (mkS x.name), .int .i64 x.base, .int .i64 x.size] := ⟨[.string (mkS x.name)], [.int .i64 x.base, .int .i64 x.size], rfl, rfl, ⟨[.int .i64 x.base], [.int .i64 x.size], rfl, rfl, rfl⟩⟩

structure GCode where
  ins : List GIns
  defs : List GDef
  chans : List GChan
  main : Int
  stmts : Int
  deriving DecidableEq, Inhabited

def cGCode : Cod GCode := cMap (fun x => (x.ins, x.defs, x.chans, x.main, x.stmts)) (cPair (cSl cGIns) (cPair (cSl cGDef) (cPair (cSl cGChan) (cPair (cInt .i64) (cInt .i64)))))
theorem GCode_out {m : List Nat} {w : World} {x : GCode} {cs : List Value} (h : cGCode.rep m w x cs) : ∃ (a0 : Option Addr) (c0 : Nat) (a1 : Option Addr) (c1 : Nat) (a2 : Option Addr) (c2 : Nat), cs = [.slice a0 x.ins.length c0, .slice a1 x.defs.length c1, .slice a2 x.chans.length c2, .int .i64 x.main, .int .i64 x.stmts] ∧ (x.ins.length ≤ c0 ∧ SlR cGIns m w a0 x.ins) ∧ (x.defs.length ≤ c1 ∧ SlR cGDef m w a1 x.defs) ∧ (x.chans.length ≤ c2 ∧ SlR cGChan m w a2 x.chans) := by
  obtain ⟨_, _, rfl, ⟨a0, c0, rfl, p0, q0⟩, ⟨_, _, rfl, ⟨a1, c1, rfl, p1, q1⟩, ⟨_, _, rfl, ⟨a2, c2, rfl, p2, q2⟩, ⟨_, _, rfl, rfl, rfl⟩⟩⟩⟩ := h
  exact ⟨a0, c0, a1, c1, a2, c2, rfl, ⟨p0, q0⟩, ⟨p1, q1⟩, ⟨p2, q2⟩⟩

theorem GCode_in {m : List Nat} {w : World} (x : GCode) {a0 : Option Addr} {c0 : Nat} {a1 : Option Addr} {c1 : Nat} {a2 : Option Addr} {c2 : Nat} (h0 : (x.ins.length ≤ c0 ∧ SlR cGIns m w a0 x.ins)) (h1 : (x.defs.length ≤ c1 ∧ SlR cGDef m w a1 x.defs)) (h2 : (x.chans.length ≤ c2 ∧ SlR cGChan m w a2 x.chans)) : cGCode.rep m w x [.slice a0 x.ins.length c0, .slice a1 x.defs.length c1, .slice a2 x.chans.length c2, .int .i64 x.main, .int .i64 x.stmts] := ⟨[.slice a0 x.ins.length c0], [.slice a1 x.defs.length c1, .slice a2 x.chans.length c2, .int .i64 x.main, .int .i64 x.stmts], rfl, ⟨_, _, rfl, h0.1, h0.2⟩, ⟨[.slice a1 x.defs.length c1], [.slice a2 x.chans.length c2, .int .i64 x.main, .int .i64 x.stmts], rfl, ⟨_, _, rfl, h1.1, h1.2⟩, ⟨[.slice a2 x.chans.length c2], [.int .i64 x.main, .int .i64 x.stmts], rfl, ⟨_, _, rfl, h2.1, h2.2⟩, ⟨[.int .i64 x.main], [.int .i64 x.stmts], rfl, rfl, rfl⟩⟩⟩⟩

structure GHappen where
  kind : Int
  who : Int
  stmt : Int
  chan : Int
  peer : Int
  deriving DecidableEq, Inhabited

def cGHappen : Cod GHappen := cMap (fun x => (x.kind, x.who, x.stmt, x.chan, x.peer)) (cPair (cInt .i64) (cPair (cInt .i64) (cPair (cInt .i64) (cPair (cInt .i64) (cInt .i64)))))
theorem GHappen_out {m : List Nat} {w : World} {x : GHappen} {cs : List Value} (h : cGHappen.rep m w x cs) : cs = [.int .i64 x.kind, .int .i64 x.who, .int .i64 x.stmt, .int .i64 x.chan, .int .i64 x.peer] := by
  obtain ⟨_, _, rfl, rfl, ⟨_, _, rfl, rfl, ⟨_, _, rfl, rfl, ⟨_, _, rfl, rfl, rfl⟩⟩⟩⟩ := h
  exact rfl

theorem GHappen_in {m : List Nat} {w : World} (x : GHappen)   : cGHappen.rep m w x [.int .i64 x.kind, .int .i64 x.who, .int .i64 x.stmt, .int .i64 x.chan, .int .i64 x.peer] := ⟨[.int .i64 x.kind], [.int .i64 x.who, .int .i64 x.stmt, .int .i64 x.chan, .int .i64 x.peer], rfl, rfl, ⟨[.int .i64 x.who], [.int .i64 x.stmt, .int .i64 x.chan, .int .i64 x.peer], rfl, rfl, ⟨[.int .i64 x.stmt], [.int .i64 x.chan, .int .i64 x.peer], rfl, rfl, ⟨[.int .i64 x.chan], [.int .i64 x.peer], rfl, rfl, rfl⟩⟩⟩⟩

structure GRoutine where
  name : List UInt8
  node : Int
  params : Int
  vars : List (List UInt8)
  deriving DecidableEq, Inhabited

def cGRoutine : Cod GRoutine := cMap (fun x => (x.name, x.node, x.params, x.vars)) (cPair cStr (cPair (cInt .i64) (cPair (cInt .i64) (cSl cStr))))
theorem GRoutine_out {m : List Nat} {w : World} {x : GRoutine} {cs : List Value} (h : cGRoutine.rep m w x cs) : ∃ (a3 : Option Addr) (c3 : Nat), cs = [.string (mkS x.name), .int .i64 x.node, .int .i64 x.params, .slice a3 x.vars.length c3] ∧ (x.vars.length ≤ c3 ∧ SlR cStr m w a3 x.vars) := by
  obtain ⟨_, _, rfl, rfl, ⟨_, _, rfl, rfl, ⟨_, _, rfl, rfl, ⟨a0, c0, rfl, p0, q0⟩⟩⟩⟩ := h
  exact ⟨a0, c0, rfl, ⟨p0, q0⟩⟩

theorem GRoutine_in {m : List Nat} {w : World} (x : GRoutine) {a3 : Option Addr} {c3 : Nat} (h0 : (x.vars.length ≤ c3 ∧ SlR cStr m w a3 x.vars)) : cGRoutine.rep m w x [.string (mkS x.name), .int .i64 x.node, .int .i64 x.params, .slice a3 x.vars.length c3] := ⟨[.string (mkS x.name)], [.int .i64 x.node, .int .i64 x.params, .slice a3 x.vars.length c3], rfl, rfl, ⟨[.int .i64 x.node], [.int .i64 x.params, .slice a3 x.vars.length c3], rfl, rfl, ⟨[.int .i64 x.params], [.slice a3 x.vars.length c3], rfl, rfl, ⟨_, _, rfl, h0.1, h0.2⟩⟩⟩⟩

structure GPlan where
  chans : List GChan
  routines : List GRoutine
  main : Int
  nums : List Int
  deriving DecidableEq, Inhabited

def cGPlan : Cod GPlan := cMap (fun x => (x.chans, x.routines, x.main, x.nums)) (cPair (cSl cGChan) (cPair (cSl cGRoutine) (cPair (cInt .i64) (cSl (cInt .i64)))))
theorem GPlan_out {m : List Nat} {w : World} {x : GPlan} {cs : List Value} (h : cGPlan.rep m w x cs) : ∃ (a0 : Option Addr) (c0 : Nat) (a1 : Option Addr) (c1 : Nat) (a3 : Option Addr) (c3 : Nat), cs = [.slice a0 x.chans.length c0, .slice a1 x.routines.length c1, .int .i64 x.main, .slice a3 x.nums.length c3] ∧ (x.chans.length ≤ c0 ∧ SlR cGChan m w a0 x.chans) ∧ (x.routines.length ≤ c1 ∧ SlR cGRoutine m w a1 x.routines) ∧ (x.nums.length ≤ c3 ∧ SlR (cInt .i64) m w a3 x.nums) := by
  obtain ⟨_, _, rfl, ⟨a0, c0, rfl, p0, q0⟩, ⟨_, _, rfl, ⟨a1, c1, rfl, p1, q1⟩, ⟨_, _, rfl, rfl, ⟨a2, c2, rfl, p2, q2⟩⟩⟩⟩ := h
  exact ⟨a0, c0, a1, c1, a2, c2, rfl, ⟨p0, q0⟩, ⟨p1, q1⟩, ⟨p2, q2⟩⟩

theorem GPlan_in {m : List Nat} {w : World} (x : GPlan) {a0 : Option Addr} {c0 : Nat} {a1 : Option Addr} {c1 : Nat} {a3 : Option Addr} {c3 : Nat} (h0 : (x.chans.length ≤ c0 ∧ SlR cGChan m w a0 x.chans)) (h1 : (x.routines.length ≤ c1 ∧ SlR cGRoutine m w a1 x.routines)) (h2 : (x.nums.length ≤ c3 ∧ SlR (cInt .i64) m w a3 x.nums)) : cGPlan.rep m w x [.slice a0 x.chans.length c0, .slice a1 x.routines.length c1, .int .i64 x.main, .slice a3 x.nums.length c3] := ⟨[.slice a0 x.chans.length c0], [.slice a1 x.routines.length c1, .int .i64 x.main, .slice a3 x.nums.length c3], rfl, ⟨_, _, rfl, h0.1, h0.2⟩, ⟨[.slice a1 x.routines.length c1], [.int .i64 x.main, .slice a3 x.nums.length c3], rfl, ⟨_, _, rfl, h1.1, h1.2⟩, ⟨[.int .i64 x.main], [.slice a3 x.nums.length c3], rfl, rfl, ⟨_, _, rfl, h2.1, h2.2⟩⟩⟩⟩

structure GAlt where
  kind : Int
  chan : Int
  val : Int
  slot : Int
  goto : Int
  deriving DecidableEq, Inhabited

def cGAlt : Cod GAlt := cMap (fun x => (x.kind, x.chan, x.val, x.slot, x.goto)) (cPair (cInt .i64) (cPair (cInt .i64) (cPair (cInt .i64) (cPair (cInt .i64) (cInt .i64)))))
theorem GAlt_out {m : List Nat} {w : World} {x : GAlt} {cs : List Value} (h : cGAlt.rep m w x cs) : cs = [.int .i64 x.kind, .int .i64 x.chan, .int .i64 x.val, .int .i64 x.slot, .int .i64 x.goto] := by
  obtain ⟨_, _, rfl, rfl, ⟨_, _, rfl, rfl, ⟨_, _, rfl, rfl, ⟨_, _, rfl, rfl, rfl⟩⟩⟩⟩ := h
  exact rfl

theorem GAlt_in {m : List Nat} {w : World} (x : GAlt)   : cGAlt.rep m w x [.int .i64 x.kind, .int .i64 x.chan, .int .i64 x.val, .int .i64 x.slot, .int .i64 x.goto] := ⟨[.int .i64 x.kind], [.int .i64 x.chan, .int .i64 x.val, .int .i64 x.slot, .int .i64 x.goto], rfl, rfl, ⟨[.int .i64 x.chan], [.int .i64 x.val, .int .i64 x.slot, .int .i64 x.goto], rfl, rfl, ⟨[.int .i64 x.val], [.int .i64 x.slot, .int .i64 x.goto], rfl, rfl, ⟨[.int .i64 x.slot], [.int .i64 x.goto], rfl, rfl, rfl⟩⟩⟩⟩

structure GProc where
  def_ : Int
  at_ : Int
  vars : List Int
  fuel : Int
  mode : Int
  chan : Int
  val : Int
  slot : Int
  until_ : Int
  since : Int
  alts : List GAlt
  deriving DecidableEq, Inhabited

def cGProc : Cod GProc := cMap (fun x => (x.def_, x.at_, x.vars, x.fuel, x.mode, x.chan, x.val, x.slot, x.until_, x.since, x.alts)) (cPair (cInt .i64) (cPair (cInt .i64) (cPair (cSl (cInt .i64)) (cPair (cInt .i64) (cPair (cInt .i64) (cPair (cInt .i64) (cPair (cInt .i64) (cPair (cInt .i64) (cPair (cInt .i64) (cPair (cInt .i64) (cSl cGAlt)))))))))))
theorem GProc_out {m : List Nat} {w : World} {x : GProc} {cs : List Value} (h : cGProc.rep m w x cs) : ∃ (a2 : Option Addr) (c2 : Nat) (a10 : Option Addr) (c10 : Nat), cs = [.int .i64 x.def_, .int .i64 x.at_, .slice a2 x.vars.length c2, .int .i64 x.fuel, .int .i64 x.mode, .int .i64 x.chan, .int .i64 x.val, .int .i64 x.slot, .int .i64 x.until_, .int .i64 x.since, .slice a10 x.alts.length c10] ∧ (x.vars.length ≤ c2 ∧ SlR (cInt .i64) m w a2 x.vars) ∧ (x.alts.length ≤ c10 ∧ SlR cGAlt m w a10 x.alts) := by
  obtain ⟨_, _, rfl, rfl, ⟨_, _, rfl, rfl, ⟨_, _, rfl, ⟨a0, c0, rfl, p0, q0⟩, ⟨_, _, rfl, rfl, ⟨_, _, rfl, rfl, ⟨_, _, rfl, rfl, ⟨_, _, rfl, rfl, ⟨_, _, rfl, rfl, ⟨_, _, rfl, rfl, ⟨_, _, rfl, rfl, ⟨a1, c1, rfl, p1, q1⟩⟩⟩⟩⟩⟩⟩⟩⟩⟩⟩ := h
  exact ⟨a0, c0, a1, c1, rfl, ⟨p0, q0⟩, ⟨p1, q1⟩⟩

theorem GProc_in {m : List Nat} {w : World} (x : GProc) {a2 : Option Addr} {c2 : Nat} {a10 : Option Addr} {c10 : Nat} (h0 : (x.vars.length ≤ c2 ∧ SlR (cInt .i64) m w a2 x.vars)) (h1 : (x.alts.length ≤ c10 ∧ SlR cGAlt m w a10 x.alts)) : cGProc.rep m w x [.int .i64 x.def_, .int .i64 x.at_, .slice a2 x.vars.length c2, .int .i64 x.fuel, .int .i64 x.mode, .int .i64 x.chan, .int .i64 x.val, .int .i64 x.slot, .int .i64 x.until_, .int .i64 x.since, .slice a10 x.alts.length c10] := ⟨[.int .i64 x.def_], [.int .i64 x.at_, .slice a2 x.vars.length c2, .int .i64 x.fuel, .int .i64 x.mode, .int .i64 x.chan, .int .i64 x.val, .int .i64 x.slot, .int .i64 x.until_, .int .i64 x.since, .slice a10 x.alts.length c10], rfl, rfl, ⟨[.int .i64 x.at_], [.slice a2 x.vars.length c2, .int .i64 x.fuel, .int .i64 x.mode, .int .i64 x.chan, .int .i64 x.val, .int .i64 x.slot, .int .i64 x.until_, .int .i64 x.since, .slice a10 x.alts.length c10], rfl, rfl, ⟨[.slice a2 x.vars.length c2], [.int .i64 x.fuel, .int .i64 x.mode, .int .i64 x.chan, .int .i64 x.val, .int .i64 x.slot, .int .i64 x.until_, .int .i64 x.since, .slice a10 x.alts.length c10], rfl, ⟨_, _, rfl, h0.1, h0.2⟩, ⟨[.int .i64 x.fuel], [.int .i64 x.mode, .int .i64 x.chan, .int .i64 x.val, .int .i64 x.slot, .int .i64 x.until_, .int .i64 x.since, .slice a10 x.alts.length c10], rfl, rfl, ⟨[.int .i64 x.mode], [.int .i64 x.chan, .int .i64 x.val, .int .i64 x.slot, .int .i64 x.until_, .int .i64 x.since, .slice a10 x.alts.length c10], rfl, rfl, ⟨[.int .i64 x.chan], [.int .i64 x.val, .int .i64 x.slot, .int .i64 x.until_, .int .i64 x.since, .slice a10 x.alts.length c10], rfl, rfl, ⟨[.int .i64 x.val], [.int .i64 x.slot, .int .i64 x.until_, .int .i64 x.since, .slice a10 x.alts.length c10], rfl, rfl, ⟨[.int .i64 x.slot], [.int .i64 x.until_, .int .i64 x.since, .slice a10 x.alts.length c10], rfl, rfl, ⟨[.int .i64 x.until_], [.int .i64 x.since, .slice a10 x.alts.length c10], rfl, rfl, ⟨[.int .i64 x.since], [.slice a10 x.alts.length c10], rfl, rfl, ⟨_, _, rfl, h1.1, h1.2⟩⟩⟩⟩⟩⟩⟩⟩⟩⟩⟩

structure GState where
  now : Int
  since : Int
  halt : Int
  fault : Int
  who : Int
  procs : List GProc
  out : List Int
  deriving DecidableEq, Inhabited

def cGState : Cod GState := cMap (fun x => (x.now, x.since, x.halt, x.fault, x.who, x.procs, x.out)) (cPair (cInt .i64) (cPair (cInt .i64) (cPair (cInt .i64) (cPair (cInt .i64) (cPair (cInt .i64) (cPair (cSl cGProc) (cSl (cInt .i64))))))))
theorem GState_out {m : List Nat} {w : World} {x : GState} {cs : List Value} (h : cGState.rep m w x cs) : ∃ (a5 : Option Addr) (c5 : Nat) (a6 : Option Addr) (c6 : Nat), cs = [.int .i64 x.now, .int .i64 x.since, .int .i64 x.halt, .int .i64 x.fault, .int .i64 x.who, .slice a5 x.procs.length c5, .slice a6 x.out.length c6] ∧ (x.procs.length ≤ c5 ∧ SlR cGProc m w a5 x.procs) ∧ (x.out.length ≤ c6 ∧ SlR (cInt .i64) m w a6 x.out) := by
  obtain ⟨_, _, rfl, rfl, ⟨_, _, rfl, rfl, ⟨_, _, rfl, rfl, ⟨_, _, rfl, rfl, ⟨_, _, rfl, rfl, ⟨_, _, rfl, ⟨a0, c0, rfl, p0, q0⟩, ⟨a1, c1, rfl, p1, q1⟩⟩⟩⟩⟩⟩⟩ := h
  exact ⟨a0, c0, a1, c1, rfl, ⟨p0, q0⟩, ⟨p1, q1⟩⟩

theorem GState_in {m : List Nat} {w : World} (x : GState) {a5 : Option Addr} {c5 : Nat} {a6 : Option Addr} {c6 : Nat} (h0 : (x.procs.length ≤ c5 ∧ SlR cGProc m w a5 x.procs)) (h1 : (x.out.length ≤ c6 ∧ SlR (cInt .i64) m w a6 x.out)) : cGState.rep m w x [.int .i64 x.now, .int .i64 x.since, .int .i64 x.halt, .int .i64 x.fault, .int .i64 x.who, .slice a5 x.procs.length c5, .slice a6 x.out.length c6] := ⟨[.int .i64 x.now], [.int .i64 x.since, .int .i64 x.halt, .int .i64 x.fault, .int .i64 x.who, .slice a5 x.procs.length c5, .slice a6 x.out.length c6], rfl, rfl, ⟨[.int .i64 x.since], [.int .i64 x.halt, .int .i64 x.fault, .int .i64 x.who, .slice a5 x.procs.length c5, .slice a6 x.out.length c6], rfl, rfl, ⟨[.int .i64 x.halt], [.int .i64 x.fault, .int .i64 x.who, .slice a5 x.procs.length c5, .slice a6 x.out.length c6], rfl, rfl, ⟨[.int .i64 x.fault], [.int .i64 x.who, .slice a5 x.procs.length c5, .slice a6 x.out.length c6], rfl, rfl, ⟨[.int .i64 x.who], [.slice a5 x.procs.length c5, .slice a6 x.out.length c6], rfl, rfl, ⟨[.slice a5 x.procs.length c5], [.slice a6 x.out.length c6], rfl, ⟨_, _, rfl, h0.1, h0.2⟩, ⟨_, _, rfl, h1.1, h1.2⟩⟩⟩⟩⟩⟩⟩

structure GArr2_int where
  x0 : Int
  x1 : Int
  deriving DecidableEq, Inhabited

def cGArr2_int : Cod GArr2_int := cMap (fun x => (x.x0, x.x1)) (cPair (cInt .i64) (cInt .i64))
theorem GArr2_int_out {m : List Nat} {w : World} {x : GArr2_int} {cs : List Value} (h : cGArr2_int.rep m w x cs) : cs = [.int .i64 x.x0, .int .i64 x.x1] := by
  obtain ⟨_, _, rfl, rfl, rfl⟩ := h
  exact rfl

theorem GArr2_int_in {m : List Nat} {w : World} (x : GArr2_int)   : cGArr2_int.rep m w x [.int .i64 x.x0, .int .i64 x.x1] := ⟨[.int .i64 x.x0], [.int .i64 x.x1], rfl, rfl, rfl⟩

structure GArr10_string where
  x0 : List UInt8
  x1 : List UInt8
  x2 : List UInt8
  x3 : List UInt8
  x4 : List UInt8
  x5 : List UInt8
  x6 : List UInt8
  x7 : List UInt8
  x8 : List UInt8
  x9 : List UInt8
  deriving DecidableEq, Inhabited

def cGArr10_string : Cod GArr10_string := cMap (fun x => (x.x0, x.x1, x.x2, x.x3, x.x4, x.x5, x.x6, x.x7, x.x8, x.x9)) (cPair cStr (cPair cStr (cPair cStr (cPair cStr (cPair cStr (cPair cStr (cPair cStr (cPair cStr (cPair cStr cStr)))))))))
theorem GArr10_string_out {m : List Nat} {w : World} {x : GArr10_string} {cs : List Value} (h : cGArr10_string.rep m w x cs) : cs = [.string (mkS x.x0), .string (mkS x.x1), .string (mkS x.x2), .string (mkS x.x3), .string (mkS x.x4), .string (mkS x.x5), .string (mkS x.x6), .string (mkS x.x7), .string (mkS x.x8), .string (mkS x.x9)] := by
  obtain ⟨_, _, rfl, rfl, ⟨_, _, rfl, rfl, ⟨_, _, rfl, rfl, ⟨_, _, rfl, rfl, ⟨_, _, rfl, rfl, ⟨_, _, rfl, rfl, ⟨_, _, rfl, rfl, ⟨_, _, rfl, rfl, ⟨_, _, rfl, rfl, rfl⟩⟩⟩⟩⟩⟩⟩⟩⟩ := h
  exact rfl

theorem GArr10_string_in {m : List Nat} {w : World} (x : GArr10_string)   : cGArr10_string.rep m w x [.string (mkS x.x0), .string (mkS x.x1), .string (mkS x.x2), .string (mkS x.x3), .string (mkS x.x4), .string (mkS x.x5), .string (mkS x.x6), .string (mkS x.x7), .string (mkS x.x8), .string (mkS x.x9)] := ⟨[.string (mkS x.x0)], [.string (mkS x.x1), .string (mkS x.x2), .string (mkS x.x3), .string (mkS x.x4), .string (mkS x.x5), .string (mkS x.x6), .string (mkS x.x7), .string (mkS x.x8), .string (mkS x.x9)], rfl, rfl, ⟨[.string (mkS x.x1)], [.string (mkS x.x2), .string (mkS x.x3), .string (mkS x.x4), .string (mkS x.x5), .string (mkS x.x6), .string (mkS x.x7), .string (mkS x.x8), .string (mkS x.x9)], rfl, rfl, ⟨[.string (mkS x.x2)], [.string (mkS x.x3), .string (mkS x.x4), .string (mkS x.x5), .string (mkS x.x6), .string (mkS x.x7), .string (mkS x.x8), .string (mkS x.x9)], rfl, rfl, ⟨[.string (mkS x.x3)], [.string (mkS x.x4), .string (mkS x.x5), .string (mkS x.x6), .string (mkS x.x7), .string (mkS x.x8), .string (mkS x.x9)], rfl, rfl, ⟨[.string (mkS x.x4)], [.string (mkS x.x5), .string (mkS x.x6), .string (mkS x.x7), .string (mkS x.x8), .string (mkS x.x9)], rfl, rfl, ⟨[.string (mkS x.x5)], [.string (mkS x.x6), .string (mkS x.x7), .string (mkS x.x8), .string (mkS x.x9)], rfl, rfl, ⟨[.string (mkS x.x6)], [.string (mkS x.x7), .string (mkS x.x8), .string (mkS x.x9)], rfl, rfl, ⟨[.string (mkS x.x7)], [.string (mkS x.x8), .string (mkS x.x9)], rfl, rfl, ⟨[.string (mkS x.x8)], [.string (mkS x.x9)], rfl, rfl, rfl⟩⟩⟩⟩⟩⟩⟩⟩⟩

structure GR20_Is where
  come : Bool
  n : Int
  choose : Bool
  deriving DecidableEq, Inhabited

def cGR20_Is : Cod GR20_Is := cMap (fun x => (x.come, x.n, x.choose)) (cPair cBool (cPair (cInt .i64) cBool))
theorem GR20_Is_out {m : List Nat} {w : World} {x : GR20_Is} {cs : List Value} (h : cGR20_Is.rep m w x cs) : cs = [.bool x.come, .int .i64 x.n, .bool x.choose] := by
  obtain ⟨_, _, rfl, rfl, ⟨_, _, rfl, rfl, rfl⟩⟩ := h
  exact rfl

theorem GR20_Is_in {m : List Nat} {w : World} (x : GR20_Is)   : cGR20_Is.rep m w x [.bool x.come, .int .i64 x.n, .bool x.choose] := ⟨[.bool x.come], [.int .i64 x.n, .bool x.choose], rfl, rfl, ⟨[.int .i64 x.n], [.bool x.choose], rfl, rfl, rfl⟩⟩

structure GArr8_string where
  x0 : List UInt8
  x1 : List UInt8
  x2 : List UInt8
  x3 : List UInt8
  x4 : List UInt8
  x5 : List UInt8
  x6 : List UInt8
  x7 : List UInt8
  deriving DecidableEq, Inhabited

def cGArr8_string : Cod GArr8_string := cMap (fun x => (x.x0, x.x1, x.x2, x.x3, x.x4, x.x5, x.x6, x.x7)) (cPair cStr (cPair cStr (cPair cStr (cPair cStr (cPair cStr (cPair cStr (cPair cStr cStr)))))))
theorem GArr8_string_out {m : List Nat} {w : World} {x : GArr8_string} {cs : List Value} (h : cGArr8_string.rep m w x cs) : cs = [.string (mkS x.x0), .string (mkS x.x1), .string (mkS x.x2), .string (mkS x.x3), .string (mkS x.x4), .string (mkS x.x5), .string (mkS x.x6), .string (mkS x.x7)] := by
  obtain ⟨_, _, rfl, rfl, ⟨_, _, rfl, rfl, ⟨_, _, rfl, rfl, ⟨_, _, rfl, rfl, ⟨_, _, rfl, rfl, ⟨_, _, rfl, rfl, ⟨_, _, rfl, rfl, rfl⟩⟩⟩⟩⟩⟩⟩ := h
  exact rfl

theorem GArr8_string_in {m : List Nat} {w : World} (x : GArr8_string)   : cGArr8_string.rep m w x [.string (mkS x.x0), .string (mkS x.x1), .string (mkS x.x2), .string (mkS x.x3), .string (mkS x.x4), .string (mkS x.x5), .string (mkS x.x6), .string (mkS x.x7)] := ⟨[.string (mkS x.x0)], [.string (mkS x.x1), .string (mkS x.x2), .string (mkS x.x3), .string (mkS x.x4), .string (mkS x.x5), .string (mkS x.x6), .string (mkS x.x7)], rfl, rfl, ⟨[.string (mkS x.x1)], [.string (mkS x.x2), .string (mkS x.x3), .string (mkS x.x4), .string (mkS x.x5), .string (mkS x.x6), .string (mkS x.x7)], rfl, rfl, ⟨[.string (mkS x.x2)], [.string (mkS x.x3), .string (mkS x.x4), .string (mkS x.x5), .string (mkS x.x6), .string (mkS x.x7)], rfl, rfl, ⟨[.string (mkS x.x3)], [.string (mkS x.x4), .string (mkS x.x5), .string (mkS x.x6), .string (mkS x.x7)], rfl, rfl, ⟨[.string (mkS x.x4)], [.string (mkS x.x5), .string (mkS x.x6), .string (mkS x.x7)], rfl, rfl, ⟨[.string (mkS x.x5)], [.string (mkS x.x6), .string (mkS x.x7)], rfl, rfl, ⟨[.string (mkS x.x6)], [.string (mkS x.x7)], rfl, rfl, rfl⟩⟩⟩⟩⟩⟩⟩

end Go.Ty
