/- Structures of the program, and how they lie in cells. -/
import Derived.Test.YtldcgfpcnemhpaaGreatLv
namespace Go.Ty
open Go.Vc Go.Lv
structure GIns where
  op : Int
  a : Int
  b : Int
  deriving DecidableEq, Inhabited
def cGIns : Cod GIns := cMap (fun x => (x.op, x.a, x.b)) (cPair (cInt .i64) (cPair (cInt .i64) (cInt .i64)))
theorem GIns_out {m : List Nat} {w : World} {x : GIns} {cs : List Value} (h : cGIns.rep m w x cs) : cs = [.int .i64 x.op, .int .i64 x.a, .int .i64 x.b] := by
  obtain ⟨_, _, rfl, rfl, ⟨_, _, rfl, rfl, rfl⟩⟩ := h
  exact rfl
structure GDef where
  name : List UInt8
  entry : Int
  params : Int
  vars : Int
  deriving DecidableEq, Inhabited
def cGDef : Cod GDef := cMap (fun x => (x.name, x.entry, x.params, x.vars)) (cPair cStr (cPair (cInt .i64) (cPair (cInt .i64) (cInt .i64))))
structure GChan where
  name : List UInt8
  base : Int
  size : Int
  deriving DecidableEq, Inhabited
def cGChan : Cod GChan := cMap (fun x => (x.name, x.base, x.size)) (cPair cStr (cPair (cInt .i64) (cInt .i64)))
theorem GChan_out {m : List Nat} {w : World} {x : GChan} {cs : List Value} (h : cGChan.rep m w x cs) : cs = [.string (mkS x.name), .int .i64 x.base, .int .i64 x.size] := by
  obtain ⟨_, _, rfl, rfl, ⟨_, _, rfl, rfl, rfl⟩⟩ := h
  exact rfl
theorem GChan_in {m : List Nat} {w : World} (x : GChan)   : cGChan.rep m w x [.string (mkS x.name), .int .i64 x.base, .int .i64 x.size] := ⟨[.string (mkS x.name)], [.int .i64 x.base, .int .i64 x.size], rfl, rfl, ⟨[.int .i64 x.base], [.int .i64 x.size], rfl, rfl, rfl⟩⟩
structure GCode where
  ins : List GIns
  defs : List GDef
  chans : List GChan
  main : Int
  stmts : Int
  deriving DecidableEq, Inhabited
def cGCode : Cod GCode := cMap (fun x => (x.ins, x.defs, x.chans, x.main, x.stmts)) (cPair (cSl cGIns) (cPair (cSl cGDef) (cPair (cSl cGChan) (cPair (cInt .i64) (cInt .i64)))))
theorem GCode_out {m : List Nat} {w : World} {x : GCode} {cs : List Value} (h : cGCode.rep m w x cs) : ∃ (a0 : Option Addr) (c0 : Nat) (a1 : Option Addr) (c1 : Nat) (a2 : Option Addr) (c2 : Nat), cs = [.slice a0 x.ins.length c0, .slice a1 x.defs.length c1, .slice a2 x.chans.length c2, .int .i64 x.main, .int .i64 x.stmts] ∧ (x.ins.length ≤ c0 ∧ SlR cGIns m w a0 x.ins) ∧ (x.defs.length ≤ c1 ∧ SlR cGDef m w a1 x.defs) ∧ (x.chans.length ≤ c2 ∧ SlR cGChan m w a2 x.chans) := by
  obtain ⟨_, _, rfl, ⟨a0, c0, rfl, p0, q0⟩, ⟨_, _, rfl, ⟨a1, c1, rfl, p1, q1⟩, ⟨_, _, rfl, ⟨a2, c2, rfl, p2, q2⟩, ⟨_, _, rfl, rfl, rfl⟩⟩⟩⟩ := h
  exact ⟨a0, c0, a1, c1, a2, c2, rfl, ⟨p0, q0⟩, ⟨p1, q1⟩, ⟨p2, q2⟩⟩
theorem GCode_in {m : List Nat} {w : World} (x : GCode) {a0 : Option Addr} {c0 : Nat} {a1 : Option Addr} {c1 : Nat} {a2 : Option Addr} {c2 : Nat} (h0 : (x.ins.length ≤ c0 ∧ SlR cGIns m w a0 x.ins)) (h1 : (x.defs.length ≤ c1 ∧ SlR cGDef m w a1 x.defs)) (h2 : (x.chans.length ≤ c2 ∧ SlR cGChan m w a2 x.chans)) : cGCode.rep m w x [.slice a0 x.ins.length c0, .slice a1 x.defs.length c1, .slice a2 x.chans.length c2, .int .i64 x.main, .int .i64 x.stmts] := ⟨[.slice a0 x.ins.length c0], [.slice a1 x.defs.length c1, .slice a2 x.chans.length c2, .int .i64 x.main, .int .i64 x.stmts], rfl, ⟨_, _, rfl, h0.1, h0.2⟩, ⟨[.slice a1 x.defs.length c1], [.slice a2 x.chans.length c2, .int .i64 x.main, .int .i64 x.stmts], rfl, ⟨_, _, rfl, h1.1, h1.2⟩, ⟨[.slice a2 x.chans.length c2], [.int .i64 x.main, .int .i64 x.stmts], rfl, ⟨_, _, rfl, h2.1, h2.2⟩, ⟨[.int .i64 x.main], [.int .i64 x.stmts], rfl, rfl, rfl⟩⟩⟩⟩
structure GAlt where
  kind : Int
  chan : Int
  val : Int
  slot : Int
  goto : Int
  deriving DecidableEq, Inhabited
def cGAlt : Cod GAlt := cMap (fun x => (x.kind, x.chan, x.val, x.slot, x.goto)) (cPair (cInt .i64) (cPair (cInt .i64) (cPair (cInt .i64) (cPair (cInt .i64) (cInt .i64)))))
theorem GAlt_out {m : List Nat} {w : World} {x : GAlt} {cs : List Value} (h : cGAlt.rep m w x cs) : cs = [.int .i64 x.kind, .int .i64 x.chan, .int .i64 x.val, .int .i64 x.slot, .int .i64 x.goto] := by
  obtain ⟨_, _, rfl, rfl, ⟨_, _, rfl, rfl, ⟨_, _, rfl, rfl, ⟨_, _, rfl, rfl, rfl⟩⟩⟩⟩ := h
  exact rfl
theorem GAlt_in {m : List Nat} {w : World} (x : GAlt)   : cGAlt.rep m w x [.int .i64 x.kind, .int .i64 x.chan, .int .i64 x.val, .int .i64 x.slot, .int .i64 x.goto] := ⟨[.int .i64 x.kind], [.int .i64 x.chan, .int .i64 x.val, .int .i64 x.slot, .int .i64 x.goto], rfl, rfl, ⟨[.int .i64 x.chan], [.int .i64 x.val, .int .i64 x.slot, .int .i64 x.goto], rfl, rfl, ⟨[.int .i64 x.val], [.int .i64 x.slot, .int .i64 x.goto], rfl, rfl, ⟨[.int .i64 x.slot], [.int .i64 x.goto], rfl, rfl, rfl⟩⟩⟩⟩
structure GProc where
  def_ : Int
  at_ : Int
  vars : List Int
  fuel : Int
  mode : Int
  chan : Int
  val : Int
  slot : Int
  until_ : Int
  since : Int
  alts : List GAlt
  deriving DecidableEq, Inhabited
def cGProc : Cod GProc := cMap (fun x => (x.def_, x.at_, x.vars, x.fuel, x.mode, x.chan, x.val, x.slot, x.until_, x.since, x.alts)) (cPair (cInt .i64) (cPair (cInt .i64) (cPair (cSl (cInt .i64)) (cPair (cInt .i64) (cPair (cInt .i64) (cPair (cInt .i64) (cPair (cInt .i64) (cPair (cInt .i64) (cPair (cInt .i64) (cPair (cInt .i64) (cSl cGAlt)))))))))))
theorem GProc_out {m : List Nat} {w : World} {x : GProc} {cs : List Value} (h : cGProc.rep m w x cs) : ∃ (a2 : Option Addr) (c2 : Nat) (a10 : Option Addr) (c10 : Nat), cs = [.int .i64 x.def_, .int .i64 x.at_, .slice a2 x.vars.length c2, .int .i64 x.fuel, .int .i64 x.mode, .int .i64 x.chan, .int .i64 x.val, .int .i64 x.slot, .int .i64 x.until_, .int .i64 x.since, .slice a10 x.alts.length c10] ∧ (x.vars.length ≤ c2 ∧ SlR (cInt .i64) m w a2 x.vars) ∧ (x.alts.length ≤ c10 ∧ SlR cGAlt m w a10 x.alts) := by
  obtain ⟨_, _, rfl, rfl, ⟨_, _, rfl, rfl, ⟨_, _, rfl, ⟨a0, c0, rfl, p0, q0⟩, ⟨_, _, rfl, rfl, ⟨_, _, rfl, rfl, ⟨_, _, rfl, rfl, ⟨_, _, rfl, rfl, ⟨_, _, rfl, rfl, ⟨_, _, rfl, rfl, ⟨_, _, rfl, rfl, ⟨a1, c1, rfl, p1, q1⟩⟩⟩⟩⟩⟩⟩⟩⟩⟩⟩ := h
  exact ⟨a0, c0, a1, c1, rfl, ⟨p0, q0⟩, ⟨p1, q1⟩⟩
theorem GProc_in {m : List Nat} {w : World} (x : GProc) {a2 : Option Addr} {c2 : Nat} {a10 : Option Addr} {c10 : Nat} (h0 : (x.vars.length ≤ c2 ∧ SlR (cInt .i64) m w a2 x.vars)) (h1 : (x.alts.length ≤ c10 ∧ SlR cGAlt m w a10 x.alts)) : cGProc.rep m w x [.int .i64 x.def_, .int .i64 x.at_, .slice a2 x.vars.length c2, .int .i64 x.fuel, .int .i64 x.mode, .int .i64 x.chan, .int .i64 x.val, .int .i64 x.slot, .int .i64 x.until_, .int .i64 x.since, .slice a10 x.alts.length c10] := ⟨[.int .i64 x.def_], [.int .i64 x.at_, .slice a2 x.vars.length c2, .int .i64 x.fuel, .int .i64 x.mode, .int .i64 x.chan, .int .i64 x.val, .int .i64 x.slot, .int .i64 x.until_, .int .i64 x.since, .slice a10 x.alts.length c10], rfl, rfl, ⟨[.int .i64 x.at_], [.slice a2 x.vars.length c2, .int .i64 x.fuel, .int .i64 x.mode, .int .i64 x.chan, .int .i64 x.val, .int .i64 x.slot, .int .i64 x.until_, .int .i64 x.since, .slice a10 x.alts.length c10], rfl, rfl, ⟨[.slice a2 x.vars.length c2], [.int .i64 x.fuel, .int .i64 x.mode, .int .i64 x.chan, .int .i64 x.val, .int .i64 x.slot, .int .i64 x.until_, .int .i64 x.since, .slice a10 x.alts.length c10], rfl, ⟨_, _, rfl, h0.1, h0.2⟩, ⟨[.int .i64 x.fuel], [.int .i64 x.mode, .int .i64 x.chan, .int .i64 x.val, .int .i64 x.slot, .int .i64 x.until_, .int .i64 x.since, .slice a10 x.alts.length c10], rfl, rfl, ⟨[.int .i64 x.mode], [.int .i64 x.chan, .int .i64 x.val, .int .i64 x.slot, .int .i64 x.until_, .int .i64 x.since, .slice a10 x.alts.length c10], rfl, rfl, ⟨[.int .i64 x.chan], [.int .i64 x.val, .int .i64 x.slot, .int .i64 x.until_, .int .i64 x.since, .slice a10 x.alts.length c10], rfl, rfl, ⟨[.int .i64 x.val], [.int .i64 x.slot, .int .i64 x.until_, .int .i64 x.since, .slice a10 x.alts.length c10], rfl, rfl, ⟨[.int .i64 x.slot], [.int .i64 x.until_, .int .i64 x.since, .slice a10 x.alts.length c10], rfl, rfl, ⟨[.int .i64 x.until_], [.int .i64 x.since, .slice a10 x.alts.length c10], rfl, rfl, ⟨[.int .i64 x.since], [.slice a10 x.alts.length c10], rfl, rfl, ⟨_, _, rfl, h1.1, h1.2⟩⟩⟩⟩⟩⟩⟩⟩⟩⟩⟩
structure GState where
  now : Int
  since : Int
  halt : Int
  fault : Int
  who : Int
  procs : List GProc
  out : List Int
  deriving DecidableEq, Inhabited
def cGState : Cod GState := cMap (fun x => (x.now, x.since, x.halt, x.fault, x.who, x.procs, x.out)) (cPair (cInt .i64) (cPair (cInt .i64) (cPair (cInt .i64) (cPair (cInt .i64) (cPair (cInt .i64) (cPair (cSl cGProc) (cSl (cInt .i64))))))))
theorem GState_out {m : List Nat} {w : World} {x : GState} {cs : List Value} (h : cGState.rep m w x cs) : ∃ (a5 : Option Addr) (c5 : Nat) (a6 : Option Addr) (c6 : Nat), cs = [.int .i64 x.now, .int .i64 x.since, .int .i64 x.halt, .int .i64 x.fault, .int .i64 x.who, .slice a5 x.procs.length c5, .slice a6 x.out.length c6] ∧ (x.procs.length ≤ c5 ∧ SlR cGProc m w a5 x.procs) ∧ (x.out.length ≤ c6 ∧ SlR (cInt .i64) m w a6 x.out) := by
  obtain ⟨_, _, rfl, rfl, ⟨_, _, rfl, rfl, ⟨_, _, rfl, rfl, ⟨_, _, rfl, rfl, ⟨_, _, rfl, rfl, ⟨_, _, rfl, ⟨a0, c0, rfl, p0, q0⟩, ⟨a1, c1, rfl, p1, q1⟩⟩⟩⟩⟩⟩⟩ := h
  exact ⟨a0, c0, a1, c1, rfl, ⟨p0, q0⟩, ⟨p1, q1⟩⟩
theorem GState_in {m : List Nat} {w : World} (x : GState) {a5 : Option Addr} {c5 : Nat} {a6 : Option Addr} {c6 : Nat} (h0 : (x.procs.length ≤ c5 ∧ SlR cGProc m w a5 x.procs)) (h1 : (x.out.length ≤ c6 ∧ SlR (cInt .i64) m w a6 x.out)) : cGState.rep m w x [.int .i64 x.now, .int .i64 x.since, .int .i64 x.halt, .int .i64 x.fault, .int .i64 x.who, .slice a5 x.procs.length c5, .slice a6 x.out.length c6] := ⟨[.int .i64 x.now], [.int .i64 x.since, .int .i64 x.halt, .int .i64 x.fault, .int .i64 x.who, .slice a5 x.procs.length c5, .slice a6 x.out.length c6], rfl, rfl, ⟨[.int .i64 x.since], [.int .i64 x.halt, .int .i64 x.fault, .int .i64 x.who, .slice a5 x.procs.length c5, .slice a6 x.out.length c6], rfl, rfl, ⟨[.int .i64 x.halt], [.int .i64 x.fault, .int .i64 x.who, .slice a5 x.procs.length c5, .slice a6 x.out.length c6], rfl, rfl, ⟨[.int .i64 x.fault], [.int .i64 x.who, .slice a5 x.procs.length c5, .slice a6 x.out.length c6], rfl, rfl, ⟨[.int .i64 x.who], [.slice a5 x.procs.length c5, .slice a6 x.out.length c6], rfl, rfl, ⟨[.slice a5 x.procs.length c5], [.slice a6 x.out.length c6], rfl, ⟨_, _, rfl, h0.1, h0.2⟩, ⟨_, _, rfl, h1.1, h1.2⟩⟩⟩⟩⟩⟩⟩
structure GNode where
  op : Int
  name : List UInt8
  n : Int
  kids : Int
  at_ : Int
  deriving DecidableEq, Inhabited
def cGNode : Cod GNode := cMap (fun x => (x.op, x.name, x.n, x.kids, x.at_)) (cPair (cInt .i64) (cPair cStr (cPair (cInt .i64) (cPair (cInt .i64) (cInt .i64)))))
theorem GNode_out {m : List Nat} {w : World} {x : GNode} {cs : List Value} (h : cGNode.rep m w x cs) : cs = [.int .i64 x.op, .string (mkS x.name), .int .i64 x.n, .int .i64 x.kids, .int .i64 x.at_] := by
  obtain ⟨_, _, rfl, rfl, ⟨_, _, rfl, rfl, ⟨_, _, rfl, rfl, ⟨_, _, rfl, rfl, rfl⟩⟩⟩⟩ := h
  exact rfl
theorem GNode_in {m : List Nat} {w : World} (x : GNode)   : cGNode.rep m w x [.int .i64 x.op, .string (mkS x.name), .int .i64 x.n, .int .i64 x.kids, .int .i64 x.at_] := ⟨[.int .i64 x.op], [.string (mkS x.name), .int .i64 x.n, .int .i64 x.kids, .int .i64 x.at_], rfl, rfl, ⟨[.string (mkS x.name)], [.int .i64 x.n, .int .i64 x.kids, .int .i64 x.at_], rfl, rfl, ⟨[.int .i64 x.n], [.int .i64 x.kids, .int .i64 x.at_], rfl, rfl, ⟨[.int .i64 x.kids], [.int .i64 x.at_], rfl, rfl, rfl⟩⟩⟩⟩
structure GRoutine where
  name : List UInt8
  node : Int
  params : Int
  vars : List (List UInt8)
  deriving DecidableEq, Inhabited
def cGRoutine : Cod GRoutine := cMap (fun x => (x.name, x.node, x.params, x.vars)) (cPair cStr (cPair (cInt .i64) (cPair (cInt .i64) (cSl cStr))))
theorem GRoutine_out {m : List Nat} {w : World} {x : GRoutine} {cs : List Value} (h : cGRoutine.rep m w x cs) : ∃ (a3 : Option Addr) (c3 : Nat), cs = [.string (mkS x.name), .int .i64 x.node, .int .i64 x.params, .slice a3 x.vars.length c3] ∧ (x.vars.length ≤ c3 ∧ SlR cStr m w a3 x.vars) := by
  obtain ⟨_, _, rfl, rfl, ⟨_, _, rfl, rfl, ⟨_, _, rfl, rfl, ⟨a0, c0, rfl, p0, q0⟩⟩⟩⟩ := h
  exact ⟨a0, c0, rfl, ⟨p0, q0⟩⟩
theorem GRoutine_in {m : List Nat} {w : World} (x : GRoutine) {a3 : Option Addr} {c3 : Nat} (h0 : (x.vars.length ≤ c3 ∧ SlR cStr m w a3 x.vars)) : cGRoutine.rep m w x [.string (mkS x.name), .int .i64 x.node, .int .i64 x.params, .slice a3 x.vars.length c3] := ⟨[.string (mkS x.name)], [.int .i64 x.node, .int .i64 x.params, .slice a3 x.vars.length c3], rfl, rfl, ⟨[.int .i64 x.node], [.int .i64 x.params, .slice a3 x.vars.length c3], rfl, rfl, ⟨[.int .i64 x.params], [.slice a3 x.vars.length c3], rfl, rfl, ⟨_, _, rfl, h0.1, h0.2⟩⟩⟩⟩
structure GPlan where
  chans : List GChan
  routines : List GRoutine
  main : Int
  nums : List Int
  deriving DecidableEq, Inhabited
def cGPlan : Cod GPlan := cMap (fun x => (x.chans, x.routines, x.main, x.nums)) (cPair (cSl cGChan) (cPair (cSl cGRoutine) (cPair (cInt .i64) (cSl (cInt .i64)))))
theorem GPlan_out {m : List Nat} {w : World} {x : GPlan} {cs : List Value} (h : cGPlan.rep m w x cs) : ∃ (a0 : Option Addr) (c0 : Nat) (a1 : Option Addr) (c1 : Nat) (a3 : Option Addr) (c3 : Nat), cs = [.slice a0 x.chans.length c0, .slice a1 x.routines.length c1, .int .i64 x.main, .slice a3 x.nums.length c3] ∧ (x.chans.length ≤ c0 ∧ SlR cGChan m w a0 x.chans) ∧ (x.routines.length ≤ c1 ∧ SlR cGRoutine m w a1 x.routines) ∧ (x.nums.length ≤ c3 ∧ SlR (cInt .i64) m w a3 x.nums) := by
  obtain ⟨_, _, rfl, ⟨a0, c0, rfl, p0, q0⟩, ⟨_, _, rfl, ⟨a1, c1, rfl, p1, q1⟩, ⟨_, _, rfl, rfl, ⟨a2, c2, rfl, p2, q2⟩⟩⟩⟩ := h
  exact ⟨a0, c0, a1, c1, a2, c2, rfl, ⟨p0, q0⟩, ⟨p1, q1⟩, ⟨p2, q2⟩⟩
theorem GPlan_in {m : List Nat} {w : World} (x : GPlan) {a0 : Option Addr} {c0 : Nat} {a1 : Option Addr} {c1 : Nat} {a3 : Option Addr} {c3 : Nat} (h0 : (x.chans.length ≤ c0 ∧ SlR cGChan m w a0 x.chans)) (h1 : (x.routines.length ≤ c1 ∧ SlR cGRoutine m w a1 x.routines)) (h2 : (x.nums.length ≤ c3 ∧ SlR (cInt .i64) m w a3 x.nums)) : cGPlan.rep m w x [.slice a0 x.chans.length c0, .slice a1 x.routines.length c1, .int .i64 x.main, .slice a3 x.nums.length c3] := ⟨[.slice a0 x.chans.length c0], [.slice a1 x.routines.length c1, .int .i64 x.main, .slice a3 x.nums.length c3], rfl, ⟨_, _, rfl, h0.1, h0.2⟩, ⟨[.slice a1 x.routines.length c1], [.int .i64 x.main, .slice a3 x.nums.length c3], rfl, ⟨_, _, rfl, h1.1, h1.2⟩, ⟨[.int .i64 x.main], [.slice a3 x.nums.length c3], rfl, rfl, ⟨_, _, rfl, h2.1, h2.2⟩⟩⟩⟩
structure GR14_Unit where
  l : List GNode
  p : GPlan
  at_ : Int
  e_ : Int
  deriving DecidableEq, Inhabited
def cGR14_Unit : Cod GR14_Unit := cMap (fun x => (x.l, x.p, x.at_, x.e_)) (cPair (cSl cGNode) (cPair cGPlan (cPair (cInt .i64) (cInt .i64))))
theorem GR14_Unit_out {m : List Nat} {w : World} {x : GR14_Unit} {cs : List Value} (h : cGR14_Unit.rep m w x cs) : ∃ (a0 : Option Addr) (c0 : Nat) (a1 : Option Addr) (c1 : Nat) (a2 : Option Addr) (c2 : Nat) (a4 : Option Addr) (c4 : Nat), cs = [.slice a0 x.l.length c0, .slice a1 x.p.chans.length c1, .slice a2 x.p.routines.length c2, .int .i64 x.p.main, .slice a4 x.p.nums.length c4, .int .i64 x.at_, .int .i64 x.e_] ∧ (x.l.length ≤ c0 ∧ SlR cGNode m w a0 x.l) ∧ (x.p.chans.length ≤ c1 ∧ SlR cGChan m w a1 x.p.chans) ∧ (x.p.routines.length ≤ c2 ∧ SlR cGRoutine m w a2 x.p.routines) ∧ (x.p.nums.length ≤ c4 ∧ SlR (cInt .i64) m w a4 x.p.nums) := by
  obtain ⟨_, _, rfl, ⟨a0, c0, rfl, p0, q0⟩, ⟨_, _, rfl, ⟨_, _, rfl, ⟨a1, c1, rfl, p1, q1⟩, ⟨_, _, rfl, ⟨a2, c2, rfl, p2, q2⟩, ⟨_, _, rfl, rfl, ⟨a3, c3, rfl, p3, q3⟩⟩⟩⟩, ⟨_, _, rfl, rfl, rfl⟩⟩⟩ := h
  exact ⟨a0, c0, a1, c1, a2, c2, a3, c3, rfl, ⟨p0, q0⟩, ⟨p1, q1⟩, ⟨p2, q2⟩, ⟨p3, q3⟩⟩
theorem GR14_Unit_in {m : List Nat} {w : World} (x : GR14_Unit) {a0 : Option Addr} {c0 : Nat} {a1 : Option Addr} {c1 : Nat} {a2 : Option Addr} {c2 : Nat} {a4 : Option Addr} {c4 : Nat} (h0 : (x.l.length ≤ c0 ∧ SlR cGNode m w a0 x.l)) (h1 : (x.p.chans.length ≤ c1 ∧ SlR cGChan m w a1 x.p.chans)) (h2 : (x.p.routines.length ≤ c2 ∧ SlR cGRoutine m w a2 x.p.routines)) (h3 : (x.p.nums.length ≤ c4 ∧ SlR (cInt .i64) m w a4 x.p.nums)) : cGR14_Unit.rep m w x [.slice a0 x.l.length c0, .slice a1 x.p.chans.length c1, .slice a2 x.p.routines.length c2, .int .i64 x.p.main, .slice a4 x.p.nums.length c4, .int .i64 x.at_, .int .i64 x.e_] := ⟨[.slice a0 x.l.length c0], [.slice a1 x.p.chans.length c1, .slice a2 x.p.routines.length c2, .int .i64 x.p.main, .slice a4 x.p.nums.length c4, .int .i64 x.at_, .int .i64 x.e_], rfl, ⟨_, _, rfl, h0.1, h0.2⟩, ⟨[.slice a1 x.p.chans.length c1, .slice a2 x.p.routines.length c2, .int .i64 x.p.main, .slice a4 x.p.nums.length c4], [.int .i64 x.at_, .int .i64 x.e_], rfl, ⟨[.slice a1 x.p.chans.length c1], [.slice a2 x.p.routines.length c2, .int .i64 x.p.main, .slice a4 x.p.nums.length c4], rfl, ⟨_, _, rfl, h1.1, h1.2⟩, ⟨[.slice a2 x.p.routines.length c2], [.int .i64 x.p.main, .slice a4 x.p.nums.length c4], rfl, ⟨_, _, rfl, h2.1, h2.2⟩, ⟨[.int .i64 x.p.main], [.slice a4 x.p.nums.length c4], rfl, rfl, ⟨_, _, rfl, h3.1, h3.2⟩⟩⟩⟩, ⟨[.int .i64 x.at_], [.int .i64 x.e_], rfl, rfl, rfl⟩⟩⟩
structure GR10_Got where
  l : List GNode
  at_ : Int
  e_ : Int
  deriving DecidableEq, Inhabited
def cGR10_Got : Cod GR10_Got := cMap (fun x => (x.l, x.at_, x.e_)) (cPair (cSl cGNode) (cPair (cInt .i64) (cInt .i64)))
theorem GR10_Got_out {m : List Nat} {w : World} {x : GR10_Got} {cs : List Value} (h : cGR10_Got.rep m w x cs) : ∃ (a0 : Option Addr) (c0 : Nat), cs = [.slice a0 x.l.length c0, .int .i64 x.at_, .int .i64 x.e_] ∧ (x.l.length ≤ c0 ∧ SlR cGNode m w a0 x.l) := by
  obtain ⟨_, _, rfl, ⟨a0, c0, rfl, p0, q0⟩, ⟨_, _, rfl, rfl, rfl⟩⟩ := h
  exact ⟨a0, c0, rfl, ⟨p0, q0⟩⟩
theorem GR10_Got_in {m : List Nat} {w : World} (x : GR10_Got) {a0 : Option Addr} {c0 : Nat} (h0 : (x.l.length ≤ c0 ∧ SlR cGNode m w a0 x.l)) : cGR10_Got.rep m w x [.slice a0 x.l.length c0, .int .i64 x.at_, .int .i64 x.e_] := ⟨[.slice a0 x.l.length c0], [.int .i64 x.at_, .int .i64 x.e_], rfl, ⟨_, _, rfl, h0.1, h0.2⟩, ⟨[.int .i64 x.at_], [.int .i64 x.e_], rfl, rfl, rfl⟩⟩
structure GR13_Got where
  p : GPlan
  at_ : Int
  e_ : Int
  deriving DecidableEq, Inhabited
def cGR13_Got : Cod GR13_Got := cMap (fun x => (x.p, x.at_, x.e_)) (cPair cGPlan (cPair (cInt .i64) (cInt .i64)))
theorem GR13_Got_out {m : List Nat} {w : World} {x : GR13_Got} {cs : List Value} (h : cGR13_Got.rep m w x cs) : ∃ (a0 : Option Addr) (c0 : Nat) (a1 : Option Addr) (c1 : Nat) (a3 : Option Addr) (c3 : Nat), cs = [.slice a0 x.p.chans.length c0, .slice a1 x.p.routines.length c1, .int .i64 x.p.main, .slice a3 x.p.nums.length c3, .int .i64 x.at_, .int .i64 x.e_] ∧ (x.p.chans.length ≤ c0 ∧ SlR cGChan m w a0 x.p.chans) ∧ (x.p.routines.length ≤ c1 ∧ SlR cGRoutine m w a1 x.p.routines) ∧ (x.p.nums.length ≤ c3 ∧ SlR (cInt .i64) m w a3 x.p.nums) := by
  obtain ⟨_, _, rfl, ⟨_, _, rfl, ⟨a0, c0, rfl, p0, q0⟩, ⟨_, _, rfl, ⟨a1, c1, rfl, p1, q1⟩, ⟨_, _, rfl, rfl, ⟨a2, c2, rfl, p2, q2⟩⟩⟩⟩, ⟨_, _, rfl, rfl, rfl⟩⟩ := h
  exact ⟨a0, c0, a1, c1, a2, c2, rfl, ⟨p0, q0⟩, ⟨p1, q1⟩, ⟨p2, q2⟩⟩
theorem GR13_Got_in {m : List Nat} {w : World} (x : GR13_Got) {a0 : Option Addr} {c0 : Nat} {a1 : Option Addr} {c1 : Nat} {a3 : Option Addr} {c3 : Nat} (h0 : (x.p.chans.length ≤ c0 ∧ SlR cGChan m w a0 x.p.chans)) (h1 : (x.p.routines.length ≤ c1 ∧ SlR cGRoutine m w a1 x.p.routines)) (h2 : (x.p.nums.length ≤ c3 ∧ SlR (cInt .i64) m w a3 x.p.nums)) : cGR13_Got.rep m w x [.slice a0 x.p.chans.length c0, .slice a1 x.p.routines.length c1, .int .i64 x.p.main, .slice a3 x.p.nums.length c3, .int .i64 x.at_, .int .i64 x.e_] := ⟨[.slice a0 x.p.chans.length c0, .slice a1 x.p.routines.length c1, .int .i64 x.p.main, .slice a3 x.p.nums.length c3], [.int .i64 x.at_, .int .i64 x.e_], rfl, ⟨[.slice a0 x.p.chans.length c0], [.slice a1 x.p.routines.length c1, .int .i64 x.p.main, .slice a3 x.p.nums.length c3], rfl, ⟨_, _, rfl, h0.1, h0.2⟩, ⟨[.slice a1 x.p.routines.length c1], [.int .i64 x.p.main, .slice a3 x.p.nums.length c3], rfl, ⟨_, _, rfl, h1.1, h1.2⟩, ⟨[.int .i64 x.p.main], [.slice a3 x.p.nums.length c3], rfl, rfl, ⟨_, _, rfl, h2.1, h2.2⟩⟩⟩⟩, ⟨[.int .i64 x.at_], [.int .i64 x.e_], rfl, rfl, rfl⟩⟩
structure GToken where
  kind : Int
  text : List UInt8
  n : Int
  at_ : Int
  deriving DecidableEq, Inhabited
def cGToken : Cod GToken := cMap (fun x => (x.kind, x.text, x.n, x.at_)) (cPair (cInt .i64) (cPair cStr (cPair (cInt .i64) (cInt .i64))))
theorem GToken_out {m : List Nat} {w : World} {x : GToken} {cs : List Value} (h : cGToken.rep m w x cs) : cs = [.int .i64 x.kind, .string (mkS x.text), .int .i64 x.n, .int .i64 x.at_] := by
  obtain ⟨_, _, rfl, rfl, ⟨_, _, rfl, rfl, ⟨_, _, rfl, rfl, rfl⟩⟩⟩ := h
  exact rfl
theorem GToken_in {m : List Nat} {w : World} (x : GToken)   : cGToken.rep m w x [.int .i64 x.kind, .string (mkS x.text), .int .i64 x.n, .int .i64 x.at_] := ⟨[.int .i64 x.kind], [.string (mkS x.text), .int .i64 x.n, .int .i64 x.at_], rfl, rfl, ⟨[.string (mkS x.text)], [.int .i64 x.n, .int .i64 x.at_], rfl, rfl, ⟨[.int .i64 x.n], [.int .i64 x.at_], rfl, rfl, rfl⟩⟩⟩
structure GR08_List where
  l : List GToken
  at_ : Int
  e_ : Int
  deriving DecidableEq, Inhabited
def cGR08_List : Cod GR08_List := cMap (fun x => (x.l, x.at_, x.e_)) (cPair (cSl cGToken) (cPair (cInt .i64) (cInt .i64)))
theorem GR08_List_out {m : List Nat} {w : World} {x : GR08_List} {cs : List Value} (h : cGR08_List.rep m w x cs) : ∃ (a0 : Option Addr) (c0 : Nat), cs = [.slice a0 x.l.length c0, .int .i64 x.at_, .int .i64 x.e_] ∧ (x.l.length ≤ c0 ∧ SlR cGToken m w a0 x.l) := by
  obtain ⟨_, _, rfl, ⟨a0, c0, rfl, p0, q0⟩, ⟨_, _, rfl, rfl, rfl⟩⟩ := h
  exact ⟨a0, c0, rfl, ⟨p0, q0⟩⟩
theorem GR08_List_in {m : List Nat} {w : World} (x : GR08_List) {a0 : Option Addr} {c0 : Nat} (h0 : (x.l.length ≤ c0 ∧ SlR cGToken m w a0 x.l)) : cGR08_List.rep m w x [.slice a0 x.l.length c0, .int .i64 x.at_, .int .i64 x.e_] := ⟨[.slice a0 x.l.length c0], [.int .i64 x.at_, .int .i64 x.e_], rfl, ⟨_, _, rfl, h0.1, h0.2⟩, ⟨[.int .i64 x.at_], [.int .i64 x.e_], rfl, rfl, rfl⟩⟩
structure GR08_Got where
  t : GToken
  next : Int
  e_ : Int
  deriving DecidableEq, Inhabited
def cGR08_Got : Cod GR08_Got := cMap (fun x => (x.t, x.next, x.e_)) (cPair cGToken (cPair (cInt .i64) (cInt .i64)))
theorem GR08_Got_out {m : List Nat} {w : World} {x : GR08_Got} {cs : List Value} (h : cGR08_Got.rep m w x cs) : cs = [.int .i64 x.t.kind, .string (mkS x.t.text), .int .i64 x.t.n, .int .i64 x.t.at_, .int .i64 x.next, .int .i64 x.e_] := by
  obtain ⟨_, _, rfl, ⟨_, _, rfl, rfl, ⟨_, _, rfl, rfl, ⟨_, _, rfl, rfl, rfl⟩⟩⟩, ⟨_, _, rfl, rfl, rfl⟩⟩ := h
  exact rfl
theorem GR08_Got_in {m : List Nat} {w : World} (x : GR08_Got)   : cGR08_Got.rep m w x [.int .i64 x.t.kind, .string (mkS x.t.text), .int .i64 x.t.n, .int .i64 x.t.at_, .int .i64 x.next, .int .i64 x.e_] := ⟨[.int .i64 x.t.kind, .string (mkS x.t.text), .int .i64 x.t.n, .int .i64 x.t.at_], [.int .i64 x.next, .int .i64 x.e_], rfl, ⟨[.int .i64 x.t.kind], [.string (mkS x.t.text), .int .i64 x.t.n, .int .i64 x.t.at_], rfl, rfl, ⟨[.string (mkS x.t.text)], [.int .i64 x.t.n, .int .i64 x.t.at_], rfl, rfl, ⟨[.int .i64 x.t.n], [.int .i64 x.t.at_], rfl, rfl, rfl⟩⟩⟩, ⟨[.int .i64 x.next], [.int .i64 x.e_], rfl, rfl, rfl⟩⟩
structure GR11_cur where
  l : List GNode
  n : Int
  at_ : Int
  e_ : Int
  deriving DecidableEq, Inhabited
def cGR11_cur : Cod GR11_cur := cMap (fun x => (x.l, x.n, x.at_, x.e_)) (cPair (cSl cGNode) (cPair (cInt .i64) (cPair (cInt .i64) (cInt .i64))))
theorem GR11_cur_out {m : List Nat} {w : World} {x : GR11_cur} {cs : List Value} (h : cGR11_cur.rep m w x cs) : ∃ (a0 : Option Addr) (c0 : Nat), cs = [.slice a0 x.l.length c0, .int .i64 x.n, .int .i64 x.at_, .int .i64 x.e_] ∧ (x.l.length ≤ c0 ∧ SlR cGNode m w a0 x.l) := by
  obtain ⟨_, _, rfl, ⟨a0, c0, rfl, p0, q0⟩, ⟨_, _, rfl, rfl, ⟨_, _, rfl, rfl, rfl⟩⟩⟩ := h
  exact ⟨a0, c0, rfl, ⟨p0, q0⟩⟩
theorem GR11_cur_in {m : List Nat} {w : World} (x : GR11_cur) {a0 : Option Addr} {c0 : Nat} (h0 : (x.l.length ≤ c0 ∧ SlR cGNode m w a0 x.l)) : cGR11_cur.rep m w x [.slice a0 x.l.length c0, .int .i64 x.n, .int .i64 x.at_, .int .i64 x.e_] := ⟨[.slice a0 x.l.length c0], [.int .i64 x.n, .int .i64 x.at_, .int .i64 x.e_], rfl, ⟨_, _, rfl, h0.1, h0.2⟩, ⟨[.int .i64 x.n], [.int .i64 x.at_, .int .i64 x.e_], rfl, rfl, ⟨[.int .i64 x.at_], [.int .i64 x.e_], rfl, rfl, rfl⟩⟩⟩
structure GArr2_int where
  x0 : Int
  x1 : Int
  deriving DecidableEq, Inhabited
def cGArr2_int : Cod GArr2_int := cMap (fun x => (x.x0, x.x1)) (cPair (cInt .i64) (cInt .i64))
theorem GArr2_int_out {m : List Nat} {w : World} {x : GArr2_int} {cs : List Value} (h : cGArr2_int.rep m w x cs) : cs = [.int .i64 x.x0, .int .i64 x.x1] := by
  obtain ⟨_, _, rfl, rfl, rfl⟩ := h
  exact rfl
theorem GArr2_int_in {m : List Nat} {w : World} (x : GArr2_int)   : cGArr2_int.rep m w x [.int .i64 x.x0, .int .i64 x.x1] := ⟨[.int .i64 x.x0], [.int .i64 x.x1], rfl, rfl, rfl⟩
structure GR09_Cur where
  at_ : Int
  ok : Bool
  deriving DecidableEq, Inhabited
def cGR09_Cur : Cod GR09_Cur := cMap (fun x => (x.at_, x.ok)) (cPair (cInt .i64) cBool)
theorem GR09_Cur_out {m : List Nat} {w : World} {x : GR09_Cur} {cs : List Value} (h : cGR09_Cur.rep m w x cs) : cs = [.int .i64 x.at_, .bool x.ok] := by
  obtain ⟨_, _, rfl, rfl, rfl⟩ := h
  exact rfl
theorem GR09_Cur_in {m : List Nat} {w : World} (x : GR09_Cur)   : cGR09_Cur.rep m w x [.int .i64 x.at_, .bool x.ok] := ⟨[.int .i64 x.at_], [.bool x.ok], rfl, rfl, rfl⟩
end Go.Ty
