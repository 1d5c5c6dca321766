/- Structures of the program, and how they lie in cells. -/
import Derived.Test.YtfcemnnlmlggoaaGreatLv
namespace Go.Ty
open Go.Vc Go.Lv
structure GIns where
  op : Int
  a : Int
  b : Int
  deriving DecidableEq, Inhabited

def cGIns : Cod GIns := cMap (fun x => (x.op, x.a, x.b)) (cPair (cInt .i64) (cPair (cInt .i64) (cInt .i64)))
theorem GIns_out {m : List Nat} {w : World} {x : GIns} {cs : List Value} (h : cGIns.rep m w x cs) : cs = [.int .i64 x.op, .int .i64 x.a, .int .i64 x.b] := by
  obtain ⟨_, _, rfl, rfl, ⟨_, _, rfl, rfl, rfl⟩⟩ := h
  exact rfl

theorem GIns_in {m : List Nat} {w : World} (x : GIns)   : cGIns.rep m w x [.int .i64 x.op, .int .i64 x.a, .int .i64 x.b] := ⟨[.int .i64 x.op], [.int .i64 x.a, .int .i64 x.b], rfl, rfl, ⟨[.int .i64 x.a], [.int .i64 x.b], rfl, rfl, rfl⟩⟩

structure GDef where
  name : List UInt8
  entry : Int
  params : Int
  vars : Int
  deriving DecidableEq, Inhabited

def cGDef : Cod GDef := cMap (fun x => (x.name, x.entry, x.params, x.vars)) (cPair cStr (cPair (cInt .i64) (cPair (cInt .i64) (cInt .i64))))
theorem GDef_out {m : List Nat} {w : World} {x : GDef} {cs : List Value} (h : cGDef.rep m w x cs) : cs = [.string (mkS x.name), .int .i64 x.entry, .int .i64 x.params, .int .i64 x.vars] := by
  obtain ⟨_, _, rfl, rfl, ⟨_, _, rfl, rfl, ⟨_, _, rfl, rfl, rfl⟩⟩⟩ := h
  exact rfl

theorem GDef_in {m : List Nat} {w : World} (x : GDef)   : cGDef.rep m w x [.string (mkS x.name), .int .i64 x.entry, .int .i64 x.params, .int .i64 x.vars] := ⟨[.string (mkS x.name)], [.int .i64 x.entry, .int .i64 x.params, .int .i64 x.vars], rfl, rfl, ⟨[.int .i64 x.entry], [.int .i64 x.params, .int .i64 x.vars], rfl, rfl, ⟨[.int .i64 x.params], [.int .i64 x.vars], rfl, rfl, rfl⟩⟩⟩

structure GChan where
  name : List UInt8
  base : Int
  size : Int
  deriving DecidableEq, Inhabited

def cGChan : Cod GChan := cMap (fun x => (x.name, x.base, x.size)) (cPair cStr (cPair (cInt .i64) (cInt .i64)))
theorem GChan_out {m : List Nat} {w : World} {x : GChan} {cs : List Value} (h : cGChan.rep m w x cs) : cs = [.string (mkS x.name), .int .i64 x.base, .int .i64 x.size] := by
  obtain ⟨_, _, rfl, rfl, ⟨_, _, rfl, rfl, rfl⟩⟩ := h
  exact rfl

theorem GChan_in {m : List Nat} {w : World} (x : GChan)   : cGChan.rep m w x [.string (mkS x.name), .int .i64 x.base, .int .i64 x.size] := ⟨[.string (mkS x.name)], [.int .i64 x.base, .int .i64 x.size], rfl, rfl, ⟨[.int .i64 x.base], [.int .i64 x.size], rfl, rfl, rfl⟩⟩

structure GCode where
  ins : List GIns
  defs : List GDef
  chans : List GChan
  main : Int
  stmts : Int
  deriving DecidableEq, Inhabited

def cGCode : Cod GCode := cMap (fun x => (x.ins, x.defs, x.chans, x.main, x.stmts)) (cPair (cSl cGIns) (cPair (cSl cGDef) (cPair (cSl cGChan) (cPair (cInt .i64) (cInt .i64)))))
theorem GCode_out {m : List Nat} {w : World} {x : GCode} {cs : List Value} (h : cGCode.rep m w x cs) : ∃ (a0 : Option Addr) (c0 : Nat) (a1 : Option Addr) (c1 : Nat) (a2 : Option Addr) (c2 : Nat), cs = [.slice a0 x.ins.length c0, .slice a1 x.defs.length c1, .slice a2 x.chans.length c2, .int .i64 x.main, .int .i64 x.stmts] ∧ (x.ins.length ≤ c0 ∧ SlR cGIns m w a0 x.ins) ∧ (x.defs.length ≤ c1 ∧ SlR cGDef m w a1 x.defs) ∧ (x.chans.length ≤ c2 ∧ SlR cGChan m w a2 x.chans) := by
  obtain ⟨_, _, rfl, ⟨a0, c0, rfl, p0, q0⟩, ⟨_, _, rfl, ⟨a1, c1, rfl, p1, q1⟩, ⟨_, _, rfl, ⟨a2, c2, rfl, p2, q2⟩, ⟨_, _, rfl, rfl, rfl⟩⟩⟩⟩ := h
  exact ⟨a0, c0, a1, c1, a2, c2, rfl, ⟨p0, q0⟩, ⟨p1, q1⟩, ⟨p2, q2⟩⟩

theorem GCode_in {m : List Nat} {w : World} (x : GCode) {a0 : Option Addr} {c0 : Nat} {a1 : Option Addr} {c1 : Nat} {a2 : Option Addr} {c2 : Nat} (h0 : (x.ins.length ≤ c0 ∧ SlR cGIns m w a0 x.ins)) (h1 : (x.defs.length ≤ c1 ∧ SlR cGDef m w a1 x.defs)) (h2 : (x.chans.length ≤ c2 ∧ SlR cGChan m w a2 x.chans)) : cGCode.rep m w x [.slice a0 x.ins.length c0, .slice a1 x.defs.length c1, .slice a2 x.chans.length c2, .int .i64 x.main, .int .i64 x.stmts] := ⟨[.slice a0 x.ins.length c0], [.slice a1 x.defs.length c1, .slice a2 x.chans.length c2, .int .i64 x.main, .int .i64 x.stmts], rfl, ⟨_, _, rfl, h0.1, h0.2⟩, ⟨[.slice a1 x.defs.length c1], [.slice a2 x.chans.length c2, .int .i64 x.main, .int .i64 x.stmts], rfl, ⟨_, _, rfl, h1.1, h1.2⟩, ⟨[.slice a2 x.chans.length c2], [.int .i64 x.main, .int .i64 x.stmts], rfl, ⟨_, _, rfl, h2.1, h2.2⟩, ⟨[.int .i64 x.main], [.int .i64 x.stmts], rfl, rfl, rfl⟩⟩⟩⟩

structure GAlt where
  kind : Int
  chan : Int
  val : Int
  slot : Int
  goto : Int
  deriving DecidableEq, Inhabited

def cGAlt : Cod GAlt := cMap (fun x => (x.kind, x.chan, x.val, x.slot, x.goto)) (cPair (cInt .i64) (cPair (cInt .i64) (cPair (cInt .i64) (cPair (cInt .i64) (cInt .i64)))))
theorem GAlt_out {m : List Nat} {w : World} {x : GAlt} {cs : List Value} (h : cGAlt.rep m w x cs) : cs = [.int .i64 x.kind, .int .i64 x.chan, .int .i64 x.val, .int .i64 x.slot, .int .i64 x.goto] := by
  obtain ⟨_, _, rfl, rfl, ⟨_, _, rfl, rfl, ⟨_, _, rfl, rfl, ⟨_, _, rfl, rfl, rfl⟩⟩⟩⟩ := h
  exact rfl

theorem GAlt_in {m : List Nat} {w : World} (x : GAlt)   : cGAlt.rep m w x [.int .i64 x.kind, .int .i64 x.chan, .int .i64 x.val, .int .i64 x.slot, .int .i64 x.goto] := ⟨[.int .i64 x.kind], [.int .i64 x.chan, .int .i64 x.val, .int .i64 x.slot, .int .i64 x.goto], rfl, rfl, ⟨[.int .i64 x.chan], [.int .i64 x.val, .int .i64 x.slot, .int .i64 x.goto], rfl, rfl, ⟨[.int .i64 x.val], [.int .i64 x.slot, .int .i64 x.goto], rfl, rfl, ⟨[.int .i64 x.slot], [.int .i64 x.goto], rfl, rfl, rfl⟩⟩⟩⟩

structure GProc where
  def_ : Int
  at_ : Int
  vars : List Int
  fuel : Int
  mode : Int
  chan : Int
  val : Int
  slot : Int
  until_ : Int
  since : Int
  alts : List GAlt
  deriving DecidableEq, Inhabited

def cGProc : Cod GProc := cMap (fun x => (x.def_, x.at_, x.vars, x.fuel, x.mode, x.chan, x.val, x.slot, x.until_, x.since, x.alts)) (cPair (cInt .i64) (cPair (cInt .i64) (cPair (cSl (cInt .i64)) (cPair (cInt .i64) (cPair (cInt .i64) (cPair (cInt .i64) (cPair (cInt .i64) (cPair (cInt .i64) (cPair (cInt .i64) (cPair (cInt .i64) (cSl cGAlt)))))))))))
theorem GProc_out {m : List Nat} {w : World} {x : GProc} {cs : List Value} (h : cGProc.rep m w x cs) : ∃ (a2 : Option Addr) (c2 : Nat) (a10 : Option Addr) (c10 : Nat), cs = [.int .i64 x.def_, .int .i64 x.at_, .slice a2 x.vars.length c2, .int .i64 x.fuel, .int .i64 x.mode, .int .i64 x.chan, .int .i64 x.val, .int .i64 x.slot, .int .i64 x.until_, .int .i64 x.since, .slice a10 x.alts.length c10] ∧ (x.vars.length ≤ c2 ∧ SlR (cInt .i64) m w a2 x.vars) ∧ (x.alts.length ≤ c10 ∧ SlR cGAlt m w a10 x.alts) := by
  obtain ⟨_, _, rfl, rfl, ⟨_, _, rfl, rfl, ⟨_, _, rfl, ⟨a0, c0, rfl, p0, q0⟩, ⟨_, _, rfl, rfl, ⟨_, _, rfl, rfl, ⟨_, _, rfl, rfl, ⟨_, _, rfl, rfl, ⟨_, _, rfl, rfl, ⟨_, _, rfl, rfl, ⟨_, _, rfl, rfl, ⟨a1, c1, rfl, p1, q1⟩⟩⟩⟩⟩⟩⟩⟩⟩⟩⟩ := h
  exact ⟨a0, c0, a1, c1, rfl, ⟨p0, q0⟩, ⟨p1, q1⟩⟩

theorem GProc_in {m : List Nat} {w : World} (x : GProc) {a2 : Option Addr} {c2 : Nat} {a10 : Option Addr} {c10 : Nat} (h0 : (x.vars.length ≤ c2 ∧ SlR (cInt .i64) m w a2 x.vars)) (h1 : (x.alts.length ≤ c10 ∧ SlR cGAlt m w a10 x.alts)) : cGProc.rep m w x [.int .i64 x.def_, .int .i64 x.at_, .slice a2 x.vars.length c2, .int .i64 x.fuel, .int .i64 x.mode, .int .i64 x.chan, .int .i64 x.val, .int .i64 x.slot, .int .i64 x.until_, .int .i64 x.since, .slice a10 x.alts.length c10] := ⟨[.int .i64 x.def_], [.int .i64 x.at_, .slice a2 x.vars.length c2, .int .i64 x.fuel, .int .i64 x.mode, .int .i64 x.chan, .int .i64 x.val, .int .i64 x.slot, .int .i64 x.until_, .int .i64 x.since, .slice a10 x.alts.length c10], rfl, rfl, ⟨[.int .i64 x.at_], [.slice a2 x.vars.length c2, .int .i64 x.fuel, .int .i64 x.mode, .int .i64 x.chan, .int .i64 x.val, .int .i64 x.slot, .int .i64 x.until_, .int .i64 x.since, .slice a10 x.alts.length c10], rfl, rfl, ⟨[.slice a2 x.vars.length c2], [.int .i64 x.fuel, .int .i64 x.mode, .int .i64 x.chan, .int .i64 x.val, .int .i64 x.slot, .int .i64 x.until_, .int .i64 x.since, .slice a10 x.alts.length c10], rfl, ⟨_, _, rfl, h0.1, h0.2⟩, ⟨[.int .i64 x.fuel], [.int .i64 x.mode, .int .i64 x.chan, .int .i64 x.val, .int .i64 x.slot, .int .i64 x.until_, .int .i64 x.since, .slice a10 x.alts.length c10], rfl, rfl, ⟨[.int .i64 x.mode], [.int .i64 x.chan, .int .i64 x.val, .int .i64 x.slot, .int .i64 x.until_, .int .i64 x.since, .slice a10 x.alts.length c10], rfl, rfl, ⟨[.int .i64 x.chan], [.int .i64 x.val, .int .i64 x.slot, .int .i64 x.until_, .int .i64 x.since, .slice a10 x.alts.length c10], rfl, rfl, ⟨[.int .i64 x.val], [.int .i64 x.slot, .int .i64 x.until_, .int .i64 x.since, .slice a10 x.alts.length c10], rfl, rfl, ⟨[.int .i64 x.slot], [.int .i64 x.until_, .int .i64 x.since, .slice a10 x.alts.length c10], rfl, rfl, ⟨[.int .i64 x.until_], [.int .i64 x.since, .slice a10 x.alts.length c10], rfl, rfl, ⟨[.int .i64 x.since], [.slice a10 x.alts.length c10], rfl, rfl, ⟨_, _, rfl, h1.1, h1.2⟩⟩⟩⟩⟩⟩⟩⟩⟩⟩⟩

structure GState where
  now : Int
  since : Int
  halt : Int
  fault : Int
  who : Int
  procs : List GProc
  out : List Int
  deriving DecidableEq, Inhabited

def cGState : Cod GState := cMap (fun x => (x.now, x.since, x.halt, x.fault, x.who, x.procs, x.out)) (cPair (cInt .i64) (cPair (cInt .i64) (cPair (cInt .i64) (cPair (cInt .i64) (cPair (cInt .i64) (cPair (cSl cGProc) (cSl (cInt .i64))))))))
theorem GState_out {m : List Nat} {w : World} {x : GState} {cs : List Value} (h : cGState.rep m w x cs) : ∃ (a5 : Option Addr) (c5 : Nat) (a6 : Option Addr) (c6 : Nat), cs = [.int .i64 x.now, .int .i64 x.since, .int .i64 x.halt, .int .i64 x.fault, .int .i64 x.who, .slice a5 x.procs.length c5, .slice a6 x.out.length c6] ∧ (x.procs.length ≤ c5 ∧ SlR cGProc m w a5 x.procs) ∧ (x.out.length ≤ c6 ∧ SlR (cInt .i64) m w a6 x.out) := by
  obtain ⟨_, _, rfl, rfl, ⟨_, _, rfl, rfl, ⟨_, _, rfl, rfl, ⟨_, _, rfl, rfl, ⟨_, _, rfl, rfl, ⟨_, _, rfl, ⟨a0, c0, rfl, p0, q0⟩, ⟨a1, c1, rfl, p1, q1⟩⟩⟩⟩⟩⟩⟩ := h
  exact ⟨a0, c0, a1, c1, rfl, ⟨p0, q0⟩, ⟨p1, q1⟩⟩

theorem GState_in {m : List Nat} {w : World} (x : GState) {a5 : Option Addr} {c5 : Nat} {a6 : Option Addr} {c6 : Nat} (h0 : (x.procs.length ≤ c5 ∧ SlR cGProc m w a5 x.procs)) (h1 : (x.out.length ≤ c6 ∧ SlR (cInt .i64) m w a6 x.out)) : cGState.rep m w x [.int .i64 x.now, .int .i64 x.since, .int .i64 x.halt, .int .i64 x.fault, .int .i64 x.who, .slice a5 x.procs.length c5, .slice a6 x.out.length c6] := ⟨[.int .i64 x.now], [.int .i64 x.since, .int .i64 x.halt, .int .i64 x.fault, .int .i64 x.who, .slice a5 x.procs.length c5, .slice a6 x.out.length c6], rfl, rfl, ⟨[.int .i64 x.since], [.int .i64 x.halt, .int .i64 x.fault, .int .i64 x.who, .slice a5 x.procs.length c5, .slice a6 x.out.length c6], rfl, rfl, ⟨[.int .i64 x.halt], [.int .i64 x.fault, .int .i64 x.who, .slice a5 x.procs.length c5, .slice a6 x.out.length c6], rfl, rfl, ⟨[.int .i64 x.fault], [.int .i64 x.who, .slice a5 x.procs.length c5, .slice a6 x.out.length c6], rfl, rfl, ⟨[.int .i64 x.who], [.slice a5 x.procs.length c5, .slice a6 x.out.length c6], rfl, rfl, ⟨[.slice a5 x.procs.length c5], [.slice a6 x.out.length c6], rfl, ⟨_, _, rfl, h0.1, h0.2⟩, ⟨_, _, rfl, h1.1, h1.2⟩⟩⟩⟩⟩⟩⟩

structure Gwire_Writer where
  s_ : List Int
  deriving DecidableEq, Inhabited

def cGwire_Writer : Cod Gwire_Writer := cMap (fun x => x.s_) (cSl (cInt .u8))
theorem Gwire_Writer_out {m : List Nat} {w : World} {x : Gwire_Writer} {cs : List Value} (h : cGwire_Writer.rep m w x cs) : ∃ (a0 : Option Addr) (c0 : Nat), cs = [.slice a0 x.s_.length c0] ∧ (x.s_.length ≤ c0 ∧ SlR (cInt .u8) m w a0 x.s_) := by
  obtain ⟨a0, c0, rfl, p0, q0⟩ := h
  exact ⟨a0, c0, rfl, ⟨p0, q0⟩⟩

theorem Gwire_Writer_in {m : List Nat} {w : World} (x : Gwire_Writer) {a0 : Option Addr} {c0 : Nat} (h0 : (x.s_.length ≤ c0 ∧ SlR (cInt .u8) m w a0 x.s_)) : cGwire_Writer.rep m w x [.slice a0 x.s_.length c0] := ⟨_, _, rfl, h0.1, h0.2⟩

end Go.Ty
