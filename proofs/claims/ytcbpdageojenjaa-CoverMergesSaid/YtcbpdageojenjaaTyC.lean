/- Structures of the program, and how they lie in cells. -/
import Derived.Test.YtcbpdageojenjaaLv
namespace Go.Ty
open Go.Vc Go.Lv
structure GIns where
  op : Int
  a : Int
  b : Int
  deriving DecidableEq, Inhabited

def cGIns : Cod GIns := cMap (fun x => (x.op, x.a, x.b)) (cPair (cInt .i64) (cPair (cInt .i64) (cInt .i64)))
theorem GIns_out {m : List Nat} {w : World} {x : GIns} {cs : List Value} (h : cGIns.rep m w x cs) : cs = [.int .i64 x.op, .int .i64 x.a, .int .i64 x.b] := by
  obtain ⟨_, _, rfl, rfl, ⟨_, _, rfl, rfl, rfl⟩⟩ := h
  exact rfl

theorem GIns_in {m : List Nat} {w : World} (x : GIns)   : cGIns.rep m w x [.int .i64 x.op, .int .i64 x.a, .int .i64 x.b] := ⟨[.int .i64 x.op], [.int .i64 x.a, .int .i64 x.b], rfl, rfl, ⟨[.int .i64 x.a], [.int .i64 x.b], rfl, rfl, rfl⟩⟩

structure GDef where
  name : List UInt8
  entry : Int
  params : Int
  vars : Int
  deriving DecidableEq, Inhabited

def cGDef : Cod GDef := cMap (fun x => (x.name, x.entry, x.params, x.vars)) (cPair cStr (cPair (cInt .i64) (cPair (cInt .i64) (cInt .i64))))
theorem GDef_out {m : List Nat} {w : World} {x : GDef} {cs : List Value} (h : cGDef.rep m w x cs) : cs = [.string (mkS x.name), .int .i64 x.entry, .int .i64 x.params, .int .i64 x.vars] := by
  obtain ⟨_, _, rfl, rfl, ⟨_, _, rfl, rfl, ⟨_, _, rfl, rfl, rfl⟩⟩⟩ := h
  exact rfl

theorem GDef_in {m : List Nat} {w : World} (x : GDef)   : cGDef.rep m w x [.string (mkS x.name), .int .i64 x.entry, .int .i64 x.params, .int .i64 x.vars] := ⟨[.string (mkS x.name)], [.int .i64 x.entry, .int .i64 x.params, .int .i64 x.vars], rfl, rfl, ⟨[.int .i64 x.entry], [.int .i64 x.params, .int .i64 x.vars], rfl, rfl, ⟨[.int .i64 x.params], [.int .i64 x.vars], rfl, rfl, rfl⟩⟩⟩

structure GChan where
  name : List UInt8
  base : Int
  size : Int
  deriving DecidableEq, Inhabited

def cGChan : Cod GChan := cMap (fun x => (x.name, x.base, x.size)) (cPair cStr (cPair (cInt .i64) (cInt .i64)))
theorem GChan_out {m : List Nat} {w : World} {x : GChan} {cs : List Value} (h : cGChan.rep m w x cs) : cs = [.string (mkS x.name), .int .i64 x.base, .int .i64 x.size] := by
  obtain ⟨_, _, rfl, rfl, ⟨_, _, rfl, rfl, rfl⟩⟩ := h
  exact rfl

theorem GChan_in {m : List Nat} {w : World} (x : GChan)   : cGChan.rep m w x [.string (mkS x.name), .int .i64 x.base, .int .i64 x.size] := ⟨[.string (mkS x.name)], [.int .i64 x.base, .int .i64 x.size], rfl, rfl, ⟨[.int .i64 x.base], [.int .i64 x.size], rfl, rfl, rfl⟩⟩

structure GCode where
  ins : List GIns
  defs : List GDef
  chans : List GChan
  main : Int
  stmts : Int
  deriving DecidableEq, Inhabited

def cGCode : Cod GCode := cMap (fun x => (x.ins, x.defs, x.chans, x.main, x.stmts)) (cPair (cSl cGIns) (cPair (cSl cGDef) (cPair (cSl cGChan) (cPair (cInt .i64) (cInt .i64)))))
theorem GCode_out {m : List Nat} {w : World} {x : GCode} {cs : List Value} (h : cGCode.rep m w x cs) : ∃ (a0 : Option Addr) (c0 : Nat) (a1 : Option Addr) (c1 : Nat) (a2 : Option Addr) (c2 : Nat), cs = [.slice a0 x.ins.length c0, .slice a1 x.defs.length c1, .slice a2 x.chans.length c2, .int .i64 x.main, .int .i64 x.stmts] ∧ (x.ins.length ≤ c0 ∧ SlR cGIns m w a0 x.ins) ∧ (x.defs.length ≤ c1 ∧ SlR cGDef m w a1 x.defs) ∧ (x.chans.length ≤ c2 ∧ SlR cGChan m w a2 x.chans) := by
  obtain ⟨_, _, rfl, ⟨a0, c0, rfl, p0, q0⟩, ⟨_, _, rfl, ⟨a1, c1, rfl, p1, q1⟩, ⟨_, _, rfl, ⟨a2, c2, rfl, p2, q2⟩, ⟨_, _, rfl, rfl, rfl⟩⟩⟩⟩ := h
  exact ⟨a0, c0, a1, c1, a2, c2, rfl, ⟨p0, q0⟩, ⟨p1, q1⟩, ⟨p2, q2⟩⟩

theorem GCode_in {m : List Nat} {w : World} (x : GCode) {a0 : Option Addr} {c0 : Nat} {a1 : Option Addr} {c1 : Nat} {a2 : Option Addr} {c2 : Nat} (h0 : (x.ins.length ≤ c0 ∧ SlR cGIns m w a0 x.ins)) (h1 : (x.defs.length ≤ c1 ∧ SlR cGDef m w a1 x.defs)) (h2 : (x.chans.length ≤ c2 ∧ SlR cGChan m w a2 x.chans)) : cGCode.rep m w x [.slice a0 x.ins.length c0, .slice a1 x.defs.length c1, .slice a2 x.chans.length c2, .int .i64 x.main, .int .i64 x.stmts] := ⟨[.slice a0 x.ins.length c0], [.slice a1 x.defs.length c1, .slice a2 x.chans.length c2, .int .i64 x.main, .int .i64 x.stmts], rfl, ⟨_, _, rfl, h0.1, h0.2⟩, ⟨[.slice a1 x.defs.length c1], [.slice a2 x.chans.length c2, .int .i64 x.main, .int .i64 x.stmts], rfl, ⟨_, _, rfl, h1.1, h1.2⟩, ⟨[.slice a2 x.chans.length c2], [.int .i64 x.main, .int .i64 x.stmts], rfl, ⟨_, _, rfl, h2.1, h2.2⟩, ⟨[.int .i64 x.main], [.int .i64 x.stmts], rfl, rfl, rfl⟩⟩⟩⟩

structure GHappen where
  kind : Int
  who : Int
  stmt : Int
  chan : Int
  peer : Int
  deriving DecidableEq, Inhabited

def cGHappen : Cod GHappen := cMap (fun x => (x.kind, x.who, x.stmt, x.chan, x.peer)) (cPair (cInt .i64) (cPair (cInt .i64) (cPair (cInt .i64) (cPair (cInt .i64) (cInt .i64)))))
theorem GHappen_out {m : List Nat} {w : World} {x : GHappen} {cs : List Value} (h : cGHappen.rep m w x cs) : cs = [.int .i64 x.kind, .int .i64 x.who, .int .i64 x.stmt, .int .i64 x.chan, .int .i64 x.peer] := by
  obtain ⟨_, _, rfl, rfl, ⟨_, _, rfl, rfl, ⟨_, _, rfl, rfl, ⟨_, _, rfl, rfl, rfl⟩⟩⟩⟩ := h
  exact rfl

theorem GHappen_in {m : List Nat} {w : World} (x : GHappen)   : cGHappen.rep m w x [.int .i64 x.kind, .int .i64 x.who, .int .i64 x.stmt, .int .i64 x.chan, .int .i64 x.peer] := ⟨[.int .i64 x.kind], [.int .i64 x.who, .int .i64 x.stmt, .int .i64 x.chan, .int .i64 x.peer], rfl, rfl, ⟨[.int .i64 x.who], [.int .i64 x.stmt, .int .i64 x.chan, .int .i64 x.peer], rfl, rfl, ⟨[.int .i64 x.stmt], [.int .i64 x.chan, .int .i64 x.peer], rfl, rfl, ⟨[.int .i64 x.chan], [.int .i64 x.peer], rfl, rfl, rfl⟩⟩⟩⟩

end Go.Ty
