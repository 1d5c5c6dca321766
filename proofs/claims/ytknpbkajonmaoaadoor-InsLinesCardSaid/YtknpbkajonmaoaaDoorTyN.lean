/- Structures of the program, and how they lie in cells. -/
import Derived.Test.YtknpbkajonmaoaaDoorLv
namespace Go.Ty
open Go.Vc Go.Lv
structure GIns where
  op : Int
  a : Int
  b : Int
  deriving DecidableEq, Inhabited

def cGIns : Cod GIns := cMap (fun x => (x.op, x.a, x.b)) (cPair (cInt .i64) (cPair (cInt .i64) (cInt .i64)))
theorem GIns_out {m : List Nat} {w : World} {x : GIns} {cs : List Value} (h : cGIns.rep m w x cs) : cs = [.int .i64 x.op, .int .i64 x.a, .int .i64 x.b] := by
  obtain ⟨_, _, rfl, rfl, ⟨_, _, rfl, rfl, rfl⟩⟩ := h
  exact rfl

theorem GIns_in {m : List Nat} {w : World} (x : GIns)   : cGIns.rep m w x [.int .i64 x.op, .int .i64 x.a, .int .i64 x.b] := ⟨[.int .i64 x.op], [.int .i64 x.a, .int .i64 x.b], rfl, rfl, ⟨[.int .i64 x.a], [.int .i64 x.b], rfl, rfl, rfl⟩⟩

structure GR16_Got where
  l : List GIns
  e_ : Int
  deriving DecidableEq, Inhabited

def cGR16_Got : Cod GR16_Got := cMap (fun x => (x.l, x.e_)) (cPair (cSl cGIns) (cInt .i64))
theorem GR16_Got_out {m : List Nat} {w : World} {x : GR16_Got} {cs : List Value} (h : cGR16_Got.rep m w x cs) : ∃ (a0 : Option Addr) (c0 : Nat), cs = [.slice a0 x.l.length c0, .int .i64 x.e_] ∧ (x.l.length ≤ c0 ∧ SlR cGIns m w a0 x.l) := by
  obtain ⟨_, _, rfl, ⟨a0, c0, rfl, p0, q0⟩, rfl⟩ := h
  exact ⟨a0, c0, rfl, ⟨p0, q0⟩⟩

theorem GR16_Got_in {m : List Nat} {w : World} (x : GR16_Got) {a0 : Option Addr} {c0 : Nat} (h0 : (x.l.length ≤ c0 ∧ SlR cGIns m w a0 x.l)) : cGR16_Got.rep m w x [.slice a0 x.l.length c0, .int .i64 x.e_] := ⟨[.slice a0 x.l.length c0], [.int .i64 x.e_], rfl, ⟨_, _, rfl, h0.1, h0.2⟩, rfl⟩

structure Gwire_Writer where
  s_ : List Int
  deriving DecidableEq, Inhabited

def cGwire_Writer : Cod Gwire_Writer := cMap (fun x => x.s_) (cSl (cInt .u8))
theorem Gwire_Writer_out {m : List Nat} {w : World} {x : Gwire_Writer} {cs : List Value} (h : cGwire_Writer.rep m w x cs) : ∃ (a0 : Option Addr) (c0 : Nat), cs = [.slice a0 x.s_.length c0] ∧ (x.s_.length ≤ c0 ∧ SlR (cInt .u8) m w a0 x.s_) := by
  obtain ⟨a0, c0, rfl, p0, q0⟩ := h
  exact ⟨a0, c0, rfl, ⟨p0, q0⟩⟩

theorem Gwire_Writer_in {m : List Nat} {w : World} (x : Gwire_Writer) {a0 : Option Addr} {c0 : Nat} (h0 : (x.s_.length ≤ c0 ∧ SlR (cInt .u8) m w a0 x.s_)) : cGwire_Writer.rep m w x [.slice a0 x.s_.length c0] := ⟨_, _, rfl, h0.1, h0.2⟩

structure Gwire_Reader where
  s_ : List UInt8
  e_ : Int
  deriving DecidableEq, Inhabited

def cGwire_Reader : Cod Gwire_Reader := cMap (fun x => (x.s_, x.e_)) (cPair cStr (cInt .i64))
theorem Gwire_Reader_out {m : List Nat} {w : World} {x : Gwire_Reader} {cs : List Value} (h : cGwire_Reader.rep m w x cs) : cs = [.string (mkS x.s_), .int .i64 x.e_] := by
  obtain ⟨_, _, rfl, rfl, rfl⟩ := h
  exact rfl

theorem Gwire_Reader_in {m : List Nat} {w : World} (x : Gwire_Reader)   : cGwire_Reader.rep m w x [.string (mkS x.s_), .int .i64 x.e_] := ⟨[.string (mkS x.s_)], [.int .i64 x.e_], rfl, rfl, rfl⟩

structure Gins_row where
  word : List UInt8
  nums : Int
  takes : Int
  gives : Int
  deriving DecidableEq, Inhabited

def cGins_row : Cod Gins_row := cMap (fun x => (x.word, x.nums, x.takes, x.gives)) (cPair cStr (cPair (cInt .i64) (cPair (cInt .i64) (cInt .i64))))
theorem Gins_row_out {m : List Nat} {w : World} {x : Gins_row} {cs : List Value} (h : cGins_row.rep m w x cs) : cs = [.string (mkS x.word), .int .i64 x.nums, .int .i64 x.takes, .int .i64 x.gives] := by
  obtain ⟨_, _, rfl, rfl, ⟨_, _, rfl, rfl, ⟨_, _, rfl, rfl, rfl⟩⟩⟩ := h
  exact rfl

theorem Gins_row_in {m : List Nat} {w : World} (x : Gins_row)   : cGins_row.rep m w x [.string (mkS x.word), .int .i64 x.nums, .int .i64 x.takes, .int .i64 x.gives] := ⟨[.string (mkS x.word)], [.int .i64 x.nums, .int .i64 x.takes, .int .i64 x.gives], rfl, rfl, ⟨[.int .i64 x.nums], [.int .i64 x.takes, .int .i64 x.gives], rfl, rfl, ⟨[.int .i64 x.takes], [.int .i64 x.gives], rfl, rfl, rfl⟩⟩⟩

structure GR01_Got where
  u : Int
  next : Int
  e_ : Int
  deriving DecidableEq, Inhabited

def cGR01_Got : Cod GR01_Got := cMap (fun x => (x.u, x.next, x.e_)) (cPair (cInt .u64) (cPair (cInt .i64) (cInt .i64)))
theorem GR01_Got_out {m : List Nat} {w : World} {x : GR01_Got} {cs : List Value} (h : cGR01_Got.rep m w x cs) : cs = [.int .u64 x.u, .int .i64 x.next, .int .i64 x.e_] := by
  obtain ⟨_, _, rfl, rfl, ⟨_, _, rfl, rfl, rfl⟩⟩ := h
  exact rfl

theorem GR01_Got_in {m : List Nat} {w : World} (x : GR01_Got)   : cGR01_Got.rep m w x [.int .u64 x.u, .int .i64 x.next, .int .i64 x.e_] := ⟨[.int .u64 x.u], [.int .i64 x.next, .int .i64 x.e_], rfl, rfl, ⟨[.int .i64 x.next], [.int .i64 x.e_], rfl, rfl, rfl⟩⟩

end Go.Ty
