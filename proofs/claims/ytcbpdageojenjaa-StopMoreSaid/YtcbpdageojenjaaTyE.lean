/- Structures of the program, and how they lie in cells. -/
import Derived.Test.YtcbpdageojenjaaLv
namespace Go.Ty
open Go.Vc Go.Lv
structure Gsorted_Set_int where
  l : List Int
  deriving DecidableEq, Inhabited

def cGsorted_Set_int : Cod Gsorted_Set_int := cMap (fun x => x.l) (cSl (cInt .i64))
theorem Gsorted_Set_int_out {m : List Nat} {w : World} {x : Gsorted_Set_int} {cs : List Value} (h : cGsorted_Set_int.rep m w x cs) : ∃ (a0 : Option Addr) (c0 : Nat), cs = [.slice a0 x.l.length c0] ∧ (x.l.length ≤ c0 ∧ SlR (cInt .i64) m w a0 x.l) := by
  obtain ⟨a0, c0, rfl, p0, q0⟩ := h
  exact ⟨a0, c0, rfl, ⟨p0, q0⟩⟩

theorem Gsorted_Set_int_in {m : List Nat} {w : World} (x : Gsorted_Set_int) {a0 : Option Addr} {c0 : Nat} (h0 : (x.l.length ≤ c0 ∧ SlR (cInt .i64) m w a0 x.l)) : cGsorted_Set_int.rep m w x [.slice a0 x.l.length c0] := ⟨_, _, rfl, h0.1, h0.2⟩

structure GL06_Act where
  kind : Int
  x : Int
  deriving DecidableEq, Inhabited

def cGL06_Act : Cod GL06_Act := cMap (fun x => (x.kind, x.x)) (cPair (cInt .i64) (cInt .i64))
theorem GL06_Act_out {m : List Nat} {w : World} {x : GL06_Act} {cs : List Value} (h : cGL06_Act.rep m w x cs) : cs = [.int .i64 x.kind, .int .i64 x.x] := by
  obtain ⟨_, _, rfl, rfl, rfl⟩ := h
  exact rfl

theorem GL06_Act_in {m : List Nat} {w : World} (x : GL06_Act)   : cGL06_Act.rep m w x [.int .i64 x.kind, .int .i64 x.x] := ⟨[.int .i64 x.kind], [.int .i64 x.x], rfl, rfl, rfl⟩

structure Gsorted_Set_string where
  l : List (List UInt8)
  deriving DecidableEq, Inhabited

def cGsorted_Set_string : Cod Gsorted_Set_string := cMap (fun x => x.l) (cSl cStr)
theorem Gsorted_Set_string_out {m : List Nat} {w : World} {x : Gsorted_Set_string} {cs : List Value} (h : cGsorted_Set_string.rep m w x cs) : ∃ (a0 : Option Addr) (c0 : Nat), cs = [.slice a0 x.l.length c0] ∧ (x.l.length ≤ c0 ∧ SlR cStr m w a0 x.l) := by
  obtain ⟨a0, c0, rfl, p0, q0⟩ := h
  exact ⟨a0, c0, rfl, ⟨p0, q0⟩⟩

theorem Gsorted_Set_string_in {m : List Nat} {w : World} (x : Gsorted_Set_string) {a0 : Option Addr} {c0 : Nat} (h0 : (x.l.length ≤ c0 ∧ SlR cStr m w a0 x.l)) : cGsorted_Set_string.rep m w x [.slice a0 x.l.length c0] := ⟨_, _, rfl, h0.1, h0.2⟩

structure GBreak where
  kind : Int
  n : Int
  deriving DecidableEq, Inhabited

def cGBreak : Cod GBreak := cMap (fun x => (x.kind, x.n)) (cPair (cInt .i64) (cInt .i64))
theorem GBreak_out {m : List Nat} {w : World} {x : GBreak} {cs : List Value} (h : cGBreak.rep m w x cs) : cs = [.int .i64 x.kind, .int .i64 x.n] := by
  obtain ⟨_, _, rfl, rfl, rfl⟩ := h
  exact rfl

theorem GBreak_in {m : List Nat} {w : World} (x : GBreak)   : cGBreak.rep m w x [.int .i64 x.kind, .int .i64 x.n] := ⟨[.int .i64 x.kind], [.int .i64 x.n], rfl, rfl, rfl⟩

structure Gstop_Set where
  s_ : Gsorted_Set_int
  deriving DecidableEq, Inhabited

def cGstop_Set : Cod Gstop_Set := cMap (fun x => x.s_) cGsorted_Set_int
theorem Gstop_Set_out {m : List Nat} {w : World} {x : Gstop_Set} {cs : List Value} (h : cGstop_Set.rep m w x cs) : ∃ (a0 : Option Addr) (c0 : Nat), cs = [.slice a0 x.s_.l.length c0] ∧ (x.s_.l.length ≤ c0 ∧ SlR (cInt .i64) m w a0 x.s_.l) := by
  obtain ⟨a0, c0, rfl, p0, q0⟩ := h
  exact ⟨a0, c0, rfl, ⟨p0, q0⟩⟩

theorem Gstop_Set_in {m : List Nat} {w : World} (x : Gstop_Set) {a0 : Option Addr} {c0 : Nat} (h0 : (x.s_.l.length ≤ c0 ∧ SlR (cInt .i64) m w a0 x.s_.l)) : cGstop_Set.rep m w x [.slice a0 x.s_.l.length c0] := ⟨_, _, rfl, h0.1, h0.2⟩

structure GHappen where
  kind : Int
  who : Int
  stmt : Int
  chan : Int
  peer : Int
  deriving DecidableEq, Inhabited

def cGHappen : Cod GHappen := cMap (fun x => (x.kind, x.who, x.stmt, x.chan, x.peer)) (cPair (cInt .i64) (cPair (cInt .i64) (cPair (cInt .i64) (cPair (cInt .i64) (cInt .i64)))))
theorem GHappen_out {m : List Nat} {w : World} {x : GHappen} {cs : List Value} (h : cGHappen.rep m w x cs) : cs = [.int .i64 x.kind, .int .i64 x.who, .int .i64 x.stmt, .int .i64 x.chan, .int .i64 x.peer] := by
  obtain ⟨_, _, rfl, rfl, ⟨_, _, rfl, rfl, ⟨_, _, rfl, rfl, ⟨_, _, rfl, rfl, rfl⟩⟩⟩⟩ := h
  exact rfl

theorem GHappen_in {m : List Nat} {w : World} (x : GHappen)   : cGHappen.rep m w x [.int .i64 x.kind, .int .i64 x.who, .int .i64 x.stmt, .int .i64 x.chan, .int .i64 x.peer] := ⟨[.int .i64 x.kind], [.int .i64 x.who, .int .i64 x.stmt, .int .i64 x.chan, .int .i64 x.peer], rfl, rfl, ⟨[.int .i64 x.who], [.int .i64 x.stmt, .int .i64 x.chan, .int .i64 x.peer], rfl, rfl, ⟨[.int .i64 x.stmt], [.int .i64 x.chan, .int .i64 x.peer], rfl, rfl, ⟨[.int .i64 x.chan], [.int .i64 x.peer], rfl, rfl, rfl⟩⟩⟩⟩

structure GL37_Act where
  kind : Int
  b : GBreak
  h_ : GHappen
  deriving DecidableEq, Inhabited

def cGL37_Act : Cod GL37_Act := cMap (fun x => (x.kind, x.b, x.h_)) (cPair (cInt .i64) (cPair cGBreak cGHappen))
theorem GL37_Act_out {m : List Nat} {w : World} {x : GL37_Act} {cs : List Value} (h : cGL37_Act.rep m w x cs) : cs = [.int .i64 x.kind, .int .i64 x.b.kind, .int .i64 x.b.n, .int .i64 x.h_.kind, .int .i64 x.h_.who, .int .i64 x.h_.stmt, .int .i64 x.h_.chan, .int .i64 x.h_.peer] := by
  obtain ⟨_, _, rfl, rfl, ⟨_, _, rfl, ⟨_, _, rfl, rfl, rfl⟩, ⟨_, _, rfl, rfl, ⟨_, _, rfl, rfl, ⟨_, _, rfl, rfl, ⟨_, _, rfl, rfl, rfl⟩⟩⟩⟩⟩⟩ := h
  exact rfl

theorem GL37_Act_in {m : List Nat} {w : World} (x : GL37_Act)   : cGL37_Act.rep m w x [.int .i64 x.kind, .int .i64 x.b.kind, .int .i64 x.b.n, .int .i64 x.h_.kind, .int .i64 x.h_.who, .int .i64 x.h_.stmt, .int .i64 x.h_.chan, .int .i64 x.h_.peer] := ⟨[.int .i64 x.kind], [.int .i64 x.b.kind, .int .i64 x.b.n, .int .i64 x.h_.kind, .int .i64 x.h_.who, .int .i64 x.h_.stmt, .int .i64 x.h_.chan, .int .i64 x.h_.peer], rfl, rfl, ⟨[.int .i64 x.b.kind, .int .i64 x.b.n], [.int .i64 x.h_.kind, .int .i64 x.h_.who, .int .i64 x.h_.stmt, .int .i64 x.h_.chan, .int .i64 x.h_.peer], rfl, ⟨[.int .i64 x.b.kind], [.int .i64 x.b.n], rfl, rfl, rfl⟩, ⟨[.int .i64 x.h_.kind], [.int .i64 x.h_.who, .int .i64 x.h_.stmt, .int .i64 x.h_.chan, .int .i64 x.h_.peer], rfl, rfl, ⟨[.int .i64 x.h_.who], [.int .i64 x.h_.stmt, .int .i64 x.h_.chan, .int .i64 x.h_.peer], rfl, rfl, ⟨[.int .i64 x.h_.stmt], [.int .i64 x.h_.chan, .int .i64 x.h_.peer], rfl, rfl, ⟨[.int .i64 x.h_.chan], [.int .i64 x.h_.peer], rfl, rfl, rfl⟩⟩⟩⟩⟩⟩

end Go.Ty
