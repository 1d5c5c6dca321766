/- Structures of the program, and how they lie in cells. -/
import Derived.Test.YtcbpdageojenjaaLv
namespace Go.Ty
open Go.Vc Go.Lv
structure Gsorted_Set_int where
  l : List Int
  deriving DecidableEq, Inhabited

def cGsorted_Set_int : Cod Gsorted_Set_int := cMap (fun x => x.l) (cSl (cInt .i64))
theorem Gsorted_Set_int_out {m : List Nat} {w : World} {x : Gsorted_Set_int} {cs : List Value} (h : cGsorted_Set_int.rep m w x cs) : ∃ (a0 : Option Addr) (c0 : Nat), cs = [.slice a0 x.l.length c0] ∧ (x.l.length ≤ c0 ∧ SlR (cInt .i64) m w a0 x.l) := by
  obtain ⟨a0, c0, rfl, p0, q0⟩ := h
  exact ⟨a0, c0, rfl, ⟨p0, q0⟩⟩

theorem Gsorted_Set_int_in {m : List Nat} {w : World} (x : Gsorted_Set_int) {a0 : Option Addr} {c0 : Nat} (h0 : (x.l.length ≤ c0 ∧ SlR (cInt .i64) m w a0 x.l)) : cGsorted_Set_int.rep m w x [.slice a0 x.l.length c0] := ⟨_, _, rfl, h0.1, h0.2⟩

structure GL06_Act where
  kind : Int
  x : Int
  deriving DecidableEq, Inhabited

def cGL06_Act : Cod GL06_Act := cMap (fun x => (x.kind, x.x)) (cPair (cInt .i64) (cInt .i64))
theorem GL06_Act_out {m : List Nat} {w : World} {x : GL06_Act} {cs : List Value} (h : cGL06_Act.rep m w x cs) : cs = [.int .i64 x.kind, .int .i64 x.x] := by
  obtain ⟨_, _, rfl, rfl, rfl⟩ := h
  exact rfl

theorem GL06_Act_in {m : List Nat} {w : World} (x : GL06_Act)   : cGL06_Act.rep m w x [.int .i64 x.kind, .int .i64 x.x] := ⟨[.int .i64 x.kind], [.int .i64 x.x], rfl, rfl, rfl⟩

structure Gsorted_Set_string where
  l : List (List UInt8)
  deriving DecidableEq, Inhabited

def cGsorted_Set_string : Cod Gsorted_Set_string := cMap (fun x => x.l) (cSl cStr)
theorem Gsorted_Set_string_out {m : List Nat} {w : World} {x : Gsorted_Set_string} {cs : List Value} (h : cGsorted_Set_string.rep m w x cs) : ∃ (a0 : Option Addr) (c0 : Nat), cs = [.slice a0 x.l.length c0] ∧ (x.l.length ≤ c0 ∧ SlR cStr m w a0 x.l) := by
  obtain ⟨a0, c0, rfl, p0, q0⟩ := h
  exact ⟨a0, c0, rfl, ⟨p0, q0⟩⟩

theorem Gsorted_Set_string_in {m : List Nat} {w : World} (x : Gsorted_Set_string) {a0 : Option Addr} {c0 : Nat} (h0 : (x.l.length ≤ c0 ∧ SlR cStr m w a0 x.l)) : cGsorted_Set_string.rep m w x [.slice a0 x.l.length c0] := ⟨_, _, rfl, h0.1, h0.2⟩

end Go.Ty
