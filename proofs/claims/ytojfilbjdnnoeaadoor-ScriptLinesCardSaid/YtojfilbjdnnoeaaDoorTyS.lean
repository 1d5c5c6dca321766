/- Structures of the program, and how they lie in cells. -/
import Derived.Test.YtojfilbjdnnoeaaDoorLv
namespace Go.Ty
open Go.Vc Go.Lv
structure Gscript_form where
  word : List UInt8
  kind : Int
  args : Int
  into : Value
  deriving Inhabited

def cGscript_form : Cod Gscript_form := cMap (fun x => (x.word, x.kind, x.args, x.into)) (cPair cStr (cPair (cInt .i64) (cPair (cInt .i64) cRaw)))
theorem Gscript_form_out {m : List Nat} {w : World} {x : Gscript_form} {cs : List Value} (h : cGscript_form.rep m w x cs) : cs = [.string (mkS x.word), .int .i64 x.kind, .int .i64 x.args, x.into] ∧ (x.into).oneCell' = true := by
  obtain ⟨_, _, rfl, rfl, ⟨_, _, rfl, rfl, ⟨_, _, rfl, rfl, ⟨rfl, p0⟩⟩⟩⟩ := h
  exact ⟨rfl, p0⟩

theorem Gscript_form_in {m : List Nat} {w : World} (x : Gscript_form)  (h0 : (x.into).oneCell' = true) : cGscript_form.rep m w x [.string (mkS x.word), .int .i64 x.kind, .int .i64 x.args, x.into] := ⟨[.string (mkS x.word)], [.int .i64 x.kind, .int .i64 x.args, x.into], rfl, rfl, ⟨[.int .i64 x.kind], [.int .i64 x.args, x.into], rfl, rfl, ⟨[.int .i64 x.args], [x.into], rfl, rfl, ⟨rfl, h0⟩⟩⟩⟩

structure GBreak where
  kind : Int
  n : Int
  deriving DecidableEq, Inhabited

def cGBreak : Cod GBreak := cMap (fun x => (x.kind, x.n)) (cPair (cInt .i64) (cInt .i64))
theorem GBreak_out {m : List Nat} {w : World} {x : GBreak} {cs : List Value} (h : cGBreak.rep m w x cs) : cs = [.int .i64 x.kind, .int .i64 x.n] := by
  obtain ⟨_, _, rfl, rfl, rfl⟩ := h
  exact rfl

theorem GBreak_in {m : List Nat} {w : World} (x : GBreak)   : cGBreak.rep m w x [.int .i64 x.kind, .int .i64 x.n] := ⟨[.int .i64 x.kind], [.int .i64 x.n], rfl, rfl, rfl⟩

structure GCommand where
  kind : Int
  n : Int
  break_ : GBreak
  deriving DecidableEq, Inhabited

def cGCommand : Cod GCommand := cMap (fun x => (x.kind, x.n, x.break_)) (cPair (cInt .i64) (cPair (cInt .i64) cGBreak))
theorem GCommand_out {m : List Nat} {w : World} {x : GCommand} {cs : List Value} (h : cGCommand.rep m w x cs) : cs = [.int .i64 x.kind, .int .i64 x.n, .int .i64 x.break_.kind, .int .i64 x.break_.n] := by
  obtain ⟨_, _, rfl, rfl, ⟨_, _, rfl, rfl, ⟨_, _, rfl, rfl, rfl⟩⟩⟩ := h
  exact rfl

theorem GCommand_in {m : List Nat} {w : World} (x : GCommand)   : cGCommand.rep m w x [.int .i64 x.kind, .int .i64 x.n, .int .i64 x.break_.kind, .int .i64 x.break_.n] := ⟨[.int .i64 x.kind], [.int .i64 x.n, .int .i64 x.break_.kind, .int .i64 x.break_.n], rfl, rfl, ⟨[.int .i64 x.n], [.int .i64 x.break_.kind, .int .i64 x.break_.n], rfl, rfl, ⟨[.int .i64 x.break_.kind], [.int .i64 x.break_.n], rfl, rfl, rfl⟩⟩⟩

structure GR44_Got where
  m_ : GCommand
  e_ : Int
  deriving DecidableEq, Inhabited

def cGR44_Got : Cod GR44_Got := cMap (fun x => (x.m_, x.e_)) (cPair cGCommand (cInt .i64))
theorem GR44_Got_out {m : List Nat} {w : World} {x : GR44_Got} {cs : List Value} (h : cGR44_Got.rep m w x cs) : cs = [.int .i64 x.m_.kind, .int .i64 x.m_.n, .int .i64 x.m_.break_.kind, .int .i64 x.m_.break_.n, .int .i64 x.e_] := by
  obtain ⟨_, _, rfl, ⟨_, _, rfl, rfl, ⟨_, _, rfl, rfl, ⟨_, _, rfl, rfl, rfl⟩⟩⟩, rfl⟩ := h
  exact rfl

theorem GR44_Got_in {m : List Nat} {w : World} (x : GR44_Got)   : cGR44_Got.rep m w x [.int .i64 x.m_.kind, .int .i64 x.m_.n, .int .i64 x.m_.break_.kind, .int .i64 x.m_.break_.n, .int .i64 x.e_] := ⟨[.int .i64 x.m_.kind, .int .i64 x.m_.n, .int .i64 x.m_.break_.kind, .int .i64 x.m_.break_.n], [.int .i64 x.e_], rfl, ⟨[.int .i64 x.m_.kind], [.int .i64 x.m_.n, .int .i64 x.m_.break_.kind, .int .i64 x.m_.break_.n], rfl, rfl, ⟨[.int .i64 x.m_.n], [.int .i64 x.m_.break_.kind, .int .i64 x.m_.break_.n], rfl, rfl, ⟨[.int .i64 x.m_.break_.kind], [.int .i64 x.m_.break_.n], rfl, rfl, rfl⟩⟩⟩, rfl⟩

structure GR44_List where
  l : List GCommand
  at_ : Int
  e_ : Int
  deriving DecidableEq, Inhabited

def cGR44_List : Cod GR44_List := cMap (fun x => (x.l, x.at_, x.e_)) (cPair (cSl cGCommand) (cPair (cInt .i64) (cInt .i64)))
theorem GR44_List_out {m : List Nat} {w : World} {x : GR44_List} {cs : List Value} (h : cGR44_List.rep m w x cs) : ∃ (a0 : Option Addr) (c0 : Nat), cs = [.slice a0 x.l.length c0, .int .i64 x.at_, .int .i64 x.e_] ∧ (x.l.length ≤ c0 ∧ SlR cGCommand m w a0 x.l) := by
  obtain ⟨_, _, rfl, ⟨a0, c0, rfl, p0, q0⟩, ⟨_, _, rfl, rfl, rfl⟩⟩ := h
  exact ⟨a0, c0, rfl, ⟨p0, q0⟩⟩

theorem GR44_List_in {m : List Nat} {w : World} (x : GR44_List) {a0 : Option Addr} {c0 : Nat} (h0 : (x.l.length ≤ c0 ∧ SlR cGCommand m w a0 x.l)) : cGR44_List.rep m w x [.slice a0 x.l.length c0, .int .i64 x.at_, .int .i64 x.e_] := ⟨[.slice a0 x.l.length c0], [.int .i64 x.at_, .int .i64 x.e_], rfl, ⟨_, _, rfl, h0.1, h0.2⟩, ⟨[.int .i64 x.at_], [.int .i64 x.e_], rfl, rfl, rfl⟩⟩

end Go.Ty
