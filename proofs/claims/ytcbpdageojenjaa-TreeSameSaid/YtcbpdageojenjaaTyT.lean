/- Structures of the program, and how they lie in cells. -/
import Derived.Test.YtcbpdageojenjaaLv
namespace Go.Ty
open Go.Vc Go.Lv
structure GNode where
  op : Int
  name : List UInt8
  n : Int
  kids : Int
  at_ : Int
  deriving DecidableEq, Inhabited

def cGNode : Cod GNode := cMap (fun x => (x.op, x.name, x.n, x.kids, x.at_)) (cPair (cInt .i64) (cPair cStr (cPair (cInt .i64) (cPair (cInt .i64) (cInt .i64)))))
theorem GNode_out {m : List Nat} {w : World} {x : GNode} {cs : List Value} (h : cGNode.rep m w x cs) : cs = [.int .i64 x.op, .string (mkS x.name), .int .i64 x.n, .int .i64 x.kids, .int .i64 x.at_] := by
  obtain ⟨_, _, rfl, rfl, ⟨_, _, rfl, rfl, ⟨_, _, rfl, rfl, ⟨_, _, rfl, rfl, rfl⟩⟩⟩⟩ := h
  exact rfl

theorem GNode_in {m : List Nat} {w : World} (x : GNode)   : cGNode.rep m w x [.int .i64 x.op, .string (mkS x.name), .int .i64 x.n, .int .i64 x.kids, .int .i64 x.at_] := ⟨[.int .i64 x.op], [.string (mkS x.name), .int .i64 x.n, .int .i64 x.kids, .int .i64 x.at_], rfl, rfl, ⟨[.string (mkS x.name)], [.int .i64 x.n, .int .i64 x.kids, .int .i64 x.at_], rfl, rfl, ⟨[.int .i64 x.n], [.int .i64 x.kids, .int .i64 x.at_], rfl, rfl, ⟨[.int .i64 x.kids], [.int .i64 x.at_], rfl, rfl, rfl⟩⟩⟩⟩

structure GArr2_int where
  x0 : Int
  x1 : Int
  deriving DecidableEq, Inhabited

def cGArr2_int : Cod GArr2_int := cMap (fun x => (x.x0, x.x1)) (cPair (cInt .i64) (cInt .i64))
theorem GArr2_int_out {m : List Nat} {w : World} {x : GArr2_int} {cs : List Value} (h : cGArr2_int.rep m w x cs) : cs = [.int .i64 x.x0, .int .i64 x.x1] := by
  obtain ⟨_, _, rfl, rfl, rfl⟩ := h
  exact rfl

theorem GArr2_int_in {m : List Nat} {w : World} (x : GArr2_int)   : cGArr2_int.rep m w x [.int .i64 x.x0, .int .i64 x.x1] := ⟨[.int .i64 x.x0], [.int .i64 x.x1], rfl, rfl, rfl⟩

structure GR09_Cur where
  at_ : Int
  ok : Bool
  deriving DecidableEq, Inhabited

def cGR09_Cur : Cod GR09_Cur := cMap (fun x => (x.at_, x.ok)) (cPair (cInt .i64) cBool)
theorem GR09_Cur_out {m : List Nat} {w : World} {x : GR09_Cur} {cs : List Value} (h : cGR09_Cur.rep m w x cs) : cs = [.int .i64 x.at_, .bool x.ok] := by
  obtain ⟨_, _, rfl, rfl, rfl⟩ := h
  exact rfl

theorem GR09_Cur_in {m : List Nat} {w : World} (x : GR09_Cur)   : cGR09_Cur.rep m w x [.int .i64 x.at_, .bool x.ok] := ⟨[.int .i64 x.at_], [.bool x.ok], rfl, rfl, rfl⟩

end Go.Ty
