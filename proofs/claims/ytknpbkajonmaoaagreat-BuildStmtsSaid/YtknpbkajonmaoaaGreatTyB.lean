/- Structures of the program, and how they lie in cells. -/
import Derived.Test.YtknpbkajonmaoaaGreatLv
namespace Go.Ty
open Go.Vc Go.Lv
structure GNode where
  op : Int
  name : List UInt8
  n : Int
  kids : Int
  at_ : Int
  deriving DecidableEq, Inhabited

def cGNode : Cod GNode := cMap (fun x => (x.op, x.name, x.n, x.kids, x.at_)) (cPair (cInt .i64) (cPair cStr (cPair (cInt .i64) (cPair (cInt .i64) (cInt .i64)))))
theorem GNode_out {m : List Nat} {w : World} {x : GNode} {cs : List Value} (h : cGNode.rep m w x cs) : cs = [.int .i64 x.op, .string (mkS x.name), .int .i64 x.n, .int .i64 x.kids, .int .i64 x.at_] := by
  obtain ⟨_, _, rfl, rfl, ⟨_, _, rfl, rfl, ⟨_, _, rfl, rfl, ⟨_, _, rfl, rfl, rfl⟩⟩⟩⟩ := h
  exact rfl

theorem GNode_in {m : List Nat} {w : World} (x : GNode)   : cGNode.rep m w x [.int .i64 x.op, .string (mkS x.name), .int .i64 x.n, .int .i64 x.kids, .int .i64 x.at_] := ⟨[.int .i64 x.op], [.string (mkS x.name), .int .i64 x.n, .int .i64 x.kids, .int .i64 x.at_], rfl, rfl, ⟨[.string (mkS x.name)], [.int .i64 x.n, .int .i64 x.kids, .int .i64 x.at_], rfl, rfl, ⟨[.int .i64 x.n], [.int .i64 x.kids, .int .i64 x.at_], rfl, rfl, ⟨[.int .i64 x.kids], [.int .i64 x.at_], rfl, rfl, rfl⟩⟩⟩⟩

end Go.Ty
