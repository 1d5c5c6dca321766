/- Structures of the program, and how they lie in cells. -/
import Derived.Test.YtahppcghgmhkiaaLv
namespace Go.Ty
open Go.Vc Go.Lv
structure GArr2_int where
  x0 : Int
  x1 : Int
  deriving DecidableEq, Inhabited

def cGArr2_int : Cod GArr2_int := cMap (fun x => (x.x0, x.x1)) (cPair (cInt .i64) (cInt .i64))
theorem GArr2_int_out {m : List Nat} {w : World} {x : GArr2_int} {cs : List Value} (h : cGArr2_int.rep m w x cs) : cs = [.int .i64 x.x0, .int .i64 x.x1] := by
  obtain ⟨_, _, rfl, rfl, rfl⟩ := h
  exact rfl

theorem GArr2_int_in {m : List Nat} {w : World} (x : GArr2_int)   : cGArr2_int.rep m w x [.int .i64 x.x0, .int .i64 x.x1] := ⟨[.int .i64 x.x0], [.int .i64 x.x1], rfl, rfl, rfl⟩

end Go.Ty
