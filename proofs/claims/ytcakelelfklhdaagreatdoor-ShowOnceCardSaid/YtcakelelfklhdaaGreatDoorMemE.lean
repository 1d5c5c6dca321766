/- The boxes of a call that also writes one box of its caller's. -/
import Derived.Test.YtcakelelfklhdaaGreatDoorMemD
namespace Go.Vc
open Go.RowKit (Below)
theorem Cl {a b c:World} {row:Option Nat} (h:a.grownBy b row) (k:b.grownBy c row):a.grownBy c row:=
 ⟨k.os.trans h.os,k.tape.trans h.tape,k.output.trans h.output,Nat.le_trans h.size k.size,fun j hj hr=>(k.block j (Nat.lt_of_lt_of_le hj h.size) hr).trans (h.block j hj hr)⟩
theorem Af3 {w w':World} {b i:Nat} {v:Value} (e:w'=w.setCell ⟨b,i,none⟩ v):w.grownBy w' (some b):=by
 subst e
 refine⟨rfl,rfl,rfl,by simp [World.setCell],fun k _ hr=> ?_⟩
 rw [heap_setCell,if_neg (fun h=>hr (by rw [h]))]
end Go.Vc
