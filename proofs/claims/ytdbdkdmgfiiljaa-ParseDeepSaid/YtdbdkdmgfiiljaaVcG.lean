/- The conditions of Go code: a library of this claim. -/
import Derived.Test.YtdbdkdmgfiiljaaVcF
import Derived.RangeFuncNested
import Derived.RangeFuncLeaves
import Derived.RangeFuncCalls
import Derived.OrdersIn
namespace Go.Vc
open Go.RowKit (Below)
def Good (G : Fence) : Prop := G = Fence.wide ∨ ∃ l, G = Fence.wide.inRound l
theorem Good.fn {G : Fence} (h : Good G) (f : FuncId) : G.fn f := by rcases h with rfl | ⟨l, rfl⟩ <;> trivial
theorem Good.depth {G : Fence} (h : Good G) : G.depth = none := by rcases h with rfl | ⟨l, rfl⟩ <;> rfl
theorem Good.calls {G : Fence} (h : Good G) {n : Nat} {P : Program} {f : FuncId} {args : Array Value} {w : World} {R : Ending → World → Prop} (hc : Calls P f args w R) : CallsIn G n P f args w R := by
  rcases h with rfl | ⟨l, rfl⟩
  · exact callsIn_wide.2 hc
  · exact CallsIn.inRound l (callsIn_wide.2 hc)
theorem Good.round {G : Fence} (h : Good G) {n : Nat} {P : Program} {l : Nat} {f : FuncId} {tmps : Array Value} {assign body : Code} {w : World} {R : Ending → World → Prop} (hc : RoundIn Fence.wide n P l f tmps assign body w R) : RoundIn G n P l f tmps assign body w R := by
  rcases h with rfl | ⟨l, rfl⟩
  · exact hc
  · exact hc
def YieldC (P : Program) (l : Nat) (args : Array Value) (next : Bool → World → Prop) (w : World) : Prop :=
  ∀ n, YieldAt Fence.wide n P l args w fun e w' => ∃ b, e = .returned (.bool b) ∧ next b w'
theorem YieldC.mono {P : Program} {l : Nat} {args : Array Value} {next next' : Bool → World → Prop} {w : World} (h : YieldC P l args next w) (hk : ∀ b w, next b w → next' b w) : YieldC P l args next' w := by
  intro n
  obtain ⟨fn, tmps, assign, body, h1, h2⟩ := h n
  exact ⟨fn, tmps, assign, body, h1, RoundIn.mono h2 fun e w' ⟨b, he, hb⟩ => ⟨b, he, hk _ _ hb⟩⟩
theorem Good.rows {G : Fence} (h : Good G) {n : Nat} {P : Program} {row : String} {args : Array Value} {w : World} {R : Value → World → Prop} (hc : Rows P row args w R) : RowsIn G n P row args w R := by
  have hw : RowsIn Fence.wide n P row args w R := fun c cs _ => let ⟨v, w', r, s⟩ := hc c cs; ⟨v, w', r, stepsIn_wide.2 s⟩
  rcases h with rfl | ⟨l, rfl⟩
  · exact hw
  · exact hw
end Go.Vc
