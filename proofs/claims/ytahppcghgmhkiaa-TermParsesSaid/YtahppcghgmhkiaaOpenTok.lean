/- Opening a slice of tokens. -/
import Derived.Test.YtahppcghgmhkiaaOpen
import Derived.Test.YtahppcghgmhkiaaTermA
namespace Go.Proofs.Ytahppcghgmhkiaa
open Go.Vc Go.Tk Go.Tm
theorem list4 {cs : List Value} (h : cs.length = 4) : ∃ a b c d, cs = [a, b, c, d] := by
  match cs, h with
  | [a, b, c, d], _ => exact ⟨a, b, c, d, rfl⟩
theorem open_tok {w : World} {m : Nat} {cs : List Value} (h : Trd Try.prog w m 47 cs) : ∃ x : Tok, cs = tokC x ∧ True := by
  obtain ⟨m', rfl, hl, hx⟩ := h.struct Try.underlying47
  have hc : Try.prog.cellsOf 47 = 4 := by kernel_rfl
  obtain ⟨a, b, c, d, rfl⟩ := list4 (hl.trans hc)
  have ci : Try.prog.cellsOf 3 = 1 := by kernel_rfl
  have cs : Try.prog.cellsOf 9 = 1 := by kernel_rfl
  have ui : Try.prog.underlying 3 = some (.int .i64) := by kernel_rfl
  have us : Try.prog.underlying 9 = some .string := by kernel_rfl
  have g0 : Trd Try.prog w m' 3 (([a, b, c, d].drop 0).take (Try.prog.cellsOf 3)) := hx 0 _ rfl
  have g1 : Trd Try.prog w m' 9 (([a, b, c, d].drop 1).take (Try.prog.cellsOf 9)) := hx 1 _ rfl
  have g2 : Trd Try.prog w m' 3 (([a, b, c, d].drop 2).take (Try.prog.cellsOf 3)) := hx 2 _ rfl
  have g3 : Trd Try.prog w m' 3 (([a, b, c, d].drop 3).take (Try.prog.cellsOf 3)) := hx 3 _ rfl
  rw [ci] at g0 g2 g3
  rw [cs] at g1
  obtain ⟨x0, e0, _⟩ := g0.int ui
  obtain ⟨x1, e1, _⟩ := g1.string us
  obtain ⟨x2, e2, _⟩ := g2.int ui
  obtain ⟨x3, e3, _⟩ := g3.int ui
  simp at e0 e1 e2 e3
  subst e0 e1 e2 e3
  exact ⟨⟨x0, x1, x2, x3⟩, rfl, trivial⟩
theorem open_toks {w : World} {n : Nat} {a : Option Addr} {len cap : Nat} (h : Trd Try.prog w n 22 (Value.slice a len cap).cells.toList) : ∃ l : List Tok, len = l.length ∧ SlAt w a (flat tokC l) := by
  obtain ⟨l, h1, h2, _⟩ := h.list (f := tokC) (k := 4) tokC_len (by decide) (e := 47) (by kernel_rfl) (by kernel_rfl) (fun _ => True) (fun m cs h => open_tok h)
  exact ⟨l, h1, h2⟩
end Go.Proofs.Ytahppcghgmhkiaa
