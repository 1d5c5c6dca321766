/-
  No cell of these rows narrows 'for every input' (looked for: loops, veiled, ifaces, maps, wideKeys, modest, calm, conditions, laid).
  DERIVED. THE GIVEN ROWS OF THIS SEAT. 12 by the template 'for every input the law returns true; each argument reads behind the call as it read before'; 0 by the template 'total and deterministic' (their statements: YtcbpdageojenjaaTotals.lean).
  GIVEN WITH THE SEED: the statements are not yours to turn. If you find one false, say at which input.
  Laid BY PROGRAM, IN A SANDBOX (cutbox-rows.mjs): the forced cells as the released guide's own fill.sh prints them over the translation 6e3dfa3824a86f7d… (all of the seat's roots in one cut). By AI agents, Wed Nov 11 2026. No macro, syntax, notation, axiom, sorry.
-/
import Derived.Test.YtcbpdageojenjaaChecked
import GoSem.Claim
import GoSem.ClaimJoined
import GoSem.ClaimMapViews
import Derived.JoinedTies
import Derived.KernelRfl
namespace Go.Proofs.Ytcbpdageojenjaa
/- THE CELL 'sum', in the pinned program and in every row, IS THE sha256 OF THE DUMP (.gsa) THAT YtcbpdageojenjaaProg.lean LOADS. Nothing in Lean hashes anything: it is a label: what it is worth is what the hold of that sum in a sandbox is worth. -/
noncomputable def Try.pinned : Pinned := { name := "ytcbpdageojenjaa", sum := "6e3dfa3824a86f7d7f7b756b706454037e2bf06a9a33f07d3fc37270ededf697", checked := Try.checked }
namespace Rows
def none {H : Type} : Left H := { results := [], args := [] }

/-- 'retracelaw37.StopMore': WHATEVER THE INPUT: true; the input reads as it did. -/
def stopMoreSpec : ChangeSpec := { name := "stopMore", fn := fun _ => fun
  | [d1, d2, d3] => { results := [.lit (.bool true)], args := [d1, d2, d3] }
  | _ => none }
def stopMoreRow : OpenClaim := { program := "ytcbpdageojenjaa", sum := "6e3dfa3824a86f7d7f7b756b706454037e2bf06a9a33f07d3fc37270ededf697", func := "retrace/retracelaw37.StopMore", spec := "stopMore", inPlace := ["slices.overlaps[int]"], unfollowed := true, recurses := true, apart := false }
def StopMoreSaid : Prop := stopMoreRow.holds Try.pinned (OpenSpec.ofChange stopMoreSpec)

/-- ITS FALSE NEIGHBOUR: 'it returns false'. Refute it at one input. -/
def stopMoreWrong : ChangeSpec := { name := "stopMore", fn := fun _ => fun
  | [d1, d2, d3] => { results := [.lit (.bool false)], args := [d1, d2, d3] }
  | _ => none }
def StopMoreWrongFalsely : Prop := stopMoreRow.holds Try.pinned (OpenSpec.ofChange stopMoreWrong)

/-- 'retracelaw37.StopPlays': WHATEVER THE INPUT: true; the input reads as it did. -/
def stopPlaysSpec : ChangeSpec := { name := "stopPlays", fn := fun _ => fun
  | [d] => { results := [.lit (.bool true)], args := [d] }
  | _ => none }
def stopPlaysRow : OpenClaim := { program := "ytcbpdageojenjaa", sum := "6e3dfa3824a86f7d7f7b756b706454037e2bf06a9a33f07d3fc37270ededf697", func := "retrace/retracelaw37.StopPlays", spec := "stopPlays", inPlace := ["slices.overlaps[int]"], unfollowed := true, recurses := true, apart := false }
def StopPlaysSaid : Prop := stopPlaysRow.holds Try.pinned (OpenSpec.ofChange stopPlaysSpec)

/-- ITS FALSE NEIGHBOUR: 'it returns false'. Refute it at one input. -/
def stopPlaysWrong : ChangeSpec := { name := "stopPlays", fn := fun _ => fun
  | [d] => { results := [.lit (.bool false)], args := [d] }
  | _ => none }
def StopPlaysWrongFalsely : Prop := stopPlaysRow.holds Try.pinned (OpenSpec.ofChange stopPlaysWrong)

/-- 'retracelaw09.TreePieces': WHATEVER THE INPUT: true; the input reads as it did. -/
def treePiecesSpec : ChangeSpec := { name := "treePieces", fn := fun _ => fun
  | [d1, d2, d3, d4] => { results := [.lit (.bool true)], args := [d1, d2, d3, d4] }
  | _ => none }
def treePiecesRow : OpenClaim := { program := "ytcbpdageojenjaa", sum := "6e3dfa3824a86f7d7f7b756b706454037e2bf06a9a33f07d3fc37270ededf697", func := "retrace/retracelaw09.TreePieces", spec := "treePieces", unfollowed := true, recurses := true, apart := false }
def TreePiecesSaid : Prop := treePiecesRow.holds Try.pinned (OpenSpec.ofChange treePiecesSpec)

/-- ITS FALSE NEIGHBOUR: 'it returns false'. Refute it at one input. -/
def treePiecesWrong : ChangeSpec := { name := "treePieces", fn := fun _ => fun
  | [d1, d2, d3, d4] => { results := [.lit (.bool false)], args := [d1, d2, d3, d4] }
  | _ => none }
def TreePiecesWrongFalsely : Prop := treePiecesRow.holds Try.pinned (OpenSpec.ofChange treePiecesWrong)

/-- 'retracelaw09.TreeSame': WHATEVER THE INPUT: true; the input reads as it did. -/
def treeSameSpec : ChangeSpec := { name := "treeSame", fn := fun _ => fun
  | [d1, d2, d3] => { results := [.lit (.bool true)], args := [d1, d2, d3] }
  | _ => none }
def treeSameRow : OpenClaim := { program := "ytcbpdageojenjaa", sum := "6e3dfa3824a86f7d7f7b756b706454037e2bf06a9a33f07d3fc37270ededf697", func := "retrace/retracelaw09.TreeSame", spec := "treeSame", unfollowed := true, recurses := true, apart := false }
def TreeSameSaid : Prop := treeSameRow.holds Try.pinned (OpenSpec.ofChange treeSameSpec)

/-- ITS FALSE NEIGHBOUR: 'it returns false'. Refute it at one input. -/
def treeSameWrong : ChangeSpec := { name := "treeSame", fn := fun _ => fun
  | [d1, d2, d3] => { results := [.lit (.bool false)], args := [d1, d2, d3] }
  | _ => none }
def TreeSameWrongFalsely : Prop := treeSameRow.holds Try.pinned (OpenSpec.ofChange treeSameWrong)

/-- 'retracelaw09.TreeAbove': WHATEVER THE INPUT: true; the input reads as it did. -/
def treeAboveSpec : ChangeSpec := { name := "treeAbove", fn := fun _ => fun
  | [d] => { results := [.lit (.bool true)], args := [d] }
  | _ => none }
def treeAboveRow : OpenClaim := { program := "ytcbpdageojenjaa", sum := "6e3dfa3824a86f7d7f7b756b706454037e2bf06a9a33f07d3fc37270ededf697", func := "retrace/retracelaw09.TreeAbove", spec := "treeAbove", unfollowed := true, recurses := true, apart := false }
def TreeAboveSaid : Prop := treeAboveRow.holds Try.pinned (OpenSpec.ofChange treeAboveSpec)

/-- ITS FALSE NEIGHBOUR: 'it returns false'. Refute it at one input. -/
def treeAboveWrong : ChangeSpec := { name := "treeAbove", fn := fun _ => fun
  | [d] => { results := [.lit (.bool false)], args := [d] }
  | _ => none }
def TreeAboveWrongFalsely : Prop := treeAboveRow.holds Try.pinned (OpenSpec.ofChange treeAboveWrong)

/-- 'retracelaw43.CoverCounts': WHATEVER THE INPUT: true; the input reads as it did. -/
def coverCountsSpec : ChangeSpec := { name := "coverCounts", fn := fun _ => fun
  | [d1, d2] => { results := [.lit (.bool true)], args := [d1, d2] }
  | _ => none }
def coverCountsRow : OpenClaim := { program := "ytcbpdageojenjaa", sum := "6e3dfa3824a86f7d7f7b756b706454037e2bf06a9a33f07d3fc37270ededf697", func := "retrace/retracelaw43.CoverCounts", spec := "coverCounts", unfollowed := true, recurses := true, apart := false }
def CoverCountsSaid : Prop := coverCountsRow.holds Try.pinned (OpenSpec.ofChange coverCountsSpec)

/-- ITS FALSE NEIGHBOUR: 'it returns false'. Refute it at one input. -/
def coverCountsWrong : ChangeSpec := { name := "coverCounts", fn := fun _ => fun
  | [d1, d2] => { results := [.lit (.bool false)], args := [d1, d2] }
  | _ => none }
def CoverCountsWrongFalsely : Prop := coverCountsRow.holds Try.pinned (OpenSpec.ofChange coverCountsWrong)

/-- 'retracelaw43.CoverHot': WHATEVER THE INPUT: true; the input reads as it did. -/
def coverHotSpec : ChangeSpec := { name := "coverHot", fn := fun _ => fun
  | [d1, d2, d3] => { results := [.lit (.bool true)], args := [d1, d2, d3] }
  | _ => none }
def coverHotRow : OpenClaim := { program := "ytcbpdageojenjaa", sum := "6e3dfa3824a86f7d7f7b756b706454037e2bf06a9a33f07d3fc37270ededf697", func := "retrace/retracelaw43.CoverHot", spec := "coverHot", unfollowed := true, recurses := true, apart := false }
def CoverHotSaid : Prop := coverHotRow.holds Try.pinned (OpenSpec.ofChange coverHotSpec)

/-- ITS FALSE NEIGHBOUR: 'it returns false'. Refute it at one input. -/
def coverHotWrong : ChangeSpec := { name := "coverHot", fn := fun _ => fun
  | [d1, d2, d3] => { results := [.lit (.bool false)], args := [d1, d2, d3] }
  | _ => none }
def CoverHotWrongFalsely : Prop := coverHotRow.holds Try.pinned (OpenSpec.ofChange coverHotWrong)

/-- 'retracelaw43.CoverMerges': WHATEVER THE INPUT: true; the input reads as it did. -/
def coverMergesSpec : ChangeSpec := { name := "coverMerges", fn := fun _ => fun
  | [d1, d2, d3, d4] => { results := [.lit (.bool true)], args := [d1, d2, d3, d4] }
  | _ => none }
def coverMergesRow : OpenClaim := { program := "ytcbpdageojenjaa", sum := "6e3dfa3824a86f7d7f7b756b706454037e2bf06a9a33f07d3fc37270ededf697", func := "retrace/retracelaw43.CoverMerges", spec := "coverMerges", unfollowed := true, recurses := true, apart := false }
def CoverMergesSaid : Prop := coverMergesRow.holds Try.pinned (OpenSpec.ofChange coverMergesSpec)

/-- ITS FALSE NEIGHBOUR: 'it returns false'. Refute it at one input. -/
def coverMergesWrong : ChangeSpec := { name := "coverMerges", fn := fun _ => fun
  | [d1, d2, d3, d4] => { results := [.lit (.bool false)], args := [d1, d2, d3, d4] }
  | _ => none }
def CoverMergesWrongFalsely : Prop := coverMergesRow.holds Try.pinned (OpenSpec.ofChange coverMergesWrong)

/-- 'retracelaw06.SetGoes': WHATEVER THE INPUT: true; the input reads as it did. -/
def setGoesSpec : ChangeSpec := { name := "setGoes", fn := fun _ => fun
  | [d1, d2] => { results := [.lit (.bool true)], args := [d1, d2] }
  | _ => none }
def setGoesRow : OpenClaim := { program := "ytcbpdageojenjaa", sum := "6e3dfa3824a86f7d7f7b756b706454037e2bf06a9a33f07d3fc37270ededf697", func := "retrace/retracelaw06.SetGoes", spec := "setGoes", unfollowed := true, recurses := true, apart := false }
def SetGoesSaid : Prop := setGoesRow.holds Try.pinned (OpenSpec.ofChange setGoesSpec)

/-- ITS FALSE NEIGHBOUR: 'it returns false'. Refute it at one input. -/
def setGoesWrong : ChangeSpec := { name := "setGoes", fn := fun _ => fun
  | [d1, d2] => { results := [.lit (.bool false)], args := [d1, d2] }
  | _ => none }
def SetGoesWrongFalsely : Prop := setGoesRow.holds Try.pinned (OpenSpec.ofChange setGoesWrong)

/-- 'retracelaw06.SetPlays': WHATEVER THE INPUT: true; the input reads as it did. -/
def setPlaysSpec : ChangeSpec := { name := "setPlays", fn := fun _ => fun
  | [d1, d2, d3] => { results := [.lit (.bool true)], args := [d1, d2, d3] }
  | _ => none }
def setPlaysRow : OpenClaim := { program := "ytcbpdageojenjaa", sum := "6e3dfa3824a86f7d7f7b756b706454037e2bf06a9a33f07d3fc37270ededf697", func := "retrace/retracelaw06.SetPlays", spec := "setPlays", inPlace := ["slices.overlaps[int]"], recurses := true, apart := false }
def SetPlaysSaid : Prop := setPlaysRow.holds Try.pinned (OpenSpec.ofChange setPlaysSpec)

/-- ITS FALSE NEIGHBOUR: 'it returns false'. Refute it at one input. -/
def setPlaysWrong : ChangeSpec := { name := "setPlays", fn := fun _ => fun
  | [d1, d2, d3] => { results := [.lit (.bool false)], args := [d1, d2, d3] }
  | _ => none }
def SetPlaysWrongFalsely : Prop := setPlaysRow.holds Try.pinned (OpenSpec.ofChange setPlaysWrong)

/-- 'retracelaw06.SetOrder': WHATEVER THE INPUT: true; the input reads as it did. -/
def setOrderSpec : ChangeSpec := { name := "setOrder", fn := fun _ => fun
  | [d] => { results := [.lit (.bool true)], args := [d] }
  | _ => none }
def setOrderRow : OpenClaim := { program := "ytcbpdageojenjaa", sum := "6e3dfa3824a86f7d7f7b756b706454037e2bf06a9a33f07d3fc37270ededf697", func := "retrace/retracelaw06.SetOrder", spec := "setOrder", inPlace := ["slices.overlaps[string]"], recurses := true, apart := false }
def SetOrderSaid : Prop := setOrderRow.holds Try.pinned (OpenSpec.ofChange setOrderSpec)

/-- ITS FALSE NEIGHBOUR: 'it returns false'. Refute it at one input. -/
def setOrderWrong : ChangeSpec := { name := "setOrder", fn := fun _ => fun
  | [d] => { results := [.lit (.bool false)], args := [d] }
  | _ => none }
def SetOrderWrongFalsely : Prop := setOrderRow.holds Try.pinned (OpenSpec.ofChange setOrderWrong)

/-- 'retracelaw06.SetNone': WHATEVER THE INPUT: true; the input reads as it did. -/
def setNoneSpec : ChangeSpec := { name := "setNone", fn := fun _ => fun
  | [d1, d2] => { results := [.lit (.bool true)], args := [d1, d2] }
  | _ => none }
def setNoneRow : OpenClaim := { program := "ytcbpdageojenjaa", sum := "6e3dfa3824a86f7d7f7b756b706454037e2bf06a9a33f07d3fc37270ededf697", func := "retrace/retracelaw06.SetNone", spec := "setNone", inPlace := ["slices.overlaps[int]"], unfollowed := true, recurses := true, apart := false }
def SetNoneSaid : Prop := setNoneRow.holds Try.pinned (OpenSpec.ofChange setNoneSpec)

/-- ITS FALSE NEIGHBOUR: 'it returns false'. Refute it at one input. -/
def setNoneWrong : ChangeSpec := { name := "setNone", fn := fun _ => fun
  | [d1, d2] => { results := [.lit (.bool false)], args := [d1, d2] }
  | _ => none }
def SetNoneWrongFalsely : Prop := setNoneRow.holds Try.pinned (OpenSpec.ofChange setNoneWrong)

/- THE SECOND FORM. 'bulk': how many values and letters a reading holds, each counted each time it is reached (what is shared counts as often as it is met; a slice's spare places count too). A statement '..UptoSaid' is the law's where the arguments, and the package variables that the reading takes, are together of bulk at most 1048576: NARROWER than '..Said'. Prove '..Said' where nothing that the law and all that it calls make is longer than what came in: it says more and counts as full. Else prove '..UptoSaid'. A law counts once. -/
mutual
def uptoBulk {H : Type} : DataW H → Nat
  | .lit (.string bytes) => bytes.length + 1
  | .lit _ => 1
  | .nil => 1
  | .ptr d => uptoBulk d + 1
  | .slice elems spare => uptoBulkAll elems + uptoBulkAll spare + 1
  | .agg parts => uptoBulkAll parts + 1
  | .iface _ d => uptoBulk d + 1
  | .map entries => uptoBulkEntries entries + 1
  | .held _ => 1
def uptoBulkAll {H : Type} : List (DataW H) → Nat
  | [] => 0
  | d :: r => uptoBulk d + uptoBulkAll r
def uptoBulkEntries {H : Type} : List (Lit × DataW H) → Nat
  | [] => 0
  | x :: r => uptoBulkEntry x + uptoBulkEntries r
def uptoBulkEntry {H : Type} : Lit × DataW H → Nat
  | (.string bytes, d) => bytes.length + uptoBulk d + 1
  | (_, d) => uptoBulk d + 1
 end
def uptoSmall : (H : Type) → List (DataW H) → Bool := fun _ ds => decide (uptoBulkAll ds ≤ 1048576)
def OpenSpec.upto (s : _root_.Go.ChangeSpec) : _root_.Go.OpenSpec := { _root_.Go.OpenSpec.ofChange s with cond := some uptoSmall }

/-- 'retracelaw37.StopMore', WHERE WHAT IT READS IS OF BULK AT MOST 1048576: true; the input reads as it did. -/
def stopMoreUptoRow : OpenClaim := { program := "ytcbpdageojenjaa", sum := "6e3dfa3824a86f7d7f7b756b706454037e2bf06a9a33f07d3fc37270ededf697", func := "retrace/retracelaw37.StopMore", spec := "stopMore", inPlace := ["slices.overlaps[int]"], unfollowed := true, recurses := true, apart := false, narrowed := true }
def StopMoreUptoSaid : Prop := stopMoreUptoRow.holds Try.pinned (OpenSpec.upto stopMoreSpec)

/-- 'retracelaw37.StopPlays', WHERE WHAT IT READS IS OF BULK AT MOST 1048576: true; the input reads as it did. -/
def stopPlaysUptoRow : OpenClaim := { program := "ytcbpdageojenjaa", sum := "6e3dfa3824a86f7d7f7b756b706454037e2bf06a9a33f07d3fc37270ededf697", func := "retrace/retracelaw37.StopPlays", spec := "stopPlays", inPlace := ["slices.overlaps[int]"], unfollowed := true, recurses := true, apart := false, narrowed := true }
def StopPlaysUptoSaid : Prop := stopPlaysUptoRow.holds Try.pinned (OpenSpec.upto stopPlaysSpec)

/-- 'retracelaw09.TreePieces', WHERE WHAT IT READS IS OF BULK AT MOST 1048576: true; the input reads as it did. -/
def treePiecesUptoRow : OpenClaim := { program := "ytcbpdageojenjaa", sum := "6e3dfa3824a86f7d7f7b756b706454037e2bf06a9a33f07d3fc37270ededf697", func := "retrace/retracelaw09.TreePieces", spec := "treePieces", unfollowed := true, recurses := true, apart := false, narrowed := true }
def TreePiecesUptoSaid : Prop := treePiecesUptoRow.holds Try.pinned (OpenSpec.upto treePiecesSpec)

/-- 'retracelaw09.TreeSame', WHERE WHAT IT READS IS OF BULK AT MOST 1048576: true; the input reads as it did. -/
def treeSameUptoRow : OpenClaim := { program := "ytcbpdageojenjaa", sum := "6e3dfa3824a86f7d7f7b756b706454037e2bf06a9a33f07d3fc37270ededf697", func := "retrace/retracelaw09.TreeSame", spec := "treeSame", unfollowed := true, recurses := true, apart := false, narrowed := true }
def TreeSameUptoSaid : Prop := treeSameUptoRow.holds Try.pinned (OpenSpec.upto treeSameSpec)

/-- 'retracelaw09.TreeAbove', WHERE WHAT IT READS IS OF BULK AT MOST 1048576: true; the input reads as it did. -/
def treeAboveUptoRow : OpenClaim := { program := "ytcbpdageojenjaa", sum := "6e3dfa3824a86f7d7f7b756b706454037e2bf06a9a33f07d3fc37270ededf697", func := "retrace/retracelaw09.TreeAbove", spec := "treeAbove", unfollowed := true, recurses := true, apart := false, narrowed := true }
def TreeAboveUptoSaid : Prop := treeAboveUptoRow.holds Try.pinned (OpenSpec.upto treeAboveSpec)

/-- 'retracelaw43.CoverCounts', WHERE WHAT IT READS IS OF BULK AT MOST 1048576: true; the input reads as it did. -/
def coverCountsUptoRow : OpenClaim := { program := "ytcbpdageojenjaa", sum := "6e3dfa3824a86f7d7f7b756b706454037e2bf06a9a33f07d3fc37270ededf697", func := "retrace/retracelaw43.CoverCounts", spec := "coverCounts", unfollowed := true, recurses := true, apart := false, narrowed := true }
def CoverCountsUptoSaid : Prop := coverCountsUptoRow.holds Try.pinned (OpenSpec.upto coverCountsSpec)

/-- 'retracelaw43.CoverHot', WHERE WHAT IT READS IS OF BULK AT MOST 1048576: true; the input reads as it did. -/
def coverHotUptoRow : OpenClaim := { program := "ytcbpdageojenjaa", sum := "6e3dfa3824a86f7d7f7b756b706454037e2bf06a9a33f07d3fc37270ededf697", func := "retrace/retracelaw43.CoverHot", spec := "coverHot", unfollowed := true, recurses := true, apart := false, narrowed := true }
def CoverHotUptoSaid : Prop := coverHotUptoRow.holds Try.pinned (OpenSpec.upto coverHotSpec)

/-- 'retracelaw43.CoverMerges', WHERE WHAT IT READS IS OF BULK AT MOST 1048576: true; the input reads as it did. -/
def coverMergesUptoRow : OpenClaim := { program := "ytcbpdageojenjaa", sum := "6e3dfa3824a86f7d7f7b756b706454037e2bf06a9a33f07d3fc37270ededf697", func := "retrace/retracelaw43.CoverMerges", spec := "coverMerges", unfollowed := true, recurses := true, apart := false, narrowed := true }
def CoverMergesUptoSaid : Prop := coverMergesUptoRow.holds Try.pinned (OpenSpec.upto coverMergesSpec)

/-- 'retracelaw06.SetGoes', WHERE WHAT IT READS IS OF BULK AT MOST 1048576: true; the input reads as it did. -/
def setGoesUptoRow : OpenClaim := { program := "ytcbpdageojenjaa", sum := "6e3dfa3824a86f7d7f7b756b706454037e2bf06a9a33f07d3fc37270ededf697", func := "retrace/retracelaw06.SetGoes", spec := "setGoes", unfollowed := true, recurses := true, apart := false, narrowed := true }
def SetGoesUptoSaid : Prop := setGoesUptoRow.holds Try.pinned (OpenSpec.upto setGoesSpec)

/-- 'retracelaw06.SetPlays', WHERE WHAT IT READS IS OF BULK AT MOST 1048576: true; the input reads as it did. -/
def setPlaysUptoRow : OpenClaim := { program := "ytcbpdageojenjaa", sum := "6e3dfa3824a86f7d7f7b756b706454037e2bf06a9a33f07d3fc37270ededf697", func := "retrace/retracelaw06.SetPlays", spec := "setPlays", inPlace := ["slices.overlaps[int]"], recurses := true, apart := false, narrowed := true }
def SetPlaysUptoSaid : Prop := setPlaysUptoRow.holds Try.pinned (OpenSpec.upto setPlaysSpec)

/-- 'retracelaw06.SetOrder', WHERE WHAT IT READS IS OF BULK AT MOST 1048576: true; the input reads as it did. -/
def setOrderUptoRow : OpenClaim := { program := "ytcbpdageojenjaa", sum := "6e3dfa3824a86f7d7f7b756b706454037e2bf06a9a33f07d3fc37270ededf697", func := "retrace/retracelaw06.SetOrder", spec := "setOrder", inPlace := ["slices.overlaps[string]"], recurses := true, apart := false, narrowed := true }
def SetOrderUptoSaid : Prop := setOrderUptoRow.holds Try.pinned (OpenSpec.upto setOrderSpec)

/-- 'retracelaw06.SetNone', WHERE WHAT IT READS IS OF BULK AT MOST 1048576: true; the input reads as it did. -/
def setNoneUptoRow : OpenClaim := { program := "ytcbpdageojenjaa", sum := "6e3dfa3824a86f7d7f7b756b706454037e2bf06a9a33f07d3fc37270ededf697", func := "retrace/retracelaw06.SetNone", spec := "setNone", inPlace := ["slices.overlaps[int]"], unfollowed := true, recurses := true, apart := false, narrowed := true }
def SetNoneUptoSaid : Prop := setNoneUptoRow.holds Try.pinned (OpenSpec.upto setNoneSpec)

end Rows
end Go.Proofs.Ytcbpdageojenjaa
