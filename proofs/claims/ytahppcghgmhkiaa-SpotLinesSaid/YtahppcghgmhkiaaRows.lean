/-
  No cell of these rows narrows 'for every input' (looked for: loops, veiled, ifaces, maps, wideKeys, modest, calm, conditions, laid).
  DERIVED. THE GIVEN ROWS OF THIS SEAT. 12 by the template 'for every input the law returns true; each argument reads behind the call as it read before'; 0 by the template 'total and deterministic' (their statements: YtahppcghgmhkiaaTotals.lean).
  GIVEN WITH THE SEED: the statements are not yours to turn. If you find one false, say at which input.
  Laid BY PROGRAM, IN A SANDBOX (cutbox-rows.mjs): the forced cells as the released guide's own fill.sh prints them over the translation 09467b75398a117a… (all of the seat's roots in one cut). By AI agents, Wed Nov 11 2026. No macro, syntax, notation, axiom, sorry.
-/
import Derived.Test.YtahppcghgmhkiaaChecked
import GoSem.Claim
import GoSem.ClaimJoined
import GoSem.ClaimMapViews
import Derived.JoinedTies
import Derived.KernelRfl
namespace Go.Proofs.Ytahppcghgmhkiaa
/- THE CELL 'sum', in the pinned program and in every row, IS THE sha256 OF THE DUMP (.gsa) THAT YtahppcghgmhkiaaProg.lean LOADS. Nothing in Lean hashes anything: it is a label: what it is worth is what the hold of that sum in a sandbox is worth. -/
noncomputable def Try.pinned : Pinned := { name := "ytahppcghgmhkiaa", sum := "09467b75398a117a4e06e9960e2ae90566185b2620b47c1226354017bc928551", checked := Try.checked }
namespace Rows
def none {H : Type} : Left H := { results := [], args := [] }

/-- 'retracelaw10.TermParses': WHATEVER THE INPUT: true; the input reads as it did. -/
def termParsesSpec : ChangeSpec := { name := "termParses", fn := fun _ => fun
  | [d1, d2] => { results := [.lit (.bool true)], args := [d1, d2] }
  | _ => none }
def termParsesRow : OpenClaim := { program := "ytahppcghgmhkiaa", sum := "09467b75398a117a4e06e9960e2ae90566185b2620b47c1226354017bc928551", func := "retrace/retracelaw10.TermParses", spec := "termParses", unfollowed := true, recurses := true, apart := false }
def TermParsesSaid : Prop := termParsesRow.holds Try.pinned (OpenSpec.ofChange termParsesSpec)

/-- ITS FALSE NEIGHBOUR: 'it returns false'. Refute it at one input. -/
def termParsesWrong : ChangeSpec := { name := "termParses", fn := fun _ => fun
  | [d1, d2] => { results := [.lit (.bool false)], args := [d1, d2] }
  | _ => none }
def TermParsesWrongFalsely : Prop := termParsesRow.holds Try.pinned (OpenSpec.ofChange termParsesWrong)

/-- 'retracelaw10.TermTexts': WHATEVER THE INPUT: true; the input reads as it did. -/
def termTextsSpec : ChangeSpec := { name := "termTexts", fn := fun _ => fun
  | [d] => { results := [.lit (.bool true)], args := [d] }
  | _ => none }
def termTextsRow : OpenClaim := { program := "ytahppcghgmhkiaa", sum := "09467b75398a117a4e06e9960e2ae90566185b2620b47c1226354017bc928551", func := "retrace/retracelaw10.TermTexts", spec := "termTexts", unfollowed := true, recurses := true, apart := false }
def TermTextsSaid : Prop := termTextsRow.holds Try.pinned (OpenSpec.ofChange termTextsSpec)

/-- ITS FALSE NEIGHBOUR: 'it returns false'. Refute it at one input. -/
def termTextsWrong : ChangeSpec := { name := "termTexts", fn := fun _ => fun
  | [d] => { results := [.lit (.bool false)], args := [d] }
  | _ => none }
def TermTextsWrongFalsely : Prop := termTextsRow.holds Try.pinned (OpenSpec.ofChange termTextsWrong)

/-- 'retracelaw10.TermDeep': WHATEVER THE INPUT: true; the input reads as it did. -/
def termDeepSpec : ChangeSpec := { name := "termDeep", fn := fun _ => fun
  | [d1, d2, d3] => { results := [.lit (.bool true)], args := [d1, d2, d3] }
  | _ => none }
def termDeepRow : OpenClaim := { program := "ytahppcghgmhkiaa", sum := "09467b75398a117a4e06e9960e2ae90566185b2620b47c1226354017bc928551", func := "retrace/retracelaw10.TermDeep", spec := "termDeep", unfollowed := true, recurses := true, apart := false }
def TermDeepSaid : Prop := termDeepRow.holds Try.pinned (OpenSpec.ofChange termDeepSpec)

/-- ITS FALSE NEIGHBOUR: 'it returns false'. Refute it at one input. -/
def termDeepWrong : ChangeSpec := { name := "termDeep", fn := fun _ => fun
  | [d1, d2, d3] => { results := [.lit (.bool false)], args := [d1, d2, d3] }
  | _ => none }
def TermDeepWrongFalsely : Prop := termDeepRow.holds Try.pinned (OpenSpec.ofChange termDeepWrong)

/-- 'retracelaw10.TermSigns': WHATEVER THE INPUT: true; the input reads as it did. -/
def termSignsSpec : ChangeSpec := { name := "termSigns", fn := fun _ => fun
  | [d] => { results := [.lit (.bool true)], args := [d] }
  | _ => none }
def termSignsRow : OpenClaim := { program := "ytahppcghgmhkiaa", sum := "09467b75398a117a4e06e9960e2ae90566185b2620b47c1226354017bc928551", func := "retrace/retracelaw10.TermSigns", spec := "termSigns", unfollowed := true, recurses := true, apart := false }
def TermSignsSaid : Prop := termSignsRow.holds Try.pinned (OpenSpec.ofChange termSignsSpec)

/-- ITS FALSE NEIGHBOUR: 'it returns false'. Refute it at one input. -/
def termSignsWrong : ChangeSpec := { name := "termSigns", fn := fun _ => fun
  | [d] => { results := [.lit (.bool false)], args := [d] }
  | _ => none }
def TermSignsWrongFalsely : Prop := termSignsRow.holds Try.pinned (OpenSpec.ofChange termSignsWrong)

/-- 'retracelaw07.SpotOf': WHATEVER THE INPUT: true; the input reads as it did. -/
def spotOfSpec : ChangeSpec := { name := "spotOf", fn := fun _ => fun
  | [d1, d2] => { results := [.lit (.bool true)], args := [d1, d2] }
  | _ => none }
def spotOfRow : OpenClaim := { program := "ytahppcghgmhkiaa", sum := "09467b75398a117a4e06e9960e2ae90566185b2620b47c1226354017bc928551", func := "retrace/retracelaw07.SpotOf", spec := "spotOf", inPlace := ["internal/bytealg.CountString", "internal/bytealg.IndexByteString", "internal/bytealg.IndexString"], named := ["internal/bytealg.MaxLen"], apart := false }
def SpotOfSaid : Prop := spotOfRow.holds Try.pinned (OpenSpec.ofChange spotOfSpec)

/-- ITS FALSE NEIGHBOUR: 'it returns false'. Refute it at one input. -/
def spotOfWrong : ChangeSpec := { name := "spotOf", fn := fun _ => fun
  | [d1, d2] => { results := [.lit (.bool false)], args := [d1, d2] }
  | _ => none }
def SpotOfWrongFalsely : Prop := spotOfRow.holds Try.pinned (OpenSpec.ofChange spotOfWrong)

/-- 'retracelaw08.TokenNext': WHATEVER THE INPUT: true; the input reads as it did. -/
def tokenNextSpec : ChangeSpec := { name := "tokenNext", fn := fun _ => fun
  | [d1, d2] => { results := [.lit (.bool true)], args := [d1, d2] }
  | _ => none }
def tokenNextRow : OpenClaim := { program := "ytahppcghgmhkiaa", sum := "09467b75398a117a4e06e9960e2ae90566185b2620b47c1226354017bc928551", func := "retrace/retracelaw08.TokenNext", spec := "tokenNext", inPlace := ["internal/bytealg.IndexByteString"], unfollowed := true, recurses := true, apart := false }
def TokenNextSaid : Prop := tokenNextRow.holds Try.pinned (OpenSpec.ofChange tokenNextSpec)

/-- ITS FALSE NEIGHBOUR: 'it returns false'. Refute it at one input. -/
def tokenNextWrong : ChangeSpec := { name := "tokenNext", fn := fun _ => fun
  | [d1, d2] => { results := [.lit (.bool false)], args := [d1, d2] }
  | _ => none }
def TokenNextWrongFalsely : Prop := tokenNextRow.holds Try.pinned (OpenSpec.ofChange tokenNextWrong)

/-- 'retracelaw08.TokenAll': WHATEVER THE INPUT: true; the input reads as it did. -/
def tokenAllSpec : ChangeSpec := { name := "tokenAll", fn := fun _ => fun
  | [d1, d2] => { results := [.lit (.bool true)], args := [d1, d2] }
  | _ => none }
def tokenAllRow : OpenClaim := { program := "ytahppcghgmhkiaa", sum := "09467b75398a117a4e06e9960e2ae90566185b2620b47c1226354017bc928551", func := "retrace/retracelaw08.TokenAll", spec := "tokenAll", inPlace := ["internal/bytealg.IndexByteString"], unfollowed := true, recurses := true, apart := false }
def TokenAllSaid : Prop := tokenAllRow.holds Try.pinned (OpenSpec.ofChange tokenAllSpec)

/-- ITS FALSE NEIGHBOUR: 'it returns false'. Refute it at one input. -/
def tokenAllWrong : ChangeSpec := { name := "tokenAll", fn := fun _ => fun
  | [d1, d2] => { results := [.lit (.bool false)], args := [d1, d2] }
  | _ => none }
def TokenAllWrongFalsely : Prop := tokenAllRow.holds Try.pinned (OpenSpec.ofChange tokenAllWrong)

/-- 'retracelaw08.TokenNames': WHATEVER THE INPUT: true; the input reads as it did. -/
def tokenNamesSpec : ChangeSpec := { name := "tokenNames", fn := fun _ => fun
  | [d] => { results := [.lit (.bool true)], args := [d] }
  | _ => none }
def tokenNamesRow : OpenClaim := { program := "ytahppcghgmhkiaa", sum := "09467b75398a117a4e06e9960e2ae90566185b2620b47c1226354017bc928551", func := "retrace/retracelaw08.TokenNames", spec := "tokenNames", inPlace := ["internal/bytealg.IndexByteString"], unfollowed := true, recurses := true, apart := false }
def TokenNamesSaid : Prop := tokenNamesRow.holds Try.pinned (OpenSpec.ofChange tokenNamesSpec)

/-- ITS FALSE NEIGHBOUR: 'it returns false'. Refute it at one input. -/
def tokenNamesWrong : ChangeSpec := { name := "tokenNames", fn := fun _ => fun
  | [d] => { results := [.lit (.bool false)], args := [d] }
  | _ => none }
def TokenNamesWrongFalsely : Prop := tokenNamesRow.holds Try.pinned (OpenSpec.ofChange tokenNamesWrong)

/-- 'retracelaw08.TokenBack': WHATEVER THE INPUT: true; the input reads as it did. -/
def tokenBackSpec : ChangeSpec := { name := "tokenBack", fn := fun _ => fun
  | [d1, d2] => { results := [.lit (.bool true)], args := [d1, d2] }
  | _ => none }
def tokenBackRow : OpenClaim := { program := "ytahppcghgmhkiaa", sum := "09467b75398a117a4e06e9960e2ae90566185b2620b47c1226354017bc928551", func := "retrace/retracelaw08.TokenBack", spec := "tokenBack", inPlace := ["internal/bytealg.IndexByteString"], unfollowed := true, recurses := true, apart := false }
def TokenBackSaid : Prop := tokenBackRow.holds Try.pinned (OpenSpec.ofChange tokenBackSpec)

/-- ITS FALSE NEIGHBOUR: 'it returns false'. Refute it at one input. -/
def tokenBackWrong : ChangeSpec := { name := "tokenBack", fn := fun _ => fun
  | [d1, d2] => { results := [.lit (.bool false)], args := [d1, d2] }
  | _ => none }
def TokenBackWrongFalsely : Prop := tokenBackRow.holds Try.pinned (OpenSpec.ofChange tokenBackWrong)

/-- 'retracelaw07.SpotLines': WHATEVER THE INPUT: true; the input reads as it did. -/
def spotLinesSpec : ChangeSpec := { name := "spotLines", fn := fun _ => fun
  | [d1, d2, d3] => { results := [.lit (.bool true)], args := [d1, d2, d3] }
  | _ => none }
def spotLinesRow : OpenClaim := { program := "ytahppcghgmhkiaa", sum := "09467b75398a117a4e06e9960e2ae90566185b2620b47c1226354017bc928551", func := "retrace/retracelaw07.SpotLines", spec := "spotLines", inPlace := ["internal/bytealg.CountString", "internal/bytealg.IndexByteString", "internal/bytealg.IndexString"], unfollowed := true, recurses := true, named := ["internal/bytealg.MaxLen"], apart := false }
def SpotLinesSaid : Prop := spotLinesRow.holds Try.pinned (OpenSpec.ofChange spotLinesSpec)

/-- ITS FALSE NEIGHBOUR: 'it returns false'. Refute it at one input. -/
def spotLinesWrong : ChangeSpec := { name := "spotLines", fn := fun _ => fun
  | [d1, d2, d3] => { results := [.lit (.bool false)], args := [d1, d2, d3] }
  | _ => none }
def SpotLinesWrongFalsely : Prop := spotLinesRow.holds Try.pinned (OpenSpec.ofChange spotLinesWrong)

/-- 'retracelaw07.SpotAt': WHATEVER THE INPUT: true; the input reads as it did. -/
def spotAtSpec : ChangeSpec := { name := "spotAt", fn := fun _ => fun
  | [d1, d2, d3] => { results := [.lit (.bool true)], args := [d1, d2, d3] }
  | _ => none }
def spotAtRow : OpenClaim := { program := "ytahppcghgmhkiaa", sum := "09467b75398a117a4e06e9960e2ae90566185b2620b47c1226354017bc928551", func := "retrace/retracelaw07.SpotAt", spec := "spotAt", inPlace := ["internal/bytealg.CountString", "internal/bytealg.IndexByteString", "internal/bytealg.IndexString"], unfollowed := true, recurses := true, named := ["internal/bytealg.MaxLen"], apart := false }
def SpotAtSaid : Prop := spotAtRow.holds Try.pinned (OpenSpec.ofChange spotAtSpec)

/-- ITS FALSE NEIGHBOUR: 'it returns false'. Refute it at one input. -/
def spotAtWrong : ChangeSpec := { name := "spotAt", fn := fun _ => fun
  | [d1, d2, d3] => { results := [.lit (.bool false)], args := [d1, d2, d3] }
  | _ => none }
def SpotAtWrongFalsely : Prop := spotAtRow.holds Try.pinned (OpenSpec.ofChange spotAtWrong)

/-- 'retracelaw07.SpotBack': WHATEVER THE INPUT: true; the input reads as it did. -/
def spotBackSpec : ChangeSpec := { name := "spotBack", fn := fun _ => fun
  | [d1, d2] => { results := [.lit (.bool true)], args := [d1, d2] }
  | _ => none }
def spotBackRow : OpenClaim := { program := "ytahppcghgmhkiaa", sum := "09467b75398a117a4e06e9960e2ae90566185b2620b47c1226354017bc928551", func := "retrace/retracelaw07.SpotBack", spec := "spotBack", inPlace := ["internal/bytealg.CountString", "internal/bytealg.IndexByteString", "internal/bytealg.IndexString"], unfollowed := true, recurses := true, named := ["internal/bytealg.MaxLen"], apart := false }
def SpotBackSaid : Prop := spotBackRow.holds Try.pinned (OpenSpec.ofChange spotBackSpec)

/-- ITS FALSE NEIGHBOUR: 'it returns false'. Refute it at one input. -/
def spotBackWrong : ChangeSpec := { name := "spotBack", fn := fun _ => fun
  | [d1, d2] => { results := [.lit (.bool false)], args := [d1, d2] }
  | _ => none }
def SpotBackWrongFalsely : Prop := spotBackRow.holds Try.pinned (OpenSpec.ofChange spotBackWrong)

/- THE SECOND FORM. 'bulk': how many values and letters a reading holds, each counted each time it is reached (what is shared counts as often as it is met; a slice's spare places count too). A statement '..UptoSaid' is the law's where the arguments, and the package variables that the reading takes, are together of bulk at most 1048576: NARROWER than '..Said'. Prove '..Said' where nothing that the law and all that it calls make is longer than what came in: it says more and counts as full. Else prove '..UptoSaid'. A law counts once. -/
mutual
def uptoBulk {H : Type} : DataW H → Nat
  | .lit (.string bytes) => bytes.length + 1
  | .lit _ => 1
  | .nil => 1
  | .ptr d => uptoBulk d + 1
  | .slice elems spare => uptoBulkAll elems + uptoBulkAll spare + 1
  | .agg parts => uptoBulkAll parts + 1
  | .iface _ d => uptoBulk d + 1
  | .map entries => uptoBulkEntries entries + 1
  | .held _ => 1
def uptoBulkAll {H : Type} : List (DataW H) → Nat
  | [] => 0
  | d :: r => uptoBulk d + uptoBulkAll r
def uptoBulkEntries {H : Type} : List (Lit × DataW H) → Nat
  | [] => 0
  | x :: r => uptoBulkEntry x + uptoBulkEntries r
def uptoBulkEntry {H : Type} : Lit × DataW H → Nat
  | (.string bytes, d) => bytes.length + uptoBulk d + 1
  | (_, d) => uptoBulk d + 1
 end
def uptoSmall : (H : Type) → List (DataW H) → Bool := fun _ ds => decide (uptoBulkAll ds ≤ 1048576)
def OpenSpec.upto (s : _root_.Go.ChangeSpec) : _root_.Go.OpenSpec := { _root_.Go.OpenSpec.ofChange s with cond := some uptoSmall }

/-- 'retracelaw10.TermParses', WHERE WHAT IT READS IS OF BULK AT MOST 1048576: true; the input reads as it did. -/
def termParsesUptoRow : OpenClaim := { program := "ytahppcghgmhkiaa", sum := "09467b75398a117a4e06e9960e2ae90566185b2620b47c1226354017bc928551", func := "retrace/retracelaw10.TermParses", spec := "termParses", unfollowed := true, recurses := true, apart := false, narrowed := true }
def TermParsesUptoSaid : Prop := termParsesUptoRow.holds Try.pinned (OpenSpec.upto termParsesSpec)

/-- 'retracelaw10.TermTexts', WHERE WHAT IT READS IS OF BULK AT MOST 1048576: true; the input reads as it did. -/
def termTextsUptoRow : OpenClaim := { program := "ytahppcghgmhkiaa", sum := "09467b75398a117a4e06e9960e2ae90566185b2620b47c1226354017bc928551", func := "retrace/retracelaw10.TermTexts", spec := "termTexts", unfollowed := true, recurses := true, apart := false, narrowed := true }
def TermTextsUptoSaid : Prop := termTextsUptoRow.holds Try.pinned (OpenSpec.upto termTextsSpec)

/-- 'retracelaw10.TermDeep', WHERE WHAT IT READS IS OF BULK AT MOST 1048576: true; the input reads as it did. -/
def termDeepUptoRow : OpenClaim := { program := "ytahppcghgmhkiaa", sum := "09467b75398a117a4e06e9960e2ae90566185b2620b47c1226354017bc928551", func := "retrace/retracelaw10.TermDeep", spec := "termDeep", unfollowed := true, recurses := true, apart := false, narrowed := true }
def TermDeepUptoSaid : Prop := termDeepUptoRow.holds Try.pinned (OpenSpec.upto termDeepSpec)

/-- 'retracelaw10.TermSigns', WHERE WHAT IT READS IS OF BULK AT MOST 1048576: true; the input reads as it did. -/
def termSignsUptoRow : OpenClaim := { program := "ytahppcghgmhkiaa", sum := "09467b75398a117a4e06e9960e2ae90566185b2620b47c1226354017bc928551", func := "retrace/retracelaw10.TermSigns", spec := "termSigns", unfollowed := true, recurses := true, apart := false, narrowed := true }
def TermSignsUptoSaid : Prop := termSignsUptoRow.holds Try.pinned (OpenSpec.upto termSignsSpec)

/-- 'retracelaw07.SpotOf', WHERE WHAT IT READS IS OF BULK AT MOST 1048576: true; the input reads as it did. -/
def spotOfUptoRow : OpenClaim := { program := "ytahppcghgmhkiaa", sum := "09467b75398a117a4e06e9960e2ae90566185b2620b47c1226354017bc928551", func := "retrace/retracelaw07.SpotOf", spec := "spotOf", inPlace := ["internal/bytealg.CountString", "internal/bytealg.IndexByteString", "internal/bytealg.IndexString"], named := ["internal/bytealg.MaxLen"], apart := false, narrowed := true }
def SpotOfUptoSaid : Prop := spotOfUptoRow.holds Try.pinned (OpenSpec.upto spotOfSpec)

/-- 'retracelaw08.TokenNext', WHERE WHAT IT READS IS OF BULK AT MOST 1048576: true; the input reads as it did. -/
def tokenNextUptoRow : OpenClaim := { program := "ytahppcghgmhkiaa", sum := "09467b75398a117a4e06e9960e2ae90566185b2620b47c1226354017bc928551", func := "retrace/retracelaw08.TokenNext", spec := "tokenNext", inPlace := ["internal/bytealg.IndexByteString"], unfollowed := true, recurses := true, apart := false, narrowed := true }
def TokenNextUptoSaid : Prop := tokenNextUptoRow.holds Try.pinned (OpenSpec.upto tokenNextSpec)

/-- 'retracelaw08.TokenAll', WHERE WHAT IT READS IS OF BULK AT MOST 1048576: true; the input reads as it did. -/
def tokenAllUptoRow : OpenClaim := { program := "ytahppcghgmhkiaa", sum := "09467b75398a117a4e06e9960e2ae90566185b2620b47c1226354017bc928551", func := "retrace/retracelaw08.TokenAll", spec := "tokenAll", inPlace := ["internal/bytealg.IndexByteString"], unfollowed := true, recurses := true, apart := false, narrowed := true }
def TokenAllUptoSaid : Prop := tokenAllUptoRow.holds Try.pinned (OpenSpec.upto tokenAllSpec)

/-- 'retracelaw08.TokenNames', WHERE WHAT IT READS IS OF BULK AT MOST 1048576: true; the input reads as it did. -/
def tokenNamesUptoRow : OpenClaim := { program := "ytahppcghgmhkiaa", sum := "09467b75398a117a4e06e9960e2ae90566185b2620b47c1226354017bc928551", func := "retrace/retracelaw08.TokenNames", spec := "tokenNames", inPlace := ["internal/bytealg.IndexByteString"], unfollowed := true, recurses := true, apart := false, narrowed := true }
def TokenNamesUptoSaid : Prop := tokenNamesUptoRow.holds Try.pinned (OpenSpec.upto tokenNamesSpec)

/-- 'retracelaw08.TokenBack', WHERE WHAT IT READS IS OF BULK AT MOST 1048576: true; the input reads as it did. -/
def tokenBackUptoRow : OpenClaim := { program := "ytahppcghgmhkiaa", sum := "09467b75398a117a4e06e9960e2ae90566185b2620b47c1226354017bc928551", func := "retrace/retracelaw08.TokenBack", spec := "tokenBack", inPlace := ["internal/bytealg.IndexByteString"], unfollowed := true, recurses := true, apart := false, narrowed := true }
def TokenBackUptoSaid : Prop := tokenBackUptoRow.holds Try.pinned (OpenSpec.upto tokenBackSpec)

/-- 'retracelaw07.SpotLines', WHERE WHAT IT READS IS OF BULK AT MOST 1048576: true; the input reads as it did. -/
def spotLinesUptoRow : OpenClaim := { program := "ytahppcghgmhkiaa", sum := "09467b75398a117a4e06e9960e2ae90566185b2620b47c1226354017bc928551", func := "retrace/retracelaw07.SpotLines", spec := "spotLines", inPlace := ["internal/bytealg.CountString", "internal/bytealg.IndexByteString", "internal/bytealg.IndexString"], unfollowed := true, recurses := true, named := ["internal/bytealg.MaxLen"], apart := false, narrowed := true }
def SpotLinesUptoSaid : Prop := spotLinesUptoRow.holds Try.pinned (OpenSpec.upto spotLinesSpec)

/-- 'retracelaw07.SpotAt', WHERE WHAT IT READS IS OF BULK AT MOST 1048576: true; the input reads as it did. -/
def spotAtUptoRow : OpenClaim := { program := "ytahppcghgmhkiaa", sum := "09467b75398a117a4e06e9960e2ae90566185b2620b47c1226354017bc928551", func := "retrace/retracelaw07.SpotAt", spec := "spotAt", inPlace := ["internal/bytealg.CountString", "internal/bytealg.IndexByteString", "internal/bytealg.IndexString"], unfollowed := true, recurses := true, named := ["internal/bytealg.MaxLen"], apart := false, narrowed := true }
def SpotAtUptoSaid : Prop := spotAtUptoRow.holds Try.pinned (OpenSpec.upto spotAtSpec)

/-- 'retracelaw07.SpotBack', WHERE WHAT IT READS IS OF BULK AT MOST 1048576: true; the input reads as it did. -/
def spotBackUptoRow : OpenClaim := { program := "ytahppcghgmhkiaa", sum := "09467b75398a117a4e06e9960e2ae90566185b2620b47c1226354017bc928551", func := "retrace/retracelaw07.SpotBack", spec := "spotBack", inPlace := ["internal/bytealg.CountString", "internal/bytealg.IndexByteString", "internal/bytealg.IndexString"], unfollowed := true, recurses := true, named := ["internal/bytealg.MaxLen"], apart := false, narrowed := true }
def SpotBackUptoSaid : Prop := spotBackUptoRow.holds Try.pinned (OpenSpec.upto spotBackSpec)

end Rows
end Go.Proofs.Ytahppcghgmhkiaa
