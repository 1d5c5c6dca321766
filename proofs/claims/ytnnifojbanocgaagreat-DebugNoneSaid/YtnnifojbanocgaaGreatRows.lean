/-
  No cell of these rows narrows 'for every input' (looked for: loops, veiled, ifaces, maps, wideKeys, modest, calm, conditions, laid).
  DERIVED. THE GIVEN ROWS OF THIS SEAT. 3 by the template 'for every input the law returns true; each argument reads behind the call as it read before'; 0 by the template 'total and deterministic' (their statements: YtnnifojbanocgaaGreatTotals.lean).
  GIVEN WITH THE SEED: the statements are not yours to turn. If you find one false, say at which input.
  Laid BY PROGRAM, IN A SANDBOX (cutbox-rows.mjs): the forced cells as the released guide's own fill.sh prints them over the translation a9d68bcc163e6ee6… (all of the seat's roots in one cut). By AI agents, Wed Nov 11 2026. No macro, syntax, notation, axiom, sorry.
-/
import Derived.Test.YtnnifojbanocgaaGreatChecked
import GoSem.Claim
import GoSem.ClaimJoined
import GoSem.ClaimMapViews
import Derived.JoinedTies
import Derived.KernelRfl
namespace Go.Proofs.YtnnifojbanocgaaGreat
/- THE CELL 'sum', in the pinned program and in every row, IS THE sha256 OF THE DUMP (.gsa) THAT YtnnifojbanocgaaGreatProg.lean LOADS. Nothing in Lean hashes anything: it is a label: what it is worth is what the hold of that sum in a sandbox is worth. -/
noncomputable def Tryz.pinned : Pinned := { name := "ytnnifojbanocgaagreat", sum := "a9d68bcc163e6ee654fbceecc22fc54688f1fe431961177a30a09486bf74d889", checked := Tryz.checked }
namespace Rows
def none {H : Type} : Left H := { results := [], args := [] }

/-- 'retracelaw34.RecordNone': WHATEVER THE INPUT: true; the input reads as it did. -/
def recordNoneSpec : ChangeSpec := { name := "recordNone", fn := fun _ => fun
  | [d] => { results := [.lit (.bool true)], args := [d] }
  | _ => none }
def recordNoneRow : OpenClaim := { program := "ytnnifojbanocgaagreat", sum := "a9d68bcc163e6ee654fbceecc22fc54688f1fe431961177a30a09486bf74d889", func := "retrace/retracelaw34.RecordNone", spec := "recordNone", unfollowed := true, recurses := true, apart := false }
def RecordNoneSaid : Prop := recordNoneRow.holds Tryz.pinned (OpenSpec.ofChange recordNoneSpec)

/-- ITS FALSE NEIGHBOUR: 'it returns false'. Refute it at one input. -/
def recordNoneWrong : ChangeSpec := { name := "recordNone", fn := fun _ => fun
  | [d] => { results := [.lit (.bool false)], args := [d] }
  | _ => none }
def RecordNoneWrongFalsely : Prop := recordNoneRow.holds Tryz.pinned (OpenSpec.ofChange recordNoneWrong)

/-- 'retracelaw35.ReplayNone': WHATEVER THE INPUT: true; the input reads as it did. -/
def replayNoneSpec : ChangeSpec := { name := "replayNone", fn := fun _ => fun
  | [d1, d2] => { results := [.lit (.bool true)], args := [d1, d2] }
  | _ => none }
def replayNoneRow : OpenClaim := { program := "ytnnifojbanocgaagreat", sum := "a9d68bcc163e6ee654fbceecc22fc54688f1fe431961177a30a09486bf74d889", func := "retrace/retracelaw35.ReplayNone", spec := "replayNone", unfollowed := true, recurses := true, apart := false }
def ReplayNoneSaid : Prop := replayNoneRow.holds Tryz.pinned (OpenSpec.ofChange replayNoneSpec)

/-- ITS FALSE NEIGHBOUR: 'it returns false'. Refute it at one input. -/
def replayNoneWrong : ChangeSpec := { name := "replayNone", fn := fun _ => fun
  | [d1, d2] => { results := [.lit (.bool false)], args := [d1, d2] }
  | _ => none }
def ReplayNoneWrongFalsely : Prop := replayNoneRow.holds Tryz.pinned (OpenSpec.ofChange replayNoneWrong)

/-- 'retracelaw39.DebugNone': WHATEVER THE INPUT: true; the input reads as it did. -/
def debugNoneSpec : ChangeSpec := { name := "debugNone", fn := fun _ => fun
  | [d] => { results := [.lit (.bool true)], args := [d] }
  | _ => none }
def debugNoneRow : OpenClaim := { program := "ytnnifojbanocgaagreat", sum := "a9d68bcc163e6ee654fbceecc22fc54688f1fe431961177a30a09486bf74d889", func := "retrace/retracelaw39.DebugNone", spec := "debugNone", inPlace := ["slices.overlaps[int]"], unfollowed := true, recurses := true, apart := false }
def DebugNoneSaid : Prop := debugNoneRow.holds Tryz.pinned (OpenSpec.ofChange debugNoneSpec)

/-- ITS FALSE NEIGHBOUR: 'it returns false'. Refute it at one input. -/
def debugNoneWrong : ChangeSpec := { name := "debugNone", fn := fun _ => fun
  | [d] => { results := [.lit (.bool false)], args := [d] }
  | _ => none }
def DebugNoneWrongFalsely : Prop := debugNoneRow.holds Tryz.pinned (OpenSpec.ofChange debugNoneWrong)

/- THE SECOND FORM. 'bulk': how many values and letters a reading holds, each counted each time it is reached (what is shared counts as often as it is met; a slice's spare places count too). A statement '..UptoSaid' is the law's where the arguments, and the package variables that the reading takes, are together of bulk at most 1048576: NARROWER than '..Said'. Prove '..Said' where nothing that the law and all that it calls make is longer than what came in: it says more and counts as full. Else prove '..UptoSaid'. A law counts once. -/
mutual
def uptoBulk {H : Type} : DataW H → Nat
  | .lit (.string bytes) => bytes.length + 1
  | .lit _ => 1
  | .nil => 1
  | .ptr d => uptoBulk d + 1
  | .slice elems spare => uptoBulkAll elems + uptoBulkAll spare + 1
  | .agg parts => uptoBulkAll parts + 1
  | .iface _ d => uptoBulk d + 1
  | .map entries => uptoBulkEntries entries + 1
  | .held _ => 1
def uptoBulkAll {H : Type} : List (DataW H) → Nat
  | [] => 0
  | d :: r => uptoBulk d + uptoBulkAll r
def uptoBulkEntries {H : Type} : List (Lit × DataW H) → Nat
  | [] => 0
  | x :: r => uptoBulkEntry x + uptoBulkEntries r
def uptoBulkEntry {H : Type} : Lit × DataW H → Nat
  | (.string bytes, d) => bytes.length + uptoBulk d + 1
  | (_, d) => uptoBulk d + 1
 end
def uptoSmall : (H : Type) → List (DataW H) → Bool := fun _ ds => decide (uptoBulkAll ds ≤ 1048576)
def OpenSpec.upto (s : _root_.Go.ChangeSpec) : _root_.Go.OpenSpec := { _root_.Go.OpenSpec.ofChange s with cond := some uptoSmall }

/-- 'retracelaw34.RecordNone', WHERE WHAT IT READS IS OF BULK AT MOST 1048576: true; the input reads as it did. -/
def recordNoneUptoRow : OpenClaim := { program := "ytnnifojbanocgaagreat", sum := "a9d68bcc163e6ee654fbceecc22fc54688f1fe431961177a30a09486bf74d889", func := "retrace/retracelaw34.RecordNone", spec := "recordNone", unfollowed := true, recurses := true, apart := false, narrowed := true }
def RecordNoneUptoSaid : Prop := recordNoneUptoRow.holds Tryz.pinned (OpenSpec.upto recordNoneSpec)

/-- 'retracelaw35.ReplayNone', WHERE WHAT IT READS IS OF BULK AT MOST 1048576: true; the input reads as it did. -/
def replayNoneUptoRow : OpenClaim := { program := "ytnnifojbanocgaagreat", sum := "a9d68bcc163e6ee654fbceecc22fc54688f1fe431961177a30a09486bf74d889", func := "retrace/retracelaw35.ReplayNone", spec := "replayNone", unfollowed := true, recurses := true, apart := false, narrowed := true }
def ReplayNoneUptoSaid : Prop := replayNoneUptoRow.holds Tryz.pinned (OpenSpec.upto replayNoneSpec)

/-- 'retracelaw39.DebugNone', WHERE WHAT IT READS IS OF BULK AT MOST 1048576: true; the input reads as it did. -/
def debugNoneUptoRow : OpenClaim := { program := "ytnnifojbanocgaagreat", sum := "a9d68bcc163e6ee654fbceecc22fc54688f1fe431961177a30a09486bf74d889", func := "retrace/retracelaw39.DebugNone", spec := "debugNone", inPlace := ["slices.overlaps[int]"], unfollowed := true, recurses := true, apart := false, narrowed := true }
def DebugNoneUptoSaid : Prop := debugNoneUptoRow.holds Tryz.pinned (OpenSpec.upto debugNoneSpec)

end Rows
end Go.Proofs.YtnnifojbanocgaaGreat
