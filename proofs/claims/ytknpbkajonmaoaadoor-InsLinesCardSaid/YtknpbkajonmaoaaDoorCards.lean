/-
  DERIVED. GIVEN WITH THE SEED: THE CARDS: each row of YtknpbkajonmaoaaDoorRows.lean that lists a variable, with what it lists TIED to the program's text (the seventh form; the later family's looks); each row that meets fmt, with fmt's text TOLD by the authors' own Lean function (tested against real Go, not proved from fmt's source: count such statements apart). THE CARD IS WHAT COUNTS. Prove the row's statement (the work); the ties are given (YtknpbkajonmaoaaDoorTie.lean); close each card by the builder's one call (the guide's Derived/Test/ToyasCard.lean, 'card_holds'). Laid BY PROGRAM, IN A SANDBOX (cutbox-door.mjs). By AI agents, Wed Nov 11 2026. No macro, syntax, notation, axiom, sorry.
-/
import Derived.Test.YtknpbkajonmaoaaDoorRows
import GoSem.ClaimSeven
namespace Go.Proofs.YtknpbkajonmaoaaDoor
namespace Rows

/-- THE TIED CARD OF 'retracelaw44.ScriptLines'. -/
def scriptLinesCard : Claim7 := { stood := { row := scriptLinesRow, standIns := [], harness := (true, "2b4fb7992c4a3508b620576f71c0939d8ead257678e7b1fd4e61e28787b3487e"), looks := true }, kinds := [], alts := [], laidByText := true, laidKinds := [.data, .data, .data, .sentinel, .sentinel], laidTests := true, laidLooks := .later }
def ScriptLinesCardSaid : Prop := Claim7.holds Tryd.pinned (.plain (OpenSpec.ofChange scriptLinesSpec)) scriptLinesCard

/-- THE TIED CARD OF 'retracelaw44.ScriptReads'. -/
def scriptReadsCard : Claim7 := { stood := { row := scriptReadsRow, standIns := [], harness := (true, "2b4fb7992c4a3508b620576f71c0939d8ead257678e7b1fd4e61e28787b3487e"), looks := true }, kinds := [], alts := [], laidByText := true, laidKinds := [.data, .data, .data, .sentinel, .sentinel], laidTests := true, laidLooks := .later }
def ScriptReadsCardSaid : Prop := Claim7.holds Tryd.pinned (.plain (OpenSpec.ofChange scriptReadsSpec)) scriptReadsCard

/-- THE TIED CARD OF 'retracelaw44.ScriptAll'. -/
def scriptAllCard : Claim7 := { stood := { row := scriptAllRow, standIns := [], harness := (true, "2b4fb7992c4a3508b620576f71c0939d8ead257678e7b1fd4e61e28787b3487e"), looks := true }, kinds := [], alts := [], laidByText := true, laidKinds := [.data, .data, .data, .sentinel, .sentinel], laidTests := true, laidLooks := .later }
def ScriptAllCardSaid : Prop := Claim7.holds Tryd.pinned (.plain (OpenSpec.ofChange scriptAllSpec)) scriptAllCard

/-- THE TIED CARD OF 'retracelaw16.InsPuts'. -/
def insPutsCard : Claim7 := { stood := { row := insPutsRow, standIns := [], harness := (true, "2b4fb7992c4a3508b620576f71c0939d8ead257678e7b1fd4e61e28787b3487e"), looks := true }, kinds := [], alts := [], laidByText := true, laidKinds := [.data, .data, .data, .data, .sentinel, .sentinel, .pinned], laidTests := true, laidLooks := .later }
def InsPutsCardSaid : Prop := Claim7.holds Tryd.pinned (.plain (OpenSpec.ofChange insPutsSpec)) insPutsCard

/-- THE TIED CARD OF 'retracelaw16.InsGets'. -/
def insGetsCard : Claim7 := { stood := { row := insGetsRow, standIns := [], harness := (true, "2b4fb7992c4a3508b620576f71c0939d8ead257678e7b1fd4e61e28787b3487e"), looks := true }, kinds := [], alts := [], laidByText := true, laidKinds := [.data, .data, .data, .data, .sentinel, .sentinel, .pinned], laidTests := true, laidLooks := .later }
def InsGetsCardSaid : Prop := Claim7.holds Tryd.pinned (.plain (OpenSpec.ofChange insGetsSpec)) insGetsCard

/-- THE TIED CARD OF 'retracelaw16.InsBack'. -/
def insBackCard : Claim7 := { stood := { row := insBackRow, standIns := [], harness := (true, "2b4fb7992c4a3508b620576f71c0939d8ead257678e7b1fd4e61e28787b3487e"), looks := true }, kinds := [], alts := [], laidByText := true, laidKinds := [.data, .data, .data, .data, .sentinel, .sentinel, .pinned], laidTests := true, laidLooks := .later }
def InsBackCardSaid : Prop := Claim7.holds Tryd.pinned (.plain (OpenSpec.ofChange insBackSpec)) insBackCard

/-- THE TIED CARD OF 'retracelaw16.InsLines'. -/
def insLinesCard : Claim7 := { stood := { row := insLinesRow, standIns := [], harness := (true, "2b4fb7992c4a3508b620576f71c0939d8ead257678e7b1fd4e61e28787b3487e"), looks := true }, kinds := [], alts := [], laidByText := true, laidKinds := [.data, .data, .data, .data, .sentinel, .sentinel, .pinned], laidTests := true, laidLooks := .later }
def InsLinesCardSaid : Prop := Claim7.holds Tryd.pinned (.plain (OpenSpec.ofChange insLinesSpec)) insLinesCard

/-- THE TIED CARD OF 'retracelaw16.InsTells'. -/
def insTellsCard : Claim7 := { stood := { row := insTellsRow, standIns := [], harness := (true, "2b4fb7992c4a3508b620576f71c0939d8ead257678e7b1fd4e61e28787b3487e"), looks := true }, kinds := [], alts := [], laidByText := true, laidKinds := [.data, .data, .data, .data, .sentinel, .sentinel, .pinned], laidTests := true, laidLooks := .later }
def InsTellsCardSaid : Prop := Claim7.holds Tryd.pinned (.plain (OpenSpec.ofChange insTellsSpec)) insTellsCard

/-- THE SECOND FORM's CARD OF 'retracelaw44.ScriptLines'. -/
def scriptLinesUptoCard : Claim7 := { stood := { row := scriptLinesUptoRow, standIns := [], harness := (true, "2b4fb7992c4a3508b620576f71c0939d8ead257678e7b1fd4e61e28787b3487e"), looks := true }, kinds := [], alts := [], laidByText := true, laidKinds := [.data, .data, .data, .sentinel, .sentinel], laidTests := true, laidLooks := .later }
def ScriptLinesUptoCardSaid : Prop := Claim7.holds Tryd.pinned (.plain (OpenSpec.upto scriptLinesSpec)) scriptLinesUptoCard

/-- THE SECOND FORM's CARD OF 'retracelaw44.ScriptReads'. -/
def scriptReadsUptoCard : Claim7 := { stood := { row := scriptReadsUptoRow, standIns := [], harness := (true, "2b4fb7992c4a3508b620576f71c0939d8ead257678e7b1fd4e61e28787b3487e"), looks := true }, kinds := [], alts := [], laidByText := true, laidKinds := [.data, .data, .data, .sentinel, .sentinel], laidTests := true, laidLooks := .later }
def ScriptReadsUptoCardSaid : Prop := Claim7.holds Tryd.pinned (.plain (OpenSpec.upto scriptReadsSpec)) scriptReadsUptoCard

/-- THE SECOND FORM's CARD OF 'retracelaw44.ScriptAll'. -/
def scriptAllUptoCard : Claim7 := { stood := { row := scriptAllUptoRow, standIns := [], harness := (true, "2b4fb7992c4a3508b620576f71c0939d8ead257678e7b1fd4e61e28787b3487e"), looks := true }, kinds := [], alts := [], laidByText := true, laidKinds := [.data, .data, .data, .sentinel, .sentinel], laidTests := true, laidLooks := .later }
def ScriptAllUptoCardSaid : Prop := Claim7.holds Tryd.pinned (.plain (OpenSpec.upto scriptAllSpec)) scriptAllUptoCard

/-- THE SECOND FORM's CARD OF 'retracelaw16.InsPuts'. -/
def insPutsUptoCard : Claim7 := { stood := { row := insPutsUptoRow, standIns := [], harness := (true, "2b4fb7992c4a3508b620576f71c0939d8ead257678e7b1fd4e61e28787b3487e"), looks := true }, kinds := [], alts := [], laidByText := true, laidKinds := [.data, .data, .data, .data, .sentinel, .sentinel, .pinned], laidTests := true, laidLooks := .later }
def InsPutsUptoCardSaid : Prop := Claim7.holds Tryd.pinned (.plain (OpenSpec.upto insPutsSpec)) insPutsUptoCard

/-- THE SECOND FORM's CARD OF 'retracelaw16.InsGets'. -/
def insGetsUptoCard : Claim7 := { stood := { row := insGetsUptoRow, standIns := [], harness := (true, "2b4fb7992c4a3508b620576f71c0939d8ead257678e7b1fd4e61e28787b3487e"), looks := true }, kinds := [], alts := [], laidByText := true, laidKinds := [.data, .data, .data, .data, .sentinel, .sentinel, .pinned], laidTests := true, laidLooks := .later }
def InsGetsUptoCardSaid : Prop := Claim7.holds Tryd.pinned (.plain (OpenSpec.upto insGetsSpec)) insGetsUptoCard

/-- THE SECOND FORM's CARD OF 'retracelaw16.InsBack'. -/
def insBackUptoCard : Claim7 := { stood := { row := insBackUptoRow, standIns := [], harness := (true, "2b4fb7992c4a3508b620576f71c0939d8ead257678e7b1fd4e61e28787b3487e"), looks := true }, kinds := [], alts := [], laidByText := true, laidKinds := [.data, .data, .data, .data, .sentinel, .sentinel, .pinned], laidTests := true, laidLooks := .later }
def InsBackUptoCardSaid : Prop := Claim7.holds Tryd.pinned (.plain (OpenSpec.upto insBackSpec)) insBackUptoCard

/-- THE SECOND FORM's CARD OF 'retracelaw16.InsLines'. -/
def insLinesUptoCard : Claim7 := { stood := { row := insLinesUptoRow, standIns := [], harness := (true, "2b4fb7992c4a3508b620576f71c0939d8ead257678e7b1fd4e61e28787b3487e"), looks := true }, kinds := [], alts := [], laidByText := true, laidKinds := [.data, .data, .data, .data, .sentinel, .sentinel, .pinned], laidTests := true, laidLooks := .later }
def InsLinesUptoCardSaid : Prop := Claim7.holds Tryd.pinned (.plain (OpenSpec.upto insLinesSpec)) insLinesUptoCard

/-- THE SECOND FORM's CARD OF 'retracelaw16.InsTells'. -/
def insTellsUptoCard : Claim7 := { stood := { row := insTellsUptoRow, standIns := [], harness := (true, "2b4fb7992c4a3508b620576f71c0939d8ead257678e7b1fd4e61e28787b3487e"), looks := true }, kinds := [], alts := [], laidByText := true, laidKinds := [.data, .data, .data, .data, .sentinel, .sentinel, .pinned], laidTests := true, laidLooks := .later }
def InsTellsUptoCardSaid : Prop := Claim7.holds Tryd.pinned (.plain (OpenSpec.upto insTellsSpec)) insTellsUptoCard
end Rows
end Go.Proofs.YtknpbkajonmaoaaDoor
