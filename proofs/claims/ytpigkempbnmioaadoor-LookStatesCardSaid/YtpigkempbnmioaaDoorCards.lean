/-
  DERIVED. GIVEN WITH THE SEED: THE CARDS: each row of YtpigkempbnmioaaDoorRows.lean that lists a variable, with what it lists TIED to the program's text (the seventh form; the later family's looks); each row that meets fmt, with fmt's text TOLD by the authors' own Lean function (tested against real Go, not proved from fmt's source: count such statements apart). THE CARD IS WHAT COUNTS. Prove the row's statement (the work); the ties are given (YtpigkempbnmioaaDoorTie.lean); close each card by the builder's one call (the guide's Derived/Test/ToyasCard.lean, 'card_holds'). Laid BY PROGRAM, IN A SANDBOX (cutbox-door.mjs). By AI agents, Wed Nov 11 2026. No macro, syntax, notation, axiom, sorry.
-/
import Derived.Test.YtpigkempbnmioaaDoorRows
import GoSem.ClaimSeven
namespace Go.Proofs.YtpigkempbnmioaaDoor
namespace Rows

/-- THE TIED CARD OF 'retracelaw40.LookHappens'. -/
def lookHappensCard : Claim7 := { stood := { row := lookHappensRow, standIns := [], harness := (true, "e004d38ca546def2cc8b2f3f648f207467c74079882cf6095f45060f0a58a920"), looks := true }, kinds := [], alts := [], laidByText := true, laidKinds := [.data, .data, .data], laidTests := true, laidLooks := .later }
def LookHappensCardSaid : Prop := Claim7.holds Tryd.pinned (.plain (OpenSpec.ofChange lookHappensSpec)) lookHappensCard

/-- THE TIED CARD OF 'retracelaw40.LookStates'. -/
def lookStatesCard : Claim7 := { stood := { row := lookStatesRow, standIns := [], harness := (true, "e004d38ca546def2cc8b2f3f648f207467c74079882cf6095f45060f0a58a920"), looks := true }, kinds := [], alts := [], laidByText := true, laidKinds := [.data, .data, .data], laidTests := true, laidLooks := .later }
def LookStatesCardSaid : Prop := Claim7.holds Tryd.pinned (.plain (OpenSpec.ofChange lookStatesSpec)) lookStatesCard

/-- THE TIED CARD OF 'retracelaw40.LookLines'. -/
def lookLinesCard : Claim7 := { stood := { row := lookLinesRow, standIns := [], harness := (true, "e004d38ca546def2cc8b2f3f648f207467c74079882cf6095f45060f0a58a920"), looks := true }, kinds := [], alts := [], laidByText := true, laidKinds := [.data, .data, .data], laidTests := true, laidLooks := .later }
def LookLinesCardSaid : Prop := Claim7.holds Tryd.pinned (.plain (OpenSpec.ofChange lookLinesSpec)) lookLinesCard

/-- THE TIED CARD OF 'retracelaw44.ScriptLines'. -/
def scriptLinesCard : Claim7 := { stood := { row := scriptLinesRow, standIns := [], harness := (true, "e004d38ca546def2cc8b2f3f648f207467c74079882cf6095f45060f0a58a920"), looks := true }, kinds := [], alts := [], laidByText := true, laidKinds := [.data, .data, .data, .sentinel, .sentinel], laidTests := true, laidLooks := .later }
def ScriptLinesCardSaid : Prop := Claim7.holds Tryd.pinned (.plain (OpenSpec.ofChange scriptLinesSpec)) scriptLinesCard

/-- THE TIED CARD OF 'retracelaw44.ScriptReads'. -/
def scriptReadsCard : Claim7 := { stood := { row := scriptReadsRow, standIns := [], harness := (true, "e004d38ca546def2cc8b2f3f648f207467c74079882cf6095f45060f0a58a920"), looks := true }, kinds := [], alts := [], laidByText := true, laidKinds := [.data, .data, .data, .sentinel, .sentinel], laidTests := true, laidLooks := .later }
def ScriptReadsCardSaid : Prop := Claim7.holds Tryd.pinned (.plain (OpenSpec.ofChange scriptReadsSpec)) scriptReadsCard

/-- THE TIED CARD OF 'retracelaw44.ScriptAll'. -/
def scriptAllCard : Claim7 := { stood := { row := scriptAllRow, standIns := [], harness := (true, "e004d38ca546def2cc8b2f3f648f207467c74079882cf6095f45060f0a58a920"), looks := true }, kinds := [], alts := [], laidByText := true, laidKinds := [.data, .data, .data, .sentinel, .sentinel], laidTests := true, laidLooks := .later }
def ScriptAllCardSaid : Prop := Claim7.holds Tryd.pinned (.plain (OpenSpec.ofChange scriptAllSpec)) scriptAllCard

/-- THE SECOND FORM's CARD OF 'retracelaw40.LookHappens'. -/
def lookHappensUptoCard : Claim7 := { stood := { row := lookHappensUptoRow, standIns := [], harness := (true, "e004d38ca546def2cc8b2f3f648f207467c74079882cf6095f45060f0a58a920"), looks := true }, kinds := [], alts := [], laidByText := true, laidKinds := [.data, .data, .data], laidTests := true, laidLooks := .later }
def LookHappensUptoCardSaid : Prop := Claim7.holds Tryd.pinned (.plain (OpenSpec.upto lookHappensSpec)) lookHappensUptoCard

/-- THE SECOND FORM's CARD OF 'retracelaw40.LookStates'. -/
def lookStatesUptoCard : Claim7 := { stood := { row := lookStatesUptoRow, standIns := [], harness := (true, "e004d38ca546def2cc8b2f3f648f207467c74079882cf6095f45060f0a58a920"), looks := true }, kinds := [], alts := [], laidByText := true, laidKinds := [.data, .data, .data], laidTests := true, laidLooks := .later }
def LookStatesUptoCardSaid : Prop := Claim7.holds Tryd.pinned (.plain (OpenSpec.upto lookStatesSpec)) lookStatesUptoCard

/-- THE SECOND FORM's CARD OF 'retracelaw40.LookLines'. -/
def lookLinesUptoCard : Claim7 := { stood := { row := lookLinesUptoRow, standIns := [], harness := (true, "e004d38ca546def2cc8b2f3f648f207467c74079882cf6095f45060f0a58a920"), looks := true }, kinds := [], alts := [], laidByText := true, laidKinds := [.data, .data, .data], laidTests := true, laidLooks := .later }
def LookLinesUptoCardSaid : Prop := Claim7.holds Tryd.pinned (.plain (OpenSpec.upto lookLinesSpec)) lookLinesUptoCard

/-- THE SECOND FORM's CARD OF 'retracelaw44.ScriptLines'. -/
def scriptLinesUptoCard : Claim7 := { stood := { row := scriptLinesUptoRow, standIns := [], harness := (true, "e004d38ca546def2cc8b2f3f648f207467c74079882cf6095f45060f0a58a920"), looks := true }, kinds := [], alts := [], laidByText := true, laidKinds := [.data, .data, .data, .sentinel, .sentinel], laidTests := true, laidLooks := .later }
def ScriptLinesUptoCardSaid : Prop := Claim7.holds Tryd.pinned (.plain (OpenSpec.upto scriptLinesSpec)) scriptLinesUptoCard

/-- THE SECOND FORM's CARD OF 'retracelaw44.ScriptReads'. -/
def scriptReadsUptoCard : Claim7 := { stood := { row := scriptReadsUptoRow, standIns := [], harness := (true, "e004d38ca546def2cc8b2f3f648f207467c74079882cf6095f45060f0a58a920"), looks := true }, kinds := [], alts := [], laidByText := true, laidKinds := [.data, .data, .data, .sentinel, .sentinel], laidTests := true, laidLooks := .later }
def ScriptReadsUptoCardSaid : Prop := Claim7.holds Tryd.pinned (.plain (OpenSpec.upto scriptReadsSpec)) scriptReadsUptoCard

/-- THE SECOND FORM's CARD OF 'retracelaw44.ScriptAll'. -/
def scriptAllUptoCard : Claim7 := { stood := { row := scriptAllUptoRow, standIns := [], harness := (true, "e004d38ca546def2cc8b2f3f648f207467c74079882cf6095f45060f0a58a920"), looks := true }, kinds := [], alts := [], laidByText := true, laidKinds := [.data, .data, .data, .sentinel, .sentinel], laidTests := true, laidLooks := .later }
def ScriptAllUptoCardSaid : Prop := Claim7.holds Tryd.pinned (.plain (OpenSpec.upto scriptAllSpec)) scriptAllUptoCard
end Rows
end Go.Proofs.YtpigkempbnmioaaDoor
