/-
  DERIVED. GIVEN WITH THE SEED: THE CARDS: each row of YtldcgfpcnemhpaaDoorRows.lean that lists a variable, with what it lists TIED to the program's text (the seventh form; the later family's looks); each row that meets fmt, with fmt's text TOLD by the authors' own Lean function (tested against real Go, not proved from fmt's source: count such statements apart). THE CARD IS WHAT COUNTS. Prove the row's statement (the work); the ties are given (YtldcgfpcnemhpaaDoorTie.lean); close each card by the builder's one call (the guide's Derived/Test/ToyasCard.lean, 'card_holds'). Laid BY PROGRAM, IN A SANDBOX (cutbox-door.mjs). By AI agents, Wed Nov 11 2026. No macro, syntax, notation, axiom, sorry.
-/
import Derived.Test.YtldcgfpcnemhpaaDoorRows
import GoSem.ClaimSeven
namespace Go.Proofs.YtldcgfpcnemhpaaDoor
namespace Rows

/-- THE TIED CARD OF 'retracelaw40.LookChans'. -/
def lookChansCard : Claim7 := { stood := { row := lookChansRow, standIns := [], harness := (true, "993e244399ccc81292742d1bc8d0133af095652de2bb7e310e4f02e343a4633c"), looks := true }, kinds := [], alts := [], laidByText := true, laidKinds := [.data, .data, .data], laidTests := true, laidLooks := .later }
def LookChansCardSaid : Prop := Claim7.holds Tryd.pinned (.plain (OpenSpec.ofChange lookChansSpec)) lookChansCard

/-- THE TIED CARD OF 'retracelaw40.LookHappens'. -/
def lookHappensCard : Claim7 := { stood := { row := lookHappensRow, standIns := [], harness := (true, "993e244399ccc81292742d1bc8d0133af095652de2bb7e310e4f02e343a4633c"), looks := true }, kinds := [], alts := [], laidByText := true, laidKinds := [.data, .data, .data], laidTests := true, laidLooks := .later }
def LookHappensCardSaid : Prop := Claim7.holds Tryd.pinned (.plain (OpenSpec.ofChange lookHappensSpec)) lookHappensCard

/-- THE TIED CARD OF 'retracelaw40.LookStates'. -/
def lookStatesCard : Claim7 := { stood := { row := lookStatesRow, standIns := [], harness := (true, "993e244399ccc81292742d1bc8d0133af095652de2bb7e310e4f02e343a4633c"), looks := true }, kinds := [], alts := [], laidByText := true, laidKinds := [.data, .data, .data], laidTests := true, laidLooks := .later }
def LookStatesCardSaid : Prop := Claim7.holds Tryd.pinned (.plain (OpenSpec.ofChange lookStatesSpec)) lookStatesCard

/-- THE TIED CARD OF 'retracelaw40.LookLines'. -/
def lookLinesCard : Claim7 := { stood := { row := lookLinesRow, standIns := [], harness := (true, "993e244399ccc81292742d1bc8d0133af095652de2bb7e310e4f02e343a4633c"), looks := true }, kinds := [], alts := [], laidByText := true, laidKinds := [.data, .data, .data], laidTests := true, laidLooks := .later }
def LookLinesCardSaid : Prop := Claim7.holds Tryd.pinned (.plain (OpenSpec.ofChange lookLinesSpec)) lookLinesCard

/-- THE TIED CARD OF 'retracelaw16.InsPuts'. -/
def insPutsCard : Claim7 := { stood := { row := insPutsRow, standIns := [], harness := (true, "993e244399ccc81292742d1bc8d0133af095652de2bb7e310e4f02e343a4633c"), looks := true }, kinds := [], alts := [], laidByText := true, laidKinds := [.data, .data, .data, .data, .sentinel, .sentinel, .pinned], laidTests := true, laidLooks := .later }
def InsPutsCardSaid : Prop := Claim7.holds Tryd.pinned (.plain (OpenSpec.ofChange insPutsSpec)) insPutsCard

/-- THE TIED CARD OF 'retracelaw16.InsGets'. -/
def insGetsCard : Claim7 := { stood := { row := insGetsRow, standIns := [], harness := (true, "993e244399ccc81292742d1bc8d0133af095652de2bb7e310e4f02e343a4633c"), looks := true }, kinds := [], alts := [], laidByText := true, laidKinds := [.data, .data, .data, .data, .sentinel, .sentinel, .pinned], laidTests := true, laidLooks := .later }
def InsGetsCardSaid : Prop := Claim7.holds Tryd.pinned (.plain (OpenSpec.ofChange insGetsSpec)) insGetsCard

/-- THE TIED CARD OF 'retracelaw16.InsBack'. -/
def insBackCard : Claim7 := { stood := { row := insBackRow, standIns := [], harness := (true, "993e244399ccc81292742d1bc8d0133af095652de2bb7e310e4f02e343a4633c"), looks := true }, kinds := [], alts := [], laidByText := true, laidKinds := [.data, .data, .data, .data, .sentinel, .sentinel, .pinned], laidTests := true, laidLooks := .later }
def InsBackCardSaid : Prop := Claim7.holds Tryd.pinned (.plain (OpenSpec.ofChange insBackSpec)) insBackCard

/-- THE TIED CARD OF 'retracelaw16.InsLines'. -/
def insLinesCard : Claim7 := { stood := { row := insLinesRow, standIns := [], harness := (true, "993e244399ccc81292742d1bc8d0133af095652de2bb7e310e4f02e343a4633c"), looks := true }, kinds := [], alts := [], laidByText := true, laidKinds := [.data, .data, .data, .data, .sentinel, .sentinel, .pinned], laidTests := true, laidLooks := .later }
def InsLinesCardSaid : Prop := Claim7.holds Tryd.pinned (.plain (OpenSpec.ofChange insLinesSpec)) insLinesCard

/-- THE TIED CARD OF 'retracelaw16.InsTells'. -/
def insTellsCard : Claim7 := { stood := { row := insTellsRow, standIns := [], harness := (true, "993e244399ccc81292742d1bc8d0133af095652de2bb7e310e4f02e343a4633c"), looks := true }, kinds := [], alts := [], laidByText := true, laidKinds := [.data, .data, .data, .data, .sentinel, .sentinel, .pinned], laidTests := true, laidLooks := .later }
def InsTellsCardSaid : Prop := Claim7.holds Tryd.pinned (.plain (OpenSpec.ofChange insTellsSpec)) insTellsCard

/-- THE SECOND FORM's CARD OF 'retracelaw40.LookChans'. -/
def lookChansUptoCard : Claim7 := { stood := { row := lookChansUptoRow, standIns := [], harness := (true, "993e244399ccc81292742d1bc8d0133af095652de2bb7e310e4f02e343a4633c"), looks := true }, kinds := [], alts := [], laidByText := true, laidKinds := [.data, .data, .data], laidTests := true, laidLooks := .later }
def LookChansUptoCardSaid : Prop := Claim7.holds Tryd.pinned (.plain (OpenSpec.upto lookChansSpec)) lookChansUptoCard

/-- THE SECOND FORM's CARD OF 'retracelaw40.LookHappens'. -/
def lookHappensUptoCard : Claim7 := { stood := { row := lookHappensUptoRow, standIns := [], harness := (true, "993e244399ccc81292742d1bc8d0133af095652de2bb7e310e4f02e343a4633c"), looks := true }, kinds := [], alts := [], laidByText := true, laidKinds := [.data, .data, .data], laidTests := true, laidLooks := .later }
def LookHappensUptoCardSaid : Prop := Claim7.holds Tryd.pinned (.plain (OpenSpec.upto lookHappensSpec)) lookHappensUptoCard

/-- THE SECOND FORM's CARD OF 'retracelaw40.LookStates'. -/
def lookStatesUptoCard : Claim7 := { stood := { row := lookStatesUptoRow, standIns := [], harness := (true, "993e244399ccc81292742d1bc8d0133af095652de2bb7e310e4f02e343a4633c"), looks := true }, kinds := [], alts := [], laidByText := true, laidKinds := [.data, .data, .data], laidTests := true, laidLooks := .later }
def LookStatesUptoCardSaid : Prop := Claim7.holds Tryd.pinned (.plain (OpenSpec.upto lookStatesSpec)) lookStatesUptoCard

/-- THE SECOND FORM's CARD OF 'retracelaw40.LookLines'. -/
def lookLinesUptoCard : Claim7 := { stood := { row := lookLinesUptoRow, standIns := [], harness := (true, "993e244399ccc81292742d1bc8d0133af095652de2bb7e310e4f02e343a4633c"), looks := true }, kinds := [], alts := [], laidByText := true, laidKinds := [.data, .data, .data], laidTests := true, laidLooks := .later }
def LookLinesUptoCardSaid : Prop := Claim7.holds Tryd.pinned (.plain (OpenSpec.upto lookLinesSpec)) lookLinesUptoCard

/-- THE SECOND FORM's CARD OF 'retracelaw16.InsPuts'. -/
def insPutsUptoCard : Claim7 := { stood := { row := insPutsUptoRow, standIns := [], harness := (true, "993e244399ccc81292742d1bc8d0133af095652de2bb7e310e4f02e343a4633c"), looks := true }, kinds := [], alts := [], laidByText := true, laidKinds := [.data, .data, .data, .data, .sentinel, .sentinel, .pinned], laidTests := true, laidLooks := .later }
def InsPutsUptoCardSaid : Prop := Claim7.holds Tryd.pinned (.plain (OpenSpec.upto insPutsSpec)) insPutsUptoCard

/-- THE SECOND FORM's CARD OF 'retracelaw16.InsGets'. -/
def insGetsUptoCard : Claim7 := { stood := { row := insGetsUptoRow, standIns := [], harness := (true, "993e244399ccc81292742d1bc8d0133af095652de2bb7e310e4f02e343a4633c"), looks := true }, kinds := [], alts := [], laidByText := true, laidKinds := [.data, .data, .data, .data, .sentinel, .sentinel, .pinned], laidTests := true, laidLooks := .later }
def InsGetsUptoCardSaid : Prop := Claim7.holds Tryd.pinned (.plain (OpenSpec.upto insGetsSpec)) insGetsUptoCard

/-- THE SECOND FORM's CARD OF 'retracelaw16.InsBack'. -/
def insBackUptoCard : Claim7 := { stood := { row := insBackUptoRow, standIns := [], harness := (true, "993e244399ccc81292742d1bc8d0133af095652de2bb7e310e4f02e343a4633c"), looks := true }, kinds := [], alts := [], laidByText := true, laidKinds := [.data, .data, .data, .data, .sentinel, .sentinel, .pinned], laidTests := true, laidLooks := .later }
def InsBackUptoCardSaid : Prop := Claim7.holds Tryd.pinned (.plain (OpenSpec.upto insBackSpec)) insBackUptoCard

/-- THE SECOND FORM's CARD OF 'retracelaw16.InsLines'. -/
def insLinesUptoCard : Claim7 := { stood := { row := insLinesUptoRow, standIns := [], harness := (true, "993e244399ccc81292742d1bc8d0133af095652de2bb7e310e4f02e343a4633c"), looks := true }, kinds := [], alts := [], laidByText := true, laidKinds := [.data, .data, .data, .data, .sentinel, .sentinel, .pinned], laidTests := true, laidLooks := .later }
def InsLinesUptoCardSaid : Prop := Claim7.holds Tryd.pinned (.plain (OpenSpec.upto insLinesSpec)) insLinesUptoCard

/-- THE SECOND FORM's CARD OF 'retracelaw16.InsTells'. -/
def insTellsUptoCard : Claim7 := { stood := { row := insTellsUptoRow, standIns := [], harness := (true, "993e244399ccc81292742d1bc8d0133af095652de2bb7e310e4f02e343a4633c"), looks := true }, kinds := [], alts := [], laidByText := true, laidKinds := [.data, .data, .data, .data, .sentinel, .sentinel, .pinned], laidTests := true, laidLooks := .later }
def InsTellsUptoCardSaid : Prop := Claim7.holds Tryd.pinned (.plain (OpenSpec.upto insTellsSpec)) insTellsUptoCard
end Rows
end Go.Proofs.YtldcgfpcnemhpaaDoor
