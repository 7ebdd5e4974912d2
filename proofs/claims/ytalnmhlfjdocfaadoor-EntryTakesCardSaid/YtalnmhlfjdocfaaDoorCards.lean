/-
  DERIVED. GIVEN WITH THE SEED: THE CARDS: each row of YtalnmhlfjdocfaaDoorRows.lean that lists a variable, with what it lists TIED to the program's text (the seventh form; the later family's looks); each row that meets fmt, with fmt's text TOLD by the authors' own Lean function (tested against real Go, not proved from fmt's source: count such statements apart). THE CARD IS WHAT COUNTS. Prove the row's statement (the work); the ties are given (YtalnmhlfjdocfaaDoorTie.lean); close each card by the builder's one call (the guide's Derived/Test/ToyasCard.lean, 'card_holds'). Laid BY PROGRAM, IN A SANDBOX (cutbox-door.mjs). By AI agents, Wed Nov 11 2026. No macro, syntax, notation, axiom, sorry.
-/
import Derived.Test.YtalnmhlfjdocfaaDoorRows
import GoSem.ClaimSeven
namespace Go.Proofs.YtalnmhlfjdocfaaDoor
namespace Rows

/-- THE TIED CARD OF 'pleachlaw15.LogNobody'. -/
def logNobodyCard : Claim7 := { stood := { row := logNobodyRow, standIns := [], harness := (true, "2bb61f8994efb866583ef93a089803e39f3fc0f534fa2d84c749fbd0ff686470"), looks := false }, kinds := [], alts := [], laidByText := true, laidKinds := [.data], laidTests := true, laidLooks := .later }
def LogNobodyCardSaid : Prop := Claim7.holds Tryd.pinned (.plain (OpenSpec.ofChange logNobodySpec)) logNobodyCard

/-- THE TIED CARD OF 'pleachlaw08.SeatTakes'. -/
def seatTakesCard : Claim7 := { stood := { row := seatTakesRow, standIns := [], harness := (true, "2bb61f8994efb866583ef93a089803e39f3fc0f534fa2d84c749fbd0ff686470"), looks := false }, kinds := [], alts := [], laidByText := true, laidKinds := [.data, .data, .pinned], laidTests := true, laidLooks := .later }
def SeatTakesCardSaid : Prop := Claim7.holds Tryd.pinned (.plain (OpenSpec.ofChange seatTakesSpec)) seatTakesCard

/-- THE TIED CARD OF 'pleachlaw08.SeatFull'. -/
def seatFullCard : Claim7 := { stood := { row := seatFullRow, standIns := [], harness := (true, "2bb61f8994efb866583ef93a089803e39f3fc0f534fa2d84c749fbd0ff686470"), looks := false }, kinds := [], alts := [], laidByText := true, laidKinds := [.data, .data, .pinned], laidTests := true, laidLooks := .later }
def SeatFullCardSaid : Prop := Claim7.holds Tryd.pinned (.plain (OpenSpec.ofChange seatFullSpec)) seatFullCard

/-- THE TIED CARD OF 'pleachlaw08.SeatBack'. -/
def seatBackCard : Claim7 := { stood := { row := seatBackRow, standIns := [], harness := (true, "2bb61f8994efb866583ef93a089803e39f3fc0f534fa2d84c749fbd0ff686470"), looks := false }, kinds := [], alts := [], laidByText := true, laidKinds := [.data, .data, .pinned], laidTests := true, laidLooks := .later }
def SeatBackCardSaid : Prop := Claim7.holds Tryd.pinned (.plain (OpenSpec.ofChange seatBackSpec)) seatBackCard

/-- THE TIED CARD OF 'pleachlaw08.SeatPuts'. -/
def seatPutsCard : Claim7 := { stood := { row := seatPutsRow, standIns := [], harness := (true, "2bb61f8994efb866583ef93a089803e39f3fc0f534fa2d84c749fbd0ff686470"), looks := false }, kinds := [], alts := [], laidByText := true, laidKinds := [.data, .data, .pinned], laidTests := true, laidLooks := .later }
def SeatPutsCardSaid : Prop := Claim7.holds Tryd.pinned (.plain (OpenSpec.ofChange seatPutsSpec)) seatPutsCard

/-- THE TIED CARD OF 'pleachlaw08.SeatLater'. -/
def seatLaterCard : Claim7 := { stood := { row := seatLaterRow, standIns := [], harness := (true, "2bb61f8994efb866583ef93a089803e39f3fc0f534fa2d84c749fbd0ff686470"), looks := false }, kinds := [], alts := [], laidByText := true, laidKinds := [.data, .data, .pinned], laidTests := true, laidLooks := .later }
def SeatLaterCardSaid : Prop := Claim7.holds Tryd.pinned (.plain (OpenSpec.ofChange seatLaterSpec)) seatLaterCard

/-- THE TIED CARD OF 'pleachlaw10.EntryPuts'. -/
def entryPutsCard : Claim7 := { stood := { row := entryPutsRow, standIns := [], harness := (true, "2bb61f8994efb866583ef93a089803e39f3fc0f534fa2d84c749fbd0ff686470"), looks := false }, kinds := [], alts := [], laidByText := true, laidKinds := [.data, .data, .pinned], laidTests := true, laidLooks := .later }
def EntryPutsCardSaid : Prop := Claim7.holds Tryd.pinned (.plain (OpenSpec.ofChange entryPutsSpec)) entryPutsCard

/-- THE TIED CARD OF 'pleachlaw10.EntryBack'. -/
def entryBackCard : Claim7 := { stood := { row := entryBackRow, standIns := [], harness := (true, "2bb61f8994efb866583ef93a089803e39f3fc0f534fa2d84c749fbd0ff686470"), looks := false }, kinds := [], alts := [], laidByText := true, laidKinds := [.data, .data, .pinned], laidTests := true, laidLooks := .later }
def EntryBackCardSaid : Prop := Claim7.holds Tryd.pinned (.plain (OpenSpec.ofChange entryBackSpec)) entryBackCard

/-- THE TIED CARD OF 'pleachlaw10.EntryTakes'. -/
def entryTakesCard : Claim7 := { stood := { row := entryTakesRow, standIns := [], harness := (true, "2bb61f8994efb866583ef93a089803e39f3fc0f534fa2d84c749fbd0ff686470"), looks := false }, kinds := [], alts := [], laidByText := true, laidKinds := [.data, .data, .pinned], laidTests := true, laidLooks := .later }
def EntryTakesCardSaid : Prop := Claim7.holds Tryd.pinned (.plain (OpenSpec.ofChange entryTakesSpec)) entryTakesCard

/-- THE TIED CARD OF 'pleachlaw38.JournalNobody'. -/
def journalNobodyCard : Claim7 := { stood := { row := journalNobodyRow, standIns := [], harness := (true, "2bb61f8994efb866583ef93a089803e39f3fc0f534fa2d84c749fbd0ff686470"), looks := false }, kinds := [], alts := [], laidByText := true, laidKinds := [.data, .data, .pinned], laidTests := true, laidLooks := .later }
def JournalNobodyCardSaid : Prop := Claim7.holds Tryd.pinned (.plain (OpenSpec.ofChange journalNobodySpec)) journalNobodyCard

/-- THE TIED CARD OF 'pleachlaw38.JournalTells'. -/
def journalTellsCard : Claim7 := { stood := { row := journalTellsRow, standIns := [], harness := (true, "2bb61f8994efb866583ef93a089803e39f3fc0f534fa2d84c749fbd0ff686470"), looks := false }, kinds := [], alts := [], laidByText := true, laidKinds := [.data, .data, .pinned], laidTests := true, laidLooks := .later }
def JournalTellsCardSaid : Prop := Claim7.holds Tryd.pinned (.plain (OpenSpec.ofChange journalTellsSpec)) journalTellsCard

/-- THE SECOND FORM's CARD OF 'pleachlaw15.LogNobody'. -/
def logNobodyUptoCard : Claim7 := { stood := { row := logNobodyUptoRow, standIns := [], harness := (true, "2bb61f8994efb866583ef93a089803e39f3fc0f534fa2d84c749fbd0ff686470"), looks := false }, kinds := [], alts := [], laidByText := true, laidKinds := [.data], laidTests := true, laidLooks := .later }
def LogNobodyUptoCardSaid : Prop := Claim7.holds Tryd.pinned (.plain (OpenSpec.upto logNobodySpec)) logNobodyUptoCard

/-- THE SECOND FORM's CARD OF 'pleachlaw08.SeatTakes'. -/
def seatTakesUptoCard : Claim7 := { stood := { row := seatTakesUptoRow, standIns := [], harness := (true, "2bb61f8994efb866583ef93a089803e39f3fc0f534fa2d84c749fbd0ff686470"), looks := false }, kinds := [], alts := [], laidByText := true, laidKinds := [.data, .data, .pinned], laidTests := true, laidLooks := .later }
def SeatTakesUptoCardSaid : Prop := Claim7.holds Tryd.pinned (.plain (OpenSpec.upto seatTakesSpec)) seatTakesUptoCard

/-- THE SECOND FORM's CARD OF 'pleachlaw08.SeatFull'. -/
def seatFullUptoCard : Claim7 := { stood := { row := seatFullUptoRow, standIns := [], harness := (true, "2bb61f8994efb866583ef93a089803e39f3fc0f534fa2d84c749fbd0ff686470"), looks := false }, kinds := [], alts := [], laidByText := true, laidKinds := [.data, .data, .pinned], laidTests := true, laidLooks := .later }
def SeatFullUptoCardSaid : Prop := Claim7.holds Tryd.pinned (.plain (OpenSpec.upto seatFullSpec)) seatFullUptoCard

/-- THE SECOND FORM's CARD OF 'pleachlaw08.SeatBack'. -/
def seatBackUptoCard : Claim7 := { stood := { row := seatBackUptoRow, standIns := [], harness := (true, "2bb61f8994efb866583ef93a089803e39f3fc0f534fa2d84c749fbd0ff686470"), looks := false }, kinds := [], alts := [], laidByText := true, laidKinds := [.data, .data, .pinned], laidTests := true, laidLooks := .later }
def SeatBackUptoCardSaid : Prop := Claim7.holds Tryd.pinned (.plain (OpenSpec.upto seatBackSpec)) seatBackUptoCard

/-- THE SECOND FORM's CARD OF 'pleachlaw08.SeatPuts'. -/
def seatPutsUptoCard : Claim7 := { stood := { row := seatPutsUptoRow, standIns := [], harness := (true, "2bb61f8994efb866583ef93a089803e39f3fc0f534fa2d84c749fbd0ff686470"), looks := false }, kinds := [], alts := [], laidByText := true, laidKinds := [.data, .data, .pinned], laidTests := true, laidLooks := .later }
def SeatPutsUptoCardSaid : Prop := Claim7.holds Tryd.pinned (.plain (OpenSpec.upto seatPutsSpec)) seatPutsUptoCard

/-- THE SECOND FORM's CARD OF 'pleachlaw08.SeatLater'. -/
def seatLaterUptoCard : Claim7 := { stood := { row := seatLaterUptoRow, standIns := [], harness := (true, "2bb61f8994efb866583ef93a089803e39f3fc0f534fa2d84c749fbd0ff686470"), looks := false }, kinds := [], alts := [], laidByText := true, laidKinds := [.data, .data, .pinned], laidTests := true, laidLooks := .later }
def SeatLaterUptoCardSaid : Prop := Claim7.holds Tryd.pinned (.plain (OpenSpec.upto seatLaterSpec)) seatLaterUptoCard

/-- THE SECOND FORM's CARD OF 'pleachlaw10.EntryPuts'. -/
def entryPutsUptoCard : Claim7 := { stood := { row := entryPutsUptoRow, standIns := [], harness := (true, "2bb61f8994efb866583ef93a089803e39f3fc0f534fa2d84c749fbd0ff686470"), looks := false }, kinds := [], alts := [], laidByText := true, laidKinds := [.data, .data, .pinned], laidTests := true, laidLooks := .later }
def EntryPutsUptoCardSaid : Prop := Claim7.holds Tryd.pinned (.plain (OpenSpec.upto entryPutsSpec)) entryPutsUptoCard

/-- THE SECOND FORM's CARD OF 'pleachlaw10.EntryBack'. -/
def entryBackUptoCard : Claim7 := { stood := { row := entryBackUptoRow, standIns := [], harness := (true, "2bb61f8994efb866583ef93a089803e39f3fc0f534fa2d84c749fbd0ff686470"), looks := false }, kinds := [], alts := [], laidByText := true, laidKinds := [.data, .data, .pinned], laidTests := true, laidLooks := .later }
def EntryBackUptoCardSaid : Prop := Claim7.holds Tryd.pinned (.plain (OpenSpec.upto entryBackSpec)) entryBackUptoCard

/-- THE SECOND FORM's CARD OF 'pleachlaw10.EntryTakes'. -/
def entryTakesUptoCard : Claim7 := { stood := { row := entryTakesUptoRow, standIns := [], harness := (true, "2bb61f8994efb866583ef93a089803e39f3fc0f534fa2d84c749fbd0ff686470"), looks := false }, kinds := [], alts := [], laidByText := true, laidKinds := [.data, .data, .pinned], laidTests := true, laidLooks := .later }
def EntryTakesUptoCardSaid : Prop := Claim7.holds Tryd.pinned (.plain (OpenSpec.upto entryTakesSpec)) entryTakesUptoCard

/-- THE SECOND FORM's CARD OF 'pleachlaw38.JournalNobody'. -/
def journalNobodyUptoCard : Claim7 := { stood := { row := journalNobodyUptoRow, standIns := [], harness := (true, "2bb61f8994efb866583ef93a089803e39f3fc0f534fa2d84c749fbd0ff686470"), looks := false }, kinds := [], alts := [], laidByText := true, laidKinds := [.data, .data, .pinned], laidTests := true, laidLooks := .later }
def JournalNobodyUptoCardSaid : Prop := Claim7.holds Tryd.pinned (.plain (OpenSpec.upto journalNobodySpec)) journalNobodyUptoCard

/-- THE SECOND FORM's CARD OF 'pleachlaw38.JournalTells'. -/
def journalTellsUptoCard : Claim7 := { stood := { row := journalTellsUptoRow, standIns := [], harness := (true, "2bb61f8994efb866583ef93a089803e39f3fc0f534fa2d84c749fbd0ff686470"), looks := false }, kinds := [], alts := [], laidByText := true, laidKinds := [.data, .data, .pinned], laidTests := true, laidLooks := .later }
def JournalTellsUptoCardSaid : Prop := Claim7.holds Tryd.pinned (.plain (OpenSpec.upto journalTellsSpec)) journalTellsUptoCard
end Rows
end Go.Proofs.YtalnmhlfjdocfaaDoor
