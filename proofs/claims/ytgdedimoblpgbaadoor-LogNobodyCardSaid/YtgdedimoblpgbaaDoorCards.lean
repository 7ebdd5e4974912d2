/-
  DERIVED. GIVEN WITH THE SEED: THE CARDS: each row of YtgdedimoblpgbaaDoorRows.lean that lists a variable, with what it lists TIED to the program's text (the seventh form; the later family's looks); each row that meets fmt, with fmt's text TOLD by the authors' own Lean function (tested against real Go, not proved from fmt's source: count such statements apart). THE CARD IS WHAT COUNTS. Prove the row's statement (the work); the ties are given (YtgdedimoblpgbaaDoorTie.lean); close each card by the builder's one call (the guide's Derived/Test/ToyasCard.lean, 'card_holds'). Laid BY PROGRAM, IN A SANDBOX (cutbox-door.mjs). By AI agents, Wed Nov 11 2026. No macro, syntax, notation, axiom, sorry.
-/
import Derived.Test.YtgdedimoblpgbaaDoorRows
import GoSem.ClaimSeven
namespace Go.Proofs.YtgdedimoblpgbaaDoor
namespace Rows

/-- THE TIED CARD OF 'pleachlaw15.LogNobody'. -/
def logNobodyCard : Claim7 := { stood := { row := logNobodyRow, standIns := [], harness := (true, "ace428a02051f8c6275c05321fc55a8f40e87670499aeb71dce083cbb9e589c1"), looks := false }, kinds := [], alts := [], laidByText := true, laidKinds := [.data], laidTests := true, laidLooks := .later }
def LogNobodyCardSaid : Prop := Claim7.holds Tryd.pinned (.plain (OpenSpec.ofChange logNobodySpec)) logNobodyCard

/-- THE SECOND FORM's CARD OF 'pleachlaw15.LogNobody'. -/
def logNobodyUptoCard : Claim7 := { stood := { row := logNobodyUptoRow, standIns := [], harness := (true, "ace428a02051f8c6275c05321fc55a8f40e87670499aeb71dce083cbb9e589c1"), looks := false }, kinds := [], alts := [], laidByText := true, laidKinds := [.data], laidTests := true, laidLooks := .later }
def LogNobodyUptoCardSaid : Prop := Claim7.holds Tryd.pinned (.plain (OpenSpec.upto logNobodySpec)) logNobodyUptoCard
end Rows
end Go.Proofs.YtgdedimoblpgbaaDoor
