/-
  DERIVED. GIVEN WITH THE SEED: THE CARDS: each row of YtfnjcobgbdioeaaDoorRows.lean that lists a variable, with what it lists TIED to the program's text (the seventh form; the later family's looks); each row that meets fmt, with fmt's text TOLD by the authors' own Lean function (tested against real Go, not proved from fmt's source: count such statements apart). THE CARD IS WHAT COUNTS. Prove the row's statement (the work); the ties are given (YtfnjcobgbdioeaaDoorTie.lean); close each card by the builder's one call (the guide's Derived/Test/ToyasCard.lean, 'card_holds'). Laid BY PROGRAM, IN A SANDBOX (cutbox-door.mjs). By AI agents, Wed Nov 11 2026. No macro, syntax, notation, axiom, sorry.
-/
import Derived.Test.YtfnjcobgbdioeaaDoorRows
import GoSem.ClaimSeven
namespace Go.Proofs.YtfnjcobgbdioeaaDoor
namespace Rows

/-- THE TIED CARD OF 'pleachlaw03.ShaSums'. -/
def shaSumsCard : Claim7 := { stood := { row := shaSumsRow, standIns := [], harness := (true, "43173628dd2f0de2b0641d2de877cb888f04f43c17c49a63ae83921b1890c076"), looks := false }, kinds := [], alts := [], laidByText := true, laidKinds := [.data, .data], laidTests := true, laidLooks := .later }
def ShaSumsCardSaid : Prop := Claim7.holds Tryd.pinned (.plain (OpenSpec.ofChange shaSumsSpec)) shaSumsCard

/-- THE TIED CARD OF 'pleachlaw03.ShaPieces'. -/
def shaPiecesCard : Claim7 := { stood := { row := shaPiecesRow, standIns := [], harness := (true, "43173628dd2f0de2b0641d2de877cb888f04f43c17c49a63ae83921b1890c076"), looks := false }, kinds := [], alts := [], laidByText := true, laidKinds := [.data, .data], laidTests := true, laidLooks := .later }
def ShaPiecesCardSaid : Prop := Claim7.holds Tryd.pinned (.plain (OpenSpec.ofChange shaPiecesSpec)) shaPiecesCard

/-- THE TIED CARD OF 'pleachlaw03.ShaNobody'. -/
def shaNobodyCard : Claim7 := { stood := { row := shaNobodyRow, standIns := [], harness := (true, "43173628dd2f0de2b0641d2de877cb888f04f43c17c49a63ae83921b1890c076"), looks := false }, kinds := [], alts := [], laidByText := true, laidKinds := [.data, .data], laidTests := true, laidLooks := .later }
def ShaNobodyCardSaid : Prop := Claim7.holds Tryd.pinned (.plain (OpenSpec.ofChange shaNobodySpec)) shaNobodyCard

/-- THE TIED CARD OF 'pleachlaw03.ShaHex'. -/
def shaHexCard : Claim7 := { stood := { row := shaHexRow, standIns := [], harness := (true, "43173628dd2f0de2b0641d2de877cb888f04f43c17c49a63ae83921b1890c076"), looks := false }, kinds := [], alts := [], laidByText := true, laidKinds := [.data, .data], laidTests := true, laidLooks := .later }
def ShaHexCardSaid : Prop := Claim7.holds Tryd.pinned (.plain (OpenSpec.ofChange shaHexSpec)) shaHexCard

/-- THE SECOND FORM's CARD OF 'pleachlaw03.ShaSums'. -/
def shaSumsUptoCard : Claim7 := { stood := { row := shaSumsUptoRow, standIns := [], harness := (true, "43173628dd2f0de2b0641d2de877cb888f04f43c17c49a63ae83921b1890c076"), looks := false }, kinds := [], alts := [], laidByText := true, laidKinds := [.data, .data], laidTests := true, laidLooks := .later }
def ShaSumsUptoCardSaid : Prop := Claim7.holds Tryd.pinned (.plain (OpenSpec.upto shaSumsSpec)) shaSumsUptoCard

/-- THE SECOND FORM's CARD OF 'pleachlaw03.ShaPieces'. -/
def shaPiecesUptoCard : Claim7 := { stood := { row := shaPiecesUptoRow, standIns := [], harness := (true, "43173628dd2f0de2b0641d2de877cb888f04f43c17c49a63ae83921b1890c076"), looks := false }, kinds := [], alts := [], laidByText := true, laidKinds := [.data, .data], laidTests := true, laidLooks := .later }
def ShaPiecesUptoCardSaid : Prop := Claim7.holds Tryd.pinned (.plain (OpenSpec.upto shaPiecesSpec)) shaPiecesUptoCard

/-- THE SECOND FORM's CARD OF 'pleachlaw03.ShaNobody'. -/
def shaNobodyUptoCard : Claim7 := { stood := { row := shaNobodyUptoRow, standIns := [], harness := (true, "43173628dd2f0de2b0641d2de877cb888f04f43c17c49a63ae83921b1890c076"), looks := false }, kinds := [], alts := [], laidByText := true, laidKinds := [.data, .data], laidTests := true, laidLooks := .later }
def ShaNobodyUptoCardSaid : Prop := Claim7.holds Tryd.pinned (.plain (OpenSpec.upto shaNobodySpec)) shaNobodyUptoCard

/-- THE SECOND FORM's CARD OF 'pleachlaw03.ShaHex'. -/
def shaHexUptoCard : Claim7 := { stood := { row := shaHexUptoRow, standIns := [], harness := (true, "43173628dd2f0de2b0641d2de877cb888f04f43c17c49a63ae83921b1890c076"), looks := false }, kinds := [], alts := [], laidByText := true, laidKinds := [.data, .data], laidTests := true, laidLooks := .later }
def ShaHexUptoCardSaid : Prop := Claim7.holds Tryd.pinned (.plain (OpenSpec.upto shaHexSpec)) shaHexUptoCard
end Rows
end Go.Proofs.YtfnjcobgbdioeaaDoor
