/-
  No cell of these rows narrows 'for every input' (looked for: loops, veiled, ifaces, maps, wideKeys, modest, calm, conditions, laid).
  DERIVED. THE GIVEN ROWS OF THIS SEAT. 4 by the template 'for every input the law returns true; each argument reads behind the call as it read before'; 0 by the template 'total and deterministic' (their statements: YtfnjcobgbdioeaaTotals.lean).
  GIVEN WITH THE SEED: the statements are not yours to turn. If you find one false, say at which input.
  Laid BY PROGRAM, IN A SANDBOX (cutbox-rows.mjs): the forced cells as the released guide's own fill.sh prints them over the translation eff7140ec39c03df… (all of the seat's roots in one cut). By AI agents, Wed Nov 11 2026. No macro, syntax, notation, axiom, sorry.
-/
import Derived.Test.YtfnjcobgbdioeaaChecked
import GoSem.Claim
import GoSem.ClaimJoined
import GoSem.ClaimMapViews
import Derived.JoinedTies
import Derived.KernelRfl
namespace Go.Proofs.Ytfnjcobgbdioeaa
/- THE CELL 'sum', in the pinned program and in every row, IS THE sha256 OF THE DUMP (.gsa) THAT YtfnjcobgbdioeaaProg.lean LOADS. Nothing in Lean hashes anything: it is a label: what it is worth is what the hold of that sum in a sandbox is worth. -/
noncomputable def Try.pinned : Pinned := { name := "ytfnjcobgbdioeaa", sum := "eff7140ec39c03dfc40fe550a971e1a929fc91a8aa72e63ad2449dd1395d1a4d", checked := Try.checked }
namespace Rows
def none {H : Type} : Left H := { results := [], args := [] }

/-- 'pleachlaw18.CutOne': WHATEVER THE INPUT: true; the input reads as it did. -/
def cutOneSpec : ChangeSpec := { name := "cutOne", fn := fun _ => fun
  | [d1, d2] => { results := [.lit (.bool true)], args := [d1, d2] }
  | _ => none }
def cutOneRow : OpenClaim := { program := "ytfnjcobgbdioeaa", sum := "eff7140ec39c03dfc40fe550a971e1a929fc91a8aa72e63ad2449dd1395d1a4d", func := "pleach/pleachlaw18.CutOne", spec := "cutOne", unfollowed := true, recurses := true, apart := false }
def CutOneSaid : Prop := cutOneRow.holds Try.pinned (OpenSpec.ofChange cutOneSpec)

/-- ITS FALSE NEIGHBOUR: 'it returns false'. Refute it at one input. -/
def cutOneWrong : ChangeSpec := { name := "cutOne", fn := fun _ => fun
  | [d1, d2] => { results := [.lit (.bool false)], args := [d1, d2] }
  | _ => none }
def CutOneWrongFalsely : Prop := cutOneRow.holds Try.pinned (OpenSpec.ofChange cutOneWrong)

/-- 'pleachlaw18.CutRest': WHATEVER THE INPUT: true; the input reads as it did. -/
def cutRestSpec : ChangeSpec := { name := "cutRest", fn := fun _ => fun
  | [d1, d2, d3] => { results := [.lit (.bool true)], args := [d1, d2, d3] }
  | _ => none }
def cutRestRow : OpenClaim := { program := "ytfnjcobgbdioeaa", sum := "eff7140ec39c03dfc40fe550a971e1a929fc91a8aa72e63ad2449dd1395d1a4d", func := "pleach/pleachlaw18.CutRest", spec := "cutRest", unfollowed := true, recurses := true, apart := false }
def CutRestSaid : Prop := cutRestRow.holds Try.pinned (OpenSpec.ofChange cutRestSpec)

/-- ITS FALSE NEIGHBOUR: 'it returns false'. Refute it at one input. -/
def cutRestWrong : ChangeSpec := { name := "cutRest", fn := fun _ => fun
  | [d1, d2, d3] => { results := [.lit (.bool false)], args := [d1, d2, d3] }
  | _ => none }
def CutRestWrongFalsely : Prop := cutRestRow.holds Try.pinned (OpenSpec.ofChange cutRestWrong)

/-- 'pleachlaw18.CutNobody': WHATEVER THE INPUT: true; the input reads as it did. -/
def cutNobodySpec : ChangeSpec := { name := "cutNobody", fn := fun _ => fun
  | [d1, d2] => { results := [.lit (.bool true)], args := [d1, d2] }
  | _ => none }
def cutNobodyRow : OpenClaim := { program := "ytfnjcobgbdioeaa", sum := "eff7140ec39c03dfc40fe550a971e1a929fc91a8aa72e63ad2449dd1395d1a4d", func := "pleach/pleachlaw18.CutNobody", spec := "cutNobody", unfollowed := true, recurses := true, apart := false }
def CutNobodySaid : Prop := cutNobodyRow.holds Try.pinned (OpenSpec.ofChange cutNobodySpec)

/-- ITS FALSE NEIGHBOUR: 'it returns false'. Refute it at one input. -/
def cutNobodyWrong : ChangeSpec := { name := "cutNobody", fn := fun _ => fun
  | [d1, d2] => { results := [.lit (.bool false)], args := [d1, d2] }
  | _ => none }
def CutNobodyWrongFalsely : Prop := cutNobodyRow.holds Try.pinned (OpenSpec.ofChange cutNobodyWrong)

/-- 'pleachlaw18.CutEnds': WHATEVER THE INPUT: true; the input reads as it did. -/
def cutEndsSpec : ChangeSpec := { name := "cutEnds", fn := fun _ => fun
  | [d1, d2, d3] => { results := [.lit (.bool true)], args := [d1, d2, d3] }
  | _ => none }
def cutEndsRow : OpenClaim := { program := "ytfnjcobgbdioeaa", sum := "eff7140ec39c03dfc40fe550a971e1a929fc91a8aa72e63ad2449dd1395d1a4d", func := "pleach/pleachlaw18.CutEnds", spec := "cutEnds", unfollowed := true, recurses := true, apart := false }
def CutEndsSaid : Prop := cutEndsRow.holds Try.pinned (OpenSpec.ofChange cutEndsSpec)

/-- ITS FALSE NEIGHBOUR: 'it returns false'. Refute it at one input. -/
def cutEndsWrong : ChangeSpec := { name := "cutEnds", fn := fun _ => fun
  | [d1, d2, d3] => { results := [.lit (.bool false)], args := [d1, d2, d3] }
  | _ => none }
def CutEndsWrongFalsely : Prop := cutEndsRow.holds Try.pinned (OpenSpec.ofChange cutEndsWrong)

/- THE SECOND FORM. 'bulk': how many values and letters a reading holds, each counted each time it is reached (what is shared counts as often as it is met; a slice's spare places count too). A statement '..UptoSaid' is the law's where the arguments, and the package variables that the reading takes, are together of bulk at most 1048576: NARROWER than '..Said'. Prove '..Said' where nothing that the law and all that it calls make is longer than what came in: it says more and counts as full. Else prove '..UptoSaid'. A law counts once. -/
mutual
def uptoBulk {H : Type} : DataW H → Nat
  | .lit (.string bytes) => bytes.length + 1
  | .lit _ => 1
  | .nil => 1
  | .ptr d => uptoBulk d + 1
  | .slice elems spare => uptoBulkAll elems + uptoBulkAll spare + 1
  | .agg parts => uptoBulkAll parts + 1
  | .iface _ d => uptoBulk d + 1
  | .map entries => uptoBulkEntries entries + 1
  | .held _ => 1
def uptoBulkAll {H : Type} : List (DataW H) → Nat
  | [] => 0
  | d :: r => uptoBulk d + uptoBulkAll r
def uptoBulkEntries {H : Type} : List (Lit × DataW H) → Nat
  | [] => 0
  | x :: r => uptoBulkEntry x + uptoBulkEntries r
def uptoBulkEntry {H : Type} : Lit × DataW H → Nat
  | (.string bytes, d) => bytes.length + uptoBulk d + 1
  | (_, d) => uptoBulk d + 1
 end
def uptoSmall : (H : Type) → List (DataW H) → Bool := fun _ ds => decide (uptoBulkAll ds ≤ 1048576)
def OpenSpec.upto (s : _root_.Go.ChangeSpec) : _root_.Go.OpenSpec := { _root_.Go.OpenSpec.ofChange s with cond := some uptoSmall }

/-- 'pleachlaw18.CutOne', WHERE WHAT IT READS IS OF BULK AT MOST 1048576: true; the input reads as it did. -/
def cutOneUptoRow : OpenClaim := { program := "ytfnjcobgbdioeaa", sum := "eff7140ec39c03dfc40fe550a971e1a929fc91a8aa72e63ad2449dd1395d1a4d", func := "pleach/pleachlaw18.CutOne", spec := "cutOne", unfollowed := true, recurses := true, apart := false, narrowed := true }
def CutOneUptoSaid : Prop := cutOneUptoRow.holds Try.pinned (OpenSpec.upto cutOneSpec)

/-- 'pleachlaw18.CutRest', WHERE WHAT IT READS IS OF BULK AT MOST 1048576: true; the input reads as it did. -/
def cutRestUptoRow : OpenClaim := { program := "ytfnjcobgbdioeaa", sum := "eff7140ec39c03dfc40fe550a971e1a929fc91a8aa72e63ad2449dd1395d1a4d", func := "pleach/pleachlaw18.CutRest", spec := "cutRest", unfollowed := true, recurses := true, apart := false, narrowed := true }
def CutRestUptoSaid : Prop := cutRestUptoRow.holds Try.pinned (OpenSpec.upto cutRestSpec)

/-- 'pleachlaw18.CutNobody', WHERE WHAT IT READS IS OF BULK AT MOST 1048576: true; the input reads as it did. -/
def cutNobodyUptoRow : OpenClaim := { program := "ytfnjcobgbdioeaa", sum := "eff7140ec39c03dfc40fe550a971e1a929fc91a8aa72e63ad2449dd1395d1a4d", func := "pleach/pleachlaw18.CutNobody", spec := "cutNobody", unfollowed := true, recurses := true, apart := false, narrowed := true }
def CutNobodyUptoSaid : Prop := cutNobodyUptoRow.holds Try.pinned (OpenSpec.upto cutNobodySpec)

/-- 'pleachlaw18.CutEnds', WHERE WHAT IT READS IS OF BULK AT MOST 1048576: true; the input reads as it did. -/
def cutEndsUptoRow : OpenClaim := { program := "ytfnjcobgbdioeaa", sum := "eff7140ec39c03dfc40fe550a971e1a929fc91a8aa72e63ad2449dd1395d1a4d", func := "pleach/pleachlaw18.CutEnds", spec := "cutEnds", unfollowed := true, recurses := true, apart := false, narrowed := true }
def CutEndsUptoSaid : Prop := cutEndsUptoRow.holds Try.pinned (OpenSpec.upto cutEndsSpec)

end Rows
end Go.Proofs.Ytfnjcobgbdioeaa
