/-
  No cell of these rows narrows 'for every input' (looked for: loops, veiled, ifaces, maps, wideKeys, modest, calm, conditions, laid).
  DERIVED. THE GIVEN ROWS OF THIS SEAT. 8 by the template 'for every input the law returns true; each argument reads behind the call as it read before'; 0 by the template 'total and deterministic' (their statements: YthldakchlnnonaaTotals.lean).
  GIVEN WITH THE SEED: the statements are not yours to turn. If you find one false, say at which input.
  Laid BY PROGRAM, IN A SANDBOX (cutbox-rows.mjs): the forced cells as the released guide's own fill.sh prints them over the translation 9db7b6c264b459e9… (all of the seat's roots in one cut). By AI agents, Wed Nov 11 2026. No macro, syntax, notation, axiom, sorry.
-/
import Derived.Test.YthldakchlnnonaaChecked
import GoSem.Claim
import GoSem.ClaimJoined
import GoSem.ClaimMapViews
import Derived.JoinedTies
import Derived.KernelRfl
namespace Go.Proofs.Ythldakchlnnonaa
/- THE CELL 'sum', in the pinned program and in every row, IS THE sha256 OF THE DUMP (.gsa) THAT YthldakchlnnonaaProg.lean LOADS. Nothing in Lean hashes anything: it is a label: what it is worth is what the hold of that sum in a sandbox is worth. -/
noncomputable def Try.pinned : Pinned := { name := "ythldakchlnnonaa", sum := "9db7b6c264b459e9a8f0ab4c19527e62c8d3279872fd51424f61e2fec6ca58a3", checked := Try.checked }
namespace Rows
def none {H : Type} : Left H := { results := [], args := [] }

/-- 'pleachlaw17.RollSums': WHATEVER THE INPUT: true; the input reads as it did. -/
def rollSumsSpec : ChangeSpec := { name := "rollSums", fn := fun _ => fun
  | [d] => { results := [.lit (.bool true)], args := [d] }
  | _ => none }
def rollSumsRow : OpenClaim := { program := "ythldakchlnnonaa", sum := "9db7b6c264b459e9a8f0ab4c19527e62c8d3279872fd51424f61e2fec6ca58a3", func := "pleach/pleachlaw17.RollSums", spec := "rollSums", apart := false }
def RollSumsSaid : Prop := rollSumsRow.holds Try.pinned (OpenSpec.ofChange rollSumsSpec)

/-- ITS FALSE NEIGHBOUR: 'it returns false'. Refute it at one input. -/
def rollSumsWrong : ChangeSpec := { name := "rollSums", fn := fun _ => fun
  | [d] => { results := [.lit (.bool false)], args := [d] }
  | _ => none }
def RollSumsWrongFalsely : Prop := rollSumsRow.holds Try.pinned (OpenSpec.ofChange rollSumsWrong)

/-- 'pleachlaw17.RollLast': WHATEVER THE INPUT: true; the input reads as it did. -/
def rollLastSpec : ChangeSpec := { name := "rollLast", fn := fun _ => fun
  | [d1, d2, d3] => { results := [.lit (.bool true)], args := [d1, d2, d3] }
  | _ => none }
def rollLastRow : OpenClaim := { program := "ythldakchlnnonaa", sum := "9db7b6c264b459e9a8f0ab4c19527e62c8d3279872fd51424f61e2fec6ca58a3", func := "pleach/pleachlaw17.RollLast", spec := "rollLast", apart := false }
def RollLastSaid : Prop := rollLastRow.holds Try.pinned (OpenSpec.ofChange rollLastSpec)

/-- ITS FALSE NEIGHBOUR: 'it returns false'. Refute it at one input. -/
def rollLastWrong : ChangeSpec := { name := "rollLast", fn := fun _ => fun
  | [d1, d2, d3] => { results := [.lit (.bool false)], args := [d1, d2, d3] }
  | _ => none }
def RollLastWrongFalsely : Prop := rollLastRow.holds Try.pinned (OpenSpec.ofChange rollLastWrong)

/-- 'pleachlaw09.AreaTells': WHATEVER THE INPUT: true; the input reads as it did. -/
def areaTellsSpec : ChangeSpec := { name := "areaTells", fn := fun _ => fun
  | [d1, d2, d3, d4] => { results := [.lit (.bool true)], args := [d1, d2, d3, d4] }
  | _ => none }
def areaTellsRow : OpenClaim := { program := "ythldakchlnnonaa", sum := "9db7b6c264b459e9a8f0ab4c19527e62c8d3279872fd51424f61e2fec6ca58a3", func := "pleach/pleachlaw09.AreaTells", spec := "areaTells", apart := false }
def AreaTellsSaid : Prop := areaTellsRow.holds Try.pinned (OpenSpec.ofChange areaTellsSpec)

/-- ITS FALSE NEIGHBOUR: 'it returns false'. Refute it at one input. -/
def areaTellsWrong : ChangeSpec := { name := "areaTells", fn := fun _ => fun
  | [d1, d2, d3, d4] => { results := [.lit (.bool false)], args := [d1, d2, d3, d4] }
  | _ => none }
def AreaTellsWrongFalsely : Prop := areaTellsRow.holds Try.pinned (OpenSpec.ofChange areaTellsWrong)

/-- 'pleachlaw45.BoundTells': WHATEVER THE INPUT: true; the input reads as it did. -/
def boundTellsSpec : ChangeSpec := { name := "boundTells", fn := fun _ => fun
  | [d1, d2, d3] => { results := [.lit (.bool true)], args := [d1, d2, d3] }
  | _ => none }
def boundTellsRow : OpenClaim := { program := "ythldakchlnnonaa", sum := "9db7b6c264b459e9a8f0ab4c19527e62c8d3279872fd51424f61e2fec6ca58a3", func := "pleach/pleachlaw45.BoundTells", spec := "boundTells", apart := false }
def BoundTellsSaid : Prop := boundTellsRow.holds Try.pinned (OpenSpec.ofChange boundTellsSpec)

/-- ITS FALSE NEIGHBOUR: 'it returns false'. Refute it at one input. -/
def boundTellsWrong : ChangeSpec := { name := "boundTells", fn := fun _ => fun
  | [d1, d2, d3] => { results := [.lit (.bool false)], args := [d1, d2, d3] }
  | _ => none }
def BoundTellsWrongFalsely : Prop := boundTellsRow.holds Try.pinned (OpenSpec.ofChange boundTellsWrong)

/-- 'pleachlaw09.AreaFits': WHATEVER THE INPUT: true; the input reads as it did. -/
def areaFitsSpec : ChangeSpec := { name := "areaFits", fn := fun _ => fun
  | [d1, d2, d3, d4] => { results := [.lit (.bool true)], args := [d1, d2, d3, d4] }
  | _ => none }
def areaFitsRow : OpenClaim := { program := "ythldakchlnnonaa", sum := "9db7b6c264b459e9a8f0ab4c19527e62c8d3279872fd51424f61e2fec6ca58a3", func := "pleach/pleachlaw09.AreaFits", spec := "areaFits", apart := false }
def AreaFitsSaid : Prop := areaFitsRow.holds Try.pinned (OpenSpec.ofChange areaFitsSpec)

/-- ITS FALSE NEIGHBOUR: 'it returns false'. Refute it at one input. -/
def areaFitsWrong : ChangeSpec := { name := "areaFits", fn := fun _ => fun
  | [d1, d2, d3, d4] => { results := [.lit (.bool false)], args := [d1, d2, d3, d4] }
  | _ => none }
def AreaFitsWrongFalsely : Prop := areaFitsRow.holds Try.pinned (OpenSpec.ofChange areaFitsWrong)

/-- 'pleachlaw17.RollKeys': WHATEVER THE INPUT: true; the input reads as it did. -/
def rollKeysSpec : ChangeSpec := { name := "rollKeys", fn := fun _ => fun
  | [d1, d2] => { results := [.lit (.bool true)], args := [d1, d2] }
  | _ => none }
def rollKeysRow : OpenClaim := { program := "ythldakchlnnonaa", sum := "9db7b6c264b459e9a8f0ab4c19527e62c8d3279872fd51424f61e2fec6ca58a3", func := "pleach/pleachlaw17.RollKeys", spec := "rollKeys", unfollowed := true, recurses := true, apart := false }
def RollKeysSaid : Prop := rollKeysRow.holds Try.pinned (OpenSpec.ofChange rollKeysSpec)

/-- ITS FALSE NEIGHBOUR: 'it returns false'. Refute it at one input. -/
def rollKeysWrong : ChangeSpec := { name := "rollKeys", fn := fun _ => fun
  | [d1, d2] => { results := [.lit (.bool false)], args := [d1, d2] }
  | _ => none }
def RollKeysWrongFalsely : Prop := rollKeysRow.holds Try.pinned (OpenSpec.ofChange rollKeysWrong)

/-- 'pleachlaw09.AreaOf': WHATEVER THE INPUT: true; the input reads as it did. -/
def areaOfSpec : ChangeSpec := { name := "areaOf", fn := fun _ => fun
  | [d1, d2, d3, d4, d5] => { results := [.lit (.bool true)], args := [d1, d2, d3, d4, d5] }
  | _ => none }
def areaOfRow : OpenClaim := { program := "ythldakchlnnonaa", sum := "9db7b6c264b459e9a8f0ab4c19527e62c8d3279872fd51424f61e2fec6ca58a3", func := "pleach/pleachlaw09.AreaOf", spec := "areaOf", apart := false }
def AreaOfSaid : Prop := areaOfRow.holds Try.pinned (OpenSpec.ofChange areaOfSpec)

/-- ITS FALSE NEIGHBOUR: 'it returns false'. Refute it at one input. -/
def areaOfWrong : ChangeSpec := { name := "areaOf", fn := fun _ => fun
  | [d1, d2, d3, d4, d5] => { results := [.lit (.bool false)], args := [d1, d2, d3, d4, d5] }
  | _ => none }
def AreaOfWrongFalsely : Prop := areaOfRow.holds Try.pinned (OpenSpec.ofChange areaOfWrong)

/-- 'pleachlaw09.AreaApart': WHATEVER THE INPUT: true; the input reads as it did. -/
def areaApartSpec : ChangeSpec := { name := "areaApart", fn := fun _ => fun
  | [d1, d2, d3, d4, d5] => { results := [.lit (.bool true)], args := [d1, d2, d3, d4, d5] }
  | _ => none }
def areaApartRow : OpenClaim := { program := "ythldakchlnnonaa", sum := "9db7b6c264b459e9a8f0ab4c19527e62c8d3279872fd51424f61e2fec6ca58a3", func := "pleach/pleachlaw09.AreaApart", spec := "areaApart", apart := false }
def AreaApartSaid : Prop := areaApartRow.holds Try.pinned (OpenSpec.ofChange areaApartSpec)

/-- ITS FALSE NEIGHBOUR: 'it returns false'. Refute it at one input. -/
def areaApartWrong : ChangeSpec := { name := "areaApart", fn := fun _ => fun
  | [d1, d2, d3, d4, d5] => { results := [.lit (.bool false)], args := [d1, d2, d3, d4, d5] }
  | _ => none }
def AreaApartWrongFalsely : Prop := areaApartRow.holds Try.pinned (OpenSpec.ofChange areaApartWrong)

/- THE SECOND FORM. 'bulk': how many values and letters a reading holds, each counted each time it is reached (what is shared counts as often as it is met; a slice's spare places count too). A statement '..UptoSaid' is the law's where the arguments, and the package variables that the reading takes, are together of bulk at most 1048576: NARROWER than '..Said'. Prove '..Said' where nothing that the law and all that it calls make is longer than what came in: it says more and counts as full. Else prove '..UptoSaid'. A law counts once. -/
mutual
def uptoBulk {H : Type} : DataW H → Nat
  | .lit (.string bytes) => bytes.length + 1
  | .lit _ => 1
  | .nil => 1
  | .ptr d => uptoBulk d + 1
  | .slice elems spare => uptoBulkAll elems + uptoBulkAll spare + 1
  | .agg parts => uptoBulkAll parts + 1
  | .iface _ d => uptoBulk d + 1
  | .map entries => uptoBulkEntries entries + 1
  | .held _ => 1
def uptoBulkAll {H : Type} : List (DataW H) → Nat
  | [] => 0
  | d :: r => uptoBulk d + uptoBulkAll r
def uptoBulkEntries {H : Type} : List (Lit × DataW H) → Nat
  | [] => 0
  | x :: r => uptoBulkEntry x + uptoBulkEntries r
def uptoBulkEntry {H : Type} : Lit × DataW H → Nat
  | (.string bytes, d) => bytes.length + uptoBulk d + 1
  | (_, d) => uptoBulk d + 1
 end
def uptoSmall : (H : Type) → List (DataW H) → Bool := fun _ ds => decide (uptoBulkAll ds ≤ 1048576)
def OpenSpec.upto (s : _root_.Go.ChangeSpec) : _root_.Go.OpenSpec := { _root_.Go.OpenSpec.ofChange s with cond := some uptoSmall }

/-- 'pleachlaw17.RollSums', WHERE WHAT IT READS IS OF BULK AT MOST 1048576: true; the input reads as it did. -/
def rollSumsUptoRow : OpenClaim := { program := "ythldakchlnnonaa", sum := "9db7b6c264b459e9a8f0ab4c19527e62c8d3279872fd51424f61e2fec6ca58a3", func := "pleach/pleachlaw17.RollSums", spec := "rollSums", apart := false, narrowed := true }
def RollSumsUptoSaid : Prop := rollSumsUptoRow.holds Try.pinned (OpenSpec.upto rollSumsSpec)

/-- 'pleachlaw17.RollLast', WHERE WHAT IT READS IS OF BULK AT MOST 1048576: true; the input reads as it did. -/
def rollLastUptoRow : OpenClaim := { program := "ythldakchlnnonaa", sum := "9db7b6c264b459e9a8f0ab4c19527e62c8d3279872fd51424f61e2fec6ca58a3", func := "pleach/pleachlaw17.RollLast", spec := "rollLast", apart := false, narrowed := true }
def RollLastUptoSaid : Prop := rollLastUptoRow.holds Try.pinned (OpenSpec.upto rollLastSpec)

/-- 'pleachlaw09.AreaTells', WHERE WHAT IT READS IS OF BULK AT MOST 1048576: true; the input reads as it did. -/
def areaTellsUptoRow : OpenClaim := { program := "ythldakchlnnonaa", sum := "9db7b6c264b459e9a8f0ab4c19527e62c8d3279872fd51424f61e2fec6ca58a3", func := "pleach/pleachlaw09.AreaTells", spec := "areaTells", apart := false, narrowed := true }
def AreaTellsUptoSaid : Prop := areaTellsUptoRow.holds Try.pinned (OpenSpec.upto areaTellsSpec)

/-- 'pleachlaw45.BoundTells', WHERE WHAT IT READS IS OF BULK AT MOST 1048576: true; the input reads as it did. -/
def boundTellsUptoRow : OpenClaim := { program := "ythldakchlnnonaa", sum := "9db7b6c264b459e9a8f0ab4c19527e62c8d3279872fd51424f61e2fec6ca58a3", func := "pleach/pleachlaw45.BoundTells", spec := "boundTells", apart := false, narrowed := true }
def BoundTellsUptoSaid : Prop := boundTellsUptoRow.holds Try.pinned (OpenSpec.upto boundTellsSpec)

/-- 'pleachlaw09.AreaFits', WHERE WHAT IT READS IS OF BULK AT MOST 1048576: true; the input reads as it did. -/
def areaFitsUptoRow : OpenClaim := { program := "ythldakchlnnonaa", sum := "9db7b6c264b459e9a8f0ab4c19527e62c8d3279872fd51424f61e2fec6ca58a3", func := "pleach/pleachlaw09.AreaFits", spec := "areaFits", apart := false, narrowed := true }
def AreaFitsUptoSaid : Prop := areaFitsUptoRow.holds Try.pinned (OpenSpec.upto areaFitsSpec)

/-- 'pleachlaw17.RollKeys', WHERE WHAT IT READS IS OF BULK AT MOST 1048576: true; the input reads as it did. -/
def rollKeysUptoRow : OpenClaim := { program := "ythldakchlnnonaa", sum := "9db7b6c264b459e9a8f0ab4c19527e62c8d3279872fd51424f61e2fec6ca58a3", func := "pleach/pleachlaw17.RollKeys", spec := "rollKeys", unfollowed := true, recurses := true, apart := false, narrowed := true }
def RollKeysUptoSaid : Prop := rollKeysUptoRow.holds Try.pinned (OpenSpec.upto rollKeysSpec)

/-- 'pleachlaw09.AreaOf', WHERE WHAT IT READS IS OF BULK AT MOST 1048576: true; the input reads as it did. -/
def areaOfUptoRow : OpenClaim := { program := "ythldakchlnnonaa", sum := "9db7b6c264b459e9a8f0ab4c19527e62c8d3279872fd51424f61e2fec6ca58a3", func := "pleach/pleachlaw09.AreaOf", spec := "areaOf", apart := false, narrowed := true }
def AreaOfUptoSaid : Prop := areaOfUptoRow.holds Try.pinned (OpenSpec.upto areaOfSpec)

/-- 'pleachlaw09.AreaApart', WHERE WHAT IT READS IS OF BULK AT MOST 1048576: true; the input reads as it did. -/
def areaApartUptoRow : OpenClaim := { program := "ythldakchlnnonaa", sum := "9db7b6c264b459e9a8f0ab4c19527e62c8d3279872fd51424f61e2fec6ca58a3", func := "pleach/pleachlaw09.AreaApart", spec := "areaApart", apart := false, narrowed := true }
def AreaApartUptoSaid : Prop := areaApartUptoRow.holds Try.pinned (OpenSpec.upto areaApartSpec)

end Rows
end Go.Proofs.Ythldakchlnnonaa
