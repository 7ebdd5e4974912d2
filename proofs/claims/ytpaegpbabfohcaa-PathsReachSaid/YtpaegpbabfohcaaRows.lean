/-
  No cell of these rows narrows 'for every input' (looked for: loops, veiled, ifaces, maps, wideKeys, modest, calm, conditions, laid).
  DERIVED. THE GIVEN ROWS OF THIS SEAT. 6 by the template 'for every input the law returns true; each argument reads behind the call as it read before'; 0 by the template 'total and deterministic' (their statements: YtpaegpbabfohcaaTotals.lean).
  GIVEN WITH THE SEED: the statements are not yours to turn. If you find one false, say at which input.
  Laid BY PROGRAM, IN A SANDBOX (cutbox-rows.mjs): the forced cells as the released guide's own fill.sh prints them over the translation 04c8c2ea283ac643… (all of the seat's roots in one cut). By AI agents, Wed Nov 11 2026. No macro, syntax, notation, axiom, sorry.
-/
import Derived.Test.YtpaegpbabfohcaaChecked
import GoSem.Claim
import GoSem.ClaimJoined
import GoSem.ClaimMapViews
import Derived.JoinedTies
import Derived.KernelRfl
namespace Go.Proofs.Ytpaegpbabfohcaa
/- THE CELL 'sum', in the pinned program and in every row, IS THE sha256 OF THE DUMP (.gsa) THAT YtpaegpbabfohcaaProg.lean LOADS. Nothing in Lean hashes anything: it is a label: what it is worth is what the hold of that sum in a sandbox is worth. -/
noncomputable def Try.pinned : Pinned := { name := "ytpaegpbabfohcaa", sum := "04c8c2ea283ac6431432dcad9d2c2b12c33580b87a8e3564b18164f4df7a8488", checked := Try.checked }
namespace Rows
def none {H : Type} : Left H := { results := [], args := [] }

/-- 'pleachlaw36.DagBase': WHATEVER THE INPUT: true; the input reads as it did. -/
def dagBaseSpec : ChangeSpec := { name := "dagBase", fn := fun _ => fun
  | [d1, d2, d3] => { results := [.lit (.bool true)], args := [d1, d2, d3] }
  | _ => none }
def dagBaseRow : OpenClaim := { program := "ytpaegpbabfohcaa", sum := "04c8c2ea283ac6431432dcad9d2c2b12c33580b87a8e3564b18164f4df7a8488", func := "pleach/pleachlaw36.DagBase", spec := "dagBase", unfollowed := true, recurses := true, apart := false }
def DagBaseSaid : Prop := dagBaseRow.holds Try.pinned (OpenSpec.ofChange dagBaseSpec)

/-- ITS FALSE NEIGHBOUR: 'it returns false'. Refute it at one input. -/
def dagBaseWrong : ChangeSpec := { name := "dagBase", fn := fun _ => fun
  | [d1, d2, d3] => { results := [.lit (.bool false)], args := [d1, d2, d3] }
  | _ => none }
def DagBaseWrongFalsely : Prop := dagBaseRow.holds Try.pinned (OpenSpec.ofChange dagBaseWrong)

/-- 'pleachlaw36.DagSides': WHATEVER THE INPUT: true; the input reads as it did. -/
def dagSidesSpec : ChangeSpec := { name := "dagSides", fn := fun _ => fun
  | [d1, d2, d3] => { results := [.lit (.bool true)], args := [d1, d2, d3] }
  | _ => none }
def dagSidesRow : OpenClaim := { program := "ytpaegpbabfohcaa", sum := "04c8c2ea283ac6431432dcad9d2c2b12c33580b87a8e3564b18164f4df7a8488", func := "pleach/pleachlaw36.DagSides", spec := "dagSides", unfollowed := true, recurses := true, apart := false }
def DagSidesSaid : Prop := dagSidesRow.holds Try.pinned (OpenSpec.ofChange dagSidesSpec)

/-- ITS FALSE NEIGHBOUR: 'it returns false'. Refute it at one input. -/
def dagSidesWrong : ChangeSpec := { name := "dagSides", fn := fun _ => fun
  | [d1, d2, d3] => { results := [.lit (.bool false)], args := [d1, d2, d3] }
  | _ => none }
def DagSidesWrongFalsely : Prop := dagSidesRow.holds Try.pinned (OpenSpec.ofChange dagSidesWrong)

/-- 'pleachlaw36.DagBack': WHATEVER THE INPUT: true; the input reads as it did. -/
def dagBackSpec : ChangeSpec := { name := "dagBack", fn := fun _ => fun
  | [d1, d2, d3] => { results := [.lit (.bool true)], args := [d1, d2, d3] }
  | _ => none }
def dagBackRow : OpenClaim := { program := "ytpaegpbabfohcaa", sum := "04c8c2ea283ac6431432dcad9d2c2b12c33580b87a8e3564b18164f4df7a8488", func := "pleach/pleachlaw36.DagBack", spec := "dagBack", unfollowed := true, recurses := true, apart := false }
def DagBackSaid : Prop := dagBackRow.holds Try.pinned (OpenSpec.ofChange dagBackSpec)

/-- ITS FALSE NEIGHBOUR: 'it returns false'. Refute it at one input. -/
def dagBackWrong : ChangeSpec := { name := "dagBack", fn := fun _ => fun
  | [d1, d2, d3] => { results := [.lit (.bool false)], args := [d1, d2, d3] }
  | _ => none }
def DagBackWrongFalsely : Prop := dagBackRow.holds Try.pinned (OpenSpec.ofChange dagBackWrong)

/-- 'pleachlaw30.PathsParts': WHATEVER THE INPUT: true; the input reads as it did. -/
def pathsPartsSpec : ChangeSpec := { name := "pathsParts", fn := fun _ => fun
  | [d1, d2] => { results := [.lit (.bool true)], args := [d1, d2] }
  | _ => none }
def pathsPartsRow : OpenClaim := { program := "ytpaegpbabfohcaa", sum := "04c8c2ea283ac6431432dcad9d2c2b12c33580b87a8e3564b18164f4df7a8488", func := "pleach/pleachlaw30.PathsParts", spec := "pathsParts", unfollowed := true, recurses := true, apart := false }
def PathsPartsSaid : Prop := pathsPartsRow.holds Try.pinned (OpenSpec.ofChange pathsPartsSpec)

/-- ITS FALSE NEIGHBOUR: 'it returns false'. Refute it at one input. -/
def pathsPartsWrong : ChangeSpec := { name := "pathsParts", fn := fun _ => fun
  | [d1, d2] => { results := [.lit (.bool false)], args := [d1, d2] }
  | _ => none }
def PathsPartsWrongFalsely : Prop := pathsPartsRow.holds Try.pinned (OpenSpec.ofChange pathsPartsWrong)

/-- 'pleachlaw30.PathsReach': WHATEVER THE INPUT: true; the input reads as it did. -/
def pathsReachSpec : ChangeSpec := { name := "pathsReach", fn := fun _ => fun
  | [d1, d2] => { results := [.lit (.bool true)], args := [d1, d2] }
  | _ => none }
def pathsReachRow : OpenClaim := { program := "ytpaegpbabfohcaa", sum := "04c8c2ea283ac6431432dcad9d2c2b12c33580b87a8e3564b18164f4df7a8488", func := "pleach/pleachlaw30.PathsReach", spec := "pathsReach", unfollowed := true, recurses := true, apart := false }
def PathsReachSaid : Prop := pathsReachRow.holds Try.pinned (OpenSpec.ofChange pathsReachSpec)

/-- ITS FALSE NEIGHBOUR: 'it returns false'. Refute it at one input. -/
def pathsReachWrong : ChangeSpec := { name := "pathsReach", fn := fun _ => fun
  | [d1, d2] => { results := [.lit (.bool false)], args := [d1, d2] }
  | _ => none }
def PathsReachWrongFalsely : Prop := pathsReachRow.holds Try.pinned (OpenSpec.ofChange pathsReachWrong)

/-- 'pleachlaw30.PathsPath': WHATEVER THE INPUT: true; the input reads as it did. -/
def pathsPathSpec : ChangeSpec := { name := "pathsPath", fn := fun _ => fun
  | [d1, d2, d3] => { results := [.lit (.bool true)], args := [d1, d2, d3] }
  | _ => none }
def pathsPathRow : OpenClaim := { program := "ytpaegpbabfohcaa", sum := "04c8c2ea283ac6431432dcad9d2c2b12c33580b87a8e3564b18164f4df7a8488", func := "pleach/pleachlaw30.PathsPath", spec := "pathsPath", unfollowed := true, recurses := true, apart := false }
def PathsPathSaid : Prop := pathsPathRow.holds Try.pinned (OpenSpec.ofChange pathsPathSpec)

/-- ITS FALSE NEIGHBOUR: 'it returns false'. Refute it at one input. -/
def pathsPathWrong : ChangeSpec := { name := "pathsPath", fn := fun _ => fun
  | [d1, d2, d3] => { results := [.lit (.bool false)], args := [d1, d2, d3] }
  | _ => none }
def PathsPathWrongFalsely : Prop := pathsPathRow.holds Try.pinned (OpenSpec.ofChange pathsPathWrong)

/- THE SECOND FORM. 'bulk': how many values and letters a reading holds, each counted each time it is reached (what is shared counts as often as it is met; a slice's spare places count too). A statement '..UptoSaid' is the law's where the arguments, and the package variables that the reading takes, are together of bulk at most 1048576: NARROWER than '..Said'. Prove '..Said' where nothing that the law and all that it calls make is longer than what came in: it says more and counts as full. Else prove '..UptoSaid'. A law counts once. -/
mutual
def uptoBulk {H : Type} : DataW H → Nat
  | .lit (.string bytes) => bytes.length + 1
  | .lit _ => 1
  | .nil => 1
  | .ptr d => uptoBulk d + 1
  | .slice elems spare => uptoBulkAll elems + uptoBulkAll spare + 1
  | .agg parts => uptoBulkAll parts + 1
  | .iface _ d => uptoBulk d + 1
  | .map entries => uptoBulkEntries entries + 1
  | .held _ => 1
def uptoBulkAll {H : Type} : List (DataW H) → Nat
  | [] => 0
  | d :: r => uptoBulk d + uptoBulkAll r
def uptoBulkEntries {H : Type} : List (Lit × DataW H) → Nat
  | [] => 0
  | x :: r => uptoBulkEntry x + uptoBulkEntries r
def uptoBulkEntry {H : Type} : Lit × DataW H → Nat
  | (.string bytes, d) => bytes.length + uptoBulk d + 1
  | (_, d) => uptoBulk d + 1
 end
def uptoSmall : (H : Type) → List (DataW H) → Bool := fun _ ds => decide (uptoBulkAll ds ≤ 1048576)
def OpenSpec.upto (s : _root_.Go.ChangeSpec) : _root_.Go.OpenSpec := { _root_.Go.OpenSpec.ofChange s with cond := some uptoSmall }

/-- 'pleachlaw36.DagBase', WHERE WHAT IT READS IS OF BULK AT MOST 1048576: true; the input reads as it did. -/
def dagBaseUptoRow : OpenClaim := { program := "ytpaegpbabfohcaa", sum := "04c8c2ea283ac6431432dcad9d2c2b12c33580b87a8e3564b18164f4df7a8488", func := "pleach/pleachlaw36.DagBase", spec := "dagBase", unfollowed := true, recurses := true, apart := false, narrowed := true }
def DagBaseUptoSaid : Prop := dagBaseUptoRow.holds Try.pinned (OpenSpec.upto dagBaseSpec)

/-- 'pleachlaw36.DagSides', WHERE WHAT IT READS IS OF BULK AT MOST 1048576: true; the input reads as it did. -/
def dagSidesUptoRow : OpenClaim := { program := "ytpaegpbabfohcaa", sum := "04c8c2ea283ac6431432dcad9d2c2b12c33580b87a8e3564b18164f4df7a8488", func := "pleach/pleachlaw36.DagSides", spec := "dagSides", unfollowed := true, recurses := true, apart := false, narrowed := true }
def DagSidesUptoSaid : Prop := dagSidesUptoRow.holds Try.pinned (OpenSpec.upto dagSidesSpec)

/-- 'pleachlaw36.DagBack', WHERE WHAT IT READS IS OF BULK AT MOST 1048576: true; the input reads as it did. -/
def dagBackUptoRow : OpenClaim := { program := "ytpaegpbabfohcaa", sum := "04c8c2ea283ac6431432dcad9d2c2b12c33580b87a8e3564b18164f4df7a8488", func := "pleach/pleachlaw36.DagBack", spec := "dagBack", unfollowed := true, recurses := true, apart := false, narrowed := true }
def DagBackUptoSaid : Prop := dagBackUptoRow.holds Try.pinned (OpenSpec.upto dagBackSpec)

/-- 'pleachlaw30.PathsParts', WHERE WHAT IT READS IS OF BULK AT MOST 1048576: true; the input reads as it did. -/
def pathsPartsUptoRow : OpenClaim := { program := "ytpaegpbabfohcaa", sum := "04c8c2ea283ac6431432dcad9d2c2b12c33580b87a8e3564b18164f4df7a8488", func := "pleach/pleachlaw30.PathsParts", spec := "pathsParts", unfollowed := true, recurses := true, apart := false, narrowed := true }
def PathsPartsUptoSaid : Prop := pathsPartsUptoRow.holds Try.pinned (OpenSpec.upto pathsPartsSpec)

/-- 'pleachlaw30.PathsReach', WHERE WHAT IT READS IS OF BULK AT MOST 1048576: true; the input reads as it did. -/
def pathsReachUptoRow : OpenClaim := { program := "ytpaegpbabfohcaa", sum := "04c8c2ea283ac6431432dcad9d2c2b12c33580b87a8e3564b18164f4df7a8488", func := "pleach/pleachlaw30.PathsReach", spec := "pathsReach", unfollowed := true, recurses := true, apart := false, narrowed := true }
def PathsReachUptoSaid : Prop := pathsReachUptoRow.holds Try.pinned (OpenSpec.upto pathsReachSpec)

/-- 'pleachlaw30.PathsPath', WHERE WHAT IT READS IS OF BULK AT MOST 1048576: true; the input reads as it did. -/
def pathsPathUptoRow : OpenClaim := { program := "ytpaegpbabfohcaa", sum := "04c8c2ea283ac6431432dcad9d2c2b12c33580b87a8e3564b18164f4df7a8488", func := "pleach/pleachlaw30.PathsPath", spec := "pathsPath", unfollowed := true, recurses := true, apart := false, narrowed := true }
def PathsPathUptoSaid : Prop := pathsPathUptoRow.holds Try.pinned (OpenSpec.upto pathsPathSpec)

end Rows
end Go.Proofs.Ytpaegpbabfohcaa
