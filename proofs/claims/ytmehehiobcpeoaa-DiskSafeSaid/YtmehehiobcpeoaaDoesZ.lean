/-
  The walks of pleachlaw07's does: whatever the call.
-/
import Derived.Test.YtmehehiobcpeoaaDoesB
import Derived.Test.YtmehehiobcpeoaaDoesC
import Derived.Test.YtmehehiobcpeoaaDoesD
import Derived.Test.YtmehehiobcpeoaaDoesE
import Derived.Test.YtmehehiobcpeoaaDoesF
namespace Go.Proofs.Ytmehehiobcpeoaa.Disk
open Go.RowKit Go.Proofs.Ytmehehiobcpeoaa.DiskRows
set_option linter.unusedVariables false
set_option linter.unusedSimpArgs false
set_option maxRecDepth 100000

theorem does_any (F Q : Nat → Prop) (b : Nat) (d : Dk) (A A' : Option Addr) (c c' : Nat) (a : Ac) (w : World) (hB : Both F Q b d A A' w) (ho : d.ops ≤ 1000000) (hC : d.C.length ≤ 90000) (ha : AcOk w a) :
    Calls Try.prog 12 #[.pointer (some ⟨b, 0, none⟩), .agg (rc (.slice A d.S.length c) (.slice A' d.C.length c') d).toArray, .agg a.cells.toArray] w (DoesPost F Q b d w) := by
  by_cases h1 : a.kind = 1
  · exact does1_any F Q b d A A' c c' a w hB ho hC ha h1
  by_cases h2 : a.kind = 2
  · exact does2_any F Q b d A A' c c' a w hB ho hC ha h2
  by_cases h3 : a.kind = 3
  · exact does3_any F Q b d A A' c c' a w hB ho hC ha h3
  by_cases h4 : a.kind = 4
  · exact does4_any F Q b d A A' c c' a w hB ho hC ha h4
  by_cases h5 : a.kind = 5
  · exact does5_any F Q b d A A' c c' a w hB ho hC ha h5
  by_cases h6 : a.kind = 6
  · exact does6_any F Q b d A A' c c' a w hB ho hC ha h6
  by_cases h7 : a.kind = 7
  · exact does7_any F Q b d A A' c c' a w hB ho hC ha h7
  exact does8_any F Q b d A A' c c' a w hB ho hC ha (fun z z1 z7 e => by
    have : z = 1 ∨ z = 2 ∨ z = 3 ∨ z = 4 ∨ z = 5 ∨ z = 6 ∨ z = 7 := by omega
    rcases this with rfl | rfl | rfl | rfl | rfl | rfl | rfl
    · exact h1 e
    · exact h2 e
    · exact h3 e
    · exact h4 e
    · exact h5 e
    · exact h6 e
    · exact h7 e)
end Go.Proofs.Ytmehehiobcpeoaa.Disk
