/-
  dag's queue: Less.
-/
import Derived.Test.YtpaegpbabfohcaaProg
import Derived.WalkKit
import Derived.KernelRfl
import Derived.Lib.Hide
import Derived.Deep.QuietTactic
import Derived.BigQuiet
import Derived.IntWalk
import Derived.Below
namespace Go.Proofs.Ytpaegpbabfohcaa.HeapA
open Go.RowKit
set_option linter.unusedVariables false
set_option linter.unusedSimpArgs false

set_option maxHeartbeats 800000 in
theorem less_any (g o n c : Nat) (i j : Nat) (x y : Int) (w : World) (hi : i < n) (hj : j < n) (hn : n < 2 ^ 40) (hx : w.cell? ⟨g, o + i, none⟩ = some (.int .i64 x)) (hy : w.cell? ⟨g, o + j, none⟩ = some (.int .i64 y)) :
    Calls Try.prog 126 #[.slice (some ⟨g, o, none⟩) n c, .int .i64 i, .int .i64 j] w fun e w' => e = .returned (.bool (decide (y < x))) ∧ ∃ m, w' = w.drewN m := by
  obtain ⟨r, hr⟩ : ∃ r, decide (y < x) = r := ⟨_, rfl⟩
  rw [hr]
  go_enter Try.func126, Try.ntmps126
  go_wp2_with fail
  go_quiet (fail)
  go_wp2
  go_ret
  exact ⟨by simp [hr], _, rfl⟩
end Go.Proofs.Ytpaegpbabfohcaa.HeapA
