/-
  dag's queue: Swap.
-/
import Derived.Test.YtpaegpbabfohcaaHeapA
import Derived.Laws.OwnMore
namespace Go.Proofs.Ytpaegpbabfohcaa.HeapA
open Go.RowKit
set_option linter.unusedVariables false
set_option linter.unusedSimpArgs false

set_option maxHeartbeats 800000 in
theorem swap_any (g n c : Nat) (i j : Nat) (x y : Int) (w : World) (hi : i < n) (hj : j < n) (hn : n < 2 ^ 40) (hx : w.cell? ⟨g, i, none⟩ = some (.int .i64 x)) (hy : w.cell? ⟨g, j, none⟩ = some (.int .i64 y)) (fx : w.frozen? ⟨g, i, none⟩ = false) (fy : w.frozen? ⟨g, j, none⟩ = false) :
    Calls Try.prog 127 #[.slice (some ⟨g, 0, none⟩) n c, .int .i64 i, .int .i64 j] w fun e w' => e = .returned (.tuple #[]) ∧ ∃ m, w' = ((w.setCell ⟨g, i, none⟩ (.int .i64 y)).setCell ⟨g, j, none⟩ (.int .i64 x)).drewN m := by
  obtain ⟨v, hv⟩ : ∃ v, (w.setCell ⟨g, i, none⟩ (.int .i64 y)).cell? ⟨g, j, none⟩ = some v := by
    by_cases q : i = j
    · subst q
      exact ⟨_, World.cell?_setCell_same w _ _ hx⟩
    · exact ⟨_, (World.cell?_setCell_other w _ _ _ (by simp [q])).trans hy⟩
  have hf : (w.setCell ⟨g, i, none⟩ (.int .i64 y)).frozen? ⟨g, j, none⟩ = false := (World.frozen?_setCell _ _ _ _).trans fy
  go_enter Try.func127, Try.ntmps127
  go_wp2_with fail
  go_region
  go_wp2
  go_end0
  exact ⟨rfl, 1, rfl⟩
end Go.Proofs.Ytpaegpbabfohcaa.HeapA
