/-
  The walks of the document's Is of a name, hash; entry.Check's within.
-/
import Derived.Test.YtfbakelpplpomaaDoorWalkName
namespace Go.Proofs.YtfbakelpplpomaaDoor.WalkSeat
open Go.RowKit Go.Proofs.YtfbakelpplpomaaDoor.WalkVar Go.Proofs.YtfbakelpplpomaaDoor.WalkScan Go.Proofs.YtfbakelpplpomaaDoor.WalkCrc
open Pl.Seat (numV numR txtV txtR numP txtP Head isH putH openS isName nameByte isHash Rec isR)
set_option linter.unusedVariables false
set_option linter.unusedSimpArgs false
set_option maxRecDepth 100000

theorem ewithin_any (n l m : Int) (w : World) :
    Calls Tryd.prog 54 #[.int .i64 n, .int .i64 l, .int .i64 m] w fun e w' => e = .returned (.bool (decide (l ≤ n) && decide (n ≤ m))) ∧ w = w' := by
  by_cases h1 : l ≤ n
  · by_cases h2 : n ≤ m
    · rw [decide_eq_true h1, decide_eq_true h2]
      go_enter Tryd.func54, Tryd.ntmps54
      go_wp2
      go_ret
      exact ⟨rfl, rfl⟩
    · rw [decide_eq_true h1, decide_eq_false h2]
      have h2' : m < n := by omega
      go_enter Tryd.func54, Tryd.ntmps54
      go_wp2
      go_ret
      exact ⟨rfl, rfl⟩
  · rw [decide_eq_false h1]
    have h1' : n < l := by omega
    go_enter Tryd.func54, Tryd.ntmps54
    go_wp2
    go_ret
    exact ⟨rfl, rfl⟩
theorem ewithin_at (n l m : Int) (b : Bool) (w : World) (hb : (decide (l ≤ n) && decide (n ≤ m)) = b) :
    Calls Tryd.prog 54 #[.int .i64 n, .int .i64 l, .int .i64 m] w fun e w' => e = .returned (.bool b) ∧ w = w' := hb ▸ ewithin_any n l m w
theorem nb_cases (n : Nat) : (97 ≤ n ∧ n ≤ 122 ∧ nb n = true) ∨ (122 < n ∧ nb n = false) ∨ (48 ≤ n ∧ n ≤ 57 ∧ nb n = true) ∨ (57 < n ∧ n < 97 ∧ nb n = false) ∨ (n = 45 ∧ nb n = true) ∨ (n < 48 ∧ n ≠ 45 ∧ nb n = false) := by
  unfold nb
  rcases (by omega : (97 ≤ n ∧ n ≤ 122) ∨ 122 < n ∨ (48 ≤ n ∧ n ≤ 57) ∨ (57 < n ∧ n < 97) ∨ n = 45 ∨ (n < 48 ∧ n ≠ 45)) with h | h | h | h | h | h
  · left; refine ⟨h.1, h.2, ?_⟩; simp [h.1, h.2]
  · right; left; refine ⟨h, ?_⟩; simp; omega
  · right; right; left; refine ⟨h.1, h.2, ?_⟩; simp [h.1, h.2]
  · right; right; right; left; refine ⟨h.1, h.2, ?_⟩; simp; omega
  · right; right; right; right; left; subst h; exact ⟨rfl, rfl⟩
  · right; right; right; right; right; refine ⟨h.1, h.2, ?_⟩; simp; omega
end Go.Proofs.YtfbakelpplpomaaDoor.WalkSeat
