/-
  The walks of the document's Is, Full, Sealed, Put, Bare of the seat.
-/
import Derived.Test.YtfbakelpplpomaaDoorWalkSeatD
namespace Go.Proofs.YtfbakelpplpomaaDoor.WalkSeat
open Go.RowKit Go.Proofs.YtfbakelpplpomaaDoor.WalkVar Go.Proofs.YtfbakelpplpomaaDoor.WalkScan Go.Proofs.YtfbakelpplpomaaDoor.WalkCrc
open Pl.Seat (numV numR txtV txtR numP txtP Head isH putH openS)
set_option linter.unusedVariables false
set_option linter.unusedSimpArgs false
set_option maxRecDepth 100000

theorem full_step (s : List UInt8) (h : s.length < 128) : Pl.Seat.full (s ++ [0]) = Pl.Seat.full s := by
  unfold Pl.Seat.full
  have : 128 - s.length = (128 - (s ++ [0]).length) + 1 := by simp; omega
  rw [this, List.replicate_succ]
  simp
end Go.Proofs.YtfbakelpplpomaaDoor.WalkSeat
