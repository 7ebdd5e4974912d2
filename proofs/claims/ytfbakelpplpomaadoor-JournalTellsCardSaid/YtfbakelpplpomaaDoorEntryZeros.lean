/-
  Noughts are no record.
-/
import Derived.Test.YtfbakelpplpomaaDoorWalkEntryIs
namespace Go.Proofs.YtfbakelpplpomaaDoor.WalkSeat
open Go.RowKit Go.Proofs.YtfbakelpplpomaaDoor.WalkVar Go.Proofs.YtfbakelpplpomaaDoor.WalkScan Go.Proofs.YtfbakelpplpomaaDoor.WalkCrc
open Pl.Seat (numV numR txtV txtR numP txtP Head isH putH openS isName nameByte isHash Rec isR putR)
set_option linter.unusedVariables false
set_option linter.unusedSimpArgs false
set_option maxRecDepth 100000

theorem takeR_zeros : takeRV (zeros 128) = Pl.Seat.Rec.zero ∧ takeRB (zeros 128) = false := by
  rcases takeRV_is (zeros 128) with ⟨h1, h2, h3⟩ | ⟨h1, h2⟩
  · exfalso
    obtain ⟨x, hx⟩ : ∃ x, takeRV (zeros 128) = x := ⟨_, rfl⟩
    rw [hx] at h2 h3
    have h3' : putR tailU x = zeros 128 := by unfold putRV at h3; rw [if_pos h2] at h3; exact h3
    have h5 : (putR tailU x).head? = some 0 := by rw [h3']; rfl
    have hl := Pl.Seat.textR_len x h2
    have hu := tailU_len (Pl.Seat.textR x)
    have h4 : (putR tailU x).head? = (Pl.Seat.put (Pl.Seat.textR x ++ tailU (Pl.Seat.textR x)).length).head? := by
      show (Pl.Seat.full (Pl.Seat.putT _)).head? = _
      unfold Pl.Seat.full Pl.Seat.putT
      rw [List.append_assoc, List.head?_append]
      have := Pl.Seat.put_pos (Pl.Seat.textR x ++ tailU (Pl.Seat.textR x)).length
      cases hq : Pl.Seat.put (Pl.Seat.textR x ++ tailU (Pl.Seat.textR x)).length with
      | nil => rw [hq] at this; simp at this
      | cons c l => rfl
    have h6 : 0 < (Pl.Seat.textR x ++ tailU (Pl.Seat.textR x)).length := by simp; omega
    have h7 : (Pl.Seat.textR x ++ tailU (Pl.Seat.textR x)).length < 128 := by simp; omega
    generalize (Pl.Seat.textR x ++ tailU (Pl.Seat.textR x)).length = m at h4 h6 h7
    unfold Pl.Seat.put Pl.Seat.putF at h4
    rw [if_pos h7, h5] at h4
    simp only [List.head?_cons, Option.some.injEq] at h4
    have := congrArg UInt8.toNat h4
    simp at this
    omega
  · exact ⟨h2, h1⟩
end Go.Proofs.YtfbakelpplpomaaDoor.WalkSeat
