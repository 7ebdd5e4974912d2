/-
  The walks of the document's Next and of the laws' awake.
-/
import Derived.Test.YtfbakelpplpomaaGreatDoorWalkSeatG
namespace Go.Proofs.YtfbakelpplpomaaGreatDoor.WalkSeat
open Go.RowKit Go.Proofs.YtfbakelpplpomaaGreatDoor.WalkVar Go.Proofs.YtfbakelpplpomaaGreatDoor.WalkScan Go.Proofs.YtfbakelpplpomaaGreatDoor.WalkCrc
open Pl.Seat (numV numR txtV txtR numP txtP Head isH putH openS)
set_option linter.unusedVariables false
set_option linter.unusedSimpArgs false
set_option maxRecDepth 100000

/-- a head's sector has that head -/
theorem takeV_put (h : Head) (hh : isH h = true) : takeV (putH tailU h) = h ∧ takeB (putH tailU h) = true := by
  have := (Pl.Seat.takeH_iff tailU tailU_len (putH tailU h) h).2 ⟨hh, rfl⟩
  unfold takeV takeB
  rw [this]
  exact ⟨rfl, rfl⟩
theorem takeB_zeros : takeB (zeros 128) = false := by
  unfold takeB
  cases h : Pl.Seat.takeH tailU (zeros 128) with
  | none => rfl
  | some x =>
    obtain ⟨h1, h2⟩ := (Pl.Seat.takeH_iff tailU tailU_len _ _).1 h
    exfalso
    have h3 : (putH tailU x).head? = some 0 := by rw [h2]; rfl
    have hl := Pl.Seat.textH_len x
    have hu := tailU_len (Pl.Seat.textH x)
    have h4 : (putH tailU x).head? = (Pl.Seat.put (Pl.Seat.textH x ++ tailU (Pl.Seat.textH x)).length).head? := by
      show (Pl.Seat.full (Pl.Seat.putT _)).head? = _
      unfold Pl.Seat.full Pl.Seat.putT
      rw [List.append_assoc, List.head?_append]
      have := Pl.Seat.put_pos (Pl.Seat.textH x ++ tailU (Pl.Seat.textH x)).length
      cases hq : Pl.Seat.put (Pl.Seat.textH x ++ tailU (Pl.Seat.textH x)).length with
      | nil => rw [hq] at this; simp at this
      | cons c l => rfl
    have h5 : 0 < (Pl.Seat.textH x ++ tailU (Pl.Seat.textH x)).length := by simp; omega
    have h6 : (Pl.Seat.textH x ++ tailU (Pl.Seat.textH x)).length < 128 := by simp; omega
    generalize (Pl.Seat.textH x ++ tailU (Pl.Seat.textH x)).length = m at h4 h5 h6
    unfold Pl.Seat.put Pl.Seat.putF at h4
    rw [if_pos h6, h3] at h4
    simp only [List.head?_cons, Option.some.injEq] at h4
    have := congrArg UInt8.toNat h4
    simp at this
    omega
end Go.Proofs.YtfbakelpplpomaaGreatDoor.WalkSeat
