/-
  The walks of the seat's Slot, Next, Choose.
-/
import Derived.Test.YtfbakelpplpomaaGreatDoorWalkSeatC
namespace Go.Proofs.YtfbakelpplpomaaGreatDoor.WalkSeat
open Go.RowKit Go.Proofs.YtfbakelpplpomaaGreatDoor.WalkVar Go.Proofs.YtfbakelpplpomaaGreatDoor.WalkScan Go.Proofs.YtfbakelpplpomaaGreatDoor.WalkCrc
open Pl.Seat (numV numR txtV txtR numP txtP Head isH putH openS)
set_option linter.unusedVariables false
set_option linter.unusedSimpArgs false
set_option maxRecDepth 100000

theorem i64_and1 (n : Int) : bits .and .i64 n 1 = n % 2 := by
  have h1 : (BitVec.ofInt 64 1).toNat = 2 ^ 1 - 1 := by decide
  have key : (BitVec.ofInt 64 n &&& BitVec.ofInt 64 1).toNat = (n % ((2 ^ 64 : Nat) : Int)).toNat % 2 ^ 1 := by
    rw [BitVec.toNat_and, BitVec.toNat_ofInt, h1, Nat.and_two_pow_sub_one_eq_mod]
  show IntKind.i64.wrap ((BitVec.ofInt 64 n &&& BitVec.ofInt 64 1).toNat : Nat) = n % 2
  rw [key, IntKind.wrap_i64]
  omega
/-- the next head, and what is answered -/
def nextV (h : Head) (pack num : Int) : Head × Int :=
  if isH h = true then
    if h.epoch = 4294967295 then (Pl.Seat.Head.zero, 5)
    else if isH ⟨h.epoch + 1, 1 - h.half, pack, num⟩ = true then (⟨h.epoch + 1, 1 - h.half, pack, num⟩, 0) else (Pl.Seat.Head.zero, 2)
  else (Pl.Seat.Head.zero, 2)
end Go.Proofs.YtfbakelpplpomaaGreatDoor.WalkSeat
