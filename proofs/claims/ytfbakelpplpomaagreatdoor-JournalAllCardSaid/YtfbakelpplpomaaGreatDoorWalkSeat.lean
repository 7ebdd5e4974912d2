/-
  The walks of the seat: Check, Full, Bare, Put; plain.Noughts, Full.
-/
import Derived.Test.YtfbakelpplpomaaGreatDoorWalkScanB
import Derived.Test.YtfbakelpplpomaaGreatDoorWalkCrcB
import Derived.Deep.RegionHeld3
import Derived.Lib.ConvBytes
import Derived.Test.YtfbakelpplpomaaGreatDoorShelf
import Derived.Deep.OwnRows
namespace Go.Proofs.YtfbakelpplpomaaGreatDoor.WalkSeat
open Go.RowKit Go.Proofs.YtfbakelpplpomaaGreatDoor.WalkVar Go.Proofs.YtfbakelpplpomaaGreatDoor.WalkScan Go.Proofs.YtfbakelpplpomaaGreatDoor.WalkCrc
open Pl.Seat (numV numR txtV txtR numP txtP Head isH)
set_option linter.unusedVariables false
set_option linter.unusedSimpArgs false
set_option maxRecDepth 100000

theorem isH_and (h : Head) : isH h = ((((decide (1 ≤ h.epoch) && decide (h.epoch ≤ 4294967295)) && (decide (0 ≤ h.half) && decide (h.half ≤ 1))) && (decide (0 ≤ h.pack) && decide (h.pack ≤ 524288))) && (decide (1 ≤ h.num) && decide (h.num ≤ 4294967296))) := by
  unfold isH
  simp only [Bool.and_assoc]
/-- what a check answers -/
def arg (b : Bool) : Int := if b then 0 else 2

theorem dropWhile_nil (p : UInt8 → Bool) (l : List UInt8) (h : ∀ x ∈ l.dropWhile p, p x = true) : l.dropWhile p = [] := by
  induction l with
  | nil => rfl
  | cons c l ih =>
    by_cases hc : p c = true
    · rw [List.dropWhile_cons_of_pos hc] at h ⊢
      exact ih h
    · rw [List.dropWhile_cons_of_neg hc] at h
      exact absurd (h c (by simp)) hc
theorem dropWhile_all (p : UInt8 → Bool) (l : List UInt8) : l.dropWhile p = [] ↔ ∀ x ∈ l, p x = true := by
  induction l with
  | nil => simp
  | cons c l ih =>
    by_cases hc : p c = true
    · rw [List.dropWhile_cons_of_pos hc, ih]; simp [hc]
    · rw [List.dropWhile_cons_of_neg hc]; simp [hc]
theorem trim_nil (l : List UInt8) : Lib.trimB l 0 = [] ↔ l.all (· == 0) = true := by
  unfold Lib.trimB Lib.trimLeftB Lib.trimRightB
  rw [dropWhile_all]
  constructor
  · intro h
    have h2 : l.reverse.dropWhile (· == 0) = [] := dropWhile_nil _ _ fun x hx => h x (by simpa using hx)
    rw [dropWhile_all] at h2
    rw [List.all_eq_true]
    intro x hx
    exact h2 x (by simpa using hx)
  · intro h
    rw [List.all_eq_true] at h
    have h2 : l.reverse.dropWhile (· == 0) = [] := (dropWhile_all _ _).2 fun x hx => h x (by simpa using hx)
    rw [h2]
    simp
theorem trim_at (q t : List UInt8) (w : World) (hq : q.length ≤ 1048576) (ht : Lib.trimB q 0 = t) :
    Calls Tryz.prog 116 #[.string (bs q), .string ⟨#[0]⟩] w fun e w' => e = .returned (.string (bs t)) ∧ Below w.heap.size w w' := by
  have := Tryz.strings_Trim_one (bs q) 0 (by decide) w (by rw [bs_size]; omega)
  rw [bs_list, ht] at this
  exact this.mono fun e w' ⟨h1, h2⟩ => ⟨h1, by rcases h2 with rfl | rfl; exact Below.refl _ _; exact (Below.refl _ _).drew⟩
/-- n noughts -/
def zeros (n : Nat) : List UInt8 := List.replicate n 0
theorem repeat_any (n : Nat) (w : World) (hn : n ≤ 4096) :
    Calls Tryz.prog 39 #[.string ⟨#[0]⟩, .int .i64 n] w fun e w' => e = .returned (.string (bs (zeros n))) ∧ Below w.heap.size w w' := by
  have h1 : (⟨#[0]⟩ : ByteArray).size = 1 := rfl
  have := Tryz.strings_Repeat ⟨#[0]⟩ n w (by omega) (by rw [h1]; omega)
  have e : (Lib.repeatL (⟨#[0]⟩ : ByteArray).data.toList n) = zeros n := by
    have h2 := Lib.repeatL_replicate 0 1 n
    rw [Nat.mul_one] at h2
    exact h2
  rw [e] at this
  exact this
end Go.Proofs.YtfbakelpplpomaaGreatDoor.WalkSeat
