/-
  LogSafe, the plain law joined.
-/
import Derived.Test.YtgdedimoblpgbaaLogV
namespace Go.Proofs.Ytgdedimoblpgbaa.Disk
set_option linter.unusedVariables false

theorem Told.grow {d : Dk} (h : Told d) (first most : Nat) (t s : ByteArray) : Told (growV d first most t s).1 := by
  unfold growV
  split
  · exact h
  · split
    · exact h
    · exact h.putk _ _ _
theorem Sz.flush {d : Dk} (h : Sz d) (ht : Told d) : Sz d.flush.1 := by
  have eh : d.step.1.H = d.H := (step_same d).2.1
  unfold Dk.flush
  split
  · exact h
  · split
    · exact h.step
    · refine ⟨?_, ?_, fun c hc => by cases hc⟩
      · show ∀ x ∈ shows d.S d.C, x.size = 128
        rw [← ht]
        exact h.H
      · show ∀ x ∈ d.step.1.H, x.size = 128
        rw [eh]
        exact h.H
theorem fresh_told (N : Nat) : Told (fresh N) := rfl
theorem fresh_sz (N : Nat) : Sz (fresh N) := by
  have hz : (bs (zeros 128)).size = 128 := by rw [bs_size]; simp [zeros]
  refine ⟨?_, ?_, fun c hc => by cases hc⟩
  · intro x hx
    obtain ⟨-, rfl⟩ := List.mem_replicate.1 hx
    exact hz
  · intro x hx
    obtain ⟨-, rfl⟩ := List.mem_replicate.1 hx
    exact hz
end Go.Proofs.Ytgdedimoblpgbaa.Disk
