/-
  What a flushed disk holds (LogSafe): the plain law.
-/
import Derived.Test.YtgdedimoblpgbaaLogQ
namespace Go.Proofs.Ytgdedimoblpgbaa.Disk
set_option linter.unusedVariables false

/-- what is shown is what was written over what is sure -/
def Told (d : Dk) : Prop := d.H = shows d.S d.C
theorem Told.write {d : Dk} (h : Told d) (i : Int) (x : ByteArray) : Told (d.write i x).1 := by
  have hs : ∀ d : Dk, Told d → Told d.step.1 := fun d h => by
    unfold Dk.step
    split
    · exact h
    · exact h
  have es : d.step.1.S = d.S := (step_same d).1
  unfold Dk.write
  split
  · exact h
  · split
    · split
      · split
        · exact hs d h
        · show d.H.set i.toNat x = shows d.step.1.S (d.C ++ [(i.toNat, x)])
          rw [es]
          unfold shows
          rw [List.foldl_append]
          show _ = (shows d.S d.C).set i.toNat x
          rw [← h]
      · exact h
    · exact h
theorem Told.putk {d : Dk} (h : Told d) (p : Nat) (r : ByteArray) (k : Nat) : Told (d.putk p r k).1 := by
  induction k with
  | zero => exact h
  | succ k ih =>
    rw [Dk.putk]
    split
    · exact ih.write _ _
    · exact ih
theorem flush_safe {first : Nat} {t : ByteArray} {d : Dk} (h : Told d) (hH : Hold first t d.H) (h0 : d.armed = 0) (hd : d.down = false) : Safe first t d.flush.1 ∧ d.flush.2 = 0 := by
  have e : d.flush = ({ d.step.1 with S := shows d.S d.C, C := [] }, 0) := by
    unfold Dk.flush
    rw [if_neg (by simp [hd]), if_neg (by simp [Dk.step, h0])]
  have eh : d.step.1.H = d.H := (step_same d).2.1
  rw [e]
  refine ⟨⟨?_, ?_, fun c hc => by cases hc⟩, rfl⟩
  · show Hold first t (shows d.S d.C)
    rw [← h]
    exact hH
  · show Hold first t d.step.1.H
    rw [eh]
    exact hH
end Go.Proofs.Ytgdedimoblpgbaa.Disk
