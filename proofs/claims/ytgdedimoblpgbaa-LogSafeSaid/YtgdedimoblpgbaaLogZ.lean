/-
  How many sectors (LogSafe): the plain law.
-/
import Derived.Test.YtgdedimoblpgbaaLogY
namespace Go.Proofs.Ytgdedimoblpgbaa.Disk
set_option linter.unusedVariables false

def Len (N : Nat) (d : Dk) : Prop := d.S.length = N ∧ d.H.length = N
theorem Len.step {N : Nat} {d : Dk} (h : Len N d) : Len N d.step.1 := by
  obtain ⟨e1, e2, -⟩ := step_same d
  exact ⟨by rw [e1]; exact h.1, by rw [e2]; exact h.2⟩
theorem Len.write {N : Nat} {d : Dk} (h : Len N d) (i : Int) (x : ByteArray) : Len N (d.write i x).1 := by
  unfold Dk.write
  split
  · exact h
  · split
    · split
      · split
        · exact h.step
        · exact ⟨h.step.1, by show (d.H.set _ _).length = N; rw [List.length_set]; exact h.2⟩
      · exact h
    · exact h
theorem Len.putk {N : Nat} {d : Dk} (h : Len N d) (p : Nat) (r : ByteArray) (k : Nat) : Len N (d.putk p r k).1 := by
  induction k with
  | zero => exact h
  | succ k ih =>
    rw [Dk.putk]
    split
    · exact ih.write _ _
    · exact ih
theorem Len.grow {N : Nat} {d : Dk} (h : Len N d) (first most : Nat) (t s : ByteArray) : Len N (growV d first most t s).1 := by
  unfold growV
  split
  · exact h
  · split
    · exact h
    · exact h.putk _ _ _
theorem Len.flush {N : Nat} {d : Dk} (h : Len N d) : Len N d.flush.1 := by
  unfold Dk.flush
  split
  · exact h
  · split
    · exact h.step
    · exact ⟨by show (shows d.S d.C).length = N; rw [shows_length]; exact h.1, h.step.2⟩
theorem Len.arm {N : Nat} {d : Dk} (h : Len N d) (n : Int) : Len N (d.arm n).1 := by
  unfold Dk.arm
  split
  · exact h
  · split
    · exact h
    · exact h
theorem Len.crash {N : Nat} {d : Dk} (h : Len N d) (l : List Int) : Len N (d.crash l) :=
  ⟨by show (keeps _ _ _ _).length = N; rw [keeps_length]; exact h.1, by show (keeps _ _ _ _).length = N; rw [keeps_length]; exact h.1⟩
theorem Len.boot {N : Nat} {d : Dk} (h : Len N d) : Len N d.boot := ⟨h.1, h.1⟩
theorem fresh_len (N : Nat) : Len N (fresh N) := ⟨by simp [fresh], by simp [fresh]⟩
end Go.Proofs.Ytgdedimoblpgbaa.Disk
